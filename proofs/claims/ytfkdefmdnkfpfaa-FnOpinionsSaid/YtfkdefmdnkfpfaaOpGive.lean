/- Contracts of GiveOpinion: the program's and the reference's. No condition but the sizes. -/
import Derived.Test.YtfkdefmdnkfpfaaOpLast
import Derived.Test.YtfkdefmdnkfpfaaApp2
import Derived.WalkSpells
import Derived.Deep.RegionHeld3
import Derived.Deep.DeepCutAuto
namespace Go.Proofs.Ytfkdefmdnkfpfaa
set_option linter.unusedVariables false
set_option linter.unusedSimpArgs false
open Go.RowKit
attribute [local irreducible] wpQuiet
theorem oneO (x : Opinion) : ∀ u ∈ encOpinion x, u.oneCell' = true := by
  intro u hu; simp [encOpinion] at hu; rcases hu with rfl | rfl | rfl | rfl | rfl <;> rfl
set_option maxRecDepth 100000 in
set_option maxHeartbeats 2000000 in
theorem clone_c (xs : List Opinion) (A : Option Addr) (c : Nat) (w : World) (hr : Rd encOpinion 5 w.heap.size w A xs) (hn : xs.length ≤ 1048576) :
    Calls Try.prog 44 #[.slice A xs.length c] w fun e w' => ∃ v, e = .returned v ∧ OutR encOpinion 5 39 w.heap.size v xs w' ∧ Below w.heap.size w w' := by
  have hnil := fun (w : World) => Lib.run_eql_slice_nil (P := Try.prog) w 24 39 A xs.length c 0 0 Try.underlying24
  cases A with
  | none =>
    have hx : xs = [] := by
      cases xs with
      | nil => rfl
      | cons x xs => obtain ⟨b, off, hA, _⟩ := hr (by simp); cases hA
    subst hx
    have hn1 := Lib.run_eql_slice_nil (P := Try.prog) w 24 39 none 0 c 0 0 Try.underlying24
    clear hnil
    go_enter Try.func44, Try.ntmps44
    go_wp2_with fail
    go_returns
    exact ⟨_, rfl, OutR.nil _, Below.refl _ _⟩
  | some a =>
    have hn1 := hnil w
    clear hnil
    go_enter Try.func44, Try.ntmps44
    go_wp2_with (at_builtin; refine wpList_app rfl _ _ _ rfl 39 (.agg #[.int .i64 0, .string ⟨#[]⟩, .int .i64 0, .int .i64 0, .int .i64 0]) 5 48 Try.underlying24 infoOpinion rfl (by decide) encOpinion_len oneO (base := w.heap.size) (ys := []) (zs := xs) rfl rfl rfl (OutR.empty w (Nat.le_refl _)) (hr.go (by go_grown)) (by simp; omega) (by simp; omega) (by simp) ?_; intro v1 w1 ho1 hb1)
    go_returns
    exact ⟨_, rfl, by simpa using ho1, Below.trans (by go_grown) hb1⟩
/-- The program's fold. -/
def lastF (xs : List Opinion) (e : ByteArray) (a v : Int) : Int := if expO xs e v.toNat = true then v else a
theorem lastF_T (xs : List Opinion) (z : Int) (e : ByteArray) (d : Int) : ∀ k, (((List.range k).filter (standP xs z d)).map nat).foldl (lastF xs e) (-1) = lastT xs z e d k
  | 0 => rfl
  | k + 1 => by
    cases h : standP xs z d k with
    | true =>
      rw [range_yes h, List.foldl_append, lastF_T xs z e d k]
      conv => rhs; unfold lastT
      simp [lastF, lastP, h, nat]
    | false =>
      rw [range_no h, lastF_T xs z e d k]
      conv => rhs; unfold lastT
      simp [lastP, h]
def giveB (xs : List Opinion) (z : Int) (e : ByteArray) (d s : Int) : Bool := goodO xs && goodO (xs ++ [⟨z, e, d, s, lastO xs z e d⟩])
def giveL (xs : List Opinion) (z : Int) (e : ByteArray) (d s : Int) : List Opinion := if giveB xs z e d s = true then xs ++ [⟨z, e, d, s, lastO xs z e d⟩] else []
theorem giveL_len (xs : List Opinion) (z : Int) (e : ByteArray) (d s : Int) : (giveL xs z e d s).length ≤ 16 := by
  unfold giveL giveB
  split
  · rename_i h
    simp only [Bool.and_eq_true] at h
    have := goodO_len h.1
    simp; omega
  · simp
theorem goodO_bad {xs : List Opinion} {x : Opinion} (h : x.base = false) : goodO (xs ++ [x]) = false :=
  goodO_no (k := xs.length) (by simp) (by rw [okO_val (by simp)]; simp [h])
theorem rd_oneO {w : World} {b : Nat} {x : Opinion} (e0 : w.cell? ⟨b, 0, none⟩ = some (.int .i64 x.item)) (e1 : w.cell? ⟨b, 1, none⟩ = some (.string x.expert)) (e2 : w.cell? ⟨b, 2, none⟩ = some (.int .i64 x.day)) (e3 : w.cell? ⟨b, 3, none⟩ = some (.int .i64 x.says)) (e4 : w.cell? ⟨b, 4, none⟩ = some (.int .i64 x.over)) : Rd encOpinion 5 w.heap.size w (some ⟨b, 0, none⟩) [x] := fun _ =>
  ⟨b, 0, rfl, cell_lt e0, fun i y hy j v hv => by
    have hi : i = 0 := by have := (List.getElem?_eq_some_iff.1 hy).1; simp at this; omega
    subst hi
    have hy' : y = x := by simpa using hy.symm
    subst hy'
    have hj : j < 5 := by have := (List.getElem?_eq_some_iff.1 hv).1; simpa [encOpinion] using this
    match j, hj with
    | 0, _ => have hv' : v = .int .i64 y.item := by simpa [encOpinion] using hv.symm
              subst hv'; exact e0
    | 1, _ => have hv' : v = .string y.expert := by simpa [encOpinion] using hv.symm
              subst hv'; exact e1
    | 2, _ => have hv' : v = .int .i64 y.day := by simpa [encOpinion] using hv.symm
              subst hv'; exact e2
    | 3, _ => have hv' : v = .int .i64 y.says := by simpa [encOpinion] using hv.symm
              subst hv'; exact e3
    | 4, _ => have hv' : v = .int .i64 y.over := by simpa [encOpinion] using hv.symm
              subst hv'; exact e4⟩
set_option maxRecDepth 100000 in
set_option maxHeartbeats 4000000 in
theorem implGiveOpinion_c (xs : List Opinion) (A : Option Addr) (c : Nat) (z : Int) (e : ByteArray) (d s : Int) (w : World) (hr : Rd encOpinion 5 w.heap.size w A xs) (hn : xs.length ≤ 1048576) (hw : ∀ x ∈ xs, x.expert.size ≤ 9223372036854775807) (hz : -9223372036854775808 ≤ z ∧ z ≤ 9223372036854775807) (he : e.size ≤ 9223372036854775807) (hd : -9223372036854775808 ≤ d ∧ d ≤ 9223372036854775807) (hs : -9223372036854775808 ≤ s ∧ s ≤ 9223372036854775807) :
    Calls Try.prog 7 #[.slice A xs.length c, .int .i64 z, .string e, .int .i64 d, .int .i64 s] w (RetL encOpinion 5 (giveL xs z e d s) (giveB xs z e d s) w) := by
  have HW := Lib.hid hw
  clear hw
  have HX := Lib.hid (show ∀ o, ∀ y ∈ xs ++ [(⟨z, e, d, s, o⟩ : Opinion)], y.expert.size ≤ 9223372036854775807 from fun o y hy => by
    rcases List.mem_append.1 hy with h | h
    · exact HW.out y h
    · simp at h; subst h; exact he)
  have HF := Lib.hid (fun (h : (⟨z, e, d, s, lastO xs z e d⟩ : Opinion).base = false) => goodO_bad (xs := xs) h)
  by_cases hF : goodO xs = false
  · go_enter Try.func7, Try.ntmps7
    have hbg := Below.refl w.heap.size w
    go_wp2_with fail
    refine (areOpinions_c xs _ _ _ (hr.go hbg) hn HW.out).mono ?_
    rintro e wg0 ⟨rfl, hb0⟩
    have hbg := below_via hbg hb0
    go_wp2_with fail
    go_returns
    have HB : giveB xs z e d s = false := by first | (simp [giveB, hF]; done) | (unfold giveB; rw [HF.out (by simp [Opinion.base, hF]), Bool.and_false])
    exact ⟨_, _, ret_list (by simp [giveL, HB]) HB.symm, hbg, Own.none_ (by simp [giveL, HB]) (Nat.le_refl _)⟩
  have G0 : goodO xs = true := by simpa using hF
  clear hF
  by_cases hF : inR z 1 999 = false
  · go_enter Try.func7, Try.ntmps7
    have hbg := Below.refl w.heap.size w
    go_wp2_with fail
    refine (areOpinions_c xs _ _ _ (hr.go hbg) hn HW.out).mono ?_
    rintro e wg0 ⟨rfl, hb0⟩
    have hbg := below_via hbg hb0
    go_wp2_with fail
    refine (isItem_c _ _).mono ?_
    rintro e wp1 ⟨rfl, rfl⟩
    go_wp2_with fail
    go_returns
    have HB : giveB xs z e d s = false := by first | (simp [giveB, hF]; done) | (unfold giveB; rw [HF.out (by simp [Opinion.base, hF]), Bool.and_false])
    exact ⟨_, _, ret_list (by simp [giveL, HB]) HB.symm, hbg, Own.none_ (by simp [giveL, HB]) (Nat.le_refl _)⟩
  have G1 : inR z 1 999 = true := by simpa using hF
  clear hF
  by_cases hF : isW e = false
  · go_enter Try.func7, Try.ntmps7
    have hbg := Below.refl w.heap.size w
    go_wp2_with fail
    refine (areOpinions_c xs _ _ _ (hr.go hbg) hn HW.out).mono ?_
    rintro e wg0 ⟨rfl, hb0⟩
    have hbg := below_via hbg hb0
    go_wp2_with fail
    refine (isItem_c _ _).mono ?_
    rintro e wp1 ⟨rfl, rfl⟩
    go_wp2_with fail
    refine (isWord_c _ _ he).mono ?_
    rintro e wp2 ⟨rfl, rfl⟩
    go_wp2_with fail
    go_returns
    have HB : giveB xs z e d s = false := by first | (simp [giveB, hF]; done) | (unfold giveB; rw [HF.out (by simp [Opinion.base, hF]), Bool.and_false])
    exact ⟨_, _, ret_list (by simp [giveL, HB]) HB.symm, hbg, Own.none_ (by simp [giveL, HB]) (Nat.le_refl _)⟩
  have G2 : isW e = true := by simpa using hF
  clear hF
  by_cases hF : inR d 0 4000 = false
  · go_enter Try.func7, Try.ntmps7
    have hbg := Below.refl w.heap.size w
    go_wp2_with fail
    refine (areOpinions_c xs _ _ _ (hr.go hbg) hn HW.out).mono ?_
    rintro e wg0 ⟨rfl, hb0⟩
    have hbg := below_via hbg hb0
    go_wp2_with fail
    refine (isItem_c _ _).mono ?_
    rintro e wp1 ⟨rfl, rfl⟩
    go_wp2_with fail
    refine (isWord_c _ _ he).mono ?_
    rintro e wp2 ⟨rfl, rfl⟩
    go_wp2_with fail
    refine (isDay_c _ _).mono ?_
    rintro e wp3 ⟨rfl, rfl⟩
    go_wp2_with fail
    go_returns
    have HB : giveB xs z e d s = false := by first | (simp [giveB, hF]; done) | (unfold giveB; rw [HF.out (by simp [Opinion.base, hF]), Bool.and_false])
    exact ⟨_, _, ret_list (by simp [giveL, HB]) HB.symm, hbg, Own.none_ (by simp [giveL, HB]) (Nat.le_refl _)⟩
  have G3 : inR d 0 4000 = true := by simpa using hF
  clear hF
  go_enter Try.func7, Try.ntmps7
  have hbg := Below.refl w.heap.size w
  go_wp2_with fail
  refine (areOpinions_c xs _ _ _ (hr.go hbg) hn HW.out).mono ?_
  rintro e wg0 ⟨rfl, hb0⟩
  have hbg := below_via hbg hb0
  go_wp2_with fail
  refine (isItem_c _ _).mono ?_
  rintro e wp1 ⟨rfl, rfl⟩
  go_wp2_with fail
  refine (isWord_c _ _ he).mono ?_
  rintro e wp2 ⟨rfl, rfl⟩
  go_wp2_with fail
  refine (isDay_c _ _).mono ?_
  rintro e wp3 ⟨rfl, rfl⟩
  have hlen := goodO_len G0
  have HV := Lib.hid (show lastO xs z e d = (standL xs z d).foldl (lastF xs e) (-1) from (lastF_T xs z e d xs.length).symm)
  have HE := Lib.hid (fun (v : Int) (h : v ∈ standL xs z d) => standL_mem h)
  have HB := Lib.hid (show giveB xs z e d s = goodO (xs ++ [⟨z, e, d, s, lastO xs z e d⟩]) by unfold giveB; rw [G0, Bool.true_and])
  have HL := Lib.hid (fun (h : giveB xs z e d s = true) => (show giveL xs z e d s = xs ++ [⟨z, e, d, s, lastO xs z e d⟩] by unfold giveL; rw [if_pos h]))
  have HN := Lib.hid (fun (h : giveB xs z e d s = false) => (show giveL xs z e d s = [] by unfold giveL; rw [if_neg (by rw [h]; exact Bool.false_ne_true)]))
  have hll : (standL xs z d).length ≤ xs.length := by unfold standL; exact range_len
  go_wp2_with fail
  refine (standing_c xs _ _ _ _ _ (hr.go hbg) (by omega) G0).mono ?_
  rintro _ w1 ⟨B, c', rfl, hb1, hO⟩
  have hbg := below_via hbg hb1
  generalize standL xs z d = L at *
  go_wp2_with fail
  clear G0 G1 G2 G3
  go_loop [12, 39] (fun u i => ∃ k : Nat, k ≤ L.length ∧ i = .int .i64 k ∧ u = .int .i64 ((L.take k).foldl (lastF xs e) (-1))) (fun _ i => L.length - (intOf i).toNat)
  case atStart => exact ⟨0, Nat.zero_le _, rfl, rfl⟩
  case round =>
    obtain ⟨k, hk, rfl, rfl⟩ := hrel
    obtain ⟨q, hq⟩ : ∃ q, (L.take k).foldl (lastF xs e) (-1) = q := ⟨_, rfl⟩
    rw [hq]
    have HQ := Lib.hid hq
    clear hq
    by_cases hlt : k < L.length
    · obtain ⟨m, hm, hv⟩ := HE.out L[k] (List.getElem_mem hlt)
      have HP := Lib.hid (expO_val (e := e) hm)
      obtain ⟨bl, ofl, rfl, hbl, l0⟩ := hO.rd.int hlt
      have HK := Lib.hid (show (L.take (k + 1)).foldl (lastF xs e) (-1) = (if expO xs e m = true then (m : Int) else q) by
        rw [take_succ_get L k hlt, List.foldl_append, HQ.out, hv]; simp [lastF])
      rw [hv] at l0
      clear hv
      obtain ⟨b, off, rfl, hbs, d0, d1, d2, d3, d4⟩ := (hr.below hbg).atOpinion hm
      have hi0 : (0 : Int) ≤ (m : Int) := by omega
      have hi1 : (m : Int) < (xs.length : Int) := by omega
      have hk0 : (0 : Int) ≤ (k : Int) := by omega
      have hk1 : (k : Int) < (L.length : Int) := by omega
      by_cases h1 : xs[m].expert = e
      · have h1' : (xs[m].expert.toList == e.toList) = true := by rw [toList_beq]; simpa using h1
        have HK := Lib.hid (show (L.take (k + 1)).foldl (lastF xs e) (-1) = (m : Int) by rw [HK.out, HP.out, if_pos (decide_eq_true h1)])
        clear h1
        go_wp2_with fail
        go_round
        case rel => exact ⟨k + 1, by omega, by go_num, by rw [HK.out]⟩
        case measure => simp [intOf]; omega
      · have h1' : (xs[m].expert.toList == e.toList) = false := by rw [toList_beq]; simpa using h1
        have HK := Lib.hid (show (L.take (k + 1)).foldl (lastF xs e) (-1) = q by rw [HK.out, HP.out, if_neg (by simpa using h1)])
        clear h1
        go_wp2_with fail
        go_round
        case rel => exact ⟨k + 1, by omega, by go_num, by rw [HK.out]⟩
        case measure => simp [intOf]; omega
    · have hke : L.take k = L := List.take_of_length_le (by omega)
      have HO := Lib.hid (show lastO xs z e d = q by rw [HV.out, ← HQ.out, hke])
      clear hke
      go_wp2_with fail
      refine (clone_c xs _ _ _ (hr.go hbg) (by omega)).mono ?_
      rintro _ w2 ⟨v, rfl, ho2, hb2⟩
      go_wp2_with (at_builtin; refine wpList_app rfl _ _ _ rfl 39 (.agg #[.int .i64 0, .string ⟨#[]⟩, .int .i64 0, .int .i64 0, .int .i64 0]) 5 48 Try.underlying24 infoOpinion rfl (by decide) encOpinion_len oneO (base := w1.heap.size) (m := 1) (ys := xs) (zs := [(⟨z, e, d, s, q⟩ : Opinion)]) rfl rfl rfl (ho2.below ((Below.refl _ _).alloc (Nat.le_refl _) _)) (rd_new (x := (⟨z, e, d, s, q⟩ : Opinion)) (vs := [.int .i64 z, .string e, .int .i64 d, .int .i64 s, .int .i64 q]) rfl rfl) (by first | omega | (simp; omega)) (by first | omega | (simp; omega)) (by first | (have := hb2.size; simp; omega)) ?_; intro v3 w3 ho3 hb3)
      have hb13 : Below w1.heap.size w1 w3 := (hb2.alloc hb2.size _).trans hb3
      have hbg3 := below_via hbg hb13
      have HB := Lib.hid (show giveB xs z e d s = goodO (xs ++ [⟨z, e, d, s, q⟩]) by rw [HB.out, HO.out])
      have HL := Lib.hid (fun (h : giveB xs z e d s = true) => (show giveL xs z e d s = xs ++ [⟨z, e, d, s, q⟩] by rw [HL.out h, HO.out]))
      have hyl : (xs ++ [(⟨z, e, d, s, q⟩ : Opinion)]).length ≤ 16 := by simp; omega
      have HX := Lib.hid (HX.out q)
      generalize xs ++ [(⟨z, e, d, s, q⟩ : Opinion)] = ys at *
      obtain ⟨B3, c3, rfl, hO3, hc3⟩ := ho3.own encOpinion_len
      refine (areOpinions_c ys _ _ _ hO3.rd (by omega) HX.out).mono ?_
      rintro _ w4 ⟨rfl, hb4⟩
      have hbg4 := below_via hbg3 hb4
      cases hg : goodO ys with
      | false =>
        have HB := Lib.hid (show giveB xs z e d s = false by rw [HB.out, hg])
        go_wp2_with fail
        go_returns
        exact ⟨_, _, ret_list (by rw [HN.out HB.out]; rfl) HB.out.symm, hbg4, Own.none_ (HN.out HB.out) (Nat.le_refl _)⟩
      | true =>
        have HB := Lib.hid (show giveB xs z e d s = true by rw [HB.out, hg])
        have HL := Lib.hid (HL.out HB.out)
        go_wp2_with fail
        go_returns
        exact ⟨B3, c3, ret_list (by rw [HL.out]) HB.out.symm, hbg4, ((hO3.go hb4).wide hbg.size (by exact hb4.size) (Nat.le_refl _)).cast HL.out.symm⟩
end Go.Proofs.Ytfkdefmdnkfpfaa
