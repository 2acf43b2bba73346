/- How many items two experts say the same of: plain words, and the contract of the program's AgreeShare. No condition but the sizes. -/
import Derived.Test.YtpnkeaeikcobfaaGreatDoorOpLast
namespace Go.Proofs.YtpnkeaeikcobfaaGreatDoor
set_option linter.unusedVariables false
set_option linter.unusedSimpArgs false
open Go.RowKit
attribute [local irreducible] wpQuiet
def sayT (xs : List Opinion) (z : Int) (e : ByteArray) (d : Int) (k : Nat) : Int := if lastT xs z e d k < 0 then 0 else saysO xs (lastT xs z e d k)
def sayL (xs : List Opinion) (z : Int) (e : ByteArray) (d : Int) : Int := sayT xs z e d xs.length
theorem sayT_yes {xs : List Opinion} {z d : Int} {e : ByteArray} {k : Nat} (h : standP xs z d k = true) : sayT xs z e d (k + 1) = if expO xs e k = true then saysO xs (k : Int) else sayT xs z e d k := by
  unfold sayT
  by_cases he : expO xs e k = true
  · rw [lastT_yes (by unfold lastP; rw [h, he]; rfl), if_neg (by omega), if_pos he]
  · rw [if_neg he, lastT_no (by unfold lastP; simp only [Bool.not_eq_true] at he; rw [he, Bool.and_false])]
theorem sayT_no {xs : List Opinion} {z d : Int} {e : ByteArray} {k : Nat} (h : standP xs z d k = false) : sayT xs z e d (k + 1) = sayT xs z e d k := by
  unfold sayT; rw [lastT_no (by unfold lastP; rw [h, Bool.false_and])]
/-- The program's fold. -/
def pairF (xs : List Opinion) (a b : ByteArray) (p : Int × Int) (v : Int) : Int × Int := (if expO xs a v.toNat = true then saysO xs v else p.1, if expO xs b v.toNat = true then saysO xs v else p.2)
theorem pairF_T (xs : List Opinion) (z : Int) (a b : ByteArray) (d : Int) : ∀ k, (((List.range k).filter (standP xs z d)).map nat).foldl (pairF xs a b) (0, 0) = (sayT xs z a d k, sayT xs z b d k)
  | 0 => by simp [sayT, lastT]
  | k + 1 => by
    cases h : standP xs z d k with
    | true =>
      rw [range_yes h, List.foldl_append, pairF_T xs z a b d k, sayT_yes h, sayT_yes h]
      simp [pairF, nat]
    | false => rw [range_no h, pairF_T xs z a b d k, sayT_no h, sayT_no h]
def bothP (xs : List Opinion) (a b : ByteArray) (d z : Int) : Bool := decide (0 < sayL xs z a d) && decide (0 < sayL xs z b d)
def sameP (xs : List Opinion) (a b : ByteArray) (d z : Int) : Bool := bothP xs a b d z && decide (sayL xs z a d = sayL xs z b d)
def cntI (p : Int → Bool) : Nat → Int
  | 0 => 0
  | k + 1 => cntI p k + (if p ((k : Int) + 1) = true then 1 else 0)
theorem cnt_yes {p : Int → Bool} {k : Nat} (h : p ((k : Int) + 1) = true) : cntI p (k + 1) = cntI p k + 1 := by
  conv => lhs; unfold cntI
  rw [if_pos h]
theorem cnt_no {p : Int → Bool} {k : Nat} (h : p ((k : Int) + 1) = false) : cntI p (k + 1) = cntI p k := by
  conv => lhs; unfold cntI
  rw [if_neg (by rw [h]; exact Bool.false_ne_true), Int.add_zero]
theorem cnt_rng (p : Int → Bool) : ∀ k, 0 ≤ cntI p k ∧ cntI p k ≤ (k : Int)
  | 0 => by simp [cntI]
  | k + 1 => by
    have := cnt_rng p k
    cases h : p ((k : Int) + 1) with
    | true => rw [cnt_yes h]; omega
    | false => rw [cnt_no h]; omega
theorem cnt_step {p q : Int → Bool} {z0 : Int} (h : ∀ z, z ≠ z0 → q z = p z) (hp : p z0 = false) (hq : q z0 = true) (h1 : 1 ≤ z0) : ∀ k : Nat, cntI q k = cntI p k + (if z0 ≤ (k : Int) then 1 else 0)
  | 0 => by rw [if_neg (by omega)]; rfl
  | k + 1 => by
    have ih := cnt_step h hp hq h1 k
    by_cases e : (k : Int) + 1 = z0
    · rw [cnt_yes (by rw [e]; exact hq), cnt_no (p := p) (by rw [e]; exact hp), ih, if_neg (by omega), if_pos (by omega)]; omega
    · have hc : (z0 ≤ ((k + 1 : Nat) : Int)) ↔ (z0 ≤ (k : Int)) := by omega
      simp only [hc]
      cases hh : p ((k : Int) + 1) with
      | true => rw [cnt_yes (by rw [h _ e]; exact hh), cnt_yes hh, ih]; omega
      | false => rw [cnt_no (by rw [h _ e]; exact hh), cnt_no hh, ih]
def agB (xs : List Opinion) (a b : ByteArray) (d : Int) : Bool := goodO xs && isW a && isW b && decide (a ≠ b) && inR d 0 4000
def agS (xs : List Opinion) (a b : ByteArray) (d : Int) : Int := if agB xs a b d = true then cntI (sameP xs a b d) 999 else 0
def agN (xs : List Opinion) (a b : ByteArray) (d : Int) : Int := if agB xs a b d = true then cntI (bothP xs a b d) 999 else 0
set_option maxRecDepth 100000 in
set_option maxHeartbeats 4000000 in
theorem implAgreeShare_c (xs : List Opinion) (A : Option Addr) (c : Nat) (a b : ByteArray) (d : Int) (w : World) (hr : Rd encOpinion 5 w.heap.size w A xs) (hn : xs.length ≤ 1048576) (hw : ∀ x ∈ xs, x.expert.size ≤ 9223372036854775807) (hsa : a.size ≤ 9223372036854775807) (hsb : b.size ≤ 9223372036854775807) (hd : -9223372036854775808 ≤ d ∧ d ≤ 9223372036854775807) :
    Calls Tryz.prog 15 #[.slice A xs.length c, .string a, .string b, .int .i64 d] w (Ret (.tuple #[.int .i64 (agS xs a b d), .int .i64 (agN xs a b d), .bool (agB xs a b d)]) w) := by
  have HW := Lib.hid hw
  clear hw
  by_cases hF : goodO xs = false
  · go_enter Tryz.func15, Tryz.ntmps15
    have hbg := Below.refl w.heap.size w
    go_wp2_with fail
    refine (areOpinions_c xs _ _ _ (hr.go hbg) hn HW.out).mono ?_
    rintro e wg0 ⟨rfl, hb0⟩
    have hbg := below_via hbg hb0
    go_wp2_with fail
    go_returns
    have HT := (show agB xs a b d = false by simp only [agB, hF, Bool.and_false, Bool.false_and])
    exact ⟨ret3 (vi (by simp [agS, HT])) (vi (by simp [agN, HT])) (vb HT.symm), hbg⟩
  have G0 : goodO xs = true := by simpa using hF
  clear hF
  by_cases hF : isW a = false
  · go_enter Tryz.func15, Tryz.ntmps15
    have hbg := Below.refl w.heap.size w
    go_wp2_with fail
    refine (areOpinions_c xs _ _ _ (hr.go hbg) hn HW.out).mono ?_
    rintro e wg0 ⟨rfl, hb0⟩
    have hbg := below_via hbg hb0
    go_wp2_with fail
    refine (isWord_c _ _ hsa).mono ?_
    rintro e wp1 ⟨rfl, rfl⟩
    go_wp2_with fail
    go_returns
    have HT := (show agB xs a b d = false by simp only [agB, hF, Bool.and_false, Bool.false_and])
    exact ⟨ret3 (vi (by simp [agS, HT])) (vi (by simp [agN, HT])) (vb HT.symm), hbg⟩
  have G1 : isW a = true := by simpa using hF
  clear hF
  by_cases hF : isW b = false
  · go_enter Tryz.func15, Tryz.ntmps15
    have hbg := Below.refl w.heap.size w
    go_wp2_with fail
    refine (areOpinions_c xs _ _ _ (hr.go hbg) hn HW.out).mono ?_
    rintro e wg0 ⟨rfl, hb0⟩
    have hbg := below_via hbg hb0
    go_wp2_with fail
    refine (isWord_c _ _ hsa).mono ?_
    rintro e wp1 ⟨rfl, rfl⟩
    go_wp2_with fail
    refine (isWord_c _ _ hsb).mono ?_
    rintro e wp2 ⟨rfl, rfl⟩
    go_wp2_with fail
    go_returns
    have HT := (show agB xs a b d = false by simp only [agB, hF, Bool.and_false, Bool.false_and])
    exact ⟨ret3 (vi (by simp [agS, HT])) (vi (by simp [agN, HT])) (vb HT.symm), hbg⟩
  have G2 : isW b = true := by simpa using hF
  clear hF
  by_cases hF : decide (a ≠ b) = false
  · have hE : (a.toList == b.toList) = true := by rw [toList_beq]; simpa using hF
    go_enter Tryz.func15, Tryz.ntmps15
    have hbg := Below.refl w.heap.size w
    go_wp2_with fail
    refine (areOpinions_c xs _ _ _ (hr.go hbg) hn HW.out).mono ?_
    rintro e wg0 ⟨rfl, hb0⟩
    have hbg := below_via hbg hb0
    go_wp2_with fail
    refine (isWord_c _ _ hsa).mono ?_
    rintro e wp1 ⟨rfl, rfl⟩
    go_wp2_with fail
    refine (isWord_c _ _ hsb).mono ?_
    rintro e wp2 ⟨rfl, rfl⟩
    go_wp2_with fail
    go_returns
    have HT := (show agB xs a b d = false by simp only [agB, hF, Bool.and_false, Bool.false_and])
    exact ⟨ret3 (vi (by simp [agS, HT])) (vi (by simp [agN, HT])) (vb HT.symm), hbg⟩
  have G3 : decide (a ≠ b) = true := by simpa using hF
  clear hF
  by_cases hF : inR d 0 4000 = false
  · have hE : (a.toList == b.toList) = false := by rw [toList_beq]; simpa using G3
    go_enter Tryz.func15, Tryz.ntmps15
    have hbg := Below.refl w.heap.size w
    go_wp2_with fail
    refine (areOpinions_c xs _ _ _ (hr.go hbg) hn HW.out).mono ?_
    rintro e wg0 ⟨rfl, hb0⟩
    have hbg := below_via hbg hb0
    go_wp2_with fail
    refine (isWord_c _ _ hsa).mono ?_
    rintro e wp1 ⟨rfl, rfl⟩
    go_wp2_with fail
    refine (isWord_c _ _ hsb).mono ?_
    rintro e wp2 ⟨rfl, rfl⟩
    go_wp2_with fail
    refine (isDay_c _ _).mono ?_
    rintro e wp4 ⟨rfl, rfl⟩
    go_wp2_with fail
    go_returns
    have HT := (show agB xs a b d = false by simp only [agB, hF, Bool.and_false, Bool.false_and])
    exact ⟨ret3 (vi (by simp [agS, HT])) (vi (by simp [agN, HT])) (vb HT.symm), hbg⟩
  have G4 : inR d 0 4000 = true := by simpa using hF
  clear hF
  have hE : (a.toList == b.toList) = false := by rw [toList_beq]; simpa using G3
  go_enter Tryz.func15, Tryz.ntmps15
  have hbg := Below.refl w.heap.size w
  go_wp2_with fail
  refine (areOpinions_c xs _ _ _ (hr.go hbg) hn HW.out).mono ?_
  rintro e wg0 ⟨rfl, hb0⟩
  have hbg := below_via hbg hb0
  go_wp2_with fail
  refine (isWord_c _ _ hsa).mono ?_
  rintro e wp1 ⟨rfl, rfl⟩
  go_wp2_with fail
  refine (isWord_c _ _ hsb).mono ?_
  rintro e wp2 ⟨rfl, rfl⟩
  go_wp2_with fail
  refine (isDay_c _ _).mono ?_
  rintro e wp4 ⟨rfl, rfl⟩
  have HT := Lib.hid (show agB xs a b d = true by simp only [agB, G0, G1, G2, G3, G4]; rfl)
  have HS := Lib.hid (show agS xs a b d = cntI (sameP xs a b d) 999 by unfold agS; rw [if_pos HT.out])
  have HN := Lib.hid (show agN xs a b d = cntI (bothP xs a b d) 999 by unfold agN; rw [if_pos HT.out])
  have HG := Lib.hid G0
  have HAB := Lib.hid (of_decide_eq_true G3)
  go_wp2_with fail
  clear G0 G1 G2 G3 G4 hE
  go_loopw [11, 12, 13] (fun u v i wr => ∃ k : Nat, k ≤ 999 ∧ i = .int .i64 ((k : Int) + 1) ∧ u = .int .i64 (cntI (sameP xs a b d) k) ∧ v = .int .i64 (cntI (bothP xs a b d) k) ∧ Below w.heap.size w wr) (fun _ _ i _ => 1000 - (intOf i).toNat)
  case atStart => exact ⟨0, Nat.zero_le _, rfl, rfl, rfl, hbg⟩
  case round =>
    obtain ⟨k, hk, rfl, rfl, rfl, hb⟩ := hrel
    obtain ⟨cs, hcs⟩ : ∃ cs, cntI (sameP xs a b d) k = cs := ⟨_, rfl⟩
    obtain ⟨cb, hcb⟩ : ∃ cb, cntI (bothP xs a b d) k = cb := ⟨_, rfl⟩
    have r1 := cnt_rng (sameP xs a b d) k
    have r2 := cnt_rng (bothP xs a b d) k
    rw [hcs] at r1 ⊢
    rw [hcb] at r2 ⊢
    have HCS := Lib.hid hcs
    have HCB := Lib.hid hcb
    clear hcs hcb
    by_cases hlt : k < 999
    · have HS1 := Lib.hid (fun h => cnt_yes (p := sameP xs a b d) (k := k) h)
      have HS0 := Lib.hid (fun h => cnt_no (p := sameP xs a b d) (k := k) h)
      have HB1 := Lib.hid (fun h => cnt_yes (p := bothP xs a b d) (k := k) h)
      have HB0 := Lib.hid (fun h => cnt_no (p := bothP xs a b d) (k := k) h)
      have hz2 : IntKind.i64.wrap ((k : Int) + 1 + 1) = (k : Int) + 1 + 1 := IntWalk.i64_in _ (by omega)
      obtain ⟨z, hz⟩ : ∃ z, (k : Int) + 1 = z := ⟨_, rfl⟩
      have hz1 : z ≤ 999 := by omega
      have hz1d : decide (z ≤ 999) = true := decide_eq_true hz1
      rw [hz] at HS1 HS0 HB1 HB0 hz2 ⊢
      have HZ := Lib.hid hz
      clear hz
      have hw1 : IntKind.i64.wrap (cs + 1) = cs + 1 := IntWalk.i64_in _ (by omega)
      have hw2 : IntKind.i64.wrap (cb + 1) = cb + 1 := IntWalk.i64_in _ (by omega)
      have HV := Lib.hid (show (standL xs z d).foldl (pairF xs a b) (0, 0) = (sayL xs z a d, sayL xs z b d) from pairF_T xs z a b d xs.length)
      have HE := Lib.hid (fun (v : Int) (h : v ∈ standL xs z d) => standL_mem h)
      have hll : (standL xs z d).length ≤ xs.length := by unfold standL; exact range_len
      go_wp2_with fail
      refine (standing_c xs _ _ _ _ _ ((hr.below hb).more hb.size) hn HG.out).mono ?_
      rintro _ w1 ⟨B, c', rfl, hb1, hO⟩
      have hbW := below_via hb hb1
      generalize standL xs z d = L at HV HE hll hO ⊢
      go_wp2_with fail
      go_loop [14, 15, 50] (fun u v i => ∃ j : Nat, j ≤ L.length ∧ i = .int .i64 j ∧ u = .int .i64 ((L.take j).foldl (pairF xs a b) (0, 0)).1 ∧ v = .int .i64 ((L.take j).foldl (pairF xs a b) (0, 0)).2) (fun _ _ i => L.length - (intOf i).toNat)
      case atStart => exact ⟨0, Nat.zero_le _, rfl, rfl, rfl⟩
      case round =>
        obtain ⟨j, hj, rfl, rfl, rfl⟩ := hrel
        obtain ⟨p, q, hpq⟩ : ∃ p q, (L.take j).foldl (pairF xs a b) (0, 0) = (p, q) := ⟨_, _, rfl⟩
        rw [hpq]
        have HQ := Lib.hid hpq
        clear hpq
        by_cases hlt2 : j < L.length
        · obtain ⟨m, hm, hv⟩ := HE.out L[j] (List.getElem_mem hlt2)
          have HPa := Lib.hid (expO_val (e := a) hm)
          have HPb := Lib.hid (expO_val (e := b) hm)
          have HK := Lib.hid (show (L.take (j + 1)).foldl (pairF xs a b) (0, 0) = (if expO xs a m = true then xs[m].says else p, if expO xs b m = true then xs[m].says else q) by
            rw [take_succ_get L j hlt2, List.foldl_append, HQ.out, hv]; simp [pairF, saysO_nat hm])
          obtain ⟨bl, ofl, rfl, hbl, l0⟩ := hO.rd.int hlt2
          rw [hv] at l0
          clear hv
          obtain ⟨bk, off, rfl, hbs, d0, d1, d2, d3, d4⟩ := (hr.below hbW).atOpinion hm
          have hi0 : (0 : Int) ≤ (m : Int) := by omega
          have hi1 : (m : Int) < (xs.length : Int) := by omega
          have hk0 : (0 : Int) ≤ (j : Int) := by omega
          have hk1 : (j : Int) < (L.length : Int) := by omega
          by_cases h1 : xs[m].expert = a
          · have h1' : (xs[m].expert.toList == a.toList) = true := by rw [toList_beq]; simpa using h1
            have HK := Lib.hid (show (L.take (j + 1)).foldl (pairF xs a b) (0, 0) = (xs[m].says, q) by
              rw [HK.out, HPa.out, HPb.out, if_pos (decide_eq_true h1), if_neg (by rw [h1]; simpa using HAB.out)])
            clear h1
            go_wp2_with fail
            go_round
            case rel => exact ⟨j + 1, by omega, by go_num, by rw [HK.out], by rw [HK.out]⟩
            case measure => simp [intOf]; omega
          · have h1' : (xs[m].expert.toList == a.toList) = false := by rw [toList_beq]; simpa using h1
            by_cases h2 : xs[m].expert = b
            · have h2' : (xs[m].expert.toList == b.toList) = true := by rw [toList_beq]; simpa using h2
              have HK := Lib.hid (show (L.take (j + 1)).foldl (pairF xs a b) (0, 0) = (p, xs[m].says) by
                rw [HK.out, HPa.out, HPb.out, if_pos (decide_eq_true h2), if_neg (by simpa using h1)])
              clear h1 h2
              go_wp2_with fail
              go_round
              case rel => exact ⟨j + 1, by omega, by go_num, by rw [HK.out], by rw [HK.out]⟩
              case measure => simp [intOf]; omega
            · have h2' : (xs[m].expert.toList == b.toList) = false := by rw [toList_beq]; simpa using h2
              have HK := Lib.hid (show (L.take (j + 1)).foldl (pairF xs a b) (0, 0) = (p, q) by
                rw [HK.out, HPa.out, HPb.out, if_neg (by simpa using h1), if_neg (by simpa using h2)])
              clear h1 h2
              go_wp2_with fail
              go_round
              case rel => exact ⟨j + 1, by omega, by go_num, by rw [HK.out], by rw [HK.out]⟩
              case measure => simp [intOf]; omega
        · have hke : L.take j = L := List.take_of_length_le (by omega)
          rw [hke] at HQ
          clear hke
          have HV := Lib.hid (HQ.out.symm.trans HV.out)
          have HBv := Lib.hid (show bothP xs a b d z = (decide (0 < p) && decide (0 < q)) by
            have ea : sayL xs z a d = p := (congrArg Prod.fst HV.out).symm
            have eb : sayL xs z b d = q := (congrArg Prod.snd HV.out).symm
            unfold bothP; rw [ea, eb])
          have HSv := Lib.hid (show sameP xs a b d z = (decide (0 < p) && decide (0 < q) && decide (p = q)) by
            have ea : sayL xs z a d = p := (congrArg Prod.fst HV.out).symm
            have eb : sayL xs z b d = q := (congrArg Prod.snd HV.out).symm
            unfold sameP; rw [HBv.out, ea, eb])
          by_cases h1 : 0 < p
          · have h1d : decide (0 < p) = true := decide_eq_true h1
            by_cases h2 : 0 < q
            · have h2d : decide (0 < q) = true := decide_eq_true h2
              have HB := Lib.hid (HB1.out (by rw [HBv.out, h1d, h2d]; rfl))
              by_cases h3 : p = q
              · have h3' : (p == q) = true := by simpa using h3
                have HS := Lib.hid (HS1.out (by rw [HSv.out, h1d, h2d, decide_eq_true h3]; rfl))
                clear h3
                go_wp2_with fail
                go_roundw
                case rel => exact ⟨k + 1, by omega, vi (by have := HZ.out; omega), vi (by rw [HS.out, HCS.out]), vi (by rw [HB.out, HCB.out]), hbW⟩
                case measure => have := HZ.out; simp [intOf]; omega
              · have h3' : (p == q) = false := by simpa using h3
                have HS := Lib.hid (HS0.out (by rw [HSv.out, h1d, h2d, decide_eq_false h3]; rfl))
                clear h3
                go_wp2_with fail
                go_roundw
                case rel => exact ⟨k + 1, by omega, vi (by have := HZ.out; omega), vi (by rw [HS.out, HCS.out]), vi (by rw [HB.out, HCB.out]), hbW⟩
                case measure => have := HZ.out; simp [intOf]; omega
            · have h2d : decide (0 < q) = false := decide_eq_false h2
              have HB := Lib.hid (HB0.out (by rw [HBv.out, h1d, h2d]; rfl))
              have HS := Lib.hid (HS0.out (by rw [HSv.out, h1d, h2d]; rfl))
              clear h2
              go_wp2_with fail
              go_roundw
              case rel => exact ⟨k + 1, by omega, vi (by have := HZ.out; omega), vi (by rw [HS.out, HCS.out]), vi (by rw [HB.out, HCB.out]), hbW⟩
              case measure => have := HZ.out; simp [intOf]; omega
          · have h1d : decide (0 < p) = false := decide_eq_false h1
            have HB := Lib.hid (HB0.out (by rw [HBv.out, h1d]; rfl))
            have HS := Lib.hid (HS0.out (by rw [HSv.out, h1d]; rfl))
            clear h1
            go_wp2_with fail
            go_roundw
            case rel => exact ⟨k + 1, by omega, vi (by have := HZ.out; omega), vi (by rw [HS.out, HCS.out]), vi (by rw [HB.out, HCB.out]), hbW⟩
            case measure => have := HZ.out; simp [intOf]; omega
    · have hke : k = 999 := by omega
      subst hke
      have HS := Lib.hid (HS.out.trans HCS.out)
      have HN := Lib.hid (HN.out.trans HCB.out)
      go_wp2_with fail
      go_returns
      exact ⟨ret3 (vi HS.out.symm) (vi HN.out.symm) (vb HT.out.symm), hb⟩
end Go.Proofs.YtpnkeaeikcobfaaGreatDoor
