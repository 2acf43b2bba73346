/- LevelCounts: the reference's contract. No condition but the sizes. -/
import Derived.Test.YtohihjoeopjmaaaAlLev
namespace Go.Proofs.Ytohihjoeopjmaaa
set_option linter.unusedVariables false
set_option linter.unusedSimpArgs false
open Go.RowKit
attribute [local irreducible] wpQuiet
set_option maxRecDepth 100000 in
set_option maxHeartbeats 2000000 in
theorem specLevelCounts_c (xs : List Page) (A : Option Addr) (c : Nat) (w : World) (hr : RdP w.heap.size w A xs) (hcap : xs.length ≤ c) (hn : xs.length ≤ 1048576) (hs : sumI xs ≤ 1048576) (hw : ∀ x ∈ xs, x.title.size ≤ 9223372036854775807 ∧ x.items.length ≤ 9223372036854775807 ∧ ∀ z ∈ x.items, Fits z) :
    Calls Try.prog 24 #[.slice A xs.length c] w (RetL encI 1 (lcV xs) (goodA xs) w) := by
  have HW := Lib.hid hw
  clear hw
  have ho0 := Out.empty (V := Value.int .i64) (E := 3) (base := w.heap.size) (α := Int) w (Nat.le_refl _)
  by_cases hF : goodA xs = false
  · go_enter Try.func24, Try.ntmps24
    have hbg := (show Below w.heap.size w (w.alloc (.cells #[] 3)) by go_grown)
    have hbx := Below.refl (w.alloc (.cells #[] 3)).heap.size (w.alloc (.cells #[] 3))
    go_wp2_with fail
    refine (l18Good_c xs _ _ _ (hr.go hbg) hcap hn hs HW.out).mono ?_
    rintro e wg0 ⟨rfl, hb0⟩
    have hbg := below_via hbg hb0
    have hbx := below_via hbx hb0
    go_wp2_with fail
    go_returns
    exact ⟨_, _, ret_list (by simp [lcV, hF]) hF.symm, hbg, Own.none_ (by simp [lcV, hF]) (Nat.le_refl _)⟩
  have G0 : goodA xs = true := by simpa using hF
  clear hF
  go_enter Try.func24, Try.ntmps24
  have hbg := (show Below w.heap.size w (w.alloc (.cells #[] 3)) by go_grown)
  have hbx := Below.refl (w.alloc (.cells #[] 3)).heap.size (w.alloc (.cells #[] 3))
  go_wp2_with fail
  refine (l18Good_c xs _ _ _ (hr.go hbg) hcap hn hs HW.out).mono ?_
  rintro e wg0 ⟨rfl, hb0⟩
  have hbg := below_via hbg hb0
  have hbx := below_via hbx hb0
  have HG := Lib.hid G0
  have hlen := goodA_len G0
  have HBD := Lib.hid (lcK_bd xs (fun k h => (good_base G0 h).2.2.2.1))
  have HLV := Lib.hid (show lcV xs = lcK xs xs.length by unfold lcV; rw [if_pos G0])
  have ho0 := ho0.below hb0
  go_wp2_with fail
  clear G0
  go_loopw [4, 5] (fun u i wr => ∃ k : Nat, k ≤ xs.length ∧ i = .int .i64 k ∧ Out (Value.int .i64) 3 w.heap.size u (lcK xs k) wr ∧ Below w.heap.size w wr) (fun _ i _ => xs.length - (intOf i).toNat)
  case atStart => exact ⟨0, Nat.zero_le _, rfl, ho0, hbg⟩
  case round =>
    obtain ⟨k, hk, rfl, ho, hb⟩ := hrel
    clear ho0
    have hbd := (HBD.out k hk).1
    by_cases hlt : k < xs.length
    · obtain ⟨b, off, Ai, ci, rfl, hbs, d0, d1, d2, d3, hci, hri⟩ := (hr.below hb).page hlt
      have HS := Lib.hid (lcK_s hlt)
      have hll := levJ_le xs k
      have hil : xs[k].items.length ≤ 8 := (good_base HG.out hlt).2.2.2.1
      have HMB := Lib.hid (HBD.out k hk).2
      have hk0 : (0 : Int) ≤ (k : Int) := by omega
      have hk1 : (k : Int) < (xs.length : Int) := by omega
      go_wp2_with fail
      refine (l18Level_c xs _ _ k _ (hr.go hb) HG.out hlt).mono ?_
      rintro _ w2 ⟨rfl, hb2⟩
      have ho := ho.below hb2
      have hbW2 := hb.trans (hb2.mono hb.size)
      generalize lcK xs k = ys at *
      generalize levJ xs k = L at *
      clear hb2 hb d0 d1 d2 d3 hri
      go_wp2_with fail
      go_loopw [4] (fun u wr2 => ∃ m : Nat, m ≤ L + 1 - ys.length ∧ Out (Value.int .i64) 3 w.heap.size u (ys ++ List.replicate m 0) wr2 ∧ Below w.heap.size w wr2) (fun u _ => L + 1 - lenOf u)
      case atStart => exact ⟨0, Nat.zero_le _, by simpa using ho, hbW2⟩
      case round =>
        obtain ⟨m, hm, ho3, hb3⟩ := hrel
        have hlenE : (ys ++ List.replicate m (0 : Int)).length = ys.length + m := by simp
        have HLE := Lib.hid hlenE
        obtain ⟨A3, c3, hu3, _⟩ := ho3.own
        subst hu3
        by_cases hle : ys.length + m ≤ L
        · have hle1 : ((ys ++ List.replicate m (0 : Int)).length : Int) ≤ (L : Int) := by omega
          have hrep : (ys ++ List.replicate m (0 : Int)) ++ [0] = ys ++ List.replicate (m + 1) 0 := by rw [List.append_assoc, ← List.replicate_succ']
          have HRE := Lib.hid hrep
          clear hrep hlenE
          generalize hE : ys ++ List.replicate m (0 : Int) = E at *
          go_wp2_with (at_builtin; refine wpList_push rfl _ _ _ rfl 3 (.int .i64 0) 8 Try.underlying32 infoI rfl (0 : Int) rfl ho3 _ rfl (by simp) rfl (by omega) (by omega) (by have := hb3.size; omega) ?_; intro v1 w1 hown1 hbel1)
          rw [HRE.out] at hown1
          obtain ⟨A5, c5, hv5, _⟩ := hown1.own
          go_roundw
          case rel => exact ⟨m + 1, by omega, hown1, hb3.trans hbel1⟩
          case measure =>
            rw [hv5]
            have h9 := HLE.out
            simp only [lenOf, List.length_append, List.length_replicate]
            omega
        · have hme : m = L + 1 - ys.length := by omega
          have hnle : ¬ ((ys ++ List.replicate m (0 : Int)).length : Int) ≤ (L : Int) := by omega
          have hEx : ys ++ List.replicate m (0 : Int) = lcExt ys L := by rw [hme]; rfl
          rw [hEx] at ho3 hnle ⊢
          have hLl := lcExt_len ys L
          have hgd : (lcExt ys L).getD L 0 = (lcExt ys L)[L]'hLl.1 := by rw [List.getD_eq_getElem?_getD, List.getElem?_eq_getElem hLl.1]; rfl
          have hst : lcStep ys L xs[k].items.length = (lcExt ys L).set L ((lcExt ys L)[L]'hLl.1 + (xs[k].items.length : Int)) := by unfold lcStep; rw [hgd]
          have HST := Lib.hid (HS.out.trans hst)
          have hvs : ∀ v ∈ lcExt ys L, 0 ≤ v ∧ v ≤ 8 * (k : Int) := fun v hv => by
            unfold lcExt at hv
            rcases List.mem_append.1 hv with h | h
            · exact HMB.out _ h
            · have := List.eq_of_mem_replicate h; omega
          have hval := hvs _ (List.getElem_mem hLl.1)
          clear hvs
          clear hEx hme hst hgd hlenE HLE
          obtain ⟨g, cap, hv6, hg0, hgl, hgc, hgf⟩ := ho3.some_ (by omega)
          injection hv6 with hv6 _ hv7
          subst hv6 hv7
          have hgL := hgc L hLl.1
          clear hgc
          obtain ⟨b', off', Aj, cj, hA, _, _, _, _, e3, _, _⟩ := (hr.below hb3).page hlt
          obtain ⟨rfl, rfl⟩ := addr_eq hA
          clear hA
          have hset := ho3.set_ (j := L) ((lcExt ys L)[L]'hLl.1 + (xs[k].items.length : Int))
          obtain ⟨hv0, hv1⟩ := hval
          have hL0 : (0 : Int) ≤ (L : Int) := by omega
          have hL1 : (L : Int) < ((lcExt ys L).length : Int) := by omega
          have hL2 : (L : Int) ≤ ((lcExt ys L).length : Int) := by omega
          generalize (lcExt ys L)[L]'hLl.1 = q at *
          have hb7 := (hb3.setCell (p := ⟨g, L, none⟩) hg0 (.int .i64 (q + (xs[k].items.length : Int)))).drew
          go_wp2_with fail
          try go_region
          all_goals try go_wp2_with fail
          go_roundw
          case rel => exact ⟨k + 1, by omega, by go_num, by rw [HST.out]; exact hset, hb7⟩
          case measure => simp [intOf]; omega
    · have hke : k = xs.length := by omega
      obtain ⟨A6, c6, rfl, hown⟩ := ho.own
      have HE := Lib.hid (show lcV xs = lcK xs k by rw [HLV.out, hke])
      go_wp2_with fail
      go_returns
      exact ⟨A6, c6, ret_list (by rw [HE.out]) HG.out.symm, hb, hown.cast HE.out.symm⟩
end Go.Proofs.Ytohihjoeopjmaaa
