/- ItemsUnder: the program's contract. No condition but the sizes. -/
import Derived.Test.YtehoocnhooemoaaAlPoS
import Derived.Test.YtehoocnhooemoaaAlPoP2
import Derived.Test.YtehoocnhooemoaaAlItP
namespace Go.Proofs.Ytehoocnhooemoaa
set_option linter.unusedVariables false
set_option linter.unusedSimpArgs false
open Go.RowKit
attribute [local irreducible] wpQuiet
theorem flat_take {ms : List Page} {k : Nat} (h : k < ms.length) : (ms.take (k + 1)).flatMap (·.items) = (ms.take k).flatMap (·.items) ++ ms[k].items := by
  rw [take_succ_get ms k h, List.flatMap_append]; simp
set_option maxRecDepth 100000 in
set_option maxHeartbeats 1600000 in
theorem implItemsUnder_c (xs : List Page) (A : Option Addr) (c : Nat) (z : Int) (w : World) (hr : RdP w.heap.size w A xs) (hcap : xs.length ≤ c) (hn : xs.length ≤ 1048576) (hs : sumI xs ≤ 1048576) (hw : ∀ x ∈ xs, x.title.size ≤ 9223372036854775807 ∧ x.items.length ≤ 9223372036854775807 ∧ ∀ z ∈ x.items, Fits z) (hz : -9223372036854775808 ≤ z ∧ z ≤ 9223372036854775807) :
    Calls Try.prog 16 #[.slice A xs.length c, .int .i64 z] w (RetL encI 1 (iuV xs z) (lvB xs z) w) := by
  have HW := Lib.hid hw
  clear hw
  by_cases hF : goodA xs = false
  · go_enter Try.func16, Try.ntmps16
    have hbg := Below.refl w.heap.size w
    go_wp2_with fail
    refine (isAlbum_c xs _ _ _ (hr.go hbg) hcap hn hs HW.out).mono ?_
    rintro e wg0 ⟨rfl, hb0⟩
    have hbg := below_via hbg hb0
    go_wp2_with fail
    go_returns
    have HB : lvB xs z = false := by simp [lvB, hF]
    exact ⟨_, _, ret_list (by rw [iuV_no HB]; rfl) HB.symm, hbg, Own.none_ (iuV_no HB) (Nat.le_refl _)⟩
  have G0 : goodA xs = true := by simpa using hF
  clear hF
  go_enter Try.func16, Try.ntmps16
  have hbg := Below.refl w.heap.size w
  go_wp2_with fail
  refine (isAlbum_c xs _ _ _ (hr.go hbg) hcap hn hs HW.out).mono ?_
  rintro e wg0 ⟨rfl, hb0⟩
  have hbg := below_via hbg hb0
  have HG := Lib.hid G0
  have hlen := goodA_len G0
  go_wp2_with fail
  clear G0
  refine (pageAt_c xs _ _ _ _ (hr.go hbg) hn).mono ?_
  rintro _ w1 ⟨rfl, hb1⟩
  have hbg := below_via hbg hb1
  rcases lv_of xs z HG.out with ⟨j, hj, hi, he, hB, hv⟩ | ⟨hi, hB, hv⟩
  · subst he
    rw [hi]
    have HB := Lib.hid hB
    have HP := Lib.hid (iuV_yes hB)
    clear hi hv hB
    have hj2 : ¬ (j : Int) < 0 := by omega
    go_wp2_with fail
    refine (partOf_c xs _ _ j _ (hr.go hbg) hn HG.out hj).mono ?_
    rintro _ w2 ⟨B2, c2, rfl, hb2, hrd⟩
    have hbW := below_via hbg hb2
    have hml := partP_len (id := xs[j].id) (Nat.le_refl xs.length)
    have HM := Lib.hid ((iu_law HG.out (id := xs[j].id)).trans HP.out.symm)
    have H8 := Lib.hid (fun p (hp : p ∈ partP xs xs[j].id xs.length) => good_len8 HG.out p (partP_mem p hp))
    generalize partP xs xs[j].id xs.length = ms at *
    go_wp2_with fail
    go_loopw [6, 22] (fun u i wr => ∃ k : Nat, k ≤ ms.length ∧ i = .int .i64 k ∧ OutR encI 1 3 w2.heap.size u ((ms.take k).flatMap (·.items)) wr ∧ Below w2.heap.size w2 wr) (fun _ i _ => ms.length - (intOf i).toNat)
    case atStart => exact ⟨0, Nat.zero_le _, rfl, by simpa using OutR.nil (enc := encI) (k := 1) (E := 3) (base := w2.heap.size) w2, Below.refl _ _⟩
    case round =>
      obtain ⟨k, hk, rfl, ho, hb⟩ := hrel
      have hf8 := flat_8 (ms.take k) (fun p hp => H8.out p (List.mem_of_mem_take hp))
      rw [List.length_take] at hf8
      by_cases hlt : k < ms.length
      · obtain ⟨b, off, Ai, ci, rfl, hbs, d0, d1, d2, d3, hci, hri⟩ := (hrd.below hb).page hlt
        have HS := Lib.hid (flat_take hlt)
        have h8 := H8.out _ (List.getElem_mem hlt)
        generalize (ms.take k).flatMap (·.items) = ys at *
        go_upto_region 7 with fail
        have hW := New.of wr [.int .i64 ms[k].id, .string ms[k].title, .int .i64 ms[k].under, .slice Ai ms[k].items.length ci] 44
        generalize wr.alloc (.cells #[.int .i64 ms[k].id, .string ms[k].title, .int .i64 ms[k].under, .slice Ai ms[k].items.length ci] 44) = W at *
        obtain ⟨hWb, hWl, hWc⟩ := hW
        have e3 := hWc 3 _ rfl
        have hri := (hri.more hb.size).go hWb
        clear hWc d0 d1 d2 d3
        have hbw := hb.trans (hWb.mono hb.size)
        have ho := ho.below hWb
        have hWs := hbw.size
        generalize wr.heap.size = hp at *
        go_wp2_with (at_builtin; refine wpList_app rfl _ _ _ rfl 3 (.int .i64 0) 1 8 Try.underlying31 infoI rfl (by decide) encI_len oneI (base := w2.heap.size) (ys := ys) (zs := ms[k].items) rfl rfl rfl ho hri (by omega) (by omega) (by omega) ?_; intro v1 w3 hown1 hbel1)
        rw [← HS.out] at hown1
        go_roundw
        case rel => exact ⟨k + 1, by omega, by go_num, hown1, hbw.trans hbel1⟩
        case measure => simp [intOf]; omega
      · have hke : k = ms.length := by omega
        subst hke
        rw [List.take_length] at ho hf8
        have ho := ho.toOut
        generalize ms.flatMap (·.items) = L at *
        go_wp2_with fail
        refine (sortOwn_c w2.heap.size _ L _ 3 ho hb.size (by omega)).mono ?_
        rintro _ w5 ⟨rfl, hb5, ho5⟩
        rw [HM.out] at ho5
        obtain ⟨A5, c5, rfl, hO5⟩ := ho5.own
        have hbl := hb.trans hb5
        go_wp2_with fail
        go_returns
        exact ⟨_, _, ret_list rfl HB.out.symm, hbW.trans (hbl.mono hbW.size), hO5.wide hbW.size (Nat.le_refl _) (Nat.le_refl _)⟩
  · rw [hi]
    have HB := Lib.hid hB
    have HP := Lib.hid (iuV_no hB)
    clear hi hv hB
    go_wp2_with fail
    go_returns
    exact ⟨_, _, ret_list (by rw [HP.out]; rfl) HB.out.symm, hbg, Own.none_ HP.out (Nat.le_refl _)⟩
end Go.Proofs.Ytehoocnhooemoaa
