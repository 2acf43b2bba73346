/- Contracts of the draws of odds and results, and of the arguments of the laws on trials. No condition but that the code is one that can be. -/
import Derived.Test.YtdekdjpdpknelaaDoorTrDraw
namespace Go.Proofs.YtdekdjpdpknelaaDoor
set_option linter.unusedVariables false
set_option linter.unusedSimpArgs false
open Go.RowKit
attribute [local irreducible] wpQuiet
set_option maxRecDepth 100000 in
set_option maxHeartbeats 1600000 in
theorem odds_c (g m : Nat) (w : World) (h : Cur g m w) (hm : m ≤ 1099510000000) :
    Calls Tryd.prog 24 #[.pointer (some ⟨g, 0, none⟩)] w fun e w' => ∃ x : Odds, e = .returned (.agg #[.int .i64 x.real, .int .i64 x.fake]) ∧ OkD x ∧ Fr g (g + 1) w w' ∧ Cur g (m + 2) w' := by
  have hg := h.1
  go_enter Tryd.func24, Tryd.ntmps24
  go_wp2_with fail
  have hb0 := boxV_new g w [.int .i64 0, .int .i64 0] 26 h.1
  have hc0 := h.alloc (.cells #[.int .i64 0, .int .i64 0] 26)
  have hf0 := fr_alloc (Fr.refl g (g + 1) w) (.cells #[.int .i64 0, .int .i64 0] 26)
  have hW : w.heap.size + 1 = (w.alloc (.cells #[.int .i64 0, .int .i64 0] 26)).heap.size := by simp
  simp only [List.toArray] at hb0
  generalize w.alloc (.cells #[.int .i64 0, .int .i64 0] 26) = W at *
  have hb1 := boxV_new g W [.int .i64 1, .int .i64 1, .int .i64 1, .int .i64 9, .int .i64 3, .int .i64 2, .int .i64 1, .int .i64 99, .int .i64 999, .int .i64 1000, .int .i64 2, .int .i64 4, .int .i64 0, .int .i64 1, .int .i64 1001, .int .i64 1] 26 hc0.1
  have hb0 := hb0.alloc (.cells #[.int .i64 1, .int .i64 1, .int .i64 1, .int .i64 9, .int .i64 3, .int .i64 2, .int .i64 1, .int .i64 99, .int .i64 999, .int .i64 1000, .int .i64 2, .int .i64 4, .int .i64 0, .int .i64 1, .int .i64 1001, .int .i64 1] 26)
  have hc1 := hc0.alloc (.cells #[.int .i64 1, .int .i64 1, .int .i64 1, .int .i64 9, .int .i64 3, .int .i64 2, .int .i64 1, .int .i64 99, .int .i64 999, .int .i64 1000, .int .i64 2, .int .i64 4, .int .i64 0, .int .i64 1, .int .i64 1001, .int .i64 1] 26)
  have hf1 := fr_alloc hf0 (.cells #[.int .i64 1, .int .i64 1, .int .i64 1, .int .i64 9, .int .i64 3, .int .i64 2, .int .i64 1, .int .i64 99, .int .i64 999, .int .i64 1000, .int .i64 2, .int .i64 4, .int .i64 0, .int .i64 1, .int .i64 1001, .int .i64 1] 26)
  have hW2 : w.heap.size + 1 + 1 = (W.alloc (.cells #[.int .i64 1, .int .i64 1, .int .i64 1, .int .i64 9, .int .i64 3, .int .i64 2, .int .i64 1, .int .i64 99, .int .i64 999, .int .i64 1000, .int .i64 2, .int .i64 4, .int .i64 0, .int .i64 1, .int .i64 1001, .int .i64 1] 26)).heap.size := by simp; omega
  simp only [List.toArray] at hb1
  rw [← hW] at hb1
  generalize W.alloc (.cells #[.int .i64 1, .int .i64 1, .int .i64 1, .int .i64 9, .int .i64 3, .int .i64 2, .int .i64 1, .int .i64 99, .int .i64 999, .int .i64 1000, .int .i64 2, .int .i64 4, .int .i64 0, .int .i64 1, .int .i64 1001, .int .i64 1] 26) = V at *
  clear hf0 hc0
  refine (among_c g m [0, 1, 2, 3, 4, 0, 1, 2, 3, 4, 5, 6, 7] _ _ _ (hc1.alloc _) (by omega) (rd_litP _ _ _ _ hW2) (new_neP (by omega)) (by decide) (by decide)).mono ?_
  rintro e w1 ⟨a, rfl, ha, hf2, hc2⟩
  have ha : a = 0 ∨ a = 1 ∨ a = 2 ∨ a = 3 ∨ a = 4 ∨ a = 5 ∨ a = 6 ∨ a = 7 := by simp at ha; omega
  have hb1 := (hb1.alloc _).fr hf2
  have hb0 := (hb0.alloc _).fr hf2
  have hf2 := (fr_alloc hf1 _).trans hf2
  clear hf1 hc1 hW hW2
  have hn1 : w.heap.size ≠ w.heap.size + 1 := by omega
  have HB := Lib.hid hb0
  obtain ⟨_, _, hz3, hz4⟩ := hb0
  have y0 := hz4 0 _ rfl
  have y1 := hz4 1 _ rfl
  clear hz4
  rcases ha with rfl | rfl | rfl | rfl | rfl | rfl | rfl | rfl
  · have x0 := hb1.2.2.2 0 _ rfl
    have x1 := hb1.2.2.2 1 _ rfl
    go_wp2_with fail
    have hbr := ((HB.out.set 0 (by decide) (.int .i64 1)).set 1 (by simp) (.int .i64 1))
    simp only [List.set] at hbr
    have hfr := fr_set (p := w.heap.size) (j := 1) (u := .int .i64 1) (fr_set (p := w.heap.size) (j := 0) (u := .int .i64 1) hf2 (Nat.le_refl _)) (Nat.le_refl _)
    have hcr := cur_set (p := w.heap.size) (j := 1) (u := .int .i64 1) (cur_set (p := w.heap.size) (j := 0) (u := .int .i64 1) hc2 (by omega)) (by omega)
    generalize (w1.setCell ⟨w.heap.size, 0, none⟩ (.int .i64 1)).setCell ⟨w.heap.size, 1, none⟩ (.int .i64 1) = WR at *
    have r0 := hbr.2.2.2 0 _ rfl
    have r1 := hbr.2.2.2 1 _ rfl
    refine bodyPost_ret (v := .agg #[.int .i64 1, .int .i64 1]) (by simp [results, Tryd.results24, go_sem, r0, r1]) rfl ?_
    exact ⟨⟨1, 1⟩, rfl, by simp [OkD], hfr, hcr⟩
  · have x0 := hb1.2.2.2 2 _ rfl
    have x1 := hb1.2.2.2 3 _ rfl
    go_wp2_with fail
    have hbr := ((HB.out.set 0 (by decide) (.int .i64 1)).set 1 (by simp) (.int .i64 9))
    simp only [List.set] at hbr
    have hfr := fr_set (p := w.heap.size) (j := 1) (u := .int .i64 9) (fr_set (p := w.heap.size) (j := 0) (u := .int .i64 1) hf2 (Nat.le_refl _)) (Nat.le_refl _)
    have hcr := cur_set (p := w.heap.size) (j := 1) (u := .int .i64 9) (cur_set (p := w.heap.size) (j := 0) (u := .int .i64 1) hc2 (by omega)) (by omega)
    generalize (w1.setCell ⟨w.heap.size, 0, none⟩ (.int .i64 1)).setCell ⟨w.heap.size, 1, none⟩ (.int .i64 9) = WR at *
    have r0 := hbr.2.2.2 0 _ rfl
    have r1 := hbr.2.2.2 1 _ rfl
    refine bodyPost_ret (v := .agg #[.int .i64 1, .int .i64 9]) (by simp [results, Tryd.results24, go_sem, r0, r1]) rfl ?_
    exact ⟨⟨1, 9⟩, rfl, by simp [OkD], hfr, hcr⟩
  · have x0 := hb1.2.2.2 4 _ rfl
    have x1 := hb1.2.2.2 5 _ rfl
    go_wp2_with fail
    have hbr := ((HB.out.set 0 (by decide) (.int .i64 3)).set 1 (by simp) (.int .i64 2))
    simp only [List.set] at hbr
    have hfr := fr_set (p := w.heap.size) (j := 1) (u := .int .i64 2) (fr_set (p := w.heap.size) (j := 0) (u := .int .i64 3) hf2 (Nat.le_refl _)) (Nat.le_refl _)
    have hcr := cur_set (p := w.heap.size) (j := 1) (u := .int .i64 2) (cur_set (p := w.heap.size) (j := 0) (u := .int .i64 3) hc2 (by omega)) (by omega)
    generalize (w1.setCell ⟨w.heap.size, 0, none⟩ (.int .i64 3)).setCell ⟨w.heap.size, 1, none⟩ (.int .i64 2) = WR at *
    have r0 := hbr.2.2.2 0 _ rfl
    have r1 := hbr.2.2.2 1 _ rfl
    refine bodyPost_ret (v := .agg #[.int .i64 3, .int .i64 2]) (by simp [results, Tryd.results24, go_sem, r0, r1]) rfl ?_
    exact ⟨⟨3, 2⟩, rfl, by simp [OkD], hfr, hcr⟩
  · have x0 := hb1.2.2.2 6 _ rfl
    have x1 := hb1.2.2.2 7 _ rfl
    go_wp2_with fail
    have hbr := ((HB.out.set 0 (by decide) (.int .i64 1)).set 1 (by simp) (.int .i64 99))
    simp only [List.set] at hbr
    have hfr := fr_set (p := w.heap.size) (j := 1) (u := .int .i64 99) (fr_set (p := w.heap.size) (j := 0) (u := .int .i64 1) hf2 (Nat.le_refl _)) (Nat.le_refl _)
    have hcr := cur_set (p := w.heap.size) (j := 1) (u := .int .i64 99) (cur_set (p := w.heap.size) (j := 0) (u := .int .i64 1) hc2 (by omega)) (by omega)
    generalize (w1.setCell ⟨w.heap.size, 0, none⟩ (.int .i64 1)).setCell ⟨w.heap.size, 1, none⟩ (.int .i64 99) = WR at *
    have r0 := hbr.2.2.2 0 _ rfl
    have r1 := hbr.2.2.2 1 _ rfl
    refine bodyPost_ret (v := .agg #[.int .i64 1, .int .i64 99]) (by simp [results, Tryd.results24, go_sem, r0, r1]) rfl ?_
    exact ⟨⟨1, 99⟩, rfl, by simp [OkD], hfr, hcr⟩
  · have x0 := hb1.2.2.2 8 _ rfl
    have x1 := hb1.2.2.2 9 _ rfl
    go_wp2_with fail
    have hbr := ((HB.out.set 0 (by decide) (.int .i64 999)).set 1 (by simp) (.int .i64 1000))
    simp only [List.set] at hbr
    have hfr := fr_set (p := w.heap.size) (j := 1) (u := .int .i64 1000) (fr_set (p := w.heap.size) (j := 0) (u := .int .i64 999) hf2 (Nat.le_refl _)) (Nat.le_refl _)
    have hcr := cur_set (p := w.heap.size) (j := 1) (u := .int .i64 1000) (cur_set (p := w.heap.size) (j := 0) (u := .int .i64 999) hc2 (by omega)) (by omega)
    generalize (w1.setCell ⟨w.heap.size, 0, none⟩ (.int .i64 999)).setCell ⟨w.heap.size, 1, none⟩ (.int .i64 1000) = WR at *
    have r0 := hbr.2.2.2 0 _ rfl
    have r1 := hbr.2.2.2 1 _ rfl
    refine bodyPost_ret (v := .agg #[.int .i64 999, .int .i64 1000]) (by simp [results, Tryd.results24, go_sem, r0, r1]) rfl ?_
    exact ⟨⟨999, 1000⟩, rfl, by simp [OkD], hfr, hcr⟩
  · have x0 := hb1.2.2.2 10 _ rfl
    have x1 := hb1.2.2.2 11 _ rfl
    go_wp2_with fail
    have hbr := ((HB.out.set 0 (by decide) (.int .i64 2)).set 1 (by simp) (.int .i64 4))
    simp only [List.set] at hbr
    have hfr := fr_set (p := w.heap.size) (j := 1) (u := .int .i64 4) (fr_set (p := w.heap.size) (j := 0) (u := .int .i64 2) hf2 (Nat.le_refl _)) (Nat.le_refl _)
    have hcr := cur_set (p := w.heap.size) (j := 1) (u := .int .i64 4) (cur_set (p := w.heap.size) (j := 0) (u := .int .i64 2) hc2 (by omega)) (by omega)
    generalize (w1.setCell ⟨w.heap.size, 0, none⟩ (.int .i64 2)).setCell ⟨w.heap.size, 1, none⟩ (.int .i64 4) = WR at *
    have r0 := hbr.2.2.2 0 _ rfl
    have r1 := hbr.2.2.2 1 _ rfl
    refine bodyPost_ret (v := .agg #[.int .i64 2, .int .i64 4]) (by simp [results, Tryd.results24, go_sem, r0, r1]) rfl ?_
    exact ⟨⟨2, 4⟩, rfl, by simp [OkD], hfr, hcr⟩
  · have x0 := hb1.2.2.2 12 _ rfl
    have x1 := hb1.2.2.2 13 _ rfl
    go_wp2_with fail
    have hbr := ((HB.out.set 0 (by decide) (.int .i64 0)).set 1 (by simp) (.int .i64 1))
    simp only [List.set] at hbr
    have hfr := fr_set (p := w.heap.size) (j := 1) (u := .int .i64 1) (fr_set (p := w.heap.size) (j := 0) (u := .int .i64 0) hf2 (Nat.le_refl _)) (Nat.le_refl _)
    have hcr := cur_set (p := w.heap.size) (j := 1) (u := .int .i64 1) (cur_set (p := w.heap.size) (j := 0) (u := .int .i64 0) hc2 (by omega)) (by omega)
    generalize (w1.setCell ⟨w.heap.size, 0, none⟩ (.int .i64 0)).setCell ⟨w.heap.size, 1, none⟩ (.int .i64 1) = WR at *
    have r0 := hbr.2.2.2 0 _ rfl
    have r1 := hbr.2.2.2 1 _ rfl
    refine bodyPost_ret (v := .agg #[.int .i64 0, .int .i64 1]) (by simp [results, Tryd.results24, go_sem, r0, r1]) rfl ?_
    exact ⟨⟨0, 1⟩, rfl, by simp [OkD], hfr, hcr⟩
  · have x0 := hb1.2.2.2 14 _ rfl
    have x1 := hb1.2.2.2 15 _ rfl
    go_wp2_with fail
    have hbr := ((HB.out.set 0 (by decide) (.int .i64 1001)).set 1 (by simp) (.int .i64 1))
    simp only [List.set] at hbr
    have hfr := fr_set (p := w.heap.size) (j := 1) (u := .int .i64 1) (fr_set (p := w.heap.size) (j := 0) (u := .int .i64 1001) hf2 (Nat.le_refl _)) (Nat.le_refl _)
    have hcr := cur_set (p := w.heap.size) (j := 1) (u := .int .i64 1) (cur_set (p := w.heap.size) (j := 0) (u := .int .i64 1001) hc2 (by omega)) (by omega)
    generalize (w1.setCell ⟨w.heap.size, 0, none⟩ (.int .i64 1001)).setCell ⟨w.heap.size, 1, none⟩ (.int .i64 1) = WR at *
    have r0 := hbr.2.2.2 0 _ rfl
    have r1 := hbr.2.2.2 1 _ rfl
    refine bodyPost_ret (v := .agg #[.int .i64 1001, .int .i64 1]) (by simp [results, Tryd.results24, go_sem, r0, r1]) rfl ?_
    exact ⟨⟨1001, 1⟩, rfl, by simp [OkD], hfr, hcr⟩
theorem Out.fr {α : Type} {V : α → Value} {E : TypeId} {base g : Nat} {v : Value} {ys : List α} {w w' : World} (h : Out V E base v ys w) (hf : Fr g (g + 1) w w') (hg : g < base) : Out V E base v ys w' := by
  have hgr : w.grownBy w' (some g) := ⟨hf.os, hf.tape, hf.output, hf.size, fun k hk hne => hf.block k hk (by have : k ≠ g := fun e => hne (by rw [e]); omega)⟩
  refine World.ownsRow.kept h hgr ?_
  cases hv : v.ownBlock with
  | none => simp
  | some q => exact .inr (by have := h.from_ q hv; intro e; injection e; omega)
theorem cur_push {g m base : Nat} {w w' : World} (h : Cur g m w) (hb : Below base w w') (hg : g < base) : Cur g m w' :=
  h.keep hb.size fun b hb' => hb.block b (by omega)
theorem fr_push {lo hi base : Nat} {a w w' : World} (h : Fr lo hi a w) (hb : Below base w w') (hle : a.heap.size ≤ base) : Fr lo hi a w' :=
  ⟨hb.os.trans h.os, hb.tape.trans h.tape, hb.output.trans h.output, Nat.le_trans h.size hb.size, fun b h1 h2 => (hb.block b (by omega)).trans (h.block b h1 h2)⟩
theorem infoBo : (Tryd.prog.info? 4).map (fun i => (i.zero, i.size, i.bytes)) = some (some (.bool false), 1, 1) := by kernel_rfl
set_option maxRecDepth 100000 in
set_option maxHeartbeats 1600000 in
theorem results_c (g m n : Nat) (A : Option Addr) (c : Nat) (w : World) (h : Cur g m w) (hm : m ≤ 1099500000000) (hn : n ≤ 10) :
    Calls Tryd.prog 25 #[.pointer (some ⟨g, 0, none⟩), .slice A n c] w fun e w' => ∃ (B : Option Addr) (c' : Nat) (bs : List Bool), e = .returned (.slice B bs.length c') ∧ bs.length ≤ 11 ∧ Own encB 1 w.heap.size w'.heap.size w' B bs ∧ Fr g (g + 1) w w' ∧ Cur g (m + 100) w' := by
  have hg := h.1
  go_enter Tryd.func25, Tryd.ntmps25
  go_wp2_with fail
  have hO0 := Out.empty (V := Value.bool) (E := 4) w (Nat.le_refl _)
  have hc0 := h.alloc (.cells #[] 4)
  have hf0 := fr_alloc (Fr.refl g (g + 1) w) (.cells #[] 4)
  go_loopw [5, 6] (fun u i wr => ∃ (bs : List Bool), Out Value.bool 4 w.heap.size u bs wr ∧ i = .int .i64 bs.length ∧ bs.length ≤ n ∧ Fr g (g + 1) w wr ∧ Cur g (m + 2 * bs.length) wr) (fun _ i _ => n - (intOf i).toNat)
  case atStart => exact ⟨[], hO0, rfl, by simp, hf0, hc0⟩
  case round =>
    obtain ⟨bs, hO, rfl, hl, hf, hc⟩ := hrel
    clear hO0 hc0 hf0
    by_cases hlt : bs.length < n
    · go_wp2_with fail
      refine (one_c g _ 3 _ hc (by omega) (by decide)).mono ?_
      rintro e w3 ⟨b, rfl, hf3, hc3⟩
      have hO3 := hO.fr hf3 hg
      have hf3 := hf.trans hf3
      have hsz := hf3.size
      clear hO hf hc
      go_wp2_with (at_builtin; refine wpList_push rfl _ _ _ rfl 4 (.bool false) 1 Tryd.underlying27 infoBo rfl (!b) rfl hO3 _ rfl (by simp) rfl (by omega) (by omega) hsz ?_; intro v6 w6 ho6 hb6)
      have hln : (bs ++ [!b]).length = bs.length + 1 := by simp
      have hcn := cur_push hc3 hb6 hg
      have hfn := fr_push hf3 hb6 (Nat.le_refl _)
      generalize bs ++ [!b] = zs at ho6 hln
      clear hO3 hf3 hc3 hb6
      go_roundw
      case rel => exact ⟨zs, ho6, by rw [hln]; go_num, by omega, hfn, hcn.more (by omega)⟩
      case measure => simp [intOf]; omega
    · go_wp2_with fail
      refine (one_c g _ 16 _ hc (by omega) (by decide)).mono ?_
      rintro e w3 ⟨b, rfl, hf3, hc3⟩
      have hO3 := hO.fr hf3 hg
      have hf3 := hf.trans hf3
      have hsz := hf3.size
      clear hO hf hc
      cases b
      · obtain ⟨B, c', rfl, hown⟩ := hO3.own
        go_wp2_with fail
        go_returns
        exact ⟨B, c', bs, rfl, by omega, hown, hf3, hc3.more (by omega)⟩
      · go_wp2_with (at_builtin; refine wpList_push rfl _ _ _ rfl 4 (.bool false) 1 Tryd.underlying27 infoBo rfl true rfl hO3 _ rfl (by simp) rfl (by omega) (by omega) hsz ?_; intro v6 w6 ho6 hb6)
        have hln : (bs ++ [true]).length = bs.length + 1 := by simp
        have hcn := cur_push hc3 hb6 hg
        have hfn := fr_push hf3 hb6 (Nat.le_refl _)
        generalize bs ++ [true] = zs at ho6 hln
        obtain ⟨B, c', rfl, hown⟩ := ho6.own
        go_wp2_with fail
        go_returns
        exact ⟨B, c', zs, rfl, by omega, hown, hfn, hcn.more (by omega)⟩
end Go.Proofs.YtdekdjpdpknelaaDoor
