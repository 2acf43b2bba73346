/- Contract of the draw of flaws: some within bounds; only the reader's own block is turned. No condition. -/
import Derived.Test.YtgjehnjpbekoeaaDoorFlDraw
import Derived.Test.YtgjehnjpbekoeaaDoorFlAddO
namespace Go.Proofs.YtgjehnjpbekoeaaDoor
set_option linter.unusedVariables false
set_option linter.unusedSimpArgs false
open Go.RowKit
attribute [local irreducible] wpQuiet
theorem af_ok {xs : List Flaw} {x : Flaw} (hx : OkF x) (hxs : ∀ y ∈ xs, OkF y) (h : afB xs x = true) : (afL xs x).length ≤ 20 ∧ ∀ y ∈ afL xs x, OkF y := by
  have h' := h
  simp only [afB, Bool.and_eq_true] at h'
  unfold afL
  rw [if_pos h]
  refine ⟨goodFl_len h'.2, fun y hy => ?_⟩
  unfold insFl at hy
  rcases List.mem_append.1 hy with hy | hy
  · rcases List.mem_append.1 hy with hy | hy
    · exact hxs y (List.mem_of_mem_take hy)
    · simp at hy; subst hy; exact hx
  · exact hxs y (List.mem_of_mem_drop hy)
theorem ok_one {xs : List Flaw} {x : Flaw} (hx : OkF x) (hxs : ∀ y ∈ xs, OkF y) : ∀ y ∈ xs ++ [x], OkF y := fun y hy => by
  rcases List.mem_append.1 hy with hy | hy
  · exact hxs y hy
  · simp at hy; subst hy; exact hx
set_option maxRecDepth 100000 in
set_option maxHeartbeats 1600000 in
theorem flaws_c (g m : Nat) (w : World) (h : Cur g m w) (hm : m ≤ 1099500000000) :
    Calls Tryd.prog 41 #[.pointer (some ⟨g, 0, none⟩)] w fun e w' => ∃ (A : Option Addr) (c : Nat) (xs : List Flaw), e = .returned (.slice A xs.length c) ∧ xs.length ≤ 21 ∧ (∀ x ∈ xs, OkF x) ∧ xs.length ≤ c ∧ Own encFlaw 4 w.heap.size w'.heap.size w' A xs ∧ Fr g (g + 1) w w' ∧ Cur g (m + 1000) w' := by
  have hg := h.1
  go_enter Tryd.func41, Tryd.ntmps41
  go_wp2_with fail
  have hO0 := OutR.empty (enc := encFlaw) (k := 4) (E := 43) w (Nat.le_refl _)
  have hf0 := fr_alloc (Fr.refl g (g + 1) w) (.cells #[] 43)
  have hc0 := h.alloc (.cells #[] 43)
  refine (pick_c g _ 12 _ hc0 (by omega) (by decide)).mono ?_
  rintro e w1 ⟨N0, rfl, hN0, _, hN1, _, hf1, hc1⟩
  have hN1 := hN1 (by decide)
  obtain ⟨N, rfl⟩ := Int.eq_ofNat_of_zero_le hN0
  have hO1 := hO0.fr hf1 hg
  have hf1 := hf0.trans hf1
  clear hO0 hf0 hc0
  go_wp2_with fail
  go_loopw [3, 4] (fun u n wr => ∃ (ys : List Flaw) (j : Nat), OutR encFlaw 4 43 w.heap.size u ys wr ∧ n = .int .i64 j ∧ j ≤ 11 ∧ ys.length ≤ 20 ∧ (∀ x ∈ ys, OkF x) ∧ Fr g (g + 1) w wr ∧ Cur g (m + 200 - 12 * j) wr) (fun _ n _ => (intOf n).toNat)
  case atStart => exact ⟨[], N, hO1, rfl, by omega, by simp, by simp, hf1, hc1.more (by omega)⟩
  case round =>
    obtain ⟨ys, j, hO, rfl, hj, hyl, hok, hf, hc⟩ := hrel
    clear hO1 hf1 hc1
    have HY := Lib.hid hok
    clear hok
    by_cases hj0 : (0 : Int) < (j : Int)
    · go_wp2_with fail
      refine (flaw_c g _ _ hc (by omega)).mono ?_
      rintro e w2 ⟨x, rfl, hx, hf2, hc2⟩
      have hO2 := hO.fr hf2 hg
      have hf2 := hf.trans hf2
      clear hO hf hc
      obtain ⟨A, c, rfl, hcap, hown⟩ := hO2.ownC encFlaw_len
      go_wp2_with fail
      refine (specAddFlawO_c ys A c x _ hown.rd hcap (by omega)).mono ?_
      rintro e w3 ⟨v, rfl, hb3, hO3⟩
      have hO4 := hO3.freshR (lo := w.heap.size) hf2.size
      have hO5 := hO2.below hb3
      have hf3 := hf2.trans (Fr.of_below hb3)
      have hc3 := hc2.below hb3
      have HA := Lib.hid (fun h => af_ok hx HY.out h)
      clear hO2 hO3 hf2 hc2 hb3 hown
      generalize afL ys x = L at *
      generalize afB ys x = B at *
      cases B
      · go_wp2_with fail
        go_roundw
        case rel => exact ⟨ys, j - 1, hO5, vi (by omega), by omega, hyl, HY.out, hf3, hc3.more (by omega)⟩
        case measure => simp [intOf]; omega
      · obtain ⟨hl, hk⟩ := HA.out rfl
        have HK := Lib.hid hk
        clear hk HA
        go_wp2_with fail
        go_roundw
        case rel => exact ⟨L, j - 1, hO4, vi (by omega), by omega, hl, HK.out, hf3, hc3.more (by omega)⟩
        case measure => simp [intOf]; omega
    · have hjz : j = 0 := by omega
      subst hjz
      go_wp2_with fail
      refine (pick_c g _ 32 _ hc (by omega) (by decide)).mono ?_
      rintro e w2 ⟨r, rfl, hr0, _, hr1, _, hf2, hc2⟩
      have hO2 := hO.fr hf2 hg
      have hf2 := hf.trans hf2
      clear hO hf hc hr1
      by_cases e0 : r = 0
      · subst e0
        go_wp2_with fail
        refine (flaw_c g _ _ hc2 (by omega)).mono ?_
        rintro e w3 ⟨x, rfl, hx, hf3, hc3⟩
        have hO3 := hO2.fr hf3 hg
        have hf3 := hf2.trans hf3
        have hsz := hf3.size
        clear hO2 hf2 hc2
        go_wp2_with (at_builtin; refine wpList_app rfl _ _ _ rfl 43 (.agg #[.int .i64 0, .int .i64 0, .int .i64 0, .int .i64 0]) 4 32 Tryd.underlying24 infoFlaw rfl (by decide) encFlaw_len oneFlaw_ (base := w.heap.size) (m := 1) (ys := ys) (zs := [x]) rfl rfl rfl (hO3.below ((Below.refl _ _).alloc (Nat.le_refl _) _)) (rd_new (x := x) (vs := [.int .i64 x.row, .int .i64 x.col, .int .i64 x.code, .int .i64 x.since]) rfl rfl) (by first | omega | (simp; omega)) (by first | omega | (simp; omega)) (by simp; omega) ?_; intro v6 w6 ho6 hb6)
        have hKn := Lib.hid (ok_one hx HY.out)
        have hln : (ys ++ [x]).length ≤ 21 := by simp; omega
        generalize ys ++ [x] = us at *
        have hcn := cur_app hc3 hb6 hg
        have hfn := fr_app hf3 hb6 (Nat.le_refl _)
        clear hb6 hO3 hc3 hf3
        obtain ⟨A, c, rfl, hcap, hown⟩ := ho6.ownC encFlaw_len
        go_returns
        exact ⟨A, c, us, rfl, hln, hKn.out, hcap, hown, hfn, hcn.more (by omega)⟩
      have c0 : (r == 0) = false := by simpa using e0
      by_cases e1 : r = 1
      · subst e1
        go_wp2_with fail
        go_loopw [3] (fun u wr => ∃ (zs : List Flaw), OutR encFlaw 4 43 w.heap.size u zs wr ∧ zs.length ≤ 21 ∧ (∀ x ∈ zs, OkF x) ∧ Fr g (g + 1) w wr ∧ Cur g (m + 300 + 4 * zs.length) wr) (fun u _ => 22 - lenV u)
        case atStart => exact ⟨ys, hO2, by omega, HY.out, hf2, hc2.more (by omega)⟩
        case round =>
          obtain ⟨zs, hO, hzl, hok, hf, hc⟩ := hrel
          clear hO2 hf2 hc2 HY
          have HZ := Lib.hid hok
          clear hok
          obtain ⟨A, c, rfl, hcap, hown⟩ := hO.ownC encFlaw_len
          go_wp2_with fail
          refine (pick_c g _ 2 _ hc (by omega) (by decide)).mono ?_
          rintro e w5 ⟨r, rfl, hr0, _, hr1, _, hf5, hc5⟩
          have hr1 := hr1 (by decide)
          have hO5 := hO.fr hf5 hg
          have hown5 := (hown.fr hf5 (.inr (by omega))).wide (Nat.le_refl _) hf5.size (Nat.le_refl _)
          have hf5 := hf.trans hf5
          have hsz := hf5.size
          clear hO hf hc hown
          by_cases hlt : (zs.length : Int) < 20 + r
          · have hx : OkF (⟨9, 9, 40 + (zs.length : Int), 2⟩ : Flaw) := ⟨⟨by simp only; omega, by simp only; omega⟩, ⟨by simp only; omega, by simp only; omega⟩, ⟨by simp only; omega, by simp only; omega⟩, ⟨by simp only; omega, by simp only; omega⟩⟩
            clear hown5
            go_wp2_with (at_builtin; refine wpList_app rfl _ _ _ rfl 43 (.agg #[.int .i64 0, .int .i64 0, .int .i64 0, .int .i64 0]) 4 32 Tryd.underlying24 infoFlaw rfl (by decide) encFlaw_len oneFlaw_ (base := w.heap.size) (m := 1) (ys := zs) (zs := [(⟨9, 9, 40 + (zs.length : Int), 2⟩ : Flaw)]) rfl rfl rfl (hO5.below ((Below.refl _ _).alloc (Nat.le_refl _) _)) (rd_new (x := (⟨9, 9, 40 + (zs.length : Int), 2⟩ : Flaw)) (vs := [.int .i64 9, .int .i64 9, .int .i64 (40 + (zs.length : Int)), .int .i64 2]) rfl rfl) (by first | omega | (simp; omega)) (by first | omega | (simp; omega)) (by simp; omega) ?_; intro v6 w6 ho6 hb6)
            have hKn := Lib.hid (ok_one hx HZ.out)
            have hln : (zs ++ [(⟨9, 9, 40 + (zs.length : Int), 2⟩ : Flaw)]).length = zs.length + 1 := by simp
            generalize zs ++ [(⟨9, 9, 40 + (zs.length : Int), 2⟩ : Flaw)] = us at *
            have hcn := cur_app hc5 hb6 hg
            have hfn := fr_app hf5 hb6 (Nat.le_refl _)
            clear hb6 hO5 hc5 hf5
            obtain ⟨A', c', rfl, hcap', hown'⟩ := ho6.ownC encFlaw_len
            go_roundw
            case rel => exact ⟨us, ho6, by omega, hKn.out, hfn, hcn.more (by omega)⟩
            case measure => simp [lenV]; omega
          · go_wp2_with fail
            go_returns
            exact ⟨A, c, zs, rfl, hzl, HZ.out, hcap, hown5, hf5, hc5.more (by omega)⟩
      have c1 : (r == 1) = false := by simpa using e1
      obtain ⟨A, c, rfl, hcap, hown⟩ := hO2.ownC encFlaw_len
      go_wp2_with fail
      go_returns
      exact ⟨A, c, ys, rfl, by omega, HY.out, hcap, hown, hf2, hc2.more (by omega)⟩
end Go.Proofs.YtgjehnjpbekoeaaDoor
