/- Contracts of the draws of trials, odds and results: some within bounds; only the reader's own block is turned. No condition. -/
import Derived.Test.YtdekdjpdpknelaaDoorDrawK
import Derived.Test.YtdekdjpdpknelaaDoorCvTrial
import Derived.Test.YtdekdjpdpknelaaDoorRecOdds
namespace Go.Proofs.YtdekdjpdpknelaaDoor
set_option linter.unusedVariables false
set_option linter.unusedSimpArgs false
open Go.RowKit
attribute [local irreducible] wpQuiet
def OkT (x : Trial) : Prop := (0 ≤ x.real ∧ x.real ≤ 100) ∧ (0 ≤ x.fake ∧ x.fake ≤ 100) ∧ (-1 ≤ x.price ∧ x.price ≤ 1001)
def OkD (x : Odds) : Prop := (0 ≤ x.real ∧ x.real ≤ 1001) ∧ (0 ≤ x.fake ∧ x.fake ≤ 1001)
theorem oneT (x : Trial) : ∀ u ∈ encTrial x, u.oneCell' = true := by
  intro u hu
  simp [encTrial] at hu
  rcases hu with rfl | rfl | rfl <;> rfl
theorem fr_set3 {lo hi p : Nat} {a w : World} {u v x : Value} (h : Fr lo hi a w) (hp : a.heap.size ≤ p) : Fr lo hi a (((w.setCell ⟨p, 0, none⟩ u).setCell ⟨p, 1, none⟩ v).setCell ⟨p, 2, none⟩ x) := fr_set (fr_set (fr_set h hp) hp) hp
theorem cur_set3 {g m p : Nat} {w : World} {u v x : Value} (h : Cur g m w) (hp : g < p) : Cur g m (((w.setCell ⟨p, 0, none⟩ u).setCell ⟨p, 1, none⟩ v).setCell ⟨p, 2, none⟩ x) := cur_set (cur_set (cur_set h hp) hp) hp
set_option maxRecDepth 100000 in
set_option maxHeartbeats 400000 in
theorem trial_c (g m : Nat) (w : World) (h : Cur g m w) (hm : m ≤ 1099510000000) :
    Calls Tryd.prog 35 #[.pointer (some ⟨g, 0, none⟩)] w fun e w' => ∃ x : Trial, e = .returned (.agg #[.int .i64 x.real, .int .i64 x.fake, .int .i64 x.price]) ∧ OkT x ∧ Fr g (g + 1) w w' ∧ Cur g (m + 10) w' := by
  have hg := h.1
  go_enter Tryd.func35, Tryd.ntmps35
  go_wp2_with fail
  have hq0 : g < w.heap.size := h.1
  have hb0 := boxV_new g w [.int .i64 0, .int .i64 0, .int .i64 0] 35 h.1
  have hc0 := h.alloc (.cells #[.int .i64 0, .int .i64 0, .int .i64 0] 35)
  have hf0 := fr_alloc (Fr.refl g (g + 1) w) (.cells #[.int .i64 0, .int .i64 0, .int .i64 0] 35)
  simp only [List.toArray] at hb0
  have hW : w.heap.size + 1 = (w.alloc (.cells #[.int .i64 0, .int .i64 0, .int .i64 0] 35)).heap.size := by simp
  generalize w.alloc (.cells #[.int .i64 0, .int .i64 0, .int .i64 0] 35) = W at *
  refine (among_c g m [99, 90, 80, 50, 10, 1] _ _ _ (hc0.alloc _) (by omega) (rd_litP _ _ _ _ hW) (new_neP (by omega)) (by decide) (by decide)).mono ?_
  rintro e w1 ⟨a, rfl, ha, hf1, hc1⟩
  have ha : 1 ≤ a ∧ a ≤ 99 := by simp at ha; omega
  have hb1 := (hb0.alloc _).fr hf1
  have hf1 := (fr_alloc hf0 _).trans hf1
  clear hb0 hf0 hc0
  go_wp2_with fail
  refine (among_c g _ [1, 20, 20, 60, 98] _ _ _ (hc1.alloc _) (by omega) (rd_litI _ _ _) (new_ne hc1.1) (by decide) (by decide)).mono ?_
  rintro e w2 ⟨b, rfl, hb, hf2, hc2⟩
  have hb : 1 ≤ b ∧ b ≤ 98 := by simp at hb; omega
  have hb2 := (hb1.alloc _).fr hf2
  have hf2 := (fr_alloc hf1 _).trans hf2
  clear hb1 hf1 hc1
  go_wp2_with fail
  refine (among_c g _ [0, 1, 5, 20, 1000] _ _ _ (hc2.alloc _) (by omega) (rd_litI _ _ _) (new_ne hc2.1) (by decide) (by decide)).mono ?_
  rintro e w3 ⟨c, rfl, hc, hf3, hc3⟩
  have hc : 0 ≤ c ∧ c ≤ 1000 := by simp at hc; omega
  have hb3 := (hb2.alloc _).fr hf3
  have hf3 := (fr_alloc hf2 _).trans hf3
  clear hb2 hf2 hc2
  go_wp2_with fail
  have hbx := boxV_new g w3 [.int .i64 a, .int .i64 b, .int .i64 c] 35 hc3.1
  have hbq := hb3.alloc (.cells #[.int .i64 a, .int .i64 b, .int .i64 c] 35)
  have hc4 := hc3.alloc (.cells #[.int .i64 a, .int .i64 b, .int .i64 c] 35)
  have hf4 := fr_alloc hf3 (.cells #[.int .i64 a, .int .i64 b, .int .i64 c] 35)
  have hpq : w.heap.size < w3.heap.size := hb3.2.1
  simp only [List.toArray] at hbx
  generalize w3.alloc (.cells #[.int .i64 a, .int .i64 b, .int .i64 c] 35) = V at *
  generalize w3.heap.size = p at *
  clear hb3 hf3 hc3 hW
  refine (pick_c g _ 64 _ hc4 (by omega) (by decide)).mono ?_
  rintro e w4 ⟨r, rfl, hr0, _, _, _, hf5, hc5⟩
  have hbx := hbx.fr hf5
  have hbq := hbq.fr hf5
  have hf5 := hf4.trans hf5
  have hn1 : w.heap.size ≠ p := by omega
  have hn2 : p ≠ w.heap.size := by omega
  clear hf4 hc4
  by_cases e0 : r = 0
  · subst e0
    have x1 := hbx.2.2.2 1 _ rfl
    go_wp2_with fail
    refine (among_c g _ [0, 100, b] _ _ _ (hc5.alloc _) (by omega) (rd_litI _ _ _) (new_ne hc5.1) (by simp) (by simp)).mono ?_
    rintro e w6 ⟨v, rfl, hv, hf6, hc6⟩
    have hv : 0 ≤ v ∧ v ≤ 100 := by simp at hv; omega
    have hbx := (hbx.alloc _).fr hf6
    have hbq := (hbq.alloc _).fr hf6
    have hf6 := (fr_alloc hf5 _).trans hf6
    clear hf5 hc5 x1
    have HBX := Lib.hid hbx
    obtain ⟨_, _, hz1, hz2⟩ := hbx
    have HBQ := Lib.hid hbq
    obtain ⟨_, _, hz3, hz4⟩ := hbq
    have x0 := hz2 0 _ rfl
    have x1 := hz2 1 _ rfl
    have x2 := hz2 2 _ rfl
    have y0 := hz4 0 _ rfl
    have y1 := hz4 1 _ rfl
    have y2 := hz4 2 _ rfl
    clear hz2 hz4
    go_wp2_with fail
    have hbr := ((((HBQ.out.other (q := p) (j := 0) (u := .int .i64 v) hn1)).set 0 (by decide) (.int .i64 v)).set 1 (by simp) (.int .i64 b)).set 2 (by simp) (.int .i64 c)
    simp only [List.set] at hbr
    have hfr := fr_set3 (p := w.heap.size) (u := .int .i64 v) (v := .int .i64 b) (x := .int .i64 c) (fr_set (p := p) (j := 0) (u := .int .i64 v) hf6 (by omega)) (Nat.le_refl _)
    have hcr := cur_set3 (p := w.heap.size) (u := .int .i64 v) (v := .int .i64 b) (x := .int .i64 c) (cur_set (p := p) (j := 0) (u := .int .i64 v) (hc6.more (m' := m + 10) (by omega)) (by omega)) (by omega)
    generalize (((w6.setCell ⟨p, 0, none⟩ (.int .i64 v)).setCell ⟨w.heap.size, 0, none⟩ (.int .i64 v)).setCell ⟨w.heap.size, 1, none⟩ (.int .i64 b)).setCell ⟨w.heap.size, 2, none⟩ (.int .i64 c) = WR at *
    have r0 := hbr.2.2.2 0 _ rfl
    have r1 := hbr.2.2.2 1 _ rfl
    have r2 := hbr.2.2.2 2 _ rfl
    refine bodyPost_ret (v := .agg #[.int .i64 v, .int .i64 b, .int .i64 c]) (by simp [results, Tryd.results35, go_sem, r0, r1, r2]) rfl ?_
    exact ⟨⟨v, b, c⟩, rfl, ⟨hv, by simp only; omega, by simp only; omega⟩, hfr, hcr⟩
  by_cases e1 : r = 1
  · subst e1
    go_wp2_with fail
    refine (among_c g _ [-1, 1001] _ _ _ (hc5.alloc _) (by omega) (rd_litI _ _ _) (new_ne hc5.1) (by simp) (by simp)).mono ?_
    rintro e w6 ⟨v, rfl, hv, hf6, hc6⟩
    have hv : -1 ≤ v ∧ v ≤ 1001 := by simp at hv; omega
    have hbx := (hbx.alloc _).fr hf6
    have hbq := (hbq.alloc _).fr hf6
    have hf6 := (fr_alloc hf5 _).trans hf6
    clear hf5 hc5
    have HBX := Lib.hid hbx
    obtain ⟨_, _, hz1, hz2⟩ := hbx
    have HBQ := Lib.hid hbq
    obtain ⟨_, _, hz3, hz4⟩ := hbq
    have x0 := hz2 0 _ rfl
    have x1 := hz2 1 _ rfl
    have x2 := hz2 2 _ rfl
    have y0 := hz4 0 _ rfl
    have y1 := hz4 1 _ rfl
    have y2 := hz4 2 _ rfl
    clear hz2 hz4
    go_wp2_with fail
    have hbr := ((((HBQ.out.other (q := p) (j := 2) (u := .int .i64 v) hn1)).set 0 (by decide) (.int .i64 a)).set 1 (by simp) (.int .i64 b)).set 2 (by simp) (.int .i64 v)
    simp only [List.set] at hbr
    have hfr := fr_set3 (p := w.heap.size) (u := .int .i64 a) (v := .int .i64 b) (x := .int .i64 v) (fr_set (p := p) (j := 2) (u := .int .i64 v) hf6 (by omega)) (Nat.le_refl _)
    have hcr := cur_set3 (p := w.heap.size) (u := .int .i64 a) (v := .int .i64 b) (x := .int .i64 v) (cur_set (p := p) (j := 2) (u := .int .i64 v) (hc6.more (m' := m + 10) (by omega)) (by omega)) (by omega)
    generalize (((w6.setCell ⟨p, 2, none⟩ (.int .i64 v)).setCell ⟨w.heap.size, 0, none⟩ (.int .i64 a)).setCell ⟨w.heap.size, 1, none⟩ (.int .i64 b)).setCell ⟨w.heap.size, 2, none⟩ (.int .i64 v) = WR at *
    have r0 := hbr.2.2.2 0 _ rfl
    have r1 := hbr.2.2.2 1 _ rfl
    have r2 := hbr.2.2.2 2 _ rfl
    refine bodyPost_ret (v := .agg #[.int .i64 a, .int .i64 b, .int .i64 v]) (by simp [results, Tryd.results35, go_sem, r0, r1, r2]) rfl ?_
    exact ⟨⟨a, b, v⟩, rfl, ⟨by simp only; omega, by simp only; omega, hv⟩, hfr, hcr⟩
  have c0 : (r == 0) = false := by simpa using e0
  have c1 : (r == 1) = false := by simpa using e1
  have HBX := Lib.hid hbx
  obtain ⟨_, _, hz1, hz2⟩ := hbx
  have HBQ := Lib.hid hbq
  obtain ⟨_, _, hz3, hz4⟩ := hbq
  have x0 := hz2 0 _ rfl
  have x1 := hz2 1 _ rfl
  have x2 := hz2 2 _ rfl
  have y0 := hz4 0 _ rfl
  have y1 := hz4 1 _ rfl
  have y2 := hz4 2 _ rfl
  clear hz2 hz4
  go_wp2_with fail
  have hbr := (((HBQ.out).set 0 (by decide) (.int .i64 a)).set 1 (by simp) (.int .i64 b)).set 2 (by simp) (.int .i64 c)
  simp only [List.set] at hbr
  have hfr := fr_set3 (p := w.heap.size) (u := .int .i64 a) (v := .int .i64 b) (x := .int .i64 c) (hf5) (Nat.le_refl _)
  have hcr := cur_set3 (p := w.heap.size) (u := .int .i64 a) (v := .int .i64 b) (x := .int .i64 c) (hc5.more (m' := m + 10) (by omega)) (by omega)
  generalize (((w4).setCell ⟨w.heap.size, 0, none⟩ (.int .i64 a)).setCell ⟨w.heap.size, 1, none⟩ (.int .i64 b)).setCell ⟨w.heap.size, 2, none⟩ (.int .i64 c) = WR at *
  have r0 := hbr.2.2.2 0 _ rfl
  have r1 := hbr.2.2.2 1 _ rfl
  have r2 := hbr.2.2.2 2 _ rfl
  refine bodyPost_ret (v := .agg #[.int .i64 a, .int .i64 b, .int .i64 c]) (by simp [results, Tryd.results35, go_sem, r0, r1, r2]) rfl ?_
  exact ⟨⟨a, b, c⟩, rfl, ⟨by simp only; omega, by simp only; omega, by simp only; omega⟩, hfr, hcr⟩
set_option maxRecDepth 100000 in
set_option maxHeartbeats 1600000 in
theorem trials_c (g m : Nat) (w : World) (h : Cur g m w) (hm : m ≤ 1099500000000) :
    Calls Tryd.prog 23 #[.pointer (some ⟨g, 0, none⟩)] w fun e w' => ∃ (A : Option Addr) (c : Nat) (xs : List Trial), e = .returned (.slice A xs.length c) ∧ xs.length ≤ 10 ∧ (∀ x ∈ xs, OkT x) ∧ Own encTrial 3 w.heap.size w'.heap.size w' A xs ∧ Fr g (g + 1) w w' ∧ Cur g (m + 200) w' := by
  have hg := h.1
  go_enter Tryd.func23, Tryd.ntmps23
  go_wp2_with fail
  have hO0 := OutR.empty (enc := encTrial) (k := 3) (E := 35) w (Nat.le_refl _)
  refine (pick_c g m 5 _ (h.alloc _) (by omega) (by decide)).mono ?_
  rintro e w1 ⟨N0, rfl, hN0, _, hN1, _, hf1, hc1⟩
  have hN1 := hN1 (by decide)
  obtain ⟨N, rfl⟩ := Int.eq_ofNat_of_zero_le hN0
  have hO1 := hO0.fr hf1 hg
  have hf1 := (fr_alloc (Fr.refl g (g + 1) w) _).trans hf1
  clear hO0
  go_wp2_with fail
  go_loopw [3, 4] (fun u n wr => ∃ (xs : List Trial) (k : Nat), OutR encTrial 3 35 w.heap.size u xs wr ∧ n = .int .i64 k ∧ k ≤ 4 ∧ xs.length + k ≤ 4 ∧ (∀ x ∈ xs, OkT x) ∧ Fr g (g + 1) w wr ∧ Cur g (m + 100 - 12 * k) wr) (fun _ n _ => (intOf n).toNat)
  case atStart => exact ⟨[], N, hO1, rfl, by omega, by simp; omega, by simp, hf1, hc1.more (by omega)⟩
  case round =>
    obtain ⟨xs, k, hO, rfl, hk, hl, hok, hf, hc⟩ := hrel
    clear hO1 hf1 hc1
    have HK := Lib.hid hok
    clear hok
    by_cases hk0 : (0 : Int) < (k : Int)
    · go_wp2_with fail
      refine (trial_c g _ _ hc (by omega)).mono ?_
      rintro e w3 ⟨x, rfl, hx, hf3, hc3⟩
      have HX := Lib.hid hx
      have hO3 := hO.fr hf3 hg
      have hf3 := hf.trans hf3
      have hsz := hf3.size
      clear hO hf hc hx
      go_wp2_with (at_builtin; refine wpList_app rfl _ _ _ rfl 35 (.agg #[.int .i64 0, .int .i64 0, .int .i64 0]) 3 24 Tryd.underlying24 infoTrial rfl (by decide) encTrial_len oneT (base := w.heap.size) (m := 1) (ys := xs) (zs := [x]) rfl rfl rfl (hO3.below ((Below.refl _ _).alloc (Nat.le_refl _) _)) (rd_new (x := x) (vs := [.int .i64 x.real, .int .i64 x.fake, .int .i64 x.price]) rfl rfl) (by first | omega | (simp; omega)) (by first | omega | (simp; omega)) (by simp; omega) ?_; intro v6 w6 ho6 hb6)
      have hKn := Lib.hid (show ∀ y ∈ xs ++ [x], OkT y from fun y hy => by
        rcases List.mem_append.1 hy with h | h
        · exact HK.out y h
        · simp at h; subst h; exact HX.out)
      have hln : (xs ++ [x]).length = xs.length + 1 := by simp
      have hcn := cur_app hc3 hb6 hg
      have hfn := fr_app hf3 hb6 (Nat.le_refl _)
      generalize xs ++ [x] = ys at ho6 hKn hln
      clear hO3 hf3 hc3 hb6
      go_roundw
      case rel => exact ⟨ys, k - 1, ho6, by go_num, by omega, by omega, hKn.out, hfn, hcn.more (by omega)⟩
      case measure => simp [intOf]; omega
    · have hkz : k = 0 := by omega
      subst hkz
      go_wp2_with fail
      refine (one_c g _ 24 _ hc (by omega) (by decide)).mono ?_
      rintro e w3 ⟨b, rfl, hf3, hc3⟩
      have hO3 := hO.fr hf3 hg
      have hf3 := hf.trans hf3
      clear hO hf hc
      cases b
      · obtain ⟨A, c, rfl, hown, _⟩ := hO3.own encTrial_len
        go_wp2_with fail
        go_returns
        exact ⟨A, c, xs, rfl, by omega, HK.out, hown, hf3, hc3.more (by omega)⟩
      · go_wp2_with fail
        go_loopw [3] (fun u wr => ∃ (ys : List Trial), OutR encTrial 3 35 w.heap.size u ys wr ∧ ys.length ≤ 7 ∧ (∀ x ∈ ys, OkT x) ∧ Fr g (g + 1) w wr ∧ Cur g (m + 120 + 4 * ys.length) wr) (fun u _ => 8 - lenV u)
        case atStart => exact ⟨xs, hO3, by omega, HK.out, hf3, hc3.more (by omega)⟩
        case round =>
          obtain ⟨ys, hO, hyl, hok, hf, hc⟩ := hrel
          have HY := Lib.hid hok
          clear hok hO3 hf3 hc3 HK
          obtain ⟨A, c, rfl, hown, _⟩ := hO.own encTrial_len
          go_wp2_with fail
          refine (pick_c g _ 2 _ hc (by omega) (by decide)).mono ?_
          rintro e w5 ⟨r, rfl, hr0, _, hr1, _, hf5, hc5⟩
          have hr1 := hr1 (by decide)
          have hO5 := hO.fr hf5 hg
          have hown5 := (hown.fr hf5 (.inr hg)).wide (Nat.le_refl _) hf5.size (Nat.le_refl _)
          have hf5 := hf.trans hf5
          have hsz := hf5.size
          clear hO hf hc
          by_cases hlt : (ys.length : Int) < 6 + r
          · have HO := Lib.hid hO5
            clear hO5
            go_wp2_with (at_builtin; refine wpList_app rfl _ _ _ rfl 35 (.agg #[.int .i64 0, .int .i64 0, .int .i64 0]) 3 24 Tryd.underlying24 infoTrial rfl (by decide) encTrial_len oneT (base := w.heap.size) (m := 1) (ys := ys) (zs := [(⟨70, 30, 2⟩ : Trial)]) rfl rfl rfl (HO.out.below ((Below.refl _ _).alloc (Nat.le_refl _) _)) (rd_new (x := (⟨70, 30, 2⟩ : Trial)) (vs := [.int .i64 70, .int .i64 30, .int .i64 2]) rfl rfl) (by first | omega | (simp; omega)) (by first | omega | (simp; omega)) (by simp; omega) ?_; intro v6 w6 ho6 hb6)
            have hKn := Lib.hid (show ∀ y ∈ ys ++ [(⟨70, 30, 2⟩ : Trial)], OkT y from fun y hy => by
              rcases List.mem_append.1 hy with h | h
              · exact HY.out y h
              · simp at h; subst h; simp [OkT])
            have hln : (ys ++ [(⟨70, 30, 2⟩ : Trial)]).length = ys.length + 1 := by simp
            have hcn := cur_app hc5 hb6 hg
            have hfn := fr_app hf5 hb6 (Nat.le_refl _)
            generalize ys ++ [(⟨70, 30, 2⟩ : Trial)] = zs at ho6 hKn hln
            obtain ⟨A6, c6, hv6, _, _⟩ := ho6.own encTrial_len
            have hlv : lenV v6 = zs.length := by rw [hv6]; rfl
            clear hf5 hc5 hb6 hv6
            go_roundw
            case rel => exact ⟨zs, ho6, by omega, hKn.out, hfn, hcn.more (by omega)⟩
            case measure => simp only [lenV] at *; omega
          · go_wp2_with fail
            go_returns
            exact ⟨A, c, ys, rfl, by omega, HY.out, hown5, hf5, hc5.more (by omega)⟩
end Go.Proofs.YtdekdjpdpknelaaDoor
