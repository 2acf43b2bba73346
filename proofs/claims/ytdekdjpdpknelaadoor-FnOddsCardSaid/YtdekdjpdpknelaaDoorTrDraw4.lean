/- Contracts of the draws of odds and of a trial. No condition but that the code is one that can be. -/
import Derived.Test.YtdekdjpdpknelaaDoorTrDraw3
namespace Go.Proofs.YtdekdjpdpknelaaDoor
set_option linter.unusedVariables false
set_option linter.unusedSimpArgs false
open Go.RowKit
attribute [local irreducible] wpQuiet
set_option maxRecDepth 100000 in
set_option maxHeartbeats 1600000 in
theorem drawAreOdds_c (bs : List Int) (A : Option Addr) (c : Nat) (w : World) (hr : Rd encY 1 w.heap.size w A bs) (hn : bs.length ≤ 65536) (hc : bs.length ≤ c) (hb : ∀ b ∈ bs, ByteI b) :
    Calls Tryd.prog 34 #[.slice A bs.length c] w fun e w' => ∃ x : Odds, e = .returned (.agg #[.int .i64 x.real, .int .i64 x.fake]) ∧ OkD x ∧ Below w.heap.size w w' := by
  have HB := Lib.hid hb
  clear hb
  go_enter Tryd.func34, Tryd.ntmps34
  go_wp2_with fail
  have h0 := cur_new (w.alloc (.cells #[.int .i64 0, .int .i64 0] 26)) bs A c 48 (hr.go ((Below.refl _ _).alloc (Nat.le_refl _) _)) hn hc HB.out
  have hb0 := (boxV_at (w.heap.size + 1) w [.int .i64 0, .int .i64 0] 26 (by omega)).alloc (.cells #[.slice A bs.length c, .int .i64 0, .int .u64 0] 48)
  have hz : (w.alloc (.cells #[.int .i64 0, .int .i64 0] 26)).heap.size = w.heap.size + 1 := by simp
  have hf0 := Fr.refl (w.heap.size + 1) (w.heap.size + 2) ((w.alloc (.cells #[.int .i64 0, .int .i64 0] 26)).alloc (.cells #[.slice A bs.length c, .int .i64 0, .int .u64 0] 48))
  have hB0 := fun (w' : World) (h : Fr (w.heap.size + 1) (w.heap.size + 2) ((w.alloc (.cells #[.int .i64 0, .int .i64 0] 26)).alloc (.cells #[.slice A bs.length c, .int .i64 0, .int .u64 0] 48)) w') => below_new2 h
  rw [hz] at h0
  simp only [List.toArray] at hb0
  generalize (w.alloc (.cells #[.int .i64 0, .int .i64 0] 26)).alloc (.cells #[.slice A bs.length c, .int .i64 0, .int .u64 0] 48) = W at *
  refine (odds_c _ 0 _ h0 (by decide)).mono ?_
  rintro e w1 ⟨o, rfl, hO, hf1, hc1⟩
  have hb1 := hb0.fr hf1
  have hBl := hB0 _ (hf0.trans hf1)
  have hq1 := hb1.2.2.1
  have y0 := hb1.2.2.2 0 _ rfl
  have y1 := hb1.2.2.2 1 _ rfl
  clear hb0 hf0 hB0 h0 hf1 hc1
  go_wp2_with fail
  have hbr := ((((hb1).set 0 (by simp) (.int .i64 o.real))).set 1 (by simp) (.int .i64 o.fake))
  simp only [List.set] at hbr
  have hbl := (Below.setCell (p := ⟨w.heap.size, 1, none⟩) (Below.setCell (p := ⟨w.heap.size, 0, none⟩) hBl (Nat.le_refl _) (.int .i64 o.real)) (Nat.le_refl _) (.int .i64 o.fake))
  generalize ((w1.setCell ⟨w.heap.size, 0, none⟩ (.int .i64 o.real)).setCell ⟨w.heap.size, 1, none⟩ (.int .i64 o.fake)) = WR at *
  have r0 := hbr.2.2.2 0 _ rfl
  have r1 := hbr.2.2.2 1 _ rfl
  refine bodyPost_ret (v := .agg #[.int .i64 o.real, .int .i64 o.fake]) (by simp [results, Tryd.results34, go_sem, r0, r1]) rfl ?_
  exact ⟨o, rfl, hO, hbl⟩
set_option maxRecDepth 100000 in
set_option maxHeartbeats 1600000 in
theorem drawDoesHelp_c (bs : List Int) (A : Option Addr) (c : Nat) (w : World) (hr : Rd encY 1 w.heap.size w A bs) (hn : bs.length ≤ 65536) (hc : bs.length ≤ c) (hb : ∀ b ∈ bs, ByteI b) :
    Calls Tryd.prog 17 #[.slice A bs.length c] w fun e w' => ∃ x : Trial, e = .returned (.agg #[.int .i64 x.real, .int .i64 x.fake, .int .i64 x.price]) ∧ OkT x ∧ Below w.heap.size w w' := by
  have HB := Lib.hid hb
  clear hb
  go_enter Tryd.func17, Tryd.ntmps17
  go_wp2_with fail
  have h0 := cur_new (w.alloc (.cells #[.int .i64 0, .int .i64 0, .int .i64 0] 35)) bs A c 48 (hr.go ((Below.refl _ _).alloc (Nat.le_refl _) _)) hn hc HB.out
  have hb0 := (boxV_at (w.heap.size + 1) w [.int .i64 0, .int .i64 0, .int .i64 0] 35 (by omega)).alloc (.cells #[.slice A bs.length c, .int .i64 0, .int .u64 0] 48)
  have hz : (w.alloc (.cells #[.int .i64 0, .int .i64 0, .int .i64 0] 35)).heap.size = w.heap.size + 1 := by simp
  have hf0 := Fr.refl (w.heap.size + 1) (w.heap.size + 2) ((w.alloc (.cells #[.int .i64 0, .int .i64 0, .int .i64 0] 35)).alloc (.cells #[.slice A bs.length c, .int .i64 0, .int .u64 0] 48))
  have hB0 := fun (w' : World) (h : Fr (w.heap.size + 1) (w.heap.size + 2) ((w.alloc (.cells #[.int .i64 0, .int .i64 0, .int .i64 0] 35)).alloc (.cells #[.slice A bs.length c, .int .i64 0, .int .u64 0] 48)) w') => below_new2 h
  rw [hz] at h0
  simp only [List.toArray] at hb0
  generalize (w.alloc (.cells #[.int .i64 0, .int .i64 0, .int .i64 0] 35)).alloc (.cells #[.slice A bs.length c, .int .i64 0, .int .u64 0] 48) = W at *
  refine (trial_c _ 0 _ h0 (by decide)).mono ?_
  rintro e w1 ⟨o, rfl, hO, hf1, hc1⟩
  have hb1 := hb0.fr hf1
  have hBl := hB0 _ (hf0.trans hf1)
  have hq1 := hb1.2.2.1
  have y0 := hb1.2.2.2 0 _ rfl
  have y1 := hb1.2.2.2 1 _ rfl
  have y2 := hb1.2.2.2 2 _ rfl
  clear hb0 hf0 hB0 h0 hf1 hc1
  go_wp2_with fail
  have hbr := ((((((hb1).set 0 (by simp) (.int .i64 o.real))).set 1 (by simp) (.int .i64 o.fake))).set 2 (by simp) (.int .i64 o.price))
  simp only [List.set] at hbr
  have hbl := (Below.setCell (p := ⟨w.heap.size, 2, none⟩) (Below.setCell (p := ⟨w.heap.size, 1, none⟩) (Below.setCell (p := ⟨w.heap.size, 0, none⟩) hBl (Nat.le_refl _) (.int .i64 o.real)) (Nat.le_refl _) (.int .i64 o.fake)) (Nat.le_refl _) (.int .i64 o.price))
  generalize (((w1.setCell ⟨w.heap.size, 0, none⟩ (.int .i64 o.real)).setCell ⟨w.heap.size, 1, none⟩ (.int .i64 o.fake)).setCell ⟨w.heap.size, 2, none⟩ (.int .i64 o.price)) = WR at *
  have r0 := hbr.2.2.2 0 _ rfl
  have r1 := hbr.2.2.2 1 _ rfl
  have r2 := hbr.2.2.2 2 _ rfl
  refine bodyPost_ret (v := .agg #[.int .i64 o.real, .int .i64 o.fake, .int .i64 o.price]) (by simp [results, Tryd.results17, go_sem, r0, r1, r2]) rfl ?_
  exact ⟨o, rfl, hO, hbl⟩
set_option maxRecDepth 100000 in
set_option maxHeartbeats 1600000 in
theorem drawShareReal_c (bs : List Int) (A : Option Addr) (c : Nat) (w : World) (hr : Rd encY 1 w.heap.size w A bs) (hn : bs.length ≤ 65536) (hc : bs.length ≤ c) (hb : ∀ b ∈ bs, ByteI b) :
    Calls Tryd.prog 14 #[.slice A bs.length c] w fun e w' => ∃ x : Odds, e = .returned (.agg #[.int .i64 x.real, .int .i64 x.fake]) ∧ OkD x ∧ Below w.heap.size w w' := by
  have HB := Lib.hid hb
  clear hb
  go_enter Tryd.func14, Tryd.ntmps14
  go_wp2_with fail
  have hA := (Below.refl w.heap.size w).alloc (Nat.le_refl _) (.cells #[.int .i64 0, .int .i64 0] 26)
  have hb0 := boxV_at (w.heap.size + 1) w [.int .i64 0, .int .i64 0] 26 (by omega)
  have hr1 := hr.go hA
  simp only [List.toArray] at hb0
  generalize w.alloc (.cells #[.int .i64 0, .int .i64 0] 26) = W at *
  refine (drawAreOdds_c bs _ _ _ hr1 hn hc HB.out).mono ?_
  rintro e w1 ⟨o, rfl, hO, hbx⟩
  have hb1 := hb0.below hbx
  have hBl := below_via hA hbx
  have hq1 := hb1.2.2.1
  have y0 := hb1.2.2.2 0 _ rfl
  have y1 := hb1.2.2.2 1 _ rfl
  clear hb0 hA hbx hr1
  go_wp2_with fail
  have hbr := ((((hb1).set 0 (by simp) (.int .i64 o.real))).set 1 (by simp) (.int .i64 o.fake))
  simp only [List.set] at hbr
  have hbl := (Below.setCell (p := ⟨w.heap.size, 1, none⟩) (Below.setCell (p := ⟨w.heap.size, 0, none⟩) hBl (Nat.le_refl _) (.int .i64 o.real)) (Nat.le_refl _) (.int .i64 o.fake))
  generalize ((w1.setCell ⟨w.heap.size, 0, none⟩ (.int .i64 o.real)).setCell ⟨w.heap.size, 1, none⟩ (.int .i64 o.fake)) = WR at *
  have r0 := hbr.2.2.2 0 _ rfl
  have r1 := hbr.2.2.2 1 _ rfl
  refine bodyPost_ret (v := .agg #[.int .i64 o.real, .int .i64 o.fake]) (by simp [results, Tryd.results14, go_sem, r0, r1]) rfl ?_
  exact ⟨o, rfl, hO, hbl⟩
set_option maxRecDepth 100000 in
set_option maxHeartbeats 1600000 in
theorem drawOddsText_c (bs : List Int) (A : Option Addr) (c : Nat) (w : World) (hr : Rd encY 1 w.heap.size w A bs) (hn : bs.length ≤ 65536) (hc : bs.length ≤ c) (hb : ∀ b ∈ bs, ByteI b) :
    Calls Tryd.prog 20 #[.slice A bs.length c] w fun e w' => ∃ x : Odds, e = .returned (.agg #[.int .i64 x.real, .int .i64 x.fake]) ∧ OkD x ∧ Below w.heap.size w w' := by
  have HB := Lib.hid hb
  clear hb
  go_enter Tryd.func20, Tryd.ntmps20
  go_wp2_with fail
  have hA := (Below.refl w.heap.size w).alloc (Nat.le_refl _) (.cells #[.int .i64 0, .int .i64 0] 26)
  have hb0 := boxV_at (w.heap.size + 1) w [.int .i64 0, .int .i64 0] 26 (by omega)
  have hr1 := hr.go hA
  simp only [List.toArray] at hb0
  generalize w.alloc (.cells #[.int .i64 0, .int .i64 0] 26) = W at *
  refine (drawAreOdds_c bs _ _ _ hr1 hn hc HB.out).mono ?_
  rintro e w1 ⟨o, rfl, hO, hbx⟩
  have hb1 := hb0.below hbx
  have hBl := below_via hA hbx
  have hq1 := hb1.2.2.1
  have y0 := hb1.2.2.2 0 _ rfl
  have y1 := hb1.2.2.2 1 _ rfl
  clear hb0 hA hbx hr1
  go_wp2_with fail
  have hbr := ((((hb1).set 0 (by simp) (.int .i64 o.real))).set 1 (by simp) (.int .i64 o.fake))
  simp only [List.set] at hbr
  have hbl := (Below.setCell (p := ⟨w.heap.size, 1, none⟩) (Below.setCell (p := ⟨w.heap.size, 0, none⟩) hBl (Nat.le_refl _) (.int .i64 o.real)) (Nat.le_refl _) (.int .i64 o.fake))
  generalize ((w1.setCell ⟨w.heap.size, 0, none⟩ (.int .i64 o.real)).setCell ⟨w.heap.size, 1, none⟩ (.int .i64 o.fake)) = WR at *
  have r0 := hbr.2.2.2 0 _ rfl
  have r1 := hbr.2.2.2 1 _ rfl
  refine bodyPost_ret (v := .agg #[.int .i64 o.real, .int .i64 o.fake]) (by simp [results, Tryd.results20, go_sem, r0, r1]) rfl ?_
  exact ⟨o, rfl, hO, hbl⟩
end Go.Proofs.YtdekdjpdpknelaaDoor
