/- Contracts of the draws of the arguments of the laws on trials. No condition but that the code is one that can be. -/
import Derived.Test.YtdekdjpdpknelaaDoorTrDraw2
namespace Go.Proofs.YtdekdjpdpknelaaDoor
set_option linter.unusedVariables false
set_option linter.unusedSimpArgs false
open Go.RowKit
attribute [local irreducible] wpQuiet
/-- The result's block, behind the reader's: nothing old is turned. -/
theorem below_new2 {w w' : World} {o o2 : Obj} (h : Fr (w.heap.size + 1) (w.heap.size + 2) ((w.alloc o).alloc o2) w') : Below w.heap.size w w' :=
  (((Below.refl _ _).alloc (Nat.le_refl _) _).alloc (by simp) _).trans (h.below (by omega) (by simp; omega))
set_option maxRecDepth 100000 in
set_option maxHeartbeats 1600000 in
theorem drawOddsAfter_c (bs : List Int) (A : Option Addr) (c : Nat) (w : World) (hr : Rd encY 1 w.heap.size w A bs) (hn : bs.length ≤ 65536) (hc : bs.length ≤ c) (hb : ∀ b ∈ bs, ByteI b) :
    Calls Tryd.prog 5 #[.slice A bs.length c] w fun e w' => ∃ (B : Option Addr) (c' : Nat) (xs : List Trial) (o : Odds) (B2 : Option Addr) (c2 : Nat) (us : List Bool), e = .returned (.tuple #[.slice B xs.length c', .agg #[.int .i64 o.real, .int .i64 o.fake], .slice B2 us.length c2]) ∧ xs.length ≤ 10 ∧ us.length ≤ 11 ∧ (∀ x ∈ xs, OkT x) ∧ OkD o ∧ Own encTrial 3 w.heap.size w'.heap.size w' B xs ∧ Own encB 1 w.heap.size w'.heap.size w' B2 us ∧ Below w.heap.size w w' := by
  have HB := Lib.hid hb
  clear hb
  go_enter Tryd.func5, Tryd.ntmps5
  go_wp2_with fail
  have h0 := cur_new (w.alloc (.cells #[.int .i64 0, .int .i64 0] 26)) bs A c 48 (hr.go ((Below.refl _ _).alloc (Nat.le_refl _) _)) hn hc HB.out
  have hb0 := (boxV_at (w.heap.size + 1) w [.int .i64 0, .int .i64 0] 26 (by omega)).alloc (.cells #[.slice A bs.length c, .int .i64 0, .int .u64 0] 48)
  have hz : (w.alloc (.cells #[.int .i64 0, .int .i64 0] 26)).heap.size = w.heap.size + 1 := by simp
  have hy : ((w.alloc (.cells #[.int .i64 0, .int .i64 0] 26)).alloc (.cells #[.slice A bs.length c, .int .i64 0, .int .u64 0] 48)).heap.size = w.heap.size + 2 := by simp
  have hf0 := Fr.refl (w.heap.size + 1) (w.heap.size + 2) ((w.alloc (.cells #[.int .i64 0, .int .i64 0] 26)).alloc (.cells #[.slice A bs.length c, .int .i64 0, .int .u64 0] 48))
  have hB0 := fun (w' : World) (h : Fr (w.heap.size + 1) (w.heap.size + 2) ((w.alloc (.cells #[.int .i64 0, .int .i64 0] 26)).alloc (.cells #[.slice A bs.length c, .int .i64 0, .int .u64 0] 48)) w') => below_new2 h
  rw [hz] at h0
  simp only [List.toArray] at hb0
  generalize (w.alloc (.cells #[.int .i64 0, .int .i64 0] 26)).alloc (.cells #[.slice A bs.length c, .int .i64 0, .int .u64 0] 48) = W at *
  refine (trials_c _ 0 _ h0 (by decide)).mono ?_
  rintro e w1 ⟨B, c', xs, rfl, hl, hok, ho, hf1, hc1⟩
  have hb1 := hb0.fr hf1
  have hf1' := hf0.trans hf1
  have HK := Lib.hid hok
  clear hb0 hf0 hok
  go_wp2_with fail
  refine (odds_c _ _ _ hc1 (by decide)).mono ?_
  rintro e w2 ⟨o, rfl, hO, hf2, hc2⟩
  have hb2 := hb1.fr hf2
  have ho2 := ho.fr hf2 (.inr (by omega))
  have hf2' := hf1'.trans hf2
  clear hb1 ho hf1'
  go_wp2_with fail
  refine (results_c _ _ xs.length _ _ _ hc2 (by decide) hl).mono ?_
  rintro e w3 ⟨B2, c2, us, rfl, hul, hown, hf3, hc3⟩
  have hb3 := hb2.fr hf3
  have s1 := hf1.size
  have s2 := hf2.size
  have s3 := hf3.size
  have ho3 := (ho2.fr hf3 (.inr (by omega))).wide (lo' := w.heap.size + 2) (hi' := w3.heap.size) (by omega) (by omega) (Nat.le_refl _)
  have hown3 := hown.wide (lo' := w.heap.size + 2) (hi' := w3.heap.size) (by omega) (by omega) (Nat.le_refl _)
  have hf3' := hf2'.trans hf3
  have hq3 := hb3.2.2.1
  have y0 := hb3.2.2.2 0 _ rfl
  have y1 := hb3.2.2.2 1 _ rfl
  clear hb2 ho2 hf2' hown hc1 hc2
  go_wp2_with fail
  have hbr := ((hb3.set 0 (by decide) (.int .i64 o.real)).set 1 (by simp) (.int .i64 o.fake))
  simp only [List.set] at hbr
  have hS : Fr w.heap.size (w.heap.size + 1) w3 ((w3.setCell ⟨w.heap.size, 0, none⟩ (.int .i64 o.real)).setCell ⟨w.heap.size, 1, none⟩ (.int .i64 o.fake)) :=
    ((Fr.refl _ _ _).setCell (p := ⟨w.heap.size, 0, none⟩) (Nat.le_refl _) (Nat.lt_succ_self _) _).setCell (p := ⟨w.heap.size, 1, none⟩) (Nat.le_refl _) (Nat.lt_succ_self _) _
  have hbl : Below w.heap.size w ((w3.setCell ⟨w.heap.size, 0, none⟩ (.int .i64 o.real)).setCell ⟨w.heap.size, 1, none⟩ (.int .i64 o.fake)) := (hB0 _ hf3').trans (hS.below (Nat.le_refl _) (by omega))
  have ho4 := (ho3.fr hS (.inr (by omega))).wide (lo' := w.heap.size) (hi' := w3.heap.size) (by omega) (Nat.le_refl _) hS.size
  have hown4 := (hown3.fr hS (.inr (by omega))).wide (lo' := w.heap.size) (hi' := w3.heap.size) (by omega) (Nat.le_refl _) hS.size
  have ho4 := ho4.wide (Nat.le_refl _) hS.size (Nat.le_refl _)
  have hown4 := hown4.wide (Nat.le_refl _) hS.size (Nat.le_refl _)
  generalize (w3.setCell ⟨w.heap.size, 0, none⟩ (.int .i64 o.real)).setCell ⟨w.heap.size, 1, none⟩ (.int .i64 o.fake) = WR at *
  have r0 := hbr.2.2.2 0 _ rfl
  have r1 := hbr.2.2.2 1 _ rfl
  refine bodyPost_ret (v := .tuple #[.slice B xs.length c', .agg #[.int .i64 o.real, .int .i64 o.fake], .slice B2 us.length c2]) (by simp [results, Tryd.results5, go_sem, r0, r1]) rfl ?_
  exact ⟨B, c', xs, o, B2, c2, us, rfl, hl, hul, HK.out, hO, ho4, hown4, hbl⟩
end Go.Proofs.YtdekdjpdpknelaaDoor
