/- Contracts of draws of arguments for the law FnPlates: a list and a state, a list and one more flaw, a flaw. No condition but that the code is one that can be. -/
import Derived.Test.YtgjehnjpbekoeaaDoorFlFlaws
import Derived.Test.YtgjehnjpbekoeaaDoorFlShown
namespace Go.Proofs.YtgjehnjpbekoeaaDoor
set_option linter.unusedVariables false
set_option linter.unusedSimpArgs false
open Go.RowKit
attribute [local irreducible] wpQuiet
theorem below_new2 {w w' : World} {o o2 : Obj} (h : Fr (w.heap.size + 1) (w.heap.size + 2) ((w.alloc o).alloc o2) w') : Below w.heap.size w w' :=
  (((Below.refl _ _).alloc (Nat.le_refl _) _).alloc (by simp) _).trans (h.below (by omega) (by simp; omega))
set_option maxRecDepth 100000 in
set_option maxHeartbeats 1600000 in
theorem dEarlyFlaws_c (bs : List Int) (A : Option Addr) (c : Nat) (w : World) (hr : Rd encY 1 w.heap.size w A bs) (hn : bs.length ≤ 65536) (hc : bs.length ≤ c) (hb : ∀ b ∈ bs, ByteI b) :
    Calls Tryd.prog 25 #[.slice A bs.length c] w fun e w' => ∃ (B : Option Addr) (c' : Nat) (xs : List Flaw) (t0 : Int), e = .returned (.tuple #[.slice B xs.length c', .int .i64 t0]) ∧ xs.length ≤ 21 ∧ (∀ x ∈ xs, OkF x) ∧ xs.length ≤ c' ∧ (-1 ≤ t0 ∧ t0 ≤ 100) ∧ Own encFlaw 4 w.heap.size w'.heap.size w' B xs ∧ Below w.heap.size w w' := by
  have h0 := cur_new w bs A c 63 hr hn hc hb
  go_enter Tryd.func25, Tryd.ntmps25
  go_wp2_with fail
  refine (flaws_c _ 0 _ h0 (by decide)).mono ?_
  rintro e w1 ⟨B, c', xs, rfl, hl, hok, hcap, ho1, hf1, hc1⟩
  have hg1 : w.heap.size + 1 ≤ w1.heap.size := by have := hf1.size; simp at this; omega
  go_wp2_with fail
  refine (plateState_c _ _ _ hc1 (by decide)).mono ?_
  rintro e w2 ⟨t0, rfl, hvt0, hf2, hc2⟩
  have hvt0 : -1 ≤ t0 ∧ t0 ≤ 100 := by omega
  have ho2 := (ho1.fr hf2 (.inr (by simp))).wide (Nat.le_refl _) hf2.size (Nat.le_refl _)
  have hf2 := hf1.trans hf2
  clear ho1 hc1 hf1
  go_wp2_with fail
  have ho9 := ho2.wide (lo' := w.heap.size) (hi' := w2.heap.size) (by simp) (Nat.le_refl _) (Nat.le_refl _)
  have hbl := below_new hf2
  go_returns
  exact ⟨B, c', xs, t0, rfl, hl, hok, hcap, hvt0, ho9, hbl⟩
set_option maxRecDepth 100000 in
set_option maxHeartbeats 1600000 in
theorem dLookAlikes_c (bs : List Int) (A : Option Addr) (c : Nat) (w : World) (hr : Rd encY 1 w.heap.size w A bs) (hn : bs.length ≤ 65536) (hc : bs.length ≤ c) (hb : ∀ b ∈ bs, ByteI b) :
    Calls Tryd.prog 5 #[.slice A bs.length c] w fun e w' => ∃ (B : Option Addr) (c' : Nat) (xs : List Flaw) (t0 : Int), e = .returned (.tuple #[.slice B xs.length c', .int .i64 t0]) ∧ xs.length ≤ 21 ∧ (∀ x ∈ xs, OkF x) ∧ xs.length ≤ c' ∧ (-1 ≤ t0 ∧ t0 ≤ 100) ∧ Own encFlaw 4 w.heap.size w'.heap.size w' B xs ∧ Below w.heap.size w w' := by
  go_enter Tryd.func5, Tryd.ntmps5
  go_wp2_with fail
  refine (dEarlyFlaws_c bs A c w hr hn hc hb).mono ?_
  rintro e w1 ⟨B, c', xs, t0, rfl, hl, hok, hcap, hvt0, ho9, hbl⟩
  go_wp2_with fail
  go_returns
  exact ⟨B, c', xs, t0, rfl, hl, hok, hcap, hvt0, ho9, hbl⟩
set_option maxRecDepth 100000 in
set_option maxHeartbeats 1600000 in
theorem dAddFlaw_c (bs : List Int) (A : Option Addr) (c : Nat) (w : World) (hr : Rd encY 1 w.heap.size w A bs) (hn : bs.length ≤ 65536) (hc : bs.length ≤ c) (hb : ∀ b ∈ bs, ByteI b) :
    Calls Tryd.prog 18 #[.slice A bs.length c] w fun e w' => ∃ (B : Option Addr) (c' : Nat) (xs : List Flaw) (x : Flaw), e = .returned (.tuple #[.slice B xs.length c', .agg #[.int .i64 x.row, .int .i64 x.col, .int .i64 x.code, .int .i64 x.since]]) ∧ xs.length ≤ 21 ∧ (∀ x ∈ xs, OkF x) ∧ xs.length ≤ c' ∧ OkF x ∧ Own encFlaw 4 w.heap.size w'.heap.size w' B xs ∧ Below w.heap.size w w' := by
  have HB := Lib.hid hb
  clear hb
  go_enter Tryd.func18, Tryd.ntmps18
  go_wp2_with fail
  have h0 := cur_new (w.alloc (.cells #[.int .i64 0, .int .i64 0, .int .i64 0, .int .i64 0] 43)) bs A c 63 (hr.go ((Below.refl _ _).alloc (Nat.le_refl _) _)) hn hc HB.out
  have hb0 := (boxV_at (w.heap.size + 1) w [.int .i64 0, .int .i64 0, .int .i64 0, .int .i64 0] 43 (by omega)).alloc (.cells #[.slice A bs.length c, .int .i64 0, .int .u64 0] 63)
  have hz : (w.alloc (.cells #[.int .i64 0, .int .i64 0, .int .i64 0, .int .i64 0] 43)).heap.size = w.heap.size + 1 := by simp
  have hy : ((w.alloc (.cells #[.int .i64 0, .int .i64 0, .int .i64 0, .int .i64 0] 43)).alloc (.cells #[.slice A bs.length c, .int .i64 0, .int .u64 0] 63)).heap.size = w.heap.size + 2 := by simp
  have hf0 := Fr.refl (w.heap.size + 1) (w.heap.size + 2) ((w.alloc (.cells #[.int .i64 0, .int .i64 0, .int .i64 0, .int .i64 0] 43)).alloc (.cells #[.slice A bs.length c, .int .i64 0, .int .u64 0] 63))
  have hB0 := fun (w' : World) (h : Fr (w.heap.size + 1) (w.heap.size + 2) ((w.alloc (.cells #[.int .i64 0, .int .i64 0, .int .i64 0, .int .i64 0] 43)).alloc (.cells #[.slice A bs.length c, .int .i64 0, .int .u64 0] 63)) w') => below_new2 h
  rw [hz] at h0
  simp only [List.toArray] at hb0
  generalize ((w.alloc (.cells #[.int .i64 0, .int .i64 0, .int .i64 0, .int .i64 0] 43)).alloc (.cells #[.slice A bs.length c, .int .i64 0, .int .u64 0] 63)) = W at *
  refine (flaws_c _ 0 _ h0 (by decide)).mono ?_
  rintro e w1 ⟨B, c', xs, rfl, hl, hok, hcap, ho1, hf1, hc1⟩
  have hb1 := hb0.fr hf1
  have hf1' := hf0.trans hf1
  have s1 := hf1.size
  have HK := Lib.hid hok
  clear hb0 hf0 hok
  go_wp2_with fail
  refine (flaw_c _ _ _ hc1 (by decide)).mono ?_
  rintro e w2 ⟨x, rfl, hX, hf2, hc2⟩
  have hb2 := hb1.fr hf2
  have s2 := hf2.size
  have ho2 := (ho1.fr hf2 (.inr (by omega))).wide (lo' := w.heap.size + 2) (hi' := w2.heap.size) (by omega) (by omega) (Nat.le_refl _)
  have hf2' := hf1'.trans hf2
  clear hb1 ho1 hf1' hc1
  have hq2 := hb2.2.2.1
  have y0 := hb2.2.2.2 0 _ rfl
  have y1 := hb2.2.2.2 1 _ rfl
  have y2 := hb2.2.2.2 2 _ rfl
  have y3 := hb2.2.2.2 3 _ rfl
  go_wp2_with fail
  have hbr := ((((hb2).set 0 (by decide) (.int .i64 x.row)).set 1 (by simp) (.int .i64 x.col)).set 2 (by simp) (.int .i64 x.code)).set 3 (by simp) (.int .i64 x.since)
  simp only [List.set] at hbr
  have hS : Fr w.heap.size (w.heap.size + 1) w2 (((((w2).setCell ⟨w.heap.size, 0, none⟩ (.int .i64 x.row)).setCell ⟨w.heap.size, 1, none⟩ (.int .i64 x.col)).setCell ⟨w.heap.size, 2, none⟩ (.int .i64 x.code)).setCell ⟨w.heap.size, 3, none⟩ (.int .i64 x.since)) := (((((((((Fr.refl _ _ _)).setCell (p := ⟨w.heap.size, 0, none⟩) (Nat.le_refl _) (Nat.lt_succ_self _) _)).setCell (p := ⟨w.heap.size, 1, none⟩) (Nat.le_refl _) (Nat.lt_succ_self _) _)).setCell (p := ⟨w.heap.size, 2, none⟩) (Nat.le_refl _) (Nat.lt_succ_self _) _)).setCell (p := ⟨w.heap.size, 3, none⟩) (Nat.le_refl _) (Nat.lt_succ_self _) _)
  have hbl : Below w.heap.size w (((((w2).setCell ⟨w.heap.size, 0, none⟩ (.int .i64 x.row)).setCell ⟨w.heap.size, 1, none⟩ (.int .i64 x.col)).setCell ⟨w.heap.size, 2, none⟩ (.int .i64 x.code)).setCell ⟨w.heap.size, 3, none⟩ (.int .i64 x.since)) := (hB0 _ hf2').trans (hS.below (Nat.le_refl _) (by omega))
  have ho4 := ((ho2.fr hS (.inr (by omega))).wide (lo' := w.heap.size) (hi' := w2.heap.size) (by omega) (Nat.le_refl _) hS.size).wide (Nat.le_refl _) hS.size (Nat.le_refl _)
  generalize ((((w2).setCell ⟨w.heap.size, 0, none⟩ (.int .i64 x.row)).setCell ⟨w.heap.size, 1, none⟩ (.int .i64 x.col)).setCell ⟨w.heap.size, 2, none⟩ (.int .i64 x.code)).setCell ⟨w.heap.size, 3, none⟩ (.int .i64 x.since) = WR at *
  have r0 := hbr.2.2.2 0 _ rfl
  have r1 := hbr.2.2.2 1 _ rfl
  have r2 := hbr.2.2.2 2 _ rfl
  have r3 := hbr.2.2.2 3 _ rfl
  refine bodyPost_ret (v := .tuple #[.slice B xs.length c', .agg #[.int .i64 x.row, .int .i64 x.col, .int .i64 x.code, .int .i64 x.since]]) (by simp [results, Tryd.results18, go_sem, r0, r1, r2, r3]) rfl ?_
  exact ⟨B, c', xs, x, rfl, hl, HK.out, hcap, hX, ho4, hbl⟩
set_option maxRecDepth 100000 in
set_option maxHeartbeats 1600000 in
theorem dFlawText_c (bs : List Int) (A : Option Addr) (c : Nat) (w : World) (hr : Rd encY 1 w.heap.size w A bs) (hn : bs.length ≤ 65536) (hc : bs.length ≤ c) (hb : ∀ b ∈ bs, ByteI b) :
    Calls Tryd.prog 22 #[.slice A bs.length c] w fun e w' => ∃ x : Flaw, e = .returned (.agg #[.int .i64 x.row, .int .i64 x.col, .int .i64 x.code, .int .i64 x.since]) ∧ OkF x ∧ Below w.heap.size w w' := by
  have HB := Lib.hid hb
  clear hb
  go_enter Tryd.func22, Tryd.ntmps22
  go_wp2_with fail
  have h0 := cur_new (w.alloc (.cells #[.int .i64 0, .int .i64 0, .int .i64 0, .int .i64 0] 43)) bs A c 63 (hr.go ((Below.refl _ _).alloc (Nat.le_refl _) _)) hn hc HB.out
  have hb0 := (boxV_at (w.heap.size + 1) w [.int .i64 0, .int .i64 0, .int .i64 0, .int .i64 0] 43 (by omega)).alloc (.cells #[.slice A bs.length c, .int .i64 0, .int .u64 0] 63)
  have hz : (w.alloc (.cells #[.int .i64 0, .int .i64 0, .int .i64 0, .int .i64 0] 43)).heap.size = w.heap.size + 1 := by simp
  have hy : ((w.alloc (.cells #[.int .i64 0, .int .i64 0, .int .i64 0, .int .i64 0] 43)).alloc (.cells #[.slice A bs.length c, .int .i64 0, .int .u64 0] 63)).heap.size = w.heap.size + 2 := by simp
  have hf0 := Fr.refl (w.heap.size + 1) (w.heap.size + 2) ((w.alloc (.cells #[.int .i64 0, .int .i64 0, .int .i64 0, .int .i64 0] 43)).alloc (.cells #[.slice A bs.length c, .int .i64 0, .int .u64 0] 63))
  have hB0 := fun (w' : World) (h : Fr (w.heap.size + 1) (w.heap.size + 2) ((w.alloc (.cells #[.int .i64 0, .int .i64 0, .int .i64 0, .int .i64 0] 43)).alloc (.cells #[.slice A bs.length c, .int .i64 0, .int .u64 0] 63)) w') => below_new2 h
  rw [hz] at h0
  simp only [List.toArray] at hb0
  generalize ((w.alloc (.cells #[.int .i64 0, .int .i64 0, .int .i64 0, .int .i64 0] 43)).alloc (.cells #[.slice A bs.length c, .int .i64 0, .int .u64 0] 63)) = W at *
  refine (flaw_c _ 0 _ h0 (by decide)).mono ?_
  rintro e w2 ⟨x, rfl, hX, hf2, hc2⟩
  have hb2 := hb0.fr hf2
  have s2 := hf2.size
  have hf2' := hf0.trans hf2
  clear hb0 hf0
  have hq2 := hb2.2.2.1
  have y0 := hb2.2.2.2 0 _ rfl
  have y1 := hb2.2.2.2 1 _ rfl
  have y2 := hb2.2.2.2 2 _ rfl
  have y3 := hb2.2.2.2 3 _ rfl
  go_wp2_with fail
  have hbr := ((((hb2).set 0 (by decide) (.int .i64 x.row)).set 1 (by simp) (.int .i64 x.col)).set 2 (by simp) (.int .i64 x.code)).set 3 (by simp) (.int .i64 x.since)
  simp only [List.set] at hbr
  have hS : Fr w.heap.size (w.heap.size + 1) w2 (((((w2).setCell ⟨w.heap.size, 0, none⟩ (.int .i64 x.row)).setCell ⟨w.heap.size, 1, none⟩ (.int .i64 x.col)).setCell ⟨w.heap.size, 2, none⟩ (.int .i64 x.code)).setCell ⟨w.heap.size, 3, none⟩ (.int .i64 x.since)) := (((((((((Fr.refl _ _ _)).setCell (p := ⟨w.heap.size, 0, none⟩) (Nat.le_refl _) (Nat.lt_succ_self _) _)).setCell (p := ⟨w.heap.size, 1, none⟩) (Nat.le_refl _) (Nat.lt_succ_self _) _)).setCell (p := ⟨w.heap.size, 2, none⟩) (Nat.le_refl _) (Nat.lt_succ_self _) _)).setCell (p := ⟨w.heap.size, 3, none⟩) (Nat.le_refl _) (Nat.lt_succ_self _) _)
  have hbl : Below w.heap.size w (((((w2).setCell ⟨w.heap.size, 0, none⟩ (.int .i64 x.row)).setCell ⟨w.heap.size, 1, none⟩ (.int .i64 x.col)).setCell ⟨w.heap.size, 2, none⟩ (.int .i64 x.code)).setCell ⟨w.heap.size, 3, none⟩ (.int .i64 x.since)) := (hB0 _ hf2').trans (hS.below (Nat.le_refl _) (by omega))
  generalize ((((w2).setCell ⟨w.heap.size, 0, none⟩ (.int .i64 x.row)).setCell ⟨w.heap.size, 1, none⟩ (.int .i64 x.col)).setCell ⟨w.heap.size, 2, none⟩ (.int .i64 x.code)).setCell ⟨w.heap.size, 3, none⟩ (.int .i64 x.since) = WR at *
  have r0 := hbr.2.2.2 0 _ rfl
  have r1 := hbr.2.2.2 1 _ rfl
  have r2 := hbr.2.2.2 2 _ rfl
  have r3 := hbr.2.2.2 3 _ rfl
  refine bodyPost_ret (v := .agg #[.int .i64 x.row, .int .i64 x.col, .int .i64 x.code, .int .i64 x.since]) (by simp [results, Tryd.results22, go_sem, r0, r1, r2, r3]) rfl ?_
  exact ⟨x, rfl, hX, hbl⟩
end Go.Proofs.YtgjehnjpbekoeaaDoor
