/- Contracts of the functions by which the laws copy, compare, count and mark records of the type Flaw. No condition but the size that the laws ask. -/
import Derived.Test.YtnedkgiahkjnnaaRecFlaw
import Derived.Test.YtnedkgiahkjnnaaMark
namespace Go.Proofs.Ytnedkgiahkjnnaa
set_option linter.unusedVariables false
set_option linter.unusedSimpArgs false
open Go.RowKit
theorem infoFlaw : (Try.prog.info? 41).map (fun i => (i.zero, i.size, i.bytes)) = some (some (.agg #[.int .i64 0, .int .i64 0, .int .i64 0, .int .i64 0]), 4, 32) := by kernel_rfl
theorem toFlaw_c (t : Flaw) (w : World) : Calls Try.prog 17 #[.agg #[.int .i64 t.row, .int .i64 t.col, .int .i64 t.code, .int .i64 t.since]] w (Ret (.agg #[.int .i64 t.row, .int .i64 t.col, .int .i64 t.code, .int .i64 t.since]) w) := by
  go_enter Try.func17, Try.ntmps17
  go_wp2_with fail
  go_returns
  exact ⟨rfl, by go_grown⟩
set_option maxHeartbeats 400000 in
theorem toFlawS_c (xs : List Flaw) (A : Option Addr) (c : Nat) (w : World) (hr : Rd encFlaw 4 w.heap.size w A xs) (hn : xs.length ≤ 1048576) :
    Calls Try.prog 9 #[.slice A xs.length c] w fun e w' => ∃ A', e = .returned (.slice A' xs.length xs.length) ∧ Below w.heap.size w w' ∧ Own encFlaw 4 w.heap.size w'.heap.size w' A' xs := by
  obtain ⟨i0, hi, hz0, hz1, hz2⟩ := info_parts infoFlaw
  have hmk := run_makeFull (P := Try.prog) 29 41 i0 _ Try.underlying29 hi hz0 xs.length (by rw [hz2]; omega) (by omega)
  rw [hz1] at hmk
  generalize hcs : madeCells (Value.cells (.agg #[.int .i64 0, .int .i64 0, .int .i64 0, .int .i64 0])) (xs.length * 4) = cs at hmk
  have hsz : cs.size = xs.length * 4 := by rw [← hcs, size_madeCells]
  clear hcs hi hz0 hz1 hz2
  have hF := Fill.new (enc := encFlaw) (k := 4) (n := xs.length) w cs 41 hsz
  clear hsz
  go_enter Try.func9, Try.ntmps9
  go_wp2_with fail
  go_loopw [4] (fun i wr => ∃ k : Nat, k ≤ xs.length ∧ i = .int .i64 k ∧ Fill encFlaw 4 w.heap.size xs.length (xs.take k) wr ∧ Below w.heap.size w wr) (fun i _ => xs.length - (intOf i).toNat)
  case atStart => exact ⟨0, Nat.zero_le _, rfl, hF, by go_grown⟩
  case round =>
    obtain ⟨k, hk, rfl, hf, hb⟩ := hrel
    clear hF hmk
    by_cases hlt : k < xs.length
    · obtain ⟨b, off, rfl, hbs, d0, d1, d2, d3⟩ := (hr.below hb).atFlaw hlt
      go_wp2_with fail
      refine (toFlaw_c xs[k] _).mono ?_
      rintro e w1 ⟨rfl, hb1⟩
      have hf1 := hf.below hb1
      have hfr := hf1.free
      obtain ⟨v0, e0⟩ := hf1.there (k * 4) (by omega)
      obtain ⟨v1, e1⟩ := hf1.there (k * 4 + 1) (by omega)
      obtain ⟨v2, e2⟩ := hf1.there (k * 4 + 2) (by omega)
      obtain ⟨v3, e3⟩ := hf1.there (k * 4 + 3) (by omega)
      have hst := hf1.step hlt (Nat.le_refl _) encFlaw_len
      have hbl := hb.trans (hb1.mono hb.size)
      go_wp2_with fail
      go_roundw
      case rel => exact ⟨k + 1, by omega, by go_num, hst, below_setCells (Nat.le_refl _) (encFlaw xs[k]) (k * 4) _ hbl⟩
      case measure => simp [intOf]; omega
    · have hke : k = xs.length := by omega
      subst hke
      rw [List.take_length] at hf
      go_wp2_with fail
      go_returns
      exact ⟨_, rfl, hb, hf.own (Nat.le_refl _) hf.lt (Nat.le_refl _)⟩
theorem eqFlaw_c (t : Flaw) (w : World) : Calls Try.prog 36 #[.agg #[.int .i64 t.row, .int .i64 t.col, .int .i64 t.code, .int .i64 t.since], .agg #[.int .i64 t.row, .int .i64 t.col, .int .i64 t.code, .int .i64 t.since]] w (Ret (.bool true) w) := by
  go_enter Try.func36, Try.ntmps36
  go_wp2
  go_returns
  exact ⟨rfl, by go_grown⟩
set_option maxRecDepth 100000 in
set_option maxHeartbeats 400000 in
theorem eqFlawS_c (xs : List Flaw) (A A' : Option Addr) (c c' : Nat) (w : World) (hr : Rd encFlaw 4 w.heap.size w A xs) (hr' : Rd encFlaw 4 w.heap.size w A' xs) (hn : xs.length ≤ 2097152) :
    Calls Try.prog 13 #[.slice A xs.length c, .slice A' xs.length c'] w (Ret (.bool true) w) := by
  go_enter Try.func13, Try.ntmps13
  go_wp2_with fail
  go_loopw [5] (fun i wr => ∃ k : Nat, k ≤ xs.length ∧ i = .int .i64 k ∧ Below w.heap.size w wr) (fun i _ => xs.length - (intOf i).toNat)
  case atStart => exact ⟨0, Nat.zero_le _, rfl, Below.refl _ _⟩
  case round =>
    obtain ⟨k, hk, rfl, hb⟩ := hrel
    by_cases hlt : k < xs.length
    · obtain ⟨b, off, rfl, hbs, d0, d1, d2, d3⟩ := (hr.below hb).atFlaw hlt
      obtain ⟨b', off', rfl, hbs', g0, g1, g2, g3⟩ := (hr'.below hb).atFlaw hlt
      go_wp2_with fail
      go_still_tail 8, (by kernel_rfl)
      change wpList _ _ _ _ _ wr.drew
      go_wp2_with fail
      refine (eqFlaw_c xs[k] _).mono ?_
      rintro e w1 ⟨rfl, hb1⟩
      have hbl := hb.drew.trans (hb1.mono hb.drew.size)
      go_wp2_with fail
      go_roundw
      case rel => exact ⟨k + 1, by omega, by go_num, hbl⟩
      case measure => simp [intOf]; omega
    · go_wp2_with fail
      go_returns
      exact ⟨rfl, hb⟩
theorem szFlawS_c (xs : List Flaw) (A : Option Addr) (c : Nat) (l : Int) (w : World) (hm : xs.length ≤ 9223372036854775807) (h0 : 0 ≤ l) (h1 : l ≤ 1048576) :
    Calls Try.prog 6 #[.slice A xs.length c, .int .i64 l] w fun e w' => ∃ r : Int, e = .returned (.int .i64 r) ∧ Below w.heap.size w w' ∧ (r = -1 ∨ (0 ≤ r ∧ r ≤ 1048576 ∧ xs.length ≤ 1048576)) := by
  by_cases h : l < xs.length
  · go_enter Try.func6, Try.ntmps6
    go_wp2
    go_ret
    exact ⟨_, rfl, Below.refl _ _, .inl rfl⟩
  · go_enter Try.func6, Try.ntmps6
    go_wp2
    go_ret
    exact ⟨_, rfl, Below.refl _ _, .inr ⟨by omega, by omega, by omega⟩⟩
end Go.Proofs.Ytnedkgiahkjnnaa
