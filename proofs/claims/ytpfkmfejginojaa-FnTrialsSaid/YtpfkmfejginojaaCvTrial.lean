/- Contracts of the functions by which the laws copy, compare, count and mark records of the type Trial. No condition but the size that the laws ask. -/
import Derived.Test.YtpfkmfejginojaaRecTrial
import Derived.Test.YtpfkmfejginojaaMark
namespace Go.Proofs.Ytpfkmfejginojaa
set_option linter.unusedVariables false
set_option linter.unusedSimpArgs false
open Go.RowKit
theorem toTrial_c (t : Trial) (w : World) : Calls Try.prog 30 #[.agg #[.int .i64 t.real, .int .i64 t.fake, .int .i64 t.price]] w (Ret (.agg #[.int .i64 t.real, .int .i64 t.fake, .int .i64 t.price]) w) := by
  go_enter Try.func30, Try.ntmps30
  go_wp2_with fail
  go_returns
  exact ⟨rfl, by go_grown⟩
theorem infoTrial : (Try.prog.info? 46).map (fun i => (i.zero, i.size, i.bytes)) = some (some (.agg #[.int .i64 0, .int .i64 0, .int .i64 0]), 3, 24) := by kernel_rfl
set_option maxHeartbeats 400000 in
theorem toTrialS_c (xs : List Trial) (A : Option Addr) (c : Nat) (w : World) (hr : Rd encTrial 3 w.heap.size w A xs) (hn : xs.length ≤ 1048576) :
    Calls Try.prog 8 #[.slice A xs.length c] w fun e w' => ∃ A', e = .returned (.slice A' xs.length xs.length) ∧ Below w.heap.size w w' ∧ Own encTrial 3 w.heap.size w'.heap.size w' A' xs := by
  obtain ⟨i0, hi, hz0, hz1, hz2⟩ := info_parts infoTrial
  have hmk := run_makeFull (P := Try.prog) 29 46 i0 _ Try.underlying29 hi hz0 xs.length (by rw [hz2]; omega) (by omega)
  rw [hz1] at hmk
  generalize hcs : madeCells (Value.cells (.agg #[.int .i64 0, .int .i64 0, .int .i64 0])) (xs.length * 3) = cs at hmk
  have hsz : cs.size = xs.length * 3 := by rw [← hcs, size_madeCells]
  clear hcs hi hz0 hz1 hz2
  have hF := Fill.new (enc := encTrial) (k := 3) (n := xs.length) w cs 46 hsz
  clear hsz
  go_enter Try.func8, Try.ntmps8
  go_wp2_with fail
  go_loopw [4] (fun i wr => ∃ k : Nat, k ≤ xs.length ∧ i = .int .i64 k ∧ Fill encTrial 3 w.heap.size xs.length (xs.take k) wr ∧ Below w.heap.size w wr) (fun i _ => xs.length - (intOf i).toNat)
  case atStart => exact ⟨0, Nat.zero_le _, rfl, hF, by go_grown⟩
  case round =>
    obtain ⟨k, hk, rfl, hf, hb⟩ := hrel
    clear hF hmk
    by_cases hlt : k < xs.length
    · obtain ⟨b, off, rfl, hbs, d0, d1, d2⟩ := (hr.below hb).atTrial hlt
      go_wp2_with fail
      refine (toTrial_c xs[k] _).mono ?_
      rintro e w1 ⟨rfl, hb1⟩
      have hf1 := hf.below hb1
      have hfr := hf1.free
      obtain ⟨v0, e0⟩ := hf1.there (k * 3) (by omega)
      obtain ⟨v1, e1⟩ := hf1.there (k * 3 + 1) (by omega)
      obtain ⟨v2, e2⟩ := hf1.there (k * 3 + 2) (by omega)
      have hst := hf1.step hlt (Nat.le_refl _) encTrial_len
      have hbl := hb.trans (hb1.mono hb.size)
      go_wp2_with fail
      go_roundw
      case rel => exact ⟨k + 1, by omega, by go_num, hst, below_setCells (Nat.le_refl _) (encTrial xs[k]) (k * 3) _ hbl⟩
      case measure => simp [intOf]; omega
    · have hke : k = xs.length := by omega
      subst hke
      rw [List.take_length] at hf
      go_wp2_with fail
      go_returns
      exact ⟨_, rfl, hb, hf.own (Nat.le_refl _) hf.lt (Nat.le_refl _)⟩
theorem eqTrial_c (t : Trial) (w : World) : Calls Try.prog 39 #[.agg #[.int .i64 t.real, .int .i64 t.fake, .int .i64 t.price], .agg #[.int .i64 t.real, .int .i64 t.fake, .int .i64 t.price]] w (Ret (.bool true) w) := by
  go_enter Try.func39, Try.ntmps39
  go_wp2
  go_returns
  exact ⟨rfl, by go_grown⟩
set_option maxRecDepth 100000 in
set_option maxHeartbeats 400000 in
theorem eqTrialS_c (xs : List Trial) (A A' : Option Addr) (c c' : Nat) (w : World) (hr : Rd encTrial 3 w.heap.size w A xs) (hr' : Rd encTrial 3 w.heap.size w A' xs) (hn : xs.length ≤ 2097152) :
    Calls Try.prog 12 #[.slice A xs.length c, .slice A' xs.length c'] w (Ret (.bool true) w) := by
  go_enter Try.func12, Try.ntmps12
  go_wp2_with fail
  go_loopw [5] (fun i wr => ∃ k : Nat, k ≤ xs.length ∧ i = .int .i64 k ∧ Below w.heap.size w wr) (fun i _ => xs.length - (intOf i).toNat)
  case atStart => exact ⟨0, Nat.zero_le _, rfl, Below.refl _ _⟩
  case round =>
    obtain ⟨k, hk, rfl, hb⟩ := hrel
    by_cases hlt : k < xs.length
    · obtain ⟨b, off, rfl, hbs, d0, d1, d2⟩ := (hr.below hb).atTrial hlt
      obtain ⟨b', off', rfl, hbs', g0, g1, g2⟩ := (hr'.below hb).atTrial hlt
      go_wp2_with fail
      go_still_tail 8, (by kernel_rfl)
      change wpList _ _ _ _ _ wr.drew
      go_wp2_with fail
      refine (eqTrial_c xs[k] _).mono ?_
      rintro e w1 ⟨rfl, hb1⟩
      have hbl := hb.drew.trans (hb1.mono hb.drew.size)
      go_wp2_with fail
      go_roundw
      case rel => exact ⟨k + 1, by omega, by go_num, hbl⟩
      case measure => simp [intOf]; omega
    · go_wp2_with fail
      go_returns
      exact ⟨rfl, hb⟩
theorem szTrialS_c (xs : List Trial) (A : Option Addr) (c : Nat) (l : Int) (w : World) (hm : xs.length ≤ 9223372036854775807) (h0 : 0 ≤ l) (h1 : l ≤ 1048576) :
    Calls Try.prog 6 #[.slice A xs.length c, .int .i64 l] w fun e w' => ∃ r : Int, e = .returned (.int .i64 r) ∧ Below w.heap.size w w' ∧ (r = -1 ∨ (0 ≤ r ∧ r ≤ 1048576 ∧ xs.length ≤ 1048576)) := by
  by_cases h : l < xs.length
  · go_enter Try.func6, Try.ntmps6
    go_wp2
    go_ret
    exact ⟨_, rfl, Below.refl _ _, .inl rfl⟩
  · go_enter Try.func6, Try.ntmps6
    go_wp2
    go_ret
    exact ⟨_, rfl, Below.refl _ _, .inr ⟨by omega, by omega, by omega⟩⟩
end Go.Proofs.Ytpfkmfejginojaa
