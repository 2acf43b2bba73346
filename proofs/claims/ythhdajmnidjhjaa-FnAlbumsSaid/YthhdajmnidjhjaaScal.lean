/- Contracts of the functions by which the laws copy and compare slices of ints, bools and strings. No condition but the size. -/
import Derived.Test.YthhdajmnidjhjaaMark
namespace Go.Proofs.Ythhdajmnidjhjaa
set_option linter.unusedVariables false
set_option linter.unusedSimpArgs false
open Go.RowKit
def encB (b : Bool) : List Value := [.bool b]
theorem encB_len (b : Bool) : (encB b).length = 1 := rfl
def encS (s : ByteArray) : List Value := [.string s]
theorem encS_len (s : ByteArray) : (encS s).length = 1 := rfl
theorem Rd.bool {B : Nat} {w : World} {A : Option Addr} {xs : List Bool} (h : Rd encB 1 B w A xs) {i : Nat} (hi : i < xs.length) : ∃ b off, A = some ⟨b, off, none⟩ ∧ b < B ∧ w.cell? ⟨b, off + i, none⟩ = some (.bool xs[i]) := by
  obtain ⟨b, off, hA, hb, hc⟩ := h.at_ hi
  exact ⟨b, off, hA, hb, by simpa using hc 0 _ rfl⟩
theorem Rd.str {B : Nat} {w : World} {A : Option Addr} {xs : List ByteArray} (h : Rd encS 1 B w A xs) {i : Nat} (hi : i < xs.length) : ∃ b off, A = some ⟨b, off, none⟩ ∧ b < B ∧ w.cell? ⟨b, off + i, none⟩ = some (.string xs[i]) := by
  obtain ⟨b, off, hA, hb, hc⟩ := h.at_ hi
  exact ⟨b, off, hA, hb, by simpa using hc 0 _ rfl⟩
theorem infoSInt : (Try.prog.info? 3).map (fun i => (i.zero, i.size, i.bytes)) = some (some (.int .i64 0), 1, 8) := by kernel_rfl
set_option maxHeartbeats 400000 in
theorem toIntS_c (xs : List Int) (A : Option Addr) (c : Nat) (w : World) (hr : Rd encI 1 w.heap.size w A xs) (hn : xs.length ≤ 2097152) :
    Calls Try.prog 66 #[.slice A xs.length c] w fun e w' => ∃ A', e = .returned (.slice A' xs.length xs.length) ∧ Below w.heap.size w w' ∧ Own encI 1 w.heap.size w'.heap.size w' A' xs := by
  obtain ⟨i0, hi, hz0, hz1, hz2⟩ := info_parts infoSInt
  have hmk := run_makeFull (P := Try.prog) 39 3 i0 _ Try.underlying39 hi hz0 xs.length (by rw [hz2]; omega) (by omega)
  rw [hz1] at hmk
  generalize hcs : madeCells (Value.cells (.int .i64 0)) (xs.length * 1) = cs at hmk
  have hsz : cs.size = xs.length * 1 := by rw [← hcs, size_madeCells]
  clear hcs hi hz0 hz1 hz2
  have hF := Fill.new (enc := encI) (k := 1) (n := xs.length) w cs 3 hsz
  clear hsz
  go_enter Try.func66, Try.ntmps66
  go_wp2_with fail
  go_loopw [4] (fun i wr => ∃ k : Nat, k ≤ xs.length ∧ i = .int .i64 k ∧ Fill encI 1 w.heap.size xs.length (xs.take k) wr ∧ Below w.heap.size w wr) (fun i _ => xs.length - (intOf i).toNat)
  case atStart => exact ⟨0, Nat.zero_le _, rfl, hF, by go_grown⟩
  case round =>
    obtain ⟨k, hk, rfl, hf, hb⟩ := hrel
    clear hF hmk
    by_cases hlt : k < xs.length
    · obtain ⟨b, off, rfl, hbs, d0⟩ := (hr.below hb).int hlt
      have hfr := hf.free
      obtain ⟨v0, e0⟩ := hf.there k (by omega)
      have hst := hf.step hlt (Nat.le_refl _) encI_len
      simp only [Nat.mul_one] at hst
      go_wp2_with fail
      try go_region
      all_goals try go_wp2_with fail
      go_roundw
      case rel => exact ⟨k + 1, by omega, by go_num, hst, below_setCells (Nat.le_refl _) (encI xs[k]) k _ hb⟩
      case measure => simp [intOf]; omega
    · have hke : k = xs.length := by omega
      subst hke
      rw [List.take_length] at hf
      go_wp2_with fail
      go_returns
      exact ⟨_, rfl, hb, hf.own (Nat.le_refl _) hf.lt (Nat.le_refl _)⟩
set_option maxRecDepth 100000 in
set_option maxHeartbeats 400000 in
theorem eqIntS_c (xs : List Int) (A A' : Option Addr) (c c' : Nat) (w : World) (hr : Rd encI 1 w.heap.size w A xs) (hr' : Rd encI 1 w.heap.size w A' xs) (hn : xs.length ≤ 2097152) :
    Calls Try.prog 75 #[.slice A xs.length c, .slice A' xs.length c'] w (Ret (.bool true) w) := by
  go_enter Try.func75, Try.ntmps75
  go_wp2_with fail
  go_loopw [5] (fun i wr => ∃ k : Nat, k ≤ xs.length ∧ i = .int .i64 k ∧ Below w.heap.size w wr) (fun i _ => xs.length - (intOf i).toNat)
  case atStart => exact ⟨0, Nat.zero_le _, rfl, Below.refl _ _⟩
  case round =>
    obtain ⟨k, hk, rfl, hb⟩ := hrel
    by_cases hlt : k < xs.length
    · obtain ⟨b, off, rfl, hbs, d0⟩ := (hr.below hb).int hlt
      obtain ⟨b', off', rfl, hbs', g0⟩ := (hr'.below hb).int hlt
      go_wp2_with fail
      go_quiet (fail)
      go_wp2_with fail
      go_roundw
      case rel => exact ⟨k + 1, by omega, by go_num, below_drewN hb _⟩
      case measure => simp [intOf]; omega
    · go_wp2_with fail
      go_returns
      exact ⟨rfl, hb⟩
end Go.Proofs.Ythhdajmnidjhjaa
