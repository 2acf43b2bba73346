/- Contracts of the functions by which the laws copy and compare slices of ints, bools and strings. No condition but the size. -/
import Derived.Test.YtlienlflapeghaaMark
namespace Go.Proofs.Ytlienlflapeghaa
set_option linter.unusedVariables false
set_option linter.unusedSimpArgs false
open Go.RowKit
def encB (b : Bool) : List Value := [.bool b]
theorem encB_len (b : Bool) : (encB b).length = 1 := rfl
def encS (s : ByteArray) : List Value := [.string s]
theorem encS_len (s : ByteArray) : (encS s).length = 1 := rfl
theorem Rd.bool {B : Nat} {w : World} {A : Option Addr} {xs : List Bool} (h : Rd encB 1 B w A xs) {i : Nat} (hi : i < xs.length) : ∃ b off, A = some ⟨b, off, none⟩ ∧ b < B ∧ w.cell? ⟨b, off + i, none⟩ = some (.bool xs[i]) := by
  obtain ⟨b, off, hA, hb, hc⟩ := h.at_ hi
  exact ⟨b, off, hA, hb, by simpa using hc 0 _ rfl⟩
theorem Rd.str {B : Nat} {w : World} {A : Option Addr} {xs : List ByteArray} (h : Rd encS 1 B w A xs) {i : Nat} (hi : i < xs.length) : ∃ b off, A = some ⟨b, off, none⟩ ∧ b < B ∧ w.cell? ⟨b, off + i, none⟩ = some (.string xs[i]) := by
  obtain ⟨b, off, hA, hb, hc⟩ := h.at_ hi
  exact ⟨b, off, hA, hb, by simpa using hc 0 _ rfl⟩
set_option maxRecDepth 100000 in
set_option maxHeartbeats 400000 in
theorem eqStringS_c (xs : List ByteArray) (A A' : Option Addr) (c c' : Nat) (w : World) (hr : Rd encS 1 w.heap.size w A xs) (hr' : Rd encS 1 w.heap.size w A' xs) (hn : xs.length ≤ 2097152) :
    Calls Try.prog 8 #[.slice A xs.length c, .slice A' xs.length c'] w (Ret (.bool true) w) := by
  go_enter Try.func8, Try.ntmps8
  go_wp2_with fail
  go_loopw [5] (fun i wr => ∃ k : Nat, k ≤ xs.length ∧ i = .int .i64 k ∧ Below w.heap.size w wr) (fun i _ => xs.length - (intOf i).toNat)
  case atStart => exact ⟨0, Nat.zero_le _, rfl, Below.refl _ _⟩
  case round =>
    obtain ⟨k, hk, rfl, hb⟩ := hrel
    by_cases hlt : k < xs.length
    · obtain ⟨b, off, rfl, hbs, d0⟩ := (hr.below hb).str hlt
      obtain ⟨b', off', rfl, hbs', g0⟩ := (hr'.below hb).str hlt
      go_wp2_with fail
      go_quiet (fail)
      go_wp2_with fail
      go_roundw
      case rel => exact ⟨k + 1, by omega, by go_num, below_drewN hb _⟩
      case measure => simp [intOf]; omega
    · go_wp2_with fail
      go_returns
      exact ⟨rfl, hb⟩
end Go.Proofs.Ytlienlflapeghaa
