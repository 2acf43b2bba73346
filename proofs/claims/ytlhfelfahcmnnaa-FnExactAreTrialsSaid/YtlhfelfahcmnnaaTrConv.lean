/- Contracts of the functions that copy, compare and count trials for the laws. No condition but the size that the laws ask. -/
import Derived.Test.YtlhfelfahcmnnaaTrOpen
import Derived.Test.YtlhfelfahcmnnaaTr
import Derived.Test.YtlhfelfahcmnnaaFill
namespace Go.Proofs.Ytlhfelfahcmnnaa
set_option linter.unusedVariables false
set_option linter.unusedSimpArgs false
open Go.RowKit
theorem szTrialS_c (A : Option Addr) (n c : Nat) (l : Int) (w : World) (hn : n ≤ 9223372036854775807) (h0 : 0 ≤ l) (h1 : l ≤ 1048576) :
    Calls Try.prog 21 #[.slice A n c, .int .i64 l] w (Pure (.int .i64 (if l < n then -1 else l - n)) w) := by
  by_cases h : l < n
  all_goals
    go_enter Try.func21, Try.ntmps21
    go_wp2
    go_ret
    exact ⟨ret_int (by first | rfl | omega | (split <;> omega)), rfl⟩
theorem infoT : (Try.prog.info? 26).map (fun i => (i.zero, i.size, i.bytes)) = some (some (.agg #[.int .i64 0, .int .i64 0, .int .i64 0]), 3, 24) := by kernel_rfl
theorem encT_len (t : Trial) : (encT t).length = 3 := rfl
theorem Rd.trial {B : Nat} {w : World} {A : Option Addr} {xs : List Trial} (h : Rd encT 3 B w A xs) {i : Nat} (hi : i < xs.length) :
    ∃ b off, A = some ⟨b, off, none⟩ ∧ b < B ∧ w.cell? ⟨b, off + i * 3, none⟩ = some (.int .i64 xs[i].real) ∧ w.cell? ⟨b, off + i * 3 + 1, none⟩ = some (.int .i64 xs[i].fake) ∧ w.cell? ⟨b, off + i * 3 + 2, none⟩ = some (.int .i64 xs[i].price) := by
  obtain ⟨b, off, hA, hb, hc⟩ := h.at_ hi
  exact ⟨b, off, hA, hb, by simpa using hc 0 _ rfl, hc 1 _ rfl, hc 2 _ rfl⟩
set_option maxHeartbeats 400000 in
theorem toTrialS_c (xs : List Trial) (A : Option Addr) (c : Nat) (w : World) (hr : Rd encT 3 w.heap.size w A xs) (hn : xs.length ≤ 1048576) :
    Calls Try.prog 23 #[.slice A xs.length c] w fun e w' => ∃ A', e = .returned (.slice A' xs.length xs.length) ∧ Below w.heap.size w w' ∧ Own encT 3 w.heap.size w'.heap.size w' A' xs := by
  obtain ⟨i0, hi, hz0, hz1, hz2⟩ := info_parts infoT
  have hmk := run_makeFull (P := Try.prog) 40 26 i0 _ Try.underlying40 hi hz0 xs.length (by rw [hz2]; omega) (by omega)
  rw [hz1] at hmk
  generalize hcs : madeCells (Value.agg #[.int .i64 0, .int .i64 0, .int .i64 0]).cells (xs.length * 3) = cs at hmk
  have hsz : cs.size = xs.length * 3 := by rw [← hcs, size_madeCells]
  clear hcs hi hz0 hz1 hz2
  have hF := Fill.new (enc := encT) (k := 3) (n := xs.length) w cs 26 hsz
  clear hsz
  go_enter Try.func23, Try.ntmps23
  go_wp2_with fail
  go_loopw [4] (fun i wr => ∃ k : Nat, k ≤ xs.length ∧ i = .int .i64 k ∧ Fill encT 3 w.heap.size xs.length (xs.take k) wr ∧ Below w.heap.size w wr) (fun i _ => xs.length - (intOf i).toNat)
  case atStart => exact ⟨0, Nat.zero_le _, rfl, hF, by go_grown⟩
  case round =>
    obtain ⟨k, hk, rfl, hf, hb⟩ := hrel
    clear hF hmk
    by_cases hlt : k < xs.length
    · obtain ⟨b, off, rfl, hbs, d0, d1, d2⟩ := (hr.below hb).trial hlt
      go_wp2_with fail
      refine (toTrial_c _ _ _ _).mono ?_
      rintro e w1 ⟨rfl, hb1⟩
      have hf1 := hf.below hb1
      have hfr := hf1.free
      obtain ⟨v0, e0⟩ := hf1.there (k * 3) (by omega)
      obtain ⟨v1, e1⟩ := hf1.there (k * 3 + 1) (by omega)
      obtain ⟨v2, e2⟩ := hf1.there (k * 3 + 2) (by omega)
      have hst := hf1.step hlt (Nat.le_refl _) encT_len
      have hbl := hb.trans (hb1.mono hb.size)
      go_wp2_with fail
      go_roundw
      case rel => exact ⟨k + 1, by omega, by go_num, hst, below_setCells (Nat.le_refl _) (encT xs[k]) (k * 3) _ hbl⟩
      case measure => simp [intOf]; omega
    · have hke : k = xs.length := by omega
      subst hke
      rw [List.take_length] at hf
      go_wp2_with fail
      go_returns
      exact ⟨_, rfl, hb, hf.own (Nat.le_refl _) hf.lt (Nat.le_refl _)⟩
theorem eqTrial_c (t : Trial) (w : World) : Calls Try.prog 57 #[.agg #[.int .i64 t.real, .int .i64 t.fake, .int .i64 t.price], .agg #[.int .i64 t.real, .int .i64 t.fake, .int .i64 t.price]] w (Ret (.bool true) w) := by
  go_enter Try.func57, Try.ntmps57
  go_wp2
  go_returns
  exact ⟨rfl, by go_grown⟩
set_option maxRecDepth 100000 in
set_option maxHeartbeats 400000 in
theorem eqTrialS_c (xs : List Trial) (A A' : Option Addr) (c c' : Nat) (w : World) (hr : Rd encT 3 w.heap.size w A xs) (hr' : Rd encT 3 w.heap.size w A' xs) (hn : xs.length ≤ 1048576) :
    Calls Try.prog 25 #[.slice A xs.length c, .slice A' xs.length c'] w (Ret (.bool true) w) := by
  go_enter Try.func25, Try.ntmps25
  go_wp2_with fail
  go_loopw [5] (fun i wr => ∃ k : Nat, k ≤ xs.length ∧ i = .int .i64 k ∧ Below w.heap.size w wr) (fun i _ => xs.length - (intOf i).toNat)
  case atStart => exact ⟨0, Nat.zero_le _, rfl, Below.refl _ _⟩
  case round =>
    obtain ⟨k, hk, rfl, hb⟩ := hrel
    by_cases hlt : k < xs.length
    · obtain ⟨b, off, rfl, hbs, d0, d1, d2⟩ := (hr.below hb).trial hlt
      obtain ⟨b', off', rfl, hbs', d0', d1', d2'⟩ := (hr'.below hb).trial hlt
      go_wp2_with fail
      go_still_tail 8, (by kernel_rfl)
      change wpList _ _ _ _ _ wr.drew
      go_wp2_with fail
      refine (eqTrial_c xs[k] _).mono ?_
      rintro e w1 ⟨rfl, hb1⟩
      have hbl := hb.drew.trans (hb1.mono hb.drew.size)
      go_wp2_with fail
      go_roundw
      case rel => exact ⟨k + 1, by omega, by go_num, hbl⟩
      case measure => simp [intOf]; omega
    · go_wp2_with fail
      go_returns
      exact ⟨rfl, hb⟩
end Go.Proofs.Ytlhfelfahcmnnaa
