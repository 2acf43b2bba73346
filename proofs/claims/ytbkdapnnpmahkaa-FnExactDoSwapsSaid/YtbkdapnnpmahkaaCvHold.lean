/- Contracts of the functions by which the laws copy, compare, count and mark records of the type Hold. No condition but the size that the laws ask. -/
import Derived.Test.YtbkdapnnpmahkaaRecHold
import Derived.Test.YtbkdapnnpmahkaaMark
namespace Go.Proofs.Ytbkdapnnpmahkaa
set_option linter.unusedVariables false
set_option linter.unusedSimpArgs false
open Go.RowKit
theorem toHold_c (t : Hold) (w : World) : Calls Try.prog 20 #[.agg #[.string t.owner, .int .i64 t.item, .int .i64 t.count]] w (Ret (.agg #[.string t.owner, .int .i64 t.item, .int .i64 t.count]) w) := by
  go_enter Try.func20, Try.ntmps20
  go_wp2_with fail
  go_returns
  exact ⟨rfl, by go_grown⟩
theorem infoHold : (Try.prog.info? 39).map (fun i => (i.zero, i.size, i.bytes)) = some (some (.agg #[.string ⟨#[]⟩, .int .i64 0, .int .i64 0]), 3, 32) := by kernel_rfl
set_option maxHeartbeats 400000 in
theorem toHoldS_c (xs : List Hold) (A : Option Addr) (c : Nat) (w : World) (hr : Rd encHold 3 w.heap.size w A xs) (hn : xs.length ≤ 1048576) :
    Calls Try.prog 7 #[.slice A xs.length c] w fun e w' => ∃ A', e = .returned (.slice A' xs.length xs.length) ∧ Below w.heap.size w w' ∧ Own encHold 3 w.heap.size w'.heap.size w' A' xs := by
  obtain ⟨i0, hi, hz0, hz1, hz2⟩ := info_parts infoHold
  have hmk := run_makeFull (P := Try.prog) 24 39 i0 _ Try.underlying24 hi hz0 xs.length (by rw [hz2]; omega) (by omega)
  rw [hz1] at hmk
  generalize hcs : madeCells (Value.cells (.agg #[.string ⟨#[]⟩, .int .i64 0, .int .i64 0])) (xs.length * 3) = cs at hmk
  have hsz : cs.size = xs.length * 3 := by rw [← hcs, size_madeCells]
  clear hcs hi hz0 hz1 hz2
  have hF := Fill.new (enc := encHold) (k := 3) (n := xs.length) w cs 39 hsz
  clear hsz
  go_enter Try.func7, Try.ntmps7
  go_wp2_with fail
  go_loopw [4] (fun i wr => ∃ k : Nat, k ≤ xs.length ∧ i = .int .i64 k ∧ Fill encHold 3 w.heap.size xs.length (xs.take k) wr ∧ Below w.heap.size w wr) (fun i _ => xs.length - (intOf i).toNat)
  case atStart => exact ⟨0, Nat.zero_le _, rfl, hF, by go_grown⟩
  case round =>
    obtain ⟨k, hk, rfl, hf, hb⟩ := hrel
    clear hF hmk
    by_cases hlt : k < xs.length
    · obtain ⟨b, off, rfl, hbs, d0, d1, d2⟩ := (hr.below hb).atHold hlt
      go_wp2_with fail
      refine (toHold_c xs[k] _).mono ?_
      rintro e w1 ⟨rfl, hb1⟩
      have hf1 := hf.below hb1
      have hfr := hf1.free
      obtain ⟨v0, e0⟩ := hf1.there (k * 3) (by omega)
      obtain ⟨v1, e1⟩ := hf1.there (k * 3 + 1) (by omega)
      obtain ⟨v2, e2⟩ := hf1.there (k * 3 + 2) (by omega)
      have hst := hf1.step hlt (Nat.le_refl _) encHold_len
      have hbl := hb.trans (hb1.mono hb.size)
      go_wp2_with fail
      go_roundw
      case rel => exact ⟨k + 1, by omega, by go_num, hst, below_setCells (Nat.le_refl _) (encHold xs[k]) (k * 3) _ hbl⟩
      case measure => simp [intOf]; omega
    · have hke : k = xs.length := by omega
      subst hke
      rw [List.take_length] at hf
      go_wp2_with fail
      go_returns
      exact ⟨_, rfl, hb, hf.own (Nat.le_refl _) hf.lt (Nat.le_refl _)⟩
theorem eqHold_c (t : Hold) (w : World) : Calls Try.prog 26 #[.agg #[.string t.owner, .int .i64 t.item, .int .i64 t.count], .agg #[.string t.owner, .int .i64 t.item, .int .i64 t.count]] w (Ret (.bool true) w) := by
  go_enter Try.func26, Try.ntmps26
  go_wp2
  go_returns
  exact ⟨rfl, by go_grown⟩
set_option maxRecDepth 100000 in
set_option maxHeartbeats 400000 in
theorem eqHoldS_c (xs : List Hold) (A A' : Option Addr) (c c' : Nat) (w : World) (hr : Rd encHold 3 w.heap.size w A xs) (hr' : Rd encHold 3 w.heap.size w A' xs) (hn : xs.length ≤ 2097152) :
    Calls Try.prog 9 #[.slice A xs.length c, .slice A' xs.length c'] w (Ret (.bool true) w) := by
  go_enter Try.func9, Try.ntmps9
  go_wp2_with fail
  go_loopw [5] (fun i wr => ∃ k : Nat, k ≤ xs.length ∧ i = .int .i64 k ∧ Below w.heap.size w wr) (fun i _ => xs.length - (intOf i).toNat)
  case atStart => exact ⟨0, Nat.zero_le _, rfl, Below.refl _ _⟩
  case round =>
    obtain ⟨k, hk, rfl, hb⟩ := hrel
    by_cases hlt : k < xs.length
    · obtain ⟨b, off, rfl, hbs, d0, d1, d2⟩ := (hr.below hb).atHold hlt
      obtain ⟨b', off', rfl, hbs', g0, g1, g2⟩ := (hr'.below hb).atHold hlt
      go_wp2_with fail
      go_still_tail 8, (by kernel_rfl)
      change wpList _ _ _ _ _ wr.drew
      go_wp2_with fail
      refine (eqHold_c xs[k] _).mono ?_
      rintro e w1 ⟨rfl, hb1⟩
      have hbl := hb.drew.trans (hb1.mono hb.drew.size)
      go_wp2_with fail
      go_roundw
      case rel => exact ⟨k + 1, by omega, by go_num, hbl⟩
      case measure => simp [intOf]; omega
    · go_wp2_with fail
      go_returns
      exact ⟨rfl, hb⟩
theorem szHold_c (t : Hold) (l : Int) (w : World) (hm : t.owner.size ≤ 9223372036854775807) (h0 : 0 ≤ l) (h1 : l ≤ 1048576) :
    Calls Try.prog 14 #[.agg #[.string t.owner, .int .i64 t.item, .int .i64 t.count], .int .i64 l] w fun e w' => ∃ r : Int, e = .returned (.int .i64 r) ∧ Below w.heap.size w w' ∧ (r = -1 ∨ (0 ≤ r ∧ r ≤ l ∧ t.owner.size ≤ 1048576)) := by
  by_cases h : l < t.owner.size
  · go_enter Try.func14, Try.ntmps14
    go_wp2
    go_returns
    exact ⟨_, rfl, by go_grown, .inl rfl⟩
  · go_enter Try.func14, Try.ntmps14
    go_wp2
    go_returns
    exact ⟨_, rfl, by go_grown, .inr ⟨by omega, by omega, by omega⟩⟩
set_option maxHeartbeats 400000 in
theorem szHoldS_c (xs : List Hold) (A : Option Addr) (c : Nat) (l : Int) (w : World) (hr : Rd encHold 3 w.heap.size w A xs) (hm : xs.length ≤ 9223372036854775807) (hw : ∀ x ∈ xs, x.owner.size ≤ 9223372036854775807) (h0 : 0 ≤ l) (h1 : l ≤ 1048576) :
    Calls Try.prog 5 #[.slice A xs.length c, .int .i64 l] w fun e w' => ∃ r : Int, e = .returned (.int .i64 r) ∧ Below w.heap.size w w' ∧ (r = -1 ∨ (0 ≤ r ∧ r ≤ 1048576 ∧ xs.length ≤ 1048576 ∧ ∀ x ∈ xs, x.owner.size ≤ 1048576)) := by
  by_cases h : l < xs.length
  · go_enter Try.func5, Try.ntmps5
    go_wp2_with fail
    go_returns
    exact ⟨_, rfl, Below.refl _ _, .inl rfl⟩
  · go_enter Try.func5, Try.ntmps5
    go_wp2_with fail
    go_loopw [1, 5] (fun u i wr => ∃ (k : Nat) (r : Int), k ≤ xs.length ∧ i = .int .i64 k ∧ u = .int .i64 r ∧ 0 ≤ r ∧ r ≤ 1048576 ∧ (∀ x ∈ xs.take k, x.owner.size ≤ 1048576) ∧ Below w.heap.size w wr) (fun _ i _ => xs.length - (intOf i).toNat)
    case atStart => exact ⟨0, _, Nat.zero_le _, rfl, rfl, by omega, by omega, by simp, Below.refl _ _⟩
    case round =>
      obtain ⟨k, r, hk, rfl, rfl, hr0, hr1, hs, hb⟩ := hrel
      have HS := Lib.hid hs
      have HW := Lib.hid hw
      clear hs hw
      by_cases hlt : k < xs.length
      · obtain ⟨b, off, rfl, hbs, d0, d1, d2⟩ := (hr.below hb).atHold hlt
        go_wp2_with fail
        refine (szHold_c xs[k] _ _ (HW.out _ (List.getElem_mem hlt)) hr0 hr1).mono ?_
        rintro e w1 ⟨r1, rfl, hb1, h1⟩
        have hbl := hb.trans (hb1.mono hb.size)
        rcases h1 with rfl | ⟨g0, g1, g2⟩
        · go_wp2_with fail
          go_returns
          exact ⟨_, rfl, hbl, .inl rfl⟩
        · have g3 : ¬ r1 < 0 := by omega
          go_wp2_with fail
          go_roundw
          case rel => exact ⟨k + 1, r1, by omega, by go_num, rfl, g0, by omega, by rw [take_succ_get xs k hlt]; intro x hx; rcases List.mem_append.1 hx with h | h; exact HS.out x h; simp at h; subst h; exact g2, hbl⟩
          case measure => simp [intOf]; omega
      · have hke : xs.length ≤ k := by omega
        go_wp2_with fail
        go_returns
        exact ⟨_, rfl, hb, .inr ⟨hr0, hr1, by omega, by have := HS.out; rwa [List.take_of_length_le hke] at this⟩⟩
end Go.Proofs.Ytbkdapnnpmahkaa
