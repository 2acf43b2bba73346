/- Contracts of the functions by which the laws copy, compare, count and mark records of the type Opinion. No condition but the size that the laws ask. -/
import Derived.Test.YtlienlflapeghaaRecOpinion
import Derived.Test.YtlienlflapeghaaMark
namespace Go.Proofs.Ytlienlflapeghaa
set_option linter.unusedVariables false
set_option linter.unusedSimpArgs false
open Go.RowKit
theorem toOpinion_c (t : Opinion) (w : World) : Calls Try.prog 16 #[.agg #[.int .i64 t.item, .string t.expert, .int .i64 t.day, .int .i64 t.says, .int .i64 t.over]] w (Ret (.agg #[.int .i64 t.item, .string t.expert, .int .i64 t.day, .int .i64 t.says, .int .i64 t.over]) w) := by
  go_enter Try.func16, Try.ntmps16
  go_wp2_with fail
  go_returns
  exact ⟨rfl, by go_grown⟩
theorem infoOpinion : (Try.prog.info? 38).map (fun i => (i.zero, i.size, i.bytes)) = some (some (.agg #[.int .i64 0, .string ⟨#[]⟩, .int .i64 0, .int .i64 0, .int .i64 0]), 5, 48) := by kernel_rfl
set_option maxHeartbeats 400000 in
theorem toOpinionS_c (xs : List Opinion) (A : Option Addr) (c : Nat) (w : World) (hr : Rd encOpinion 5 w.heap.size w A xs) (hn : xs.length ≤ 1048576) :
    Calls Try.prog 6 #[.slice A xs.length c] w fun e w' => ∃ A', e = .returned (.slice A' xs.length xs.length) ∧ Below w.heap.size w w' ∧ Own encOpinion 5 w.heap.size w'.heap.size w' A' xs := by
  obtain ⟨i0, hi, hz0, hz1, hz2⟩ := info_parts infoOpinion
  have hmk := run_makeFull (P := Try.prog) 27 38 i0 _ Try.underlying27 hi hz0 xs.length (by rw [hz2]; omega) (by omega)
  rw [hz1] at hmk
  generalize hcs : madeCells (Value.cells (.agg #[.int .i64 0, .string ⟨#[]⟩, .int .i64 0, .int .i64 0, .int .i64 0])) (xs.length * 5) = cs at hmk
  have hsz : cs.size = xs.length * 5 := by rw [← hcs, size_madeCells]
  clear hcs hi hz0 hz1 hz2
  have hF := Fill.new (enc := encOpinion) (k := 5) (n := xs.length) w cs 38 hsz
  clear hsz
  go_enter Try.func6, Try.ntmps6
  go_wp2_with fail
  go_loopw [4] (fun i wr => ∃ k : Nat, k ≤ xs.length ∧ i = .int .i64 k ∧ Fill encOpinion 5 w.heap.size xs.length (xs.take k) wr ∧ Below w.heap.size w wr) (fun i _ => xs.length - (intOf i).toNat)
  case atStart => exact ⟨0, Nat.zero_le _, rfl, hF, by go_grown⟩
  case round =>
    obtain ⟨k, hk, rfl, hf, hb⟩ := hrel
    clear hF hmk
    by_cases hlt : k < xs.length
    · obtain ⟨b, off, rfl, hbs, d0, d1, d2, d3, d4⟩ := (hr.below hb).atOpinion hlt
      go_wp2_with fail
      refine (toOpinion_c xs[k] _).mono ?_
      rintro e w1 ⟨rfl, hb1⟩
      have hf1 := hf.below hb1
      have hfr := hf1.free
      obtain ⟨v0, e0⟩ := hf1.there (k * 5) (by omega)
      obtain ⟨v1, e1⟩ := hf1.there (k * 5 + 1) (by omega)
      obtain ⟨v2, e2⟩ := hf1.there (k * 5 + 2) (by omega)
      obtain ⟨v3, e3⟩ := hf1.there (k * 5 + 3) (by omega)
      obtain ⟨v4, e4⟩ := hf1.there (k * 5 + 4) (by omega)
      have hst := hf1.step hlt (Nat.le_refl _) encOpinion_len
      have hbl := hb.trans (hb1.mono hb.size)
      go_wp2_with fail
      go_roundw
      case rel => exact ⟨k + 1, by omega, by go_num, hst, below_setCells (Nat.le_refl _) (encOpinion xs[k]) (k * 5) _ hbl⟩
      case measure => simp [intOf]; omega
    · have hke : k = xs.length := by omega
      subst hke
      rw [List.take_length] at hf
      go_wp2_with fail
      go_returns
      exact ⟨_, rfl, hb, hf.own (Nat.le_refl _) hf.lt (Nat.le_refl _)⟩
theorem eqOpinion_c (t : Opinion) (w : World) : Calls Try.prog 24 #[.agg #[.int .i64 t.item, .string t.expert, .int .i64 t.day, .int .i64 t.says, .int .i64 t.over], .agg #[.int .i64 t.item, .string t.expert, .int .i64 t.day, .int .i64 t.says, .int .i64 t.over]] w (Ret (.bool true) w) := by
  go_enter Try.func24, Try.ntmps24
  go_wp2
  go_returns
  exact ⟨rfl, by go_grown⟩
set_option maxRecDepth 100000 in
set_option maxHeartbeats 400000 in
theorem eqOpinionS_c (xs : List Opinion) (A A' : Option Addr) (c c' : Nat) (w : World) (hr : Rd encOpinion 5 w.heap.size w A xs) (hr' : Rd encOpinion 5 w.heap.size w A' xs) (hn : xs.length ≤ 2097152) :
    Calls Try.prog 9 #[.slice A xs.length c, .slice A' xs.length c'] w (Ret (.bool true) w) := by
  go_enter Try.func9, Try.ntmps9
  go_wp2_with fail
  go_loopw [5] (fun i wr => ∃ k : Nat, k ≤ xs.length ∧ i = .int .i64 k ∧ Below w.heap.size w wr) (fun i _ => xs.length - (intOf i).toNat)
  case atStart => exact ⟨0, Nat.zero_le _, rfl, Below.refl _ _⟩
  case round =>
    obtain ⟨k, hk, rfl, hb⟩ := hrel
    by_cases hlt : k < xs.length
    · obtain ⟨b, off, rfl, hbs, d0, d1, d2, d3, d4⟩ := (hr.below hb).atOpinion hlt
      obtain ⟨b', off', rfl, hbs', g0, g1, g2, g3, g4⟩ := (hr'.below hb).atOpinion hlt
      go_wp2_with fail
      go_still_tail 8, (by kernel_rfl)
      change wpList _ _ _ _ _ wr.drew
      go_wp2_with fail
      refine (eqOpinion_c xs[k] _).mono ?_
      rintro e w1 ⟨rfl, hb1⟩
      have hbl := hb.drew.trans (hb1.mono hb.drew.size)
      go_wp2_with fail
      go_roundw
      case rel => exact ⟨k + 1, by omega, by go_num, hbl⟩
      case measure => simp [intOf]; omega
    · go_wp2_with fail
      go_returns
      exact ⟨rfl, hb⟩
theorem szOpinion_c (t : Opinion) (l : Int) (w : World) (hm : t.expert.size ≤ 9223372036854775807) (h0 : 0 ≤ l) (h1 : l ≤ 1048576) :
    Calls Try.prog 13 #[.agg #[.int .i64 t.item, .string t.expert, .int .i64 t.day, .int .i64 t.says, .int .i64 t.over], .int .i64 l] w fun e w' => ∃ r : Int, e = .returned (.int .i64 r) ∧ Below w.heap.size w w' ∧ (r = -1 ∨ (0 ≤ r ∧ r ≤ l ∧ t.expert.size ≤ 1048576)) := by
  by_cases h : l < t.expert.size
  · go_enter Try.func13, Try.ntmps13
    go_wp2
    go_returns
    exact ⟨_, rfl, by go_grown, .inl rfl⟩
  · go_enter Try.func13, Try.ntmps13
    go_wp2
    go_returns
    exact ⟨_, rfl, by go_grown, .inr ⟨by omega, by omega, by omega⟩⟩
set_option maxHeartbeats 400000 in
theorem szOpinionS_c (xs : List Opinion) (A : Option Addr) (c : Nat) (l : Int) (w : World) (hr : Rd encOpinion 5 w.heap.size w A xs) (hm : xs.length ≤ 9223372036854775807) (hw : ∀ x ∈ xs, x.expert.size ≤ 9223372036854775807) (h0 : 0 ≤ l) (h1 : l ≤ 1048576) :
    Calls Try.prog 4 #[.slice A xs.length c, .int .i64 l] w fun e w' => ∃ r : Int, e = .returned (.int .i64 r) ∧ Below w.heap.size w w' ∧ (r = -1 ∨ (0 ≤ r ∧ r ≤ 1048576 ∧ xs.length ≤ 1048576 ∧ ∀ x ∈ xs, x.expert.size ≤ 1048576)) := by
  by_cases h : l < xs.length
  · go_enter Try.func4, Try.ntmps4
    go_wp2_with fail
    go_returns
    exact ⟨_, rfl, Below.refl _ _, .inl rfl⟩
  · go_enter Try.func4, Try.ntmps4
    go_wp2_with fail
    go_loopw [1, 5] (fun u i wr => ∃ (k : Nat) (r : Int), k ≤ xs.length ∧ i = .int .i64 k ∧ u = .int .i64 r ∧ 0 ≤ r ∧ r ≤ 1048576 ∧ (∀ x ∈ xs.take k, x.expert.size ≤ 1048576) ∧ Below w.heap.size w wr) (fun _ i _ => xs.length - (intOf i).toNat)
    case atStart => exact ⟨0, _, Nat.zero_le _, rfl, rfl, by omega, by omega, by simp, Below.refl _ _⟩
    case round =>
      obtain ⟨k, r, hk, rfl, rfl, hr0, hr1, hs, hb⟩ := hrel
      have HS := Lib.hid hs
      have HW := Lib.hid hw
      clear hs hw
      by_cases hlt : k < xs.length
      · obtain ⟨b, off, rfl, hbs, d0, d1, d2, d3, d4⟩ := (hr.below hb).atOpinion hlt
        go_wp2_with fail
        refine (szOpinion_c xs[k] _ _ (HW.out _ (List.getElem_mem hlt)) hr0 hr1).mono ?_
        rintro e w1 ⟨r1, rfl, hb1, h1⟩
        have hbl := hb.trans (hb1.mono hb.size)
        rcases h1 with rfl | ⟨g0, g1, g2⟩
        · go_wp2_with fail
          go_returns
          exact ⟨_, rfl, hbl, .inl rfl⟩
        · have g3 : ¬ r1 < 0 := by omega
          go_wp2_with fail
          go_roundw
          case rel => exact ⟨k + 1, r1, by omega, by go_num, rfl, g0, by omega, by rw [take_succ_get xs k hlt]; intro x hx; rcases List.mem_append.1 hx with h | h; exact HS.out x h; simp at h; subst h; exact g2, hbl⟩
          case measure => simp [intOf]; omega
      · have hke : xs.length ≤ k := by omega
        go_wp2_with fail
        go_returns
        exact ⟨_, rfl, hb, .inr ⟨hr0, hr1, by omega, by have := HS.out; rwa [List.take_of_length_le hke] at this⟩⟩
end Go.Proofs.Ytlienlflapeghaa
