/- Contracts of the draws of arguments for the law FnWants. No condition but that the code is one that can be. -/
import Derived.Test.YtebkfcdijjcefaaHoHolds
namespace Go.Proofs.Ytebkfcdijjcefaa
set_option linter.unusedVariables false
set_option linter.unusedSimpArgs false
open Go.RowKit
attribute [local irreducible] wpQuiet
set_option maxRecDepth 100000 in
set_option maxHeartbeats 1600000 in
theorem dGiveItem_c (bs : List Int) (A : Option Addr) (c : Nat) (w : World) (hr : Rd encY 1 w.heap.size w A bs) (hn : bs.length ≤ 65536) (hc : bs.length ≤ c) (hb : ∀ b ∈ bs, ByteI b) :
    Calls Try.prog 5 #[.slice A bs.length c] w fun e w' => ∃ (B : Option Addr) (c' : Nat) (xs : List Hold) (o0 : ByteArray) (o1 : ByteArray) (i2 : Int), e = .returned (.tuple #[.slice B xs.length c', .string o0, .string o1, .int .i64 i2]) ∧ xs.length ≤ 100 ∧ (∀ x ∈ xs, OkH x) ∧ o0.size ≤ 10 ∧ o1.size ≤ 10 ∧ (0 ≤ i2 ∧ i2 ≤ 100) ∧ Own encHold 3 w.heap.size w'.heap.size w' B xs ∧ Below w.heap.size w w' := by
  have h0 := cur_new w bs A c 47 hr hn hc hb
  go_enter Try.func5, Try.ntmps5
  go_wp2_with fail
  refine (holds19_c _ 0 _ h0 (by decide)).mono ?_
  rintro e w1 ⟨B, c', xs, rfl, hl, hok, ho1, hf1, hc1⟩
  have hg1 : w.heap.size + 1 ≤ w1.heap.size := by have := hf1.size; simp at this; omega
  go_wp2_with fail
  refine (owner19_c _ _ _ hc1 (by decide)).mono ?_
  rintro e w2 ⟨o0, rfl, hvo0, hf2, hc2⟩
  have ho2 := (ho1.fr hf2 (.inr (by simp))).wide (Nat.le_refl _) hf2.size (Nat.le_refl _)
  have hf2 := hf1.trans hf2
  clear ho1 hc1 hf1
  go_wp2_with fail
  refine (owner19_c _ _ _ hc2 (by decide)).mono ?_
  rintro e w3 ⟨o1, rfl, hvo1, hf3, hc3⟩
  have ho3 := (ho2.fr hf3 (.inr (by simp))).wide (Nat.le_refl _) hf3.size (Nat.le_refl _)
  have hf3 := hf2.trans hf3
  clear ho2 hc2 hf2
  go_wp2_with fail
  refine (item19_c _ _ _ hc3 (by decide)).mono ?_
  rintro e w4 ⟨i2, rfl, hvi2, hf4, hc4⟩
  have ho4 := (ho3.fr hf4 (.inr (by simp))).wide (Nat.le_refl _) hf4.size (Nat.le_refl _)
  have hf4 := hf3.trans hf4
  clear ho3 hc3 hf3
  go_wp2_with fail
  have ho9 := ho4.wide (lo' := w.heap.size) (hi' := w4.heap.size) (by simp) (Nat.le_refl _) (Nat.le_refl _)
  have hbl := below_new hf4
  go_returns
  exact ⟨B, c', xs, o0, o1, i2, rfl, hl, hok, hvo0, hvo1, hvi2, ho9, hbl⟩
set_option maxRecDepth 100000 in
set_option maxHeartbeats 1600000 in
theorem dCanGive_c (bs : List Int) (A : Option Addr) (c : Nat) (w : World) (hr : Rd encY 1 w.heap.size w A bs) (hn : bs.length ≤ 65536) (hc : bs.length ≤ c) (hb : ∀ b ∈ bs, ByteI b) :
    Calls Try.prog 10 #[.slice A bs.length c] w fun e w' => ∃ (B : Option Addr) (c' : Nat) (xs : List Hold) (o0 : ByteArray) (o1 : ByteArray), e = .returned (.tuple #[.slice B xs.length c', .string o0, .string o1]) ∧ xs.length ≤ 100 ∧ (∀ x ∈ xs, OkH x) ∧ o0.size ≤ 10 ∧ o1.size ≤ 10 ∧ Own encHold 3 w.heap.size w'.heap.size w' B xs ∧ Below w.heap.size w w' := by
  have h0 := cur_new w bs A c 47 hr hn hc hb
  go_enter Try.func10, Try.ntmps10
  go_wp2_with fail
  refine (holds19_c _ 0 _ h0 (by decide)).mono ?_
  rintro e w1 ⟨B, c', xs, rfl, hl, hok, ho1, hf1, hc1⟩
  have hg1 : w.heap.size + 1 ≤ w1.heap.size := by have := hf1.size; simp at this; omega
  go_wp2_with fail
  refine (owner19_c _ _ _ hc1 (by decide)).mono ?_
  rintro e w2 ⟨o0, rfl, hvo0, hf2, hc2⟩
  have ho2 := (ho1.fr hf2 (.inr (by simp))).wide (Nat.le_refl _) hf2.size (Nat.le_refl _)
  have hf2 := hf1.trans hf2
  clear ho1 hc1 hf1
  go_wp2_with fail
  refine (owner19_c _ _ _ hc2 (by decide)).mono ?_
  rintro e w3 ⟨o1, rfl, hvo1, hf3, hc3⟩
  have ho3 := (ho2.fr hf3 (.inr (by simp))).wide (Nat.le_refl _) hf3.size (Nat.le_refl _)
  have hf3 := hf2.trans hf3
  clear ho2 hc2 hf2
  go_wp2_with fail
  have ho9 := ho3.wide (lo' := w.heap.size) (hi' := w3.heap.size) (by simp) (Nat.le_refl _) (Nat.le_refl _)
  have hbl := below_new hf3
  go_returns
  exact ⟨B, c', xs, o0, o1, rfl, hl, hok, hvo0, hvo1, ho9, hbl⟩
set_option maxRecDepth 100000 in
set_option maxHeartbeats 1600000 in
theorem dDoSwaps_c (bs : List Int) (A : Option Addr) (c : Nat) (w : World) (hr : Rd encY 1 w.heap.size w A bs) (hn : bs.length ≤ 65536) (hc : bs.length ≤ c) (hb : ∀ b ∈ bs, ByteI b) :
    Calls Try.prog 17 #[.slice A bs.length c] w fun e w' => ∃ (B : Option Addr) (c' : Nat) (xs : List Hold) (o0 : ByteArray) (o1 : ByteArray) (s2 : Int), e = .returned (.tuple #[.slice B xs.length c', .string o0, .string o1, .int .i64 s2]) ∧ xs.length ≤ 100 ∧ (∀ x ∈ xs, OkH x) ∧ o0.size ≤ 10 ∧ o1.size ≤ 10 ∧ (-1 ≤ s2 ∧ s2 ≤ 100) ∧ Own encHold 3 w.heap.size w'.heap.size w' B xs ∧ Below w.heap.size w w' := by
  have h0 := cur_new w bs A c 47 hr hn hc hb
  go_enter Try.func17, Try.ntmps17
  go_wp2_with fail
  refine (holds19_c _ 0 _ h0 (by decide)).mono ?_
  rintro e w1 ⟨B, c', xs, rfl, hl, hok, ho1, hf1, hc1⟩
  have hg1 : w.heap.size + 1 ≤ w1.heap.size := by have := hf1.size; simp at this; omega
  go_wp2_with fail
  refine (owner19_c _ _ _ hc1 (by decide)).mono ?_
  rintro e w2 ⟨o0, rfl, hvo0, hf2, hc2⟩
  have ho2 := (ho1.fr hf2 (.inr (by simp))).wide (Nat.le_refl _) hf2.size (Nat.le_refl _)
  have hf2 := hf1.trans hf2
  clear ho1 hc1 hf1
  go_wp2_with fail
  refine (owner19_c _ _ _ hc2 (by decide)).mono ?_
  rintro e w3 ⟨o1, rfl, hvo1, hf3, hc3⟩
  have ho3 := (ho2.fr hf3 (.inr (by simp))).wide (Nat.le_refl _) hf3.size (Nat.le_refl _)
  have hf3 := hf2.trans hf3
  clear ho2 hc2 hf2
  go_wp2_with fail
  refine (pick_c _ _ 24 _ (hc3.alloc _) (by decide) (by decide)).mono ?_
  rintro e w4 ⟨r, rfl, hr0, _, hr1, _, hf4, hc4⟩
  have hr2 := hr1 (by decide)
  clear hr1
  have hgk : w.heap.size < w3.heap.size := by have := hf3.size; simp at this; omega
  have hlit := (rd_litI w3 [0, 1, 1, 2, 3, -1, 100] 3).fr (new_ne hgk) hf4
  have ho4 := ((ho3.go ((Below.refl _ _).alloc (Nat.le_refl _) (.cells ([0, 1, 1, 2, 3, -1, 100].map (Value.int .i64)).toArray 3))).fr hf4 (.inr (by simp))).wide (Nat.le_refl _) (Nat.le_trans (by simp) hf4.size) (Nat.le_refl _)
  have hf4 := (fr_alloc hf3 _).trans hf4
  have hcs : ∃ (t : Nat), 5 + r / 11 = (t : Int) ∧ 5 ≤ t ∧ t ≤ 7 := ⟨(5 + r / 11).toNat, by omega, by omega, by omega⟩
  clear ho3 hc3 hf3
  have h3 : r / 11 = 0 ∨ r / 11 = 1 ∨ r / 11 = 2 := by omega
  clear hcs
  rcases h3 with h3 | h3 | h3
  · go_wp2_with fail
    refine (among_c _ _ (List.take 5 [0, 1, 1, 2, 3, -1, 100]) _ 7 _ hc4 (by decide) (hlit.take 5) (new_ne hgk) (by decide) (by decide)).mono ?_
    rintro e w9 ⟨s2, rfl, hx, hf9, hc9⟩
    have hvs2 : -1 ≤ s2 ∧ s2 ≤ 100 := by simp at hx; omega
    clear hx hlit
    have ho9 := (ho4.fr hf9 (.inr (by simp))).wide (lo' := w.heap.size) (hi' := w9.heap.size) (by simp) hf9.size (Nat.le_refl _)
    have hbl := below_new (hf4.trans hf9)
    go_wp2_with fail
    go_returns
    exact ⟨B, c', xs, o0, o1, s2, rfl, hl, hok, hvo0, hvo1, hvs2, ho9, hbl⟩
  · go_wp2_with fail
    refine (among_c _ _ (List.take 6 [0, 1, 1, 2, 3, -1, 100]) _ 7 _ hc4 (by decide) (hlit.take 6) (new_ne hgk) (by decide) (by decide)).mono ?_
    rintro e w9 ⟨s2, rfl, hx, hf9, hc9⟩
    have hvs2 : -1 ≤ s2 ∧ s2 ≤ 100 := by simp at hx; omega
    clear hx hlit
    have ho9 := (ho4.fr hf9 (.inr (by simp))).wide (lo' := w.heap.size) (hi' := w9.heap.size) (by simp) hf9.size (Nat.le_refl _)
    have hbl := below_new (hf4.trans hf9)
    go_wp2_with fail
    go_returns
    exact ⟨B, c', xs, o0, o1, s2, rfl, hl, hok, hvo0, hvo1, hvs2, ho9, hbl⟩
  · go_wp2_with fail
    refine (among_c _ _ (List.take 7 [0, 1, 1, 2, 3, -1, 100]) _ 7 _ hc4 (by decide) (hlit.take 7) (new_ne hgk) (by decide) (by decide)).mono ?_
    rintro e w9 ⟨s2, rfl, hx, hf9, hc9⟩
    have hvs2 : -1 ≤ s2 ∧ s2 ≤ 100 := by simp at hx; omega
    clear hx hlit
    have ho9 := (ho4.fr hf9 (.inr (by simp))).wide (lo' := w.heap.size) (hi' := w9.heap.size) (by simp) hf9.size (Nat.le_refl _)
    have hbl := below_new (hf4.trans hf9)
    go_wp2_with fail
    go_returns
    exact ⟨B, c', xs, o0, o1, s2, rfl, hl, hok, hvo0, hvo1, hvs2, ho9, hbl⟩
end Go.Proofs.Ytebkfcdijjcefaa
