/- Contracts of the draws of arguments for the law FnViews. No condition but that the code is one that can be. -/
import Derived.Test.YtpnkeaeikcobfaaGreatDoorOpDraw3
namespace Go.Proofs.YtpnkeaeikcobfaaGreatDoor
set_option linter.unusedVariables false
set_option linter.unusedSimpArgs false
open Go.RowKit
attribute [local irreducible] wpQuiet
set_option maxRecDepth 100000 in
set_option maxHeartbeats 1600000 in
theorem drawViewOf_c (bs : List Int) (A : Option Addr) (c : Nat) (w : World) (hr : Rd encY 1 w.heap.size w A bs) (hn : bs.length ≤ 65536) (hc : bs.length ≤ c) (hb : ∀ b ∈ bs, ByteI b) :
    Calls Tryz.prog 5 #[.slice A bs.length c] w fun e w' => ∃ (B : Option Addr) (c' : Nat) (xs : List Opinion) (z d : Int), e = .returned (.tuple #[.slice B xs.length c', .int .i64 z, .int .i64 d]) ∧ xs.length ≤ 100 ∧ (∀ x ∈ xs, OkO x) ∧ (0 ≤ z ∧ z ≤ 1000) ∧ (-1 ≤ d ∧ d ≤ 4001) ∧ Own encOpinion 5 w.heap.size w'.heap.size w' B xs ∧ Below w.heap.size w w' := by
  go_enter Tryz.func5, Tryz.ntmps5
  go_wp2_with fail
  refine (drawStanding_c bs A c w hr hn hc hb).mono ?_
  rintro e w1 ⟨B, c', xs, z, d, rfl, hl, hok, hz, hd, ho, hbl⟩
  have HK := Lib.hid hok
  clear hok hr hb
  go_wp2_with fail
  go_returns
  exact ⟨B, c', xs, z, d, rfl, hl, HK.out, hz, hd, ho, hbl⟩
set_option maxRecDepth 100000 in
set_option maxHeartbeats 1600000 in
theorem drawAgreeShare_c (bs : List Int) (A : Option Addr) (c : Nat) (w : World) (hr : Rd encY 1 w.heap.size w A bs) (hn : bs.length ≤ 65536) (hc : bs.length ≤ c) (hb : ∀ b ∈ bs, ByteI b) :
    Calls Tryz.prog 14 #[.slice A bs.length c] w fun e w' => ∃ (B : Option Addr) (c' : Nat) (xs : List Opinion) (s t : ByteArray) (d : Int), e = .returned (.tuple #[.slice B xs.length c', .string s, .string t, .int .i64 d]) ∧ xs.length ≤ 100 ∧ (∀ x ∈ xs, OkO x) ∧ s.size ≤ 10 ∧ t.size ≤ 10 ∧ (-1 ≤ d ∧ d ≤ 4001) ∧ Own encOpinion 5 w.heap.size w'.heap.size w' B xs ∧ Below w.heap.size w w' := by
  have h0 := cur_new w bs A c 57 hr hn hc hb
  go_enter Tryz.func14, Tryz.ntmps14
  go_wp2_with fail
  refine (opinions17_c _ 0 _ h0 (by decide)).mono ?_
  rintro e w1 ⟨B, c', xs, rfl, hl, hok, ho, hf1, hc1⟩
  go_wp2_with fail
  refine (expertAsk_c _ _ _ hc1 (by decide)).mono ?_
  rintro e w2 ⟨s, rfl, hs, hf2, hc2⟩
  have ho2 := ho.fr hf2 (.inr (by simp))
  have hf2 := hf1.trans hf2
  clear ho hc1 hf1
  go_wp2_with fail
  refine (expertAsk_c _ _ _ hc2 (by decide)).mono ?_
  rintro e w3 ⟨t, rfl, ht, hf3, hc3⟩
  have ho3 := ho2.fr hf3 (.inr (by simp))
  have hf3 := hf2.trans hf3
  clear ho2 hc2 hf2
  go_wp2_with fail
  refine (opinionDay_c _ _ xs _ _ _ hc3 (by decide) ho3.rd (ho3.toNe (by simp)) (by omega) hok).mono ?_
  rintro e w4 ⟨d, rfl, hd, hf4, hc4⟩
  have ho4 := (ho3.fr hf4 (.inr (by simp))).wide (lo' := w.heap.size) (hi' := w4.heap.size) (by simp) (Nat.le_trans ho3.1 hf4.size) (Nat.le_refl _)
  have hbl := below_new (hf3.trans hf4)
  go_wp2_with fail
  go_returns
  exact ⟨B, c', xs, s, t, d, rfl, hl, hok, hs, ht, hd, ho4, hbl⟩
set_option maxRecDepth 100000 in
set_option maxHeartbeats 1600000 in
theorem drawFirstView_c (bs : List Int) (A : Option Addr) (c : Nat) (w : World) (hr : Rd encY 1 w.heap.size w A bs) (hn : bs.length ≤ 65536) (hc : bs.length ≤ c) (hb : ∀ b ∈ bs, ByteI b) :
    Calls Tryz.prog 17 #[.slice A bs.length c] w fun e w' => ∃ (B : Option Addr) (c' : Nat) (xs : List Opinion) (z n : Int), e = .returned (.tuple #[.slice B xs.length c', .int .i64 z, .int .i64 n]) ∧ xs.length ≤ 100 ∧ (∀ x ∈ xs, OkO x) ∧ (0 ≤ z ∧ z ≤ 1000) ∧ (0 ≤ n ∧ n ≤ 5) ∧ Own encOpinion 5 w.heap.size w'.heap.size w' B xs ∧ Below w.heap.size w w' := by
  have h0 := cur_new w bs A c 57 hr hn hc hb
  go_enter Tryz.func17, Tryz.ntmps17
  go_wp2_with fail
  refine (opinions17_c _ 0 _ h0 (by decide)).mono ?_
  rintro e w1 ⟨B, c', xs, rfl, hl, hok, ho, hf1, hc1⟩
  go_wp2_with fail
  refine (item17_c _ _ _ hc1 (by decide)).mono ?_
  rintro e w2 ⟨z, rfl, hz, hf2, hc2⟩
  have ho2 := ho.fr hf2 (.inr (by simp))
  have hf2 := hf1.trans hf2
  clear ho hc1 hf1
  go_wp2_with fail
  refine (pick_c _ _ 24 _ (hc2.alloc _) (by decide) (by decide)).mono ?_
  rintro e w3 ⟨r, rfl, hr0, _, hr1, _, hf3, hc3⟩
  have hr1 := hr1 (by decide)
  have hlit := (rd_litI w2 [1, 2, 3, 4, 0, 5] 3).fr (new_ne hc2.1) hf3
  have ho3 := (ho2.go ((Below.refl _ _).alloc (Nat.le_refl _) _)).fr hf3 (.inr (by simp))
  have hf3 := (fr_alloc hf2 _).trans hf3
  have h3 : r / 11 = 0 ∨ r / 11 = 1 ∨ r / 11 = 2 := by omega
  rcases h3 with h3 | h3 | h3
  · go_wp2_with fail
    refine (among_c _ _ (List.take 4 [1, 2, 3, 4, 0, 5]) _ 6 _ hc3 (by decide) (hlit.take 4) (new_ne hc2.1) (by decide) (by decide)).mono ?_
    rintro e w8 ⟨n, rfl, hn, hf8, hc8⟩
    have hn : 0 ≤ n ∧ n ≤ 5 := by simp at hn; omega
    have ho8 := (ho3.fr hf8 (.inr (by simp))).wide (lo' := w.heap.size) (hi' := w8.heap.size) (by simp) (Nat.le_trans ho3.1 hf8.size) (Nat.le_refl _)
    have hbl := below_new (hf3.trans hf8)
    clear hlit
    go_wp2_with fail
    go_returns
    exact ⟨B, c', xs, z, n, rfl, hl, hok, hz, hn, ho8, hbl⟩
  · go_wp2_with fail
    refine (among_c _ _ (List.take 5 [1, 2, 3, 4, 0, 5]) _ 6 _ hc3 (by decide) (hlit.take 5) (new_ne hc2.1) (by decide) (by decide)).mono ?_
    rintro e w8 ⟨n, rfl, hn, hf8, hc8⟩
    have hn : 0 ≤ n ∧ n ≤ 5 := by simp at hn; omega
    have ho8 := (ho3.fr hf8 (.inr (by simp))).wide (lo' := w.heap.size) (hi' := w8.heap.size) (by simp) (Nat.le_trans ho3.1 hf8.size) (Nat.le_refl _)
    have hbl := below_new (hf3.trans hf8)
    clear hlit
    go_wp2_with fail
    go_returns
    exact ⟨B, c', xs, z, n, rfl, hl, hok, hz, hn, ho8, hbl⟩
  · go_wp2_with fail
    refine (among_c _ _ (List.take 6 [1, 2, 3, 4, 0, 5]) _ 6 _ hc3 (by decide) (hlit.take 6) (new_ne hc2.1) (by decide) (by decide)).mono ?_
    rintro e w8 ⟨n, rfl, hn, hf8, hc8⟩
    have hn : 0 ≤ n ∧ n ≤ 5 := by simp at hn; omega
    have ho8 := (ho3.fr hf8 (.inr (by simp))).wide (lo' := w.heap.size) (hi' := w8.heap.size) (by simp) (Nat.le_trans ho3.1 hf8.size) (Nat.le_refl _)
    have hbl := below_new (hf3.trans hf8)
    clear hlit
    go_wp2_with fail
    go_returns
    exact ⟨B, c', xs, z, n, rfl, hl, hok, hz, hn, ho8, hbl⟩
end Go.Proofs.YtpnkeaeikcobfaaGreatDoor
