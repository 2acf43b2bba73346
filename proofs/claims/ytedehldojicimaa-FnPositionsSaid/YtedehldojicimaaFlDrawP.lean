/- Contracts of the draws of arguments for the law FnPositions. No condition but that the code is one that can be. -/
import Derived.Test.YtedehldojicimaaFlFlaws
import Derived.Test.YtedehldojicimaaFlShown
namespace Go.Proofs.Ytedehldojicimaa
set_option linter.unusedVariables false
set_option linter.unusedSimpArgs false
open Go.RowKit
attribute [local irreducible] wpQuiet
set_option maxRecDepth 100000 in
set_option maxHeartbeats 1600000 in
theorem dTellPosition_c (bs : List Int) (A : Option Addr) (c : Nat) (w : World) (hr : Rd encY 1 w.heap.size w A bs) (hn : bs.length ≤ 65536) (hc : bs.length ≤ c) (hb : ∀ b ∈ bs, ByteI b) :
    Calls Try.prog 5 #[.slice A bs.length c] w fun e w' => ∃ (B : Option Addr) (c' : Nat) (xs : List Flaw) (D : Option Addr) (d : Nat) (cs : List Int), e = .returned (.tuple #[.slice B xs.length c', .slice D cs.length d]) ∧ xs.length ≤ 21 ∧ (∀ x ∈ xs, OkF x) ∧ xs.length ≤ c' ∧ cs.length ≤ 21 ∧ Own encFlaw 4 w.heap.size w'.heap.size w' B xs ∧ Own encI 1 w.heap.size w'.heap.size w' D cs ∧ Below w.heap.size w w' := by
  have h0 := cur_new w bs A c 43 hr hn hc hb
  go_enter Try.func5, Try.ntmps5
  go_wp2_with fail
  refine (flaws_c _ 0 _ h0 (by decide)).mono ?_
  rintro e w1 ⟨B, c', xs, rfl, hl, hok, hcap, ho1, hf1, hc1⟩
  have hg1 : w.heap.size + 1 ≤ w1.heap.size := by have := hf1.size; simp at this; omega
  go_wp2_with fail
  refine (shown_c _ _ _ hc1 (by decide) xs B c' ho1.rd (ho1.toNe (by simp)) hl hok).mono ?_
  rintro e w2 ⟨D, d, cs, rfl, hvs0, hd2, hf2, hc2⟩
  have ho2 := (ho1.fr hf2 (.inr (by simp))).wide (Nat.le_refl _) hf2.size (Nat.le_refl _)
  have hf2 := hf1.trans hf2
  clear ho1 hc1 hf1
  go_wp2_with fail
  have ho9 := ho2.wide (lo' := w.heap.size) (hi' := w2.heap.size) (by simp) (Nat.le_refl _) (Nat.le_refl _)
  have hd9 := hd2.wide (lo' := w.heap.size) (hi' := w2.heap.size) (by omega) (Nat.le_refl _) (Nat.le_refl _)
  have hbl := below_new hf2
  go_returns
  exact ⟨B, c', xs, D, d, cs, rfl, hl, hok, hcap, hvs0, ho9, hd9, hbl⟩
set_option maxRecDepth 100000 in
set_option maxHeartbeats 1600000 in
theorem dPositionsFor_c (bs : List Int) (A : Option Addr) (c : Nat) (w : World) (hr : Rd encY 1 w.heap.size w A bs) (hn : bs.length ≤ 65536) (hc : bs.length ≤ c) (hb : ∀ b ∈ bs, ByteI b) :
    Calls Try.prog 11 #[.slice A bs.length c] w fun e w' => ∃ (B : Option Addr) (c' : Nat) (xs : List Flaw) (D : Option Addr) (d : Nat) (cs : List Int) (t1 : Int), e = .returned (.tuple #[.slice B xs.length c', .slice D cs.length d, .int .i64 t1]) ∧ xs.length ≤ 21 ∧ (∀ x ∈ xs, OkF x) ∧ xs.length ≤ c' ∧ cs.length ≤ 21 ∧ (-1 ≤ t1 ∧ t1 ≤ 100) ∧ Own encFlaw 4 w.heap.size w'.heap.size w' B xs ∧ Own encI 1 w.heap.size w'.heap.size w' D cs ∧ Below w.heap.size w w' := by
  have h0 := cur_new w bs A c 43 hr hn hc hb
  go_enter Try.func11, Try.ntmps11
  go_wp2_with fail
  refine (flaws_c _ 0 _ h0 (by decide)).mono ?_
  rintro e w1 ⟨B, c', xs, rfl, hl, hok, hcap, ho1, hf1, hc1⟩
  have hg1 : w.heap.size + 1 ≤ w1.heap.size := by have := hf1.size; simp at this; omega
  go_wp2_with fail
  refine (shown_c _ _ _ hc1 (by decide) xs B c' ho1.rd (ho1.toNe (by simp)) hl hok).mono ?_
  rintro e w2 ⟨D, d, cs, rfl, hvs0, hd2, hf2, hc2⟩
  have ho2 := (ho1.fr hf2 (.inr (by simp))).wide (Nat.le_refl _) hf2.size (Nat.le_refl _)
  have hf2 := hf1.trans hf2
  clear ho1 hc1 hf1
  go_wp2_with fail
  refine (plateState_c _ _ _ hc2 (by decide)).mono ?_
  rintro e w3 ⟨t1, rfl, hvt1, hf3, hc3⟩
  have hvt1 : -1 ≤ t1 ∧ t1 ≤ 100 := by omega
  have ho3 := (ho2.fr hf3 (.inr (by simp))).wide (Nat.le_refl _) hf3.size (Nat.le_refl _)
  have hd3 := (hd2.fr hf3 (.inr (by omega))).wide (Nat.le_refl _) hf3.size (Nat.le_refl _)
  have hf3 := hf2.trans hf3
  clear ho2 hc2 hf2 hd2
  go_wp2_with fail
  have ho9 := ho3.wide (lo' := w.heap.size) (hi' := w3.heap.size) (by simp) (Nat.le_refl _) (Nat.le_refl _)
  have hd9 := hd3.wide (lo' := w.heap.size) (hi' := w3.heap.size) (by omega) (Nat.le_refl _) (Nat.le_refl _)
  have hbl := below_new hf3
  go_returns
  exact ⟨B, c', xs, D, d, cs, t1, rfl, hl, hok, hcap, hvs0, hvt1, ho9, hd9, hbl⟩
set_option maxRecDepth 100000 in
set_option maxHeartbeats 1600000 in
theorem dStatesFor_c (bs : List Int) (A : Option Addr) (c : Nat) (w : World) (hr : Rd encY 1 w.heap.size w A bs) (hn : bs.length ≤ 65536) (hc : bs.length ≤ c) (hb : ∀ b ∈ bs, ByteI b) :
    Calls Try.prog 17 #[.slice A bs.length c] w fun e w' => ∃ (B : Option Addr) (c' : Nat) (xs : List Flaw) (D : Option Addr) (d : Nat) (cs : List Int) (p1 : Int), e = .returned (.tuple #[.slice B xs.length c', .slice D cs.length d, .int .i64 p1]) ∧ xs.length ≤ 21 ∧ (∀ x ∈ xs, OkF x) ∧ xs.length ≤ c' ∧ cs.length ≤ 21 ∧ (-1 ≤ p1 ∧ p1 ≤ 100) ∧ Own encFlaw 4 w.heap.size w'.heap.size w' B xs ∧ Own encI 1 w.heap.size w'.heap.size w' D cs ∧ Below w.heap.size w w' := by
  have h0 := cur_new w bs A c 43 hr hn hc hb
  go_enter Try.func17, Try.ntmps17
  go_wp2_with fail
  refine (flaws_c _ 0 _ h0 (by decide)).mono ?_
  rintro e w1 ⟨B, c', xs, rfl, hl, hok, hcap, ho1, hf1, hc1⟩
  have hg1 : w.heap.size + 1 ≤ w1.heap.size := by have := hf1.size; simp at this; omega
  go_wp2_with fail
  refine (shown_c _ _ _ hc1 (by decide) xs B c' ho1.rd (ho1.toNe (by simp)) hl hok).mono ?_
  rintro e w2 ⟨D, d, cs, rfl, hvs0, hd2, hf2, hc2⟩
  have ho2 := (ho1.fr hf2 (.inr (by simp))).wide (Nat.le_refl _) hf2.size (Nat.le_refl _)
  have hf2 := hf1.trans hf2
  clear ho1 hc1 hf1
  go_wp2_with fail
  have hgk : w.heap.size < w2.heap.size := by have := hf2.size; simp at this; omega
  have hal := (Below.refl w2.heap.size w2).alloc (Nat.le_refl _) (.cells ([0, 0, 1, 9, 10, 99, 100, -1].map (Value.int .i64)).toArray 3)
  have ho2 := (ho2.go hal).wide (Nat.le_refl _) hal.size (Nat.le_refl _)
  have hd2 := (hd2.go hal).wide (Nat.le_refl _) hal.size (Nat.le_refl _)
  have hf2 := fr_alloc hf2 (.cells ([0, 0, 1, 9, 10, 99, 100, -1].map (Value.int .i64)).toArray 3)
  have hc2 := hc2.alloc (.cells ([0, 0, 1, 9, 10, 99, 100, -1].map (Value.int .i64)).toArray 3)
  refine (among_c _ _ [0, 0, 1, 9, 10, 99, 100, -1] _ 8 _ hc2 (by decide) (rd_litI w2 [0, 0, 1, 9, 10, 99, 100, -1] 3) (new_ne hgk) (by decide) (by decide)).mono ?_
  rintro e w3 ⟨p1, rfl, hx, hf3, hc3⟩
  have hvp1 : -1 ≤ p1 ∧ p1 ≤ 100 := by simp at hx; omega
  clear hx hgk hal
  have ho3 := (ho2.fr hf3 (.inr (by simp))).wide (Nat.le_refl _) hf3.size (Nat.le_refl _)
  have hd3 := (hd2.fr hf3 (.inr (by omega))).wide (Nat.le_refl _) hf3.size (Nat.le_refl _)
  have hf3 := hf2.trans hf3
  clear ho2 hc2 hf2 hd2
  go_wp2_with fail
  have ho9 := ho3.wide (lo' := w.heap.size) (hi' := w3.heap.size) (by simp) (Nat.le_refl _) (Nat.le_refl _)
  have hd9 := hd3.wide (lo' := w.heap.size) (hi' := w3.heap.size) (by omega) (Nat.le_refl _) (Nat.le_refl _)
  have hbl := below_new hf3
  go_returns
  exact ⟨B, c', xs, D, d, cs, p1, rfl, hl, hok, hcap, hvs0, hvp1, ho9, hd9, hbl⟩
set_option maxRecDepth 100000 in
set_option maxHeartbeats 1600000 in
theorem dCodesAt_c (bs : List Int) (A : Option Addr) (c : Nat) (w : World) (hr : Rd encY 1 w.heap.size w A bs) (hn : bs.length ≤ 65536) (hc : bs.length ≤ c) (hb : ∀ b ∈ bs, ByteI b) :
    Calls Try.prog 19 #[.slice A bs.length c] w fun e w' => ∃ (B : Option Addr) (c' : Nat) (xs : List Flaw) (p0 : Int) (t1 : Int), e = .returned (.tuple #[.slice B xs.length c', .int .i64 p0, .int .i64 t1]) ∧ xs.length ≤ 21 ∧ (∀ x ∈ xs, OkF x) ∧ xs.length ≤ c' ∧ (-1 ≤ p0 ∧ p0 ≤ 100) ∧ (-1 ≤ t1 ∧ t1 ≤ 100) ∧ Own encFlaw 4 w.heap.size w'.heap.size w' B xs ∧ Below w.heap.size w w' := by
  have h0 := cur_new w bs A c 43 hr hn hc hb
  go_enter Try.func19, Try.ntmps19
  go_wp2_with fail
  refine (flaws_c _ 0 _ h0 (by decide)).mono ?_
  rintro e w1 ⟨B, c', xs, rfl, hl, hok, hcap, ho1, hf1, hc1⟩
  have hg1 : w.heap.size + 1 ≤ w1.heap.size := by have := hf1.size; simp at this; omega
  go_wp2_with fail
  have hgk : w.heap.size < w1.heap.size := by have := hf1.size; simp at this; omega
  have hal := (Below.refl w1.heap.size w1).alloc (Nat.le_refl _) (.cells ([0, 0, 1, 9, 10, 99, 100, -1].map (Value.int .i64)).toArray 3)
  have ho1 := (ho1.go hal).wide (Nat.le_refl _) hal.size (Nat.le_refl _)
  have hf1 := fr_alloc hf1 (.cells ([0, 0, 1, 9, 10, 99, 100, -1].map (Value.int .i64)).toArray 3)
  have hc1 := hc1.alloc (.cells ([0, 0, 1, 9, 10, 99, 100, -1].map (Value.int .i64)).toArray 3)
  refine (among_c _ _ [0, 0, 1, 9, 10, 99, 100, -1] _ 8 _ hc1 (by decide) (rd_litI w1 [0, 0, 1, 9, 10, 99, 100, -1] 3) (new_ne hgk) (by decide) (by decide)).mono ?_
  rintro e w2 ⟨p0, rfl, hx, hf2, hc2⟩
  have hvp0 : -1 ≤ p0 ∧ p0 ≤ 100 := by simp at hx; omega
  clear hx hgk hal
  have ho2 := (ho1.fr hf2 (.inr (by simp))).wide (Nat.le_refl _) hf2.size (Nat.le_refl _)
  have hf2 := hf1.trans hf2
  clear ho1 hc1 hf1
  go_wp2_with fail
  refine (plateState_c _ _ _ hc2 (by decide)).mono ?_
  rintro e w3 ⟨t1, rfl, hvt1, hf3, hc3⟩
  have hvt1 : -1 ≤ t1 ∧ t1 ≤ 100 := by omega
  have ho3 := (ho2.fr hf3 (.inr (by simp))).wide (Nat.le_refl _) hf3.size (Nat.le_refl _)
  have hf3 := hf2.trans hf3
  clear ho2 hc2 hf2
  go_wp2_with fail
  have ho9 := ho3.wide (lo' := w.heap.size) (hi' := w3.heap.size) (by simp) (Nat.le_refl _) (Nat.le_refl _)
  have hbl := below_new hf3
  go_returns
  exact ⟨B, c', xs, p0, t1, rfl, hl, hok, hcap, hvp0, hvt1, ho9, hbl⟩
end Go.Proofs.Ytedehldojicimaa
