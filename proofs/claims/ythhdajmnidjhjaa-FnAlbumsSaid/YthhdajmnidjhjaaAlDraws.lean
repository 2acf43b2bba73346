/- Contracts of the draws of arguments for the law FnAlbums. No condition but that the code is one that can be. -/
import Derived.Test.YthhdajmnidjhjaaAlDraw2
namespace Go.Proofs.Ythhdajmnidjhjaa
set_option linter.unusedVariables false
set_option linter.unusedSimpArgs false
open Go.RowKit
attribute [local irreducible] wpQuiet
set_option maxRecDepth 100000 in
set_option maxHeartbeats 1600000 in
theorem dLevelOf_c (bs : List Int) (A : Option Addr) (c : Nat) (w : World) (hr : Rd encY 1 w.heap.size w A bs) (hn : bs.length ≤ 65536) (hc : bs.length ≤ c) (hb : ∀ b ∈ bs, ByteI b) :
    Calls Try.prog 59 #[.slice A bs.length c] w fun e w' => ∃ (B : Option Addr) (c' : Nat) (xs : List Page) (p0 : Int), e = .returned (.tuple #[.slice B xs.length c', .int .i64 p0]) ∧ xs.length ≤ c' ∧ xs.length ≤ 20 ∧ (∀ x ∈ xs, OkP x) ∧ (0 ≤ p0 ∧ p0 ≤ 100) ∧ RdP w'.heap.size w' B xs ∧ Below w.heap.size w w' := by
  have h0 := cur_new w bs A c 64 hr hn hc hb
  go_enter Try.func59, Try.ntmps59
  go_wp2_with fail
  refine (album18_c _ 0 _ h0 (by decide)).mono ?_
  rintro e w1 ⟨v, ms, xs, rfl, hd1, hl, hok, hf1, hc1⟩
  have HK := Lib.hid hok
  clear hok hr hb
  have hg0 : w.heap.size < (w.alloc (.cells #[.slice A bs.length c, .int .i64 0, .int .u64 0] 64)).heap.size := by simp
  generalize (w.alloc (.cells #[.slice A bs.length c, .int .i64 0, .int .u64 0] 64)).heap.size = lo at *
  obtain ⟨B, c', rfl, hcap, _⟩ := hd1.shape
  go_wp2_with fail
  refine (pageId18_c _ _ _ _ hc1 (by decide) _ ms xs hd1 hg0 hl HK.out).mono ?_
  rintro e w2 ⟨p0, rfl, hvp0, hf2, hc2⟩
  have hd2 := hd1.fr_ hf2 hg0
  have hf2 := hf1.trans hf2
  clear hd1 hc1 hf1
  go_wp2_with fail
  obtain ⟨B2, c2, hv2, _, hrd⟩ := hd2.shape
  injection hv2 with hB2 _ hc2
  subst hB2 hc2
  have hbl := below_new hf2
  clear hd2 hc2 hf2
  go_returns
  exact ⟨B, c', xs, p0, rfl, hcap, hl, HK.out, hvp0, hrd, hbl⟩
set_option maxRecDepth 100000 in
set_option maxHeartbeats 1600000 in
theorem dPartOf_c (bs : List Int) (A : Option Addr) (c : Nat) (w : World) (hr : Rd encY 1 w.heap.size w A bs) (hn : bs.length ≤ 65536) (hc : bs.length ≤ c) (hb : ∀ b ∈ bs, ByteI b) :
    Calls Try.prog 24 #[.slice A bs.length c] w fun e w' => ∃ (B : Option Addr) (c' : Nat) (xs : List Page) (p0 : Int), e = .returned (.tuple #[.slice B xs.length c', .int .i64 p0]) ∧ xs.length ≤ c' ∧ xs.length ≤ 20 ∧ (∀ x ∈ xs, OkP x) ∧ (0 ≤ p0 ∧ p0 ≤ 100) ∧ RdP w'.heap.size w' B xs ∧ Below w.heap.size w w' := by
  go_enter Try.func24, Try.ntmps24
  go_wp2_with fail
  refine (dLevelOf_c bs A c w hr hn hc hb).mono ?_
  rintro e w1 ⟨B, c', xs, p0, rfl, hcap, hl, hok, hvp0, hrd, hbl⟩
  have HK := Lib.hid hok
  clear hok hr hb
  go_wp2_with fail
  go_returns
  exact ⟨B, c', xs, p0, rfl, hcap, hl, HK.out, hvp0, hrd, hbl⟩
set_option maxRecDepth 100000 in
set_option maxHeartbeats 1600000 in
theorem dPageWith_c (bs : List Int) (A : Option Addr) (c : Nat) (w : World) (hr : Rd encY 1 w.heap.size w A bs) (hn : bs.length ≤ 65536) (hc : bs.length ≤ c) (hb : ∀ b ∈ bs, ByteI b) :
    Calls Try.prog 58 #[.slice A bs.length c] w fun e w' => ∃ (B : Option Addr) (c' : Nat) (xs : List Page) (i0 : Int), e = .returned (.tuple #[.slice B xs.length c', .int .i64 i0]) ∧ xs.length ≤ c' ∧ xs.length ≤ 20 ∧ (∀ x ∈ xs, OkP x) ∧ (0 ≤ i0 ∧ i0 ≤ 1000) ∧ RdP w'.heap.size w' B xs ∧ Below w.heap.size w w' := by
  have h0 := cur_new w bs A c 64 hr hn hc hb
  go_enter Try.func58, Try.ntmps58
  go_wp2_with fail
  refine (album18_c _ 0 _ h0 (by decide)).mono ?_
  rintro e w1 ⟨v, ms, xs, rfl, hd1, hl, hok, hf1, hc1⟩
  have HK := Lib.hid hok
  clear hok hr hb
  have hg0 : w.heap.size < (w.alloc (.cells #[.slice A bs.length c, .int .i64 0, .int .u64 0] 64)).heap.size := by simp
  generalize (w.alloc (.cells #[.slice A bs.length c, .int .i64 0, .int .u64 0] 64)).heap.size = lo at *
  obtain ⟨B, c', rfl, hcap, _⟩ := hd1.shape
  go_wp2_with fail
  refine (item18_c _ _ _ _ hc1 (by decide) _ ms xs hd1 hg0 hl HK.out).mono ?_
  rintro e w2 ⟨i0, rfl, hvi0, hf2, hc2⟩
  have hd2 := hd1.fr_ hf2 hg0
  have hf2 := hf1.trans hf2
  clear hd1 hc1 hf1
  go_wp2_with fail
  obtain ⟨B2, c2, hv2, _, hrd⟩ := hd2.shape
  injection hv2 with hB2 _ hc2
  subst hB2 hc2
  have hbl := below_new hf2
  clear hd2 hc2 hf2
  go_returns
  exact ⟨B, c', xs, i0, rfl, hcap, hl, HK.out, hvi0, hrd, hbl⟩
set_option maxRecDepth 100000 in
set_option maxHeartbeats 1600000 in
theorem dTakeItem_c (bs : List Int) (A : Option Addr) (c : Nat) (w : World) (hr : Rd encY 1 w.heap.size w A bs) (hn : bs.length ≤ 65536) (hc : bs.length ≤ c) (hb : ∀ b ∈ bs, ByteI b) :
    Calls Try.prog 22 #[.slice A bs.length c] w fun e w' => ∃ (B : Option Addr) (c' : Nat) (xs : List Page) (i0 : Int), e = .returned (.tuple #[.slice B xs.length c', .int .i64 i0]) ∧ xs.length ≤ c' ∧ xs.length ≤ 20 ∧ (∀ x ∈ xs, OkP x) ∧ (0 ≤ i0 ∧ i0 ≤ 1000) ∧ RdP w'.heap.size w' B xs ∧ Below w.heap.size w w' := by
  go_enter Try.func22, Try.ntmps22
  go_wp2_with fail
  refine (dPageWith_c bs A c w hr hn hc hb).mono ?_
  rintro e w1 ⟨B, c', xs, i0, rfl, hcap, hl, hok, hvi0, hrd, hbl⟩
  have HK := Lib.hid hok
  clear hok hr hb
  go_wp2_with fail
  go_returns
  exact ⟨B, c', xs, i0, rfl, hcap, hl, HK.out, hvi0, hrd, hbl⟩
set_option maxRecDepth 100000 in
set_option maxHeartbeats 1600000 in
theorem dPutItem_c (bs : List Int) (A : Option Addr) (c : Nat) (w : World) (hr : Rd encY 1 w.heap.size w A bs) (hn : bs.length ≤ 65536) (hc : bs.length ≤ c) (hb : ∀ b ∈ bs, ByteI b) :
    Calls Try.prog 13 #[.slice A bs.length c] w fun e w' => ∃ (B : Option Addr) (c' : Nat) (xs : List Page) (p0 : Int) (i1 : Int), e = .returned (.tuple #[.slice B xs.length c', .int .i64 p0, .int .i64 i1]) ∧ xs.length ≤ c' ∧ xs.length ≤ 20 ∧ (∀ x ∈ xs, OkP x) ∧ (0 ≤ p0 ∧ p0 ≤ 100) ∧ (0 ≤ i1 ∧ i1 ≤ 1000) ∧ RdP w'.heap.size w' B xs ∧ Below w.heap.size w w' := by
  have h0 := cur_new w bs A c 64 hr hn hc hb
  go_enter Try.func13, Try.ntmps13
  go_wp2_with fail
  refine (album18_c _ 0 _ h0 (by decide)).mono ?_
  rintro e w1 ⟨v, ms, xs, rfl, hd1, hl, hok, hf1, hc1⟩
  have HK := Lib.hid hok
  clear hok hr hb
  have hg0 : w.heap.size < (w.alloc (.cells #[.slice A bs.length c, .int .i64 0, .int .u64 0] 64)).heap.size := by simp
  generalize (w.alloc (.cells #[.slice A bs.length c, .int .i64 0, .int .u64 0] 64)).heap.size = lo at *
  obtain ⟨B, c', rfl, hcap, _⟩ := hd1.shape
  go_wp2_with fail
  refine (pageId18_c _ _ _ _ hc1 (by decide) _ ms xs hd1 hg0 hl HK.out).mono ?_
  rintro e w2 ⟨p0, rfl, hvp0, hf2, hc2⟩
  have hd2 := hd1.fr_ hf2 hg0
  have hf2 := hf1.trans hf2
  clear hd1 hc1 hf1
  go_wp2_with fail
  refine (item18_c _ _ _ _ hc2 (by decide) _ ms xs hd2 hg0 hl HK.out).mono ?_
  rintro e w3 ⟨i1, rfl, hvi1, hf3, hc3⟩
  have hd3 := hd2.fr_ hf3 hg0
  have hf3 := hf2.trans hf3
  clear hd2 hc2 hf2
  go_wp2_with fail
  obtain ⟨B2, c2, hv2, _, hrd⟩ := hd3.shape
  injection hv2 with hB2 _ hc2
  subst hB2 hc2
  have hbl := below_new hf3
  clear hd3 hc3 hf3
  go_returns
  exact ⟨B, c', xs, p0, i1, rfl, hcap, hl, HK.out, hvp0, hvi1, hrd, hbl⟩
end Go.Proofs.Ythhdajmnidjhjaa
