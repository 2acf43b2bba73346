/- Contracts of the draws of arguments for the law FnLeaves. No condition but that the code is one that can be. -/
import Derived.Test.YtpjnlcppjcnlgaaGreatDoorAlDraw2
namespace Go.Proofs.YtpjnlcppjcnlgaaGreatDoor
set_option linter.unusedVariables false
set_option linter.unusedSimpArgs false
open Go.RowKit
attribute [local irreducible] wpQuiet
set_option maxRecDepth 100000 in
set_option maxHeartbeats 1600000 in
theorem dLevelOf_c (bs : List Int) (A : Option Addr) (c : Nat) (w : World) (hr : Rd encY 1 w.heap.size w A bs) (hn : bs.length ≤ 65536) (hc : bs.length ≤ c) (hb : ∀ b ∈ bs, ByteI b) :
    Calls Tryz.prog 20 #[.slice A bs.length c] w fun e w' => ∃ (B : Option Addr) (c' : Nat) (xs : List Page) (p0 : Int), e = .returned (.tuple #[.slice B xs.length c', .int .i64 p0]) ∧ xs.length ≤ c' ∧ xs.length ≤ 20 ∧ (∀ x ∈ xs, OkP x) ∧ (0 ≤ p0 ∧ p0 ≤ 100) ∧ RdP w'.heap.size w' B xs ∧ Below w.heap.size w w' := by
  have h0 := cur_new w bs A c 48 hr hn hc hb
  go_enter Tryz.func20, Tryz.ntmps20
  go_wp2_with fail
  refine (album18_c _ 0 _ h0 (by decide)).mono ?_
  rintro e w1 ⟨v, ms, xs, rfl, hd1, hl, hok, hf1, hc1⟩
  have HK := Lib.hid hok
  clear hok hr hb
  have hg0 : w.heap.size < (w.alloc (.cells #[.slice A bs.length c, .int .i64 0, .int .u64 0] 48)).heap.size := by simp
  generalize (w.alloc (.cells #[.slice A bs.length c, .int .i64 0, .int .u64 0] 48)).heap.size = lo at *
  obtain ⟨B, c', rfl, hcap, _⟩ := hd1.shape
  go_wp2_with fail
  refine (pageId18_c _ _ _ _ hc1 (by decide) _ ms xs hd1 hg0 hl HK.out).mono ?_
  rintro e w2 ⟨p0, rfl, hvp0, hf2, hc2⟩
  have hd2 := hd1.fr_ hf2 hg0
  have hf2 := hf1.trans hf2
  clear hd1 hc1 hf1
  go_wp2_with fail
  obtain ⟨B2, c2, hv2, _, hrd⟩ := hd2.shape
  injection hv2 with hB2 _ hc2
  subst hB2 hc2
  have hbl := below_new hf2
  clear hd2 hc2 hf2
  go_returns
  exact ⟨B, c', xs, p0, rfl, hcap, hl, HK.out, hvp0, hrd, hbl⟩
set_option maxRecDepth 100000 in
set_option maxHeartbeats 1600000 in
theorem dPageWith_c (bs : List Int) (A : Option Addr) (c : Nat) (w : World) (hr : Rd encY 1 w.heap.size w A bs) (hn : bs.length ≤ 65536) (hc : bs.length ≤ c) (hb : ∀ b ∈ bs, ByteI b) :
    Calls Tryz.prog 22 #[.slice A bs.length c] w fun e w' => ∃ (B : Option Addr) (c' : Nat) (xs : List Page) (i0 : Int), e = .returned (.tuple #[.slice B xs.length c', .int .i64 i0]) ∧ xs.length ≤ c' ∧ xs.length ≤ 20 ∧ (∀ x ∈ xs, OkP x) ∧ (0 ≤ i0 ∧ i0 ≤ 1000) ∧ RdP w'.heap.size w' B xs ∧ Below w.heap.size w w' := by
  have h0 := cur_new w bs A c 48 hr hn hc hb
  go_enter Tryz.func22, Tryz.ntmps22
  go_wp2_with fail
  refine (album18_c _ 0 _ h0 (by decide)).mono ?_
  rintro e w1 ⟨v, ms, xs, rfl, hd1, hl, hok, hf1, hc1⟩
  have HK := Lib.hid hok
  clear hok hr hb
  have hg0 : w.heap.size < (w.alloc (.cells #[.slice A bs.length c, .int .i64 0, .int .u64 0] 48)).heap.size := by simp
  generalize (w.alloc (.cells #[.slice A bs.length c, .int .i64 0, .int .u64 0] 48)).heap.size = lo at *
  obtain ⟨B, c', rfl, hcap, _⟩ := hd1.shape
  go_wp2_with fail
  refine (item18_c _ _ _ _ hc1 (by decide) _ ms xs hd1 hg0 hl HK.out).mono ?_
  rintro e w2 ⟨i0, rfl, hvi0, hf2, hc2⟩
  have hd2 := hd1.fr_ hf2 hg0
  have hf2 := hf1.trans hf2
  clear hd1 hc1 hf1
  go_wp2_with fail
  obtain ⟨B2, c2, hv2, _, hrd⟩ := hd2.shape
  injection hv2 with hB2 _ hc2
  subst hB2 hc2
  have hbl := below_new hf2
  clear hd2 hc2 hf2
  go_returns
  exact ⟨B, c', xs, i0, rfl, hcap, hl, HK.out, hvi0, hrd, hbl⟩
set_option maxRecDepth 100000 in
set_option maxHeartbeats 1600000 in
theorem dMergePages_c (bs : List Int) (A : Option Addr) (c : Nat) (w : World) (hr : Rd encY 1 w.heap.size w A bs) (hn : bs.length ≤ 65536) (hc : bs.length ≤ c) (hb : ∀ b ∈ bs, ByteI b) :
    Calls Tryz.prog 10 #[.slice A bs.length c] w fun e w' => ∃ (B : Option Addr) (c' : Nat) (xs : List Page) (p0 : Int) (p1 : Int), e = .returned (.tuple #[.slice B xs.length c', .int .i64 p0, .int .i64 p1]) ∧ xs.length ≤ c' ∧ xs.length ≤ 20 ∧ (∀ x ∈ xs, OkP x) ∧ (0 ≤ p0 ∧ p0 ≤ 100) ∧ (0 ≤ p1 ∧ p1 ≤ 100) ∧ RdP w'.heap.size w' B xs ∧ Below w.heap.size w w' := by
  have h0 := cur_new w bs A c 48 hr hn hc hb
  go_enter Tryz.func10, Tryz.ntmps10
  go_wp2_with fail
  refine (album18_c _ 0 _ h0 (by decide)).mono ?_
  rintro e w1 ⟨v, ms, xs, rfl, hd1, hl, hok, hf1, hc1⟩
  have HK := Lib.hid hok
  clear hok hr hb
  have hg0 : w.heap.size < (w.alloc (.cells #[.slice A bs.length c, .int .i64 0, .int .u64 0] 48)).heap.size := by simp
  generalize (w.alloc (.cells #[.slice A bs.length c, .int .i64 0, .int .u64 0] 48)).heap.size = lo at *
  obtain ⟨B, c', rfl, hcap, _⟩ := hd1.shape
  go_wp2_with fail
  refine (pageId18_c _ _ _ _ hc1 (by decide) _ ms xs hd1 hg0 hl HK.out).mono ?_
  rintro e w2 ⟨p0, rfl, hvp0, hf2, hc2⟩
  have hd2 := hd1.fr_ hf2 hg0
  have hf2 := hf1.trans hf2
  clear hd1 hc1 hf1
  go_wp2_with fail
  refine (pageId18_c _ _ _ _ hc2 (by decide) _ ms xs hd2 hg0 hl HK.out).mono ?_
  rintro e w3 ⟨p1, rfl, hvp1, hf3, hc3⟩
  have hd3 := hd2.fr_ hf3 hg0
  have hf3 := hf2.trans hf3
  clear hd2 hc2 hf2
  go_wp2_with fail
  obtain ⟨B2, c2, hv2, _, hrd⟩ := hd3.shape
  injection hv2 with hB2 _ hc2
  subst hB2 hc2
  have hbl := below_new hf3
  clear hd3 hc3 hf3
  go_returns
  exact ⟨B, c', xs, p0, p1, rfl, hcap, hl, HK.out, hvp0, hvp1, hrd, hbl⟩
set_option maxRecDepth 100000 in
set_option maxHeartbeats 1600000 in
theorem dAddPage_c (bs : List Int) (A : Option Addr) (c : Nat) (w : World) (hr : Rd encY 1 w.heap.size w A bs) (hn : bs.length ≤ 65536) (hc : bs.length ≤ c) (hb : ∀ b ∈ bs, ByteI b) :
    Calls Tryz.prog 5 #[.slice A bs.length c] w fun e w' => ∃ (B : Option Addr) (c' : Nat) (xs : List Page) (t1 : ByteArray) (u0 : Int), e = .returned (.tuple #[.slice B xs.length c', .string t1, .int .i64 u0]) ∧ xs.length ≤ c' ∧ xs.length ≤ 20 ∧ (∀ x ∈ xs, OkP x) ∧ t1.size ≤ 10 ∧ (0 ≤ u0 ∧ u0 ≤ 100) ∧ RdP w'.heap.size w' B xs ∧ Below w.heap.size w w' := by
  have h0 := cur_new w bs A c 48 hr hn hc hb
  go_enter Tryz.func5, Tryz.ntmps5
  go_wp2_with fail
  refine (album18_c _ 0 _ h0 (by decide)).mono ?_
  rintro e w1 ⟨v, ms, xs, rfl, hd1, hl, hok, hf1, hc1⟩
  have HK := Lib.hid hok
  clear hok hr hb
  have hg0 : w.heap.size < (w.alloc (.cells #[.slice A bs.length c, .int .i64 0, .int .u64 0] 48)).heap.size := by simp
  generalize (w.alloc (.cells #[.slice A bs.length c, .int .i64 0, .int .u64 0] 48)).heap.size = lo at *
  obtain ⟨B, c', rfl, hcap, _⟩ := hd1.shape
  go_wp2_with fail
  refine (pageId18_c _ _ _ _ hc1 (by decide) _ ms xs hd1 hg0 hl HK.out).mono ?_
  rintro e w2 ⟨u0, rfl, hvu0, hf2, hc2⟩
  have hd2 := hd1.fr_ hf2 hg0
  have hf2 := hf1.trans hf2
  clear hd1 hc1 hf1
  go_wp2_with fail
  refine (one_c _ _ 3 _ hc2 (by decide) (by decide)).mono ?_
  rintro e w3 ⟨tb, rfl, hf3, hc3⟩
  have hd3 := hd2.fr_ hf3 hg0
  have hf3 := hf2.trans hf3
  clear hd2 hc2 hf2
  go_upto_if 17 with fail
  go_cut [7] (fun v wx => ∃ u0 : Int, v = .int .i64 u0 ∧ (0 ≤ u0 ∧ u0 ≤ 100) ∧ w3 = wx)
  case first =>
    cases tb
    · go_wp2_with fail
      go_meet
      exact ⟨u0, rfl, hvu0, rfl⟩
    · go_wp2_with fail
      go_meet
      exact ⟨0, rfl, by omega, rfl⟩
  case rest =>
  clear hvu0
  obtain ⟨u0, rfl, hvu0, hwx⟩ := hcut
  subst hwx
  go_wp2_with fail
  have hgk : w.heap.size < w3.heap.size := hc3.1
  refine (of_c _ _ [⟨#[98, 101, 114, 110]⟩, ⟨#[115, 104, 105, 112, 115]⟩, ⟨#[122, 111, 111]⟩, ⟨#[]⟩, ⟨#[90, 111, 111]⟩] _ _ _ (hc3.alloc _) (by decide) (rd_litS _ _ _) (new_ne hgk) (by decide) (by decide)).mono ?_
  rintro e w4 ⟨t1, rfl, hxt1, hf4, hc4⟩
  have hvt1 : t1.size ≤ 10 := by exact (show ∀ x ∈ ([⟨#[98, 101, 114, 110]⟩, ⟨#[115, 104, 105, 112, 115]⟩, ⟨#[122, 111, 111]⟩, ⟨#[]⟩, ⟨#[90, 111, 111]⟩] : List ByteArray), x.size ≤ 10 by decide) t1 hxt1
  have hd4 := (hd3.below_ ((Below.refl _ _).alloc (Nat.le_refl _) _)).fr_ hf4 hg0
  have hf4 := (fr_alloc hf3 _).trans hf4
  clear hd3 hc3 hf3 hxt1
  go_wp2_with fail
  obtain ⟨B2, c2, hv2, _, hrd⟩ := hd4.shape
  injection hv2 with hB2 _ hc2
  subst hB2 hc2
  have hbl := below_new hf4
  clear hd4 hc4 hf4
  go_returns
  exact ⟨B, c', xs, t1, u0, rfl, hcap, hl, HK.out, hvt1, hvu0, hrd, hbl⟩
set_option maxRecDepth 100000 in
set_option maxHeartbeats 1600000 in
theorem dMovePage_c (bs : List Int) (A : Option Addr) (c : Nat) (w : World) (hr : Rd encY 1 w.heap.size w A bs) (hn : bs.length ≤ 65536) (hc : bs.length ≤ c) (hb : ∀ b ∈ bs, ByteI b) :
    Calls Tryz.prog 17 #[.slice A bs.length c] w fun e w' => ∃ (B : Option Addr) (c' : Nat) (xs : List Page) (p1 : Int) (u0 : Int), e = .returned (.tuple #[.slice B xs.length c', .int .i64 p1, .int .i64 u0]) ∧ xs.length ≤ c' ∧ xs.length ≤ 20 ∧ (∀ x ∈ xs, OkP x) ∧ (0 ≤ p1 ∧ p1 ≤ 100) ∧ (0 ≤ u0 ∧ u0 ≤ 100) ∧ RdP w'.heap.size w' B xs ∧ Below w.heap.size w w' := by
  have h0 := cur_new w bs A c 48 hr hn hc hb
  go_enter Tryz.func17, Tryz.ntmps17
  go_wp2_with fail
  refine (album18_c _ 0 _ h0 (by decide)).mono ?_
  rintro e w1 ⟨v, ms, xs, rfl, hd1, hl, hok, hf1, hc1⟩
  have HK := Lib.hid hok
  clear hok hr hb
  have hg0 : w.heap.size < (w.alloc (.cells #[.slice A bs.length c, .int .i64 0, .int .u64 0] 48)).heap.size := by simp
  generalize (w.alloc (.cells #[.slice A bs.length c, .int .i64 0, .int .u64 0] 48)).heap.size = lo at *
  obtain ⟨B, c', rfl, hcap, _⟩ := hd1.shape
  go_wp2_with fail
  refine (pageId18_c _ _ _ _ hc1 (by decide) _ ms xs hd1 hg0 hl HK.out).mono ?_
  rintro e w2 ⟨u0, rfl, hvu0, hf2, hc2⟩
  have hd2 := hd1.fr_ hf2 hg0
  have hf2 := hf1.trans hf2
  clear hd1 hc1 hf1
  go_wp2_with fail
  refine (one_c _ _ 4 _ hc2 (by decide) (by decide)).mono ?_
  rintro e w3 ⟨tb, rfl, hf3, hc3⟩
  have hd3 := hd2.fr_ hf3 hg0
  have hf3 := hf2.trans hf3
  clear hd2 hc2 hf2
  go_upto_if 17 with fail
  go_cut [7] (fun v wx => ∃ u0 : Int, v = .int .i64 u0 ∧ (0 ≤ u0 ∧ u0 ≤ 100) ∧ w3 = wx)
  case first =>
    cases tb
    · go_wp2_with fail
      go_meet
      exact ⟨u0, rfl, hvu0, rfl⟩
    · go_wp2_with fail
      go_meet
      exact ⟨0, rfl, by omega, rfl⟩
  case rest =>
  clear hvu0
  obtain ⟨u0, rfl, hvu0, hwx⟩ := hcut
  subst hwx
  go_wp2_with fail
  refine (pageId18_c _ _ _ _ hc3 (by decide) _ ms xs hd3 hg0 hl HK.out).mono ?_
  rintro e w4 ⟨p1, rfl, hvp1, hf4, hc4⟩
  have hd4 := hd3.fr_ hf4 hg0
  have hf4 := hf3.trans hf4
  clear hd3 hc3 hf3
  go_wp2_with fail
  obtain ⟨B2, c2, hv2, _, hrd⟩ := hd4.shape
  injection hv2 with hB2 _ hc2
  subst hB2 hc2
  have hbl := below_new hf4
  clear hd4 hc4 hf4
  go_returns
  exact ⟨B, c', xs, p1, u0, rfl, hcap, hl, HK.out, hvp1, hvu0, hrd, hbl⟩
end Go.Proofs.YtpjnlcppjcnlgaaGreatDoor
