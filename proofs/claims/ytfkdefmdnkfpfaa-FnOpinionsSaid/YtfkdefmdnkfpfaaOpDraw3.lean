/- Contracts of the draws of arguments for the laws on opinions. No condition but that the code is one that can be. -/
import Derived.Test.YtfkdefmdnkfpfaaOpDraw2
import Derived.Deep.DeepCutAuto
import Derived.Deep.RegionHeld3
namespace Go.Proofs.Ytfkdefmdnkfpfaa
set_option linter.unusedVariables false
set_option linter.unusedSimpArgs false
open Go.RowKit
attribute [local irreducible] wpQuiet
/-- A reader that the call has just made. -/
theorem cur_new (w : World) (bs : List Int) (A : Option Addr) (c : Nat) (E : TypeId) (hr : Rd encY 1 w.heap.size w A bs) (hn : bs.length ≤ 65536) (hc : bs.length ≤ c) (hb : ∀ b ∈ bs, ByteI b) : Cur w.heap.size 0 (w.alloc (.cells #[.slice A bs.length c, .int .i64 0, .int .u64 0] E)) :=
  ⟨by simp, A, bs, c, 0, 0, by simp, by simp, by simp, Nat.le_refl _, hn, hc, hb, hr.keep fun b o h => ((Below.refl _ _).alloc (Nat.le_refl _) _).cell (p := ⟨b, o, none⟩) h, by decide, by decide, fun o => World.frozen?_alloc_new w _ E o⟩
theorem below_new {w w' : World} {o : Obj} (h : Fr w.heap.size (w.heap.size + 1) (w.alloc o) w') : Below w.heap.size w w' :=
  ((Below.refl _ _).alloc (Nat.le_refl _) _).trans (h.below (Nat.le_refl _) (by simp))
theorem Own.toNe {α : Type} {enc : α → List Value} {k lo hi g : Nat} {w : World} {A : Option Addr} {xs : List α} (h : Own enc k lo hi w A xs) (hg : g < lo) : 0 < xs.length → ∀ b off, A = some ⟨b, off, none⟩ → b ≠ g := fun hn b off e => by
  obtain ⟨b', off', hA, h1, _⟩ := h.2 hn
  rw [hA] at e
  obtain ⟨rfl, rfl⟩ := addr_eq e
  omega
set_option maxRecDepth 100000 in
set_option maxHeartbeats 1600000 in
theorem drawChangedMinds_c (bs : List Int) (A : Option Addr) (c : Nat) (w : World) (hr : Rd encY 1 w.heap.size w A bs) (hn : bs.length ≤ 65536) (hc : bs.length ≤ c) (hb : ∀ b ∈ bs, ByteI b) :
    Calls Try.prog 18 #[.slice A bs.length c] w fun e w' => ∃ (B : Option Addr) (c' : Nat) (xs : List Opinion) (s : ByteArray), e = .returned (.tuple #[.slice B xs.length c', .string s]) ∧ xs.length ≤ 100 ∧ (∀ x ∈ xs, OkO x) ∧ s.size ≤ 10 ∧ Own encOpinion 5 w.heap.size w'.heap.size w' B xs ∧ Below w.heap.size w w' := by
  have h0 := cur_new w bs A c 60 hr hn hc hb
  go_enter Try.func18, Try.ntmps18
  go_wp2_with fail
  refine (opinions17_c _ 0 _ h0 (by decide)).mono ?_
  rintro e w1 ⟨B, c', xs, rfl, hl, hok, ho, hf1, hc1⟩
  go_wp2_with fail
  refine (expertAsk_c _ _ _ hc1 (by decide)).mono ?_
  rintro e w2 ⟨s, rfl, hs, hf2, hc2⟩
  have ho2 := (ho.fr hf2 (.inr (by simp))).wide (lo' := w.heap.size) (hi' := w2.heap.size) (by simp) hf2.size (Nat.le_refl _)
  have hbl := below_new (hf1.trans hf2)
  go_wp2_with fail
  go_returns
  exact ⟨B, c', xs, s, rfl, hl, hok, hs, ho2, hbl⟩
set_option maxRecDepth 100000 in
set_option maxHeartbeats 1600000 in
theorem drawStanding_c (bs : List Int) (A : Option Addr) (c : Nat) (w : World) (hr : Rd encY 1 w.heap.size w A bs) (hn : bs.length ≤ 65536) (hc : bs.length ≤ c) (hb : ∀ b ∈ bs, ByteI b) :
    Calls Try.prog 16 #[.slice A bs.length c] w fun e w' => ∃ (B : Option Addr) (c' : Nat) (xs : List Opinion) (z d : Int), e = .returned (.tuple #[.slice B xs.length c', .int .i64 z, .int .i64 d]) ∧ xs.length ≤ 100 ∧ (∀ x ∈ xs, OkO x) ∧ (0 ≤ z ∧ z ≤ 1000) ∧ (-1 ≤ d ∧ d ≤ 4001) ∧ Own encOpinion 5 w.heap.size w'.heap.size w' B xs ∧ Below w.heap.size w w' := by
  have h0 := cur_new w bs A c 60 hr hn hc hb
  go_enter Try.func16, Try.ntmps16
  go_wp2_with fail
  refine (opinions17_c _ 0 _ h0 (by decide)).mono ?_
  rintro e w1 ⟨B, c', xs, rfl, hl, hok, ho, hf1, hc1⟩
  go_wp2_with fail
  refine (item17_c _ _ _ hc1 (by decide)).mono ?_
  rintro e w2 ⟨z, rfl, hz, hf2, hc2⟩
  have ho2 := ho.fr hf2 (.inr (by simp))
  go_wp2_with fail
  refine (opinionDay_c _ _ xs _ _ _ hc2 (by decide) ho2.rd (ho2.toNe (by simp)) (by omega) hok).mono ?_
  rintro e w3 ⟨d, rfl, hd, hf3, hc3⟩
  have ho3 := (ho2.fr hf3 (.inr (by simp))).wide (lo' := w.heap.size) (hi' := w3.heap.size) (by simp) (Nat.le_trans hf2.size hf3.size) (Nat.le_refl _)
  have hbl := below_new (hf1.trans (hf2.trans hf3))
  go_wp2_with fail
  go_returns
  exact ⟨B, c', xs, z, d, rfl, hl, hok, hz, hd, ho3, hbl⟩
set_option maxRecDepth 100000 in
set_option maxHeartbeats 1600000 in
theorem drawHistoryOf_c (bs : List Int) (A : Option Addr) (c : Nat) (w : World) (hr : Rd encY 1 w.heap.size w A bs) (hn : bs.length ≤ 65536) (hc : bs.length ≤ c) (hb : ∀ b ∈ bs, ByteI b) :
    Calls Try.prog 13 #[.slice A bs.length c] w fun e w' => ∃ (B : Option Addr) (c' : Nat) (xs : List Opinion) (z : Int), e = .returned (.tuple #[.slice B xs.length c', .int .i64 z]) ∧ xs.length ≤ 100 ∧ (∀ x ∈ xs, OkO x) ∧ (-1000 ≤ z ∧ z ≤ 1000) ∧ Own encOpinion 5 w.heap.size w'.heap.size w' B xs ∧ Below w.heap.size w w' := by
  have h0 := cur_new w bs A c 60 hr hn hc hb
  go_enter Try.func13, Try.ntmps13
  go_wp2_with fail
  refine (opinions17_c _ 0 _ h0 (by decide)).mono ?_
  rintro e w1 ⟨B, c', xs, rfl, hl, hok, ho, hf1, hc1⟩
  go_wp2_with fail
  refine (one_c _ _ 8 _ hc1 (by decide) (by decide)).mono ?_
  rintro e w2 ⟨b, rfl, hf2, hc2⟩
  have ho2 := ho.fr hf2 (.inr (by simp))
  have hs0 : w.heap.size + 1 ≤ w1.heap.size := by have := hf1.size; simp at this; omega
  cases b
  · go_wp2_with fail
    refine (pick_c _ _ 3 _ hc2 (by decide) (by decide)).mono ?_
    rintro e w3 ⟨r, rfl, hr0, _, hr1, _, hf3, hc3⟩
    have hr1 := hr1 (by decide)
    have ho3 := (ho2.fr hf3 (.inr (by simp))).wide (lo' := w.heap.size) (hi' := w3.heap.size) (by simp) (Nat.le_trans hf2.size hf3.size) (Nat.le_refl _)
    have hbl := below_new (hf1.trans (hf2.trans hf3))
    go_wp2_with fail
    go_returns
    exact ⟨B, c', xs, _, rfl, hl, hok, by omega, ho3, hbl⟩
  · go_wp2_with fail
    refine (among_c _ _ [-1, (xs.length : Int)] _ _ _ (hc2.alloc _) (by decide) (rd_litI _ _ _) (new_ne hc2.1) (by simp) (by simp)).mono ?_
    rintro e w3 ⟨z, rfl, hz, hf3, hc3⟩
    have hz : -1000 ≤ z ∧ z ≤ 1000 := by simp at hz; omega
    have ho3 := ((ho2.go ((Below.refl _ _).alloc (Nat.le_refl _) _)).fr hf3 (.inr (by simp))).wide (lo' := w.heap.size) (hi' := w3.heap.size) (by simp) (Nat.le_trans hf2.size (Nat.le_trans (by simp) hf3.size)) (Nat.le_refl _)
    have hbl := below_new (hf1.trans ((fr_alloc hf2 _).trans hf3))
    go_wp2_with fail
    go_returns
    exact ⟨B, c', xs, z, rfl, hl, hok, hz, ho3, hbl⟩
set_option maxRecDepth 100000 in
set_option maxHeartbeats 1600000 in
theorem drawGiveOpinion_c (bs : List Int) (A : Option Addr) (c : Nat) (w : World) (hr : Rd encY 1 w.heap.size w A bs) (hn : bs.length ≤ 65536) (hc : bs.length ≤ c) (hb : ∀ b ∈ bs, ByteI b) :
    Calls Try.prog 6 #[.slice A bs.length c] w fun e w' => ∃ (B : Option Addr) (c' : Nat) (xs : List Opinion) (z : Int) (s : ByteArray) (d n : Int), e = .returned (.tuple #[.slice B xs.length c', .int .i64 z, .string s, .int .i64 d, .int .i64 n]) ∧ xs.length ≤ 100 ∧ (∀ x ∈ xs, OkO x) ∧ (0 ≤ z ∧ z ≤ 1000) ∧ s.size ≤ 10 ∧ (-1000001 ≤ d ∧ d ≤ 1000001) ∧ (0 ≤ n ∧ n ≤ 5) ∧ Own encOpinion 5 w.heap.size w'.heap.size w' B xs ∧ Below w.heap.size w w' := by
  have h0 := cur_new w bs A c 60 hr hn hc hb
  go_enter Try.func6, Try.ntmps6
  go_wp2_with fail
  refine (opinions17_c _ 0 _ h0 (by decide)).mono ?_
  rintro e w1 ⟨B, c', xs, rfl, hl, hok, ho, hf1, hc1⟩
  have hs0 : w.heap.size + 1 ≤ w1.heap.size := by have := hf1.size; simp at this; omega
  go_wp2_with fail
  refine (opinionDay_c _ _ xs _ _ _ hc1 (by decide) ho.rd (ho.toNe (by simp)) (by omega) hok).mono ?_
  rintro e w2 ⟨d, rfl, hd, hf2, hc2⟩
  have ho2 := ho.fr hf2 (.inr (by simp))
  have hf2 := hf1.trans hf2
  go_upto_region 5 with fail
  go_cut [10, 27] (fun nn v wx => ∃ (b : Bool) (N : Int), nn = .int .i64 N ∧ Hid (N = xs.length) ∧ v = .bool b ∧ (b = true → 0 < xs.length) ∧ Own encOpinion 5 (w.heap.size + 1) w1.heap.size wx B xs ∧ Fr w.heap.size (w.heap.size + 1) (w.alloc (.cells #[.slice A bs.length c, .int .i64 0, .int .u64 0] 60)) wx ∧ Cur w.heap.size 1500 wx)
  case first =>
    by_cases hz : xs.length = 0
    · have hz' : decide ((0 : Int) < (xs.length : Int)) = false := decide_eq_false (by omega)
      go_wp2_with fail
      go_meet
      exact ⟨false, _, rfl, Lib.hid rfl, rfl, fun h => (by cases h), by simpa using ho2, hf2, hc2.more (by decide)⟩
    · have hz' : decide ((0 : Int) < (xs.length : Int)) = true := decide_eq_true (by omega)
      have hz2 : (0 : Int) < (xs.length : Int) := by omega
      have hz3 : 0 < xs.length := by omega
      go_wp2_with fail
      refine (one_c _ _ 3 _ hc2 (by decide) (by decide)).mono ?_
      rintro e w3 ⟨b, rfl, hf3, hc3⟩
      go_wp2_with fail
      go_meet
      exact ⟨_, _, rfl, Lib.hid rfl, rfl, fun _ => by omega, (by simpa using ho2.fr hf3 (.inr (by simp))), hf2.trans hf3, hc3.more (by decide)⟩
  case rest =>
    obtain ⟨b, N, rfl, HN, rfl, hpos, ho3, hf3, hc3⟩ := hcut
    clear ho2 hf2 hc2
    go_upto_if 27 with fail
    go_cut [9] (fun v wx => ∃ d : Int, v = .int .i64 d ∧ (-1000001 ≤ d ∧ d ≤ 1000001) ∧ Own encOpinion 5 (w.heap.size + 1) w1.heap.size wx B xs ∧ Fr w.heap.size (w.heap.size + 1) (w.alloc (.cells #[.slice A bs.length c, .int .i64 0, .int .u64 0] 60)) wx ∧ Cur w.heap.size 1600 wx)
    case first =>
      cases b
      · go_wp2_with fail
        go_meet
        exact ⟨d, rfl, by omega, ho3, hf3, hc3.more (by decide)⟩
      · have hpos := hpos rfl
        obtain ⟨j, hj⟩ : ∃ j, xs.length = j + 1 := ⟨xs.length - 1, by omega⟩
        have hjl : j < xs.length := by omega
        obtain ⟨bq, off, rfl, hbq, d0, d1, d2, d3, d4⟩ := ho3.rd.atOpinion hjl
        have hne : bq ≠ w.heap.size := ho3.toNe (by omega) hpos _ _ rfl
        obtain ⟨_, _, _, e1, e2, _⟩ := hok _ (List.getElem_mem hjl)
        have hNj : N = (j : Int) + 1 := by have := HN.out; omega
        subst hNj
        have hsub : IntKind.i64.wrap ((j : Int) + 1 - 1) = (j : Int) := by rw [IntWalk.i64_in _ (by omega)]; omega
        have hj0 : (0 : Int) ≤ j := by omega
        have hj1 : (j : Int) < xs.length := by omega
        have hj2 : (j : Int) ≤ xs.length := by omega
        have hwj : IntKind.i64.wrap (j : Int) = (j : Int) := IntWalk.i64_in _ (by omega)
        clear hj HN
        go_upto_region 6 with fail
        go_region_held3 (fun W => W.cell? ⟨bq, off + j * 5 + 2, none⟩ = some (.int .i64 xs[j].day)) (first | exact d2 | assumption | exact (World.cell?_of_block (a := ⟨bq, _, none⟩) (hf4.block bq (by simpa using hbq) (by omega))).trans d2) (first | (go_at_call 35; refine (pick_c _ _ 2 wc.drew (show Cur _ _ wc.drew from hc3) (by decide) (by decide)).mono ?_; rintro e w4 ⟨r, rfl, hr0, _, hr1, _, hf4, hc4⟩; have hr1 := hr1 (by decide)))
        all_goals
          go_wp2_with fail
          go_meet
          exact ⟨_, rfl, (by first | omega | (rw [IntWalk.i64_in _ (by omega)]; omega)), ho3.fr (w := wc) ((fr_drew (Fr.refl _ _ _)).trans hf4) (.inr (Nat.le_refl _)), (fr_drew hf3).trans hf4, hc4.more (by decide)⟩
    case rest =>
      obtain ⟨D, rfl, hD, ho4, hf4, hc4⟩ := hcut
      clear ho3 hf3 hc3
      go_wp2_with fail
      refine (item17_c _ _ _ hc4 (by decide)).mono ?_
      rintro e w5 ⟨z, rfl, hz, hf5, hc5⟩
      go_wp2_with fail
      refine (expertAsk_c _ _ _ hc5 (by decide)).mono ?_
      rintro e w6 ⟨s, rfl, hs, hf6, hc6⟩
      go_wp2_with fail
      refine (pick_c _ _ 24 _ (hc6.alloc _) (by decide) (by decide)).mono ?_
      rintro e w7 ⟨r, rfl, hr0, _, hr1, _, hf7, hc7⟩
      have hr1 := hr1 (by decide)
      have hlit := (rd_litI w6 [1, 2, 3, 4, 0, 5] 3).fr (new_ne hc6.1) hf7
      have ho7 := (((ho4.fr hf5 (.inr (by simp))).fr hf6 (.inr (by simp))).go ((Below.refl _ _).alloc (Nat.le_refl _) _)).fr hf7 (.inr (by simp))
      have hf7 := ((fr_alloc ((hf4.trans hf5).trans hf6) _).trans hf7)
      have h3 : r / 11 = 0 ∨ r / 11 = 1 ∨ r / 11 = 2 := by omega
      rcases h3 with h3 | h3 | h3
      · go_wp2_with fail
        refine (among_c _ _ (List.take 4 [1, 2, 3, 4, 0, 5]) _ 6 _ hc7 (by decide) (hlit.take 4) (new_ne hc6.1) (by decide) (by decide)).mono ?_
        rintro e w8 ⟨n, rfl, hn, hf8, hc8⟩
        have hn : 0 ≤ n ∧ n ≤ 5 := by simp at hn; omega
        have ho8 := (ho7.fr hf8 (.inr (by simp))).wide (lo' := w.heap.size) (hi' := w8.heap.size) (by simp) (Nat.le_trans ho7.1 hf8.size) (Nat.le_refl _)
        have hbl := below_new (hf7.trans hf8)
        clear hlit
        go_wp2_with fail
        go_returns
        exact ⟨B, c', xs, z, s, D, n, rfl, hl, hok, hz, hs, hD, hn, ho8, hbl⟩
      · go_wp2_with fail
        refine (among_c _ _ (List.take 5 [1, 2, 3, 4, 0, 5]) _ 6 _ hc7 (by decide) (hlit.take 5) (new_ne hc6.1) (by decide) (by decide)).mono ?_
        rintro e w8 ⟨n, rfl, hn, hf8, hc8⟩
        have hn : 0 ≤ n ∧ n ≤ 5 := by simp at hn; omega
        have ho8 := (ho7.fr hf8 (.inr (by simp))).wide (lo' := w.heap.size) (hi' := w8.heap.size) (by simp) (Nat.le_trans ho7.1 hf8.size) (Nat.le_refl _)
        have hbl := below_new (hf7.trans hf8)
        clear hlit
        go_wp2_with fail
        go_returns
        exact ⟨B, c', xs, z, s, D, n, rfl, hl, hok, hz, hs, hD, hn, ho8, hbl⟩
      · go_wp2_with fail
        refine (among_c _ _ (List.take 6 [1, 2, 3, 4, 0, 5]) _ 6 _ hc7 (by decide) (hlit.take 6) (new_ne hc6.1) (by decide) (by decide)).mono ?_
        rintro e w8 ⟨n, rfl, hn, hf8, hc8⟩
        have hn : 0 ≤ n ∧ n ≤ 5 := by simp at hn; omega
        have ho8 := (ho7.fr hf8 (.inr (by simp))).wide (lo' := w.heap.size) (hi' := w8.heap.size) (by simp) (Nat.le_trans ho7.1 hf8.size) (Nat.le_refl _)
        have hbl := below_new (hf7.trans hf8)
        clear hlit
        go_wp2_with fail
        go_returns
        exact ⟨B, c', xs, z, s, D, n, rfl, hl, hok, hz, hs, hD, hn, ho8, hbl⟩
end Go.Proofs.Ytfkdefmdnkfpfaa
