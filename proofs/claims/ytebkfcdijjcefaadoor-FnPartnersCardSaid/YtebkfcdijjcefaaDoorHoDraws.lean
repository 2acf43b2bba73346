/- Contracts of the draws of arguments for the law FnPartners. No condition but that the code is one that can be. -/
import Derived.Test.YtebkfcdijjcefaaDoorHoHolds
namespace Go.Proofs.YtebkfcdijjcefaaDoor
set_option linter.unusedVariables false
set_option linter.unusedSimpArgs false
open Go.RowKit
attribute [local irreducible] wpQuiet
set_option maxRecDepth 100000 in
set_option maxHeartbeats 1600000 in
theorem dDoublesOf_c (bs : List Int) (A : Option Addr) (c : Nat) (w : World) (hr : Rd encY 1 w.heap.size w A bs) (hn : bs.length ≤ 65536) (hc : bs.length ≤ c) (hb : ∀ b ∈ bs, ByteI b) :
    Calls Tryd.prog 26 #[.slice A bs.length c] w fun e w' => ∃ (B : Option Addr) (c' : Nat) (xs : List Hold) (o0 : ByteArray), e = .returned (.tuple #[.slice B xs.length c', .string o0]) ∧ xs.length ≤ 100 ∧ (∀ x ∈ xs, OkH x) ∧ o0.size ≤ 10 ∧ Own encHold 3 w.heap.size w'.heap.size w' B xs ∧ Below w.heap.size w w' := by
  have h0 := cur_new w bs A c 64 hr hn hc hb
  go_enter Tryd.func26, Tryd.ntmps26
  go_wp2_with fail
  refine (holds19_c _ 0 _ h0 (by decide)).mono ?_
  rintro e w1 ⟨B, c', xs, rfl, hl, hok, ho1, hf1, hc1⟩
  have hg1 : w.heap.size + 1 ≤ w1.heap.size := by have := hf1.size; simp at this; omega
  go_wp2_with fail
  refine (owner19_c _ _ _ hc1 (by decide)).mono ?_
  rintro e w2 ⟨o0, rfl, hvo0, hf2, hc2⟩
  have ho2 := (ho1.fr hf2 (.inr (by simp))).wide (Nat.le_refl _) hf2.size (Nat.le_refl _)
  have hf2 := hf1.trans hf2
  clear ho1 hc1 hf1
  go_wp2_with fail
  have ho9 := ho2.wide (lo' := w.heap.size) (hi' := w2.heap.size) (by simp) (Nat.le_refl _) (Nat.le_refl _)
  have hbl := below_new hf2
  go_returns
  exact ⟨B, c', xs, o0, rfl, hl, hok, hvo0, ho9, hbl⟩
set_option maxRecDepth 100000 in
set_option maxHeartbeats 1600000 in
theorem dCountOf_c (bs : List Int) (A : Option Addr) (c : Nat) (w : World) (hr : Rd encY 1 w.heap.size w A bs) (hn : bs.length ≤ 65536) (hc : bs.length ≤ c) (hb : ∀ b ∈ bs, ByteI b) :
    Calls Tryd.prog 36 #[.slice A bs.length c] w fun e w' => ∃ (B : Option Addr) (c' : Nat) (xs : List Hold) (o0 : ByteArray) (i1 : Int), e = .returned (.tuple #[.slice B xs.length c', .string o0, .int .i64 i1]) ∧ xs.length ≤ 100 ∧ (∀ x ∈ xs, OkH x) ∧ o0.size ≤ 10 ∧ (0 ≤ i1 ∧ i1 ≤ 100) ∧ Own encHold 3 w.heap.size w'.heap.size w' B xs ∧ Below w.heap.size w w' := by
  have h0 := cur_new w bs A c 64 hr hn hc hb
  go_enter Tryd.func36, Tryd.ntmps36
  go_wp2_with fail
  refine (holds19_c _ 0 _ h0 (by decide)).mono ?_
  rintro e w1 ⟨B, c', xs, rfl, hl, hok, ho1, hf1, hc1⟩
  have hg1 : w.heap.size + 1 ≤ w1.heap.size := by have := hf1.size; simp at this; omega
  go_wp2_with fail
  refine (owner19_c _ _ _ hc1 (by decide)).mono ?_
  rintro e w2 ⟨o0, rfl, hvo0, hf2, hc2⟩
  have ho2 := (ho1.fr hf2 (.inr (by simp))).wide (Nat.le_refl _) hf2.size (Nat.le_refl _)
  have hf2 := hf1.trans hf2
  clear ho1 hc1 hf1
  go_wp2_with fail
  refine (item19_c _ _ _ hc2 (by decide)).mono ?_
  rintro e w3 ⟨i1, rfl, hvi1, hf3, hc3⟩
  have ho3 := (ho2.fr hf3 (.inr (by simp))).wide (Nat.le_refl _) hf3.size (Nat.le_refl _)
  have hf3 := hf2.trans hf3
  clear ho2 hc2 hf2
  go_wp2_with fail
  have ho9 := ho3.wide (lo' := w.heap.size) (hi' := w3.heap.size) (by simp) (Nat.le_refl _) (Nat.le_refl _)
  have hbl := below_new hf3
  go_returns
  exact ⟨B, c', xs, o0, i1, rfl, hl, hok, hvo0, hvi1, ho9, hbl⟩
set_option maxRecDepth 100000 in
set_option maxHeartbeats 1600000 in
theorem dCanGive_c (bs : List Int) (A : Option Addr) (c : Nat) (w : World) (hr : Rd encY 1 w.heap.size w A bs) (hn : bs.length ≤ 65536) (hc : bs.length ≤ c) (hb : ∀ b ∈ bs, ByteI b) :
    Calls Tryd.prog 40 #[.slice A bs.length c] w fun e w' => ∃ (B : Option Addr) (c' : Nat) (xs : List Hold) (o0 : ByteArray) (o1 : ByteArray), e = .returned (.tuple #[.slice B xs.length c', .string o0, .string o1]) ∧ xs.length ≤ 100 ∧ (∀ x ∈ xs, OkH x) ∧ o0.size ≤ 10 ∧ o1.size ≤ 10 ∧ Own encHold 3 w.heap.size w'.heap.size w' B xs ∧ Below w.heap.size w w' := by
  have h0 := cur_new w bs A c 64 hr hn hc hb
  go_enter Tryd.func40, Tryd.ntmps40
  go_wp2_with fail
  refine (holds19_c _ 0 _ h0 (by decide)).mono ?_
  rintro e w1 ⟨B, c', xs, rfl, hl, hok, ho1, hf1, hc1⟩
  have hg1 : w.heap.size + 1 ≤ w1.heap.size := by have := hf1.size; simp at this; omega
  go_wp2_with fail
  refine (owner19_c _ _ _ hc1 (by decide)).mono ?_
  rintro e w2 ⟨o0, rfl, hvo0, hf2, hc2⟩
  have ho2 := (ho1.fr hf2 (.inr (by simp))).wide (Nat.le_refl _) hf2.size (Nat.le_refl _)
  have hf2 := hf1.trans hf2
  clear ho1 hc1 hf1
  go_wp2_with fail
  refine (owner19_c _ _ _ hc2 (by decide)).mono ?_
  rintro e w3 ⟨o1, rfl, hvo1, hf3, hc3⟩
  have ho3 := (ho2.fr hf3 (.inr (by simp))).wide (Nat.le_refl _) hf3.size (Nat.le_refl _)
  have hf3 := hf2.trans hf3
  clear ho2 hc2 hf2
  go_wp2_with fail
  have ho9 := ho3.wide (lo' := w.heap.size) (hi' := w3.heap.size) (by simp) (Nat.le_refl _) (Nat.le_refl _)
  have hbl := below_new hf3
  go_returns
  exact ⟨B, c', xs, o0, o1, rfl, hl, hok, hvo0, hvo1, ho9, hbl⟩
set_option maxRecDepth 100000 in
set_option maxHeartbeats 1600000 in
theorem dOwnersOf_c (bs : List Int) (A : Option Addr) (c : Nat) (w : World) (hr : Rd encY 1 w.heap.size w A bs) (hn : bs.length ≤ 65536) (hc : bs.length ≤ c) (hb : ∀ b ∈ bs, ByteI b) :
    Calls Tryd.prog 20 #[.slice A bs.length c] w fun e w' => ∃ (B : Option Addr) (c' : Nat) (xs : List Hold) (i0 : Int), e = .returned (.tuple #[.slice B xs.length c', .int .i64 i0]) ∧ xs.length ≤ 100 ∧ (∀ x ∈ xs, OkH x) ∧ (0 ≤ i0 ∧ i0 ≤ 100) ∧ Own encHold 3 w.heap.size w'.heap.size w' B xs ∧ Below w.heap.size w w' := by
  have h0 := cur_new w bs A c 64 hr hn hc hb
  go_enter Tryd.func20, Tryd.ntmps20
  go_wp2_with fail
  refine (holds19_c _ 0 _ h0 (by decide)).mono ?_
  rintro e w1 ⟨B, c', xs, rfl, hl, hok, ho1, hf1, hc1⟩
  have hg1 : w.heap.size + 1 ≤ w1.heap.size := by have := hf1.size; simp at this; omega
  go_wp2_with fail
  refine (item19_c _ _ _ hc1 (by decide)).mono ?_
  rintro e w2 ⟨i0, rfl, hvi0, hf2, hc2⟩
  have ho2 := (ho1.fr hf2 (.inr (by simp))).wide (Nat.le_refl _) hf2.size (Nat.le_refl _)
  have hf2 := hf1.trans hf2
  clear ho1 hc1 hf1
  go_wp2_with fail
  have ho9 := ho2.wide (lo' := w.heap.size) (hi' := w2.heap.size) (by simp) (Nat.le_refl _) (Nat.le_refl _)
  have hbl := below_new hf2
  go_returns
  exact ⟨B, c', xs, i0, rfl, hl, hok, hvi0, ho9, hbl⟩
set_option maxRecDepth 100000 in
set_option maxHeartbeats 1600000 in
theorem dBestPartner_c (bs : List Int) (A : Option Addr) (c : Nat) (w : World) (hr : Rd encY 1 w.heap.size w A bs) (hn : bs.length ≤ 65536) (hc : bs.length ≤ c) (hb : ∀ b ∈ bs, ByteI b) :
    Calls Tryd.prog 5 #[.slice A bs.length c] w fun e w' => ∃ (B : Option Addr) (c' : Nat) (xs : List Hold) (o0 : ByteArray), e = .returned (.tuple #[.slice B xs.length c', .string o0]) ∧ xs.length ≤ 100 ∧ (∀ x ∈ xs, OkH x) ∧ o0.size ≤ 10 ∧ Own encHold 3 w.heap.size w'.heap.size w' B xs ∧ Below w.heap.size w w' := by
  go_enter Tryd.func5, Tryd.ntmps5
  go_wp2_with fail
  refine (dDoublesOf_c bs A c w hr hn hc hb).mono ?_
  rintro e w1 ⟨B, c', xs, o0, rfl, hl, hok, hvo0, ho9, hbl⟩
  go_wp2_with fail
  go_returns
  exact ⟨B, c', xs, o0, rfl, hl, hok, hvo0, ho9, hbl⟩
set_option maxRecDepth 100000 in
set_option maxHeartbeats 1600000 in
theorem dMissingUpTo_c (bs : List Int) (A : Option Addr) (c : Nat) (w : World) (hr : Rd encY 1 w.heap.size w A bs) (hn : bs.length ≤ 65536) (hc : bs.length ≤ c) (hb : ∀ b ∈ bs, ByteI b) :
    Calls Tryd.prog 13 #[.slice A bs.length c] w fun e w' => ∃ (B : Option Addr) (c' : Nat) (xs : List Hold) (o0 : ByteArray) (i1 : Int), e = .returned (.tuple #[.slice B xs.length c', .string o0, .int .i64 i1]) ∧ xs.length ≤ 100 ∧ (∀ x ∈ xs, OkH x) ∧ o0.size ≤ 10 ∧ (0 ≤ i1 ∧ i1 ≤ 100) ∧ Own encHold 3 w.heap.size w'.heap.size w' B xs ∧ Below w.heap.size w w' := by
  go_enter Tryd.func13, Tryd.ntmps13
  go_wp2_with fail
  refine (dCountOf_c bs A c w hr hn hc hb).mono ?_
  rintro e w1 ⟨B, c', xs, o0, i1, rfl, hl, hok, hvo0, hvi1, ho9, hbl⟩
  go_wp2_with fail
  go_returns
  exact ⟨B, c', xs, o0, i1, rfl, hl, hok, hvo0, hvi1, ho9, hbl⟩
set_option maxRecDepth 100000 in
set_option maxHeartbeats 1600000 in
theorem dSwapPairs_c (bs : List Int) (A : Option Addr) (c : Nat) (w : World) (hr : Rd encY 1 w.heap.size w A bs) (hn : bs.length ≤ 65536) (hc : bs.length ≤ c) (hb : ∀ b ∈ bs, ByteI b) :
    Calls Tryd.prog 18 #[.slice A bs.length c] w fun e w' => ∃ (B : Option Addr) (c' : Nat) (xs : List Hold) (o0 : ByteArray) (o1 : ByteArray), e = .returned (.tuple #[.slice B xs.length c', .string o0, .string o1]) ∧ xs.length ≤ 100 ∧ (∀ x ∈ xs, OkH x) ∧ o0.size ≤ 10 ∧ o1.size ≤ 10 ∧ Own encHold 3 w.heap.size w'.heap.size w' B xs ∧ Below w.heap.size w w' := by
  go_enter Tryd.func18, Tryd.ntmps18
  go_wp2_with fail
  refine (dCanGive_c bs A c w hr hn hc hb).mono ?_
  rintro e w1 ⟨B, c', xs, o0, o1, rfl, hl, hok, hvo0, hvo1, ho9, hbl⟩
  go_wp2_with fail
  go_returns
  exact ⟨B, c', xs, o0, o1, rfl, hl, hok, hvo0, hvo1, ho9, hbl⟩
set_option maxRecDepth 100000 in
set_option maxHeartbeats 1600000 in
theorem dHoldText_c (bs : List Int) (A : Option Addr) (c : Nat) (w : World) (hr : Rd encY 1 w.heap.size w A bs) (hn : bs.length ≤ 65536) (hc : bs.length ≤ c) (hb : ∀ b ∈ bs, ByteI b) :
    Calls Tryd.prog 22 #[.slice A bs.length c] w fun e w' => ∃ x : Hold, e = .returned (.agg #[.string x.owner, .int .i64 x.item, .int .i64 x.count]) ∧ OkH x ∧ Below w.heap.size w w' := by
  have hal := (Below.refl w.heap.size w).alloc (Nat.le_refl _) (.cells #[.string ⟨#[]⟩, .int .i64 0, .int .i64 0] 30)
  have hbx := boxV_at (w.heap.size + 1) w [.string ⟨#[]⟩, .int .i64 0, .int .i64 0] 30 (by omega)
  have h0 := cur_new (w.alloc (.cells #[.string ⟨#[]⟩, .int .i64 0, .int .i64 0] 30)) bs A c 64 (hr.go hal) hn hc hb
  have hsz : (w.alloc (.cells #[.string ⟨#[]⟩, .int .i64 0, .int .i64 0] 30)).heap.size = w.heap.size + 1 := by simp
  simp only [List.toArray] at hbx
  go_enter Tryd.func22, Tryd.ntmps22
  go_wp2_with fail
  generalize w.alloc (.cells #[.string ⟨#[]⟩, .int .i64 0, .int .i64 0] 30) = V at *
  rw [hsz] at h0
  have hbx := hbx.alloc (.cells #[.slice A bs.length c, .int .i64 0, .int .u64 0] 64)
  have hf0 := fr_alloc (Fr.refl (w.heap.size + 1) (w.heap.size + 1 + 1) V) (.cells #[.slice A bs.length c, .int .i64 0, .int .u64 0] 64)
  refine (holds19_c _ 0 _ h0 (by decide)).mono ?_
  rintro e w1 ⟨B, c', xs, rfl, hl, hok, ho1, hf1, hc1⟩
  have hbx := hbx.fr hf1
  have hf1 := hf0.trans hf1
  have hsq : w.heap.size + 1 < w1.heap.size := hc1.1
  clear hf0 h0
  by_cases hz : xs.length = 0
  · have hz' : ((xs.length : Int) == 0) = true := by simp [hz]
    have hF1 := (Fr.of_below (lo := w.heap.size + 1) (hi := w.heap.size + 1 + 1) hal).trans hf1
    go_wp2_with fail
    refine (pick_c _ _ 3 _ hc1 (by decide) (by decide)).mono ?_
    rintro e w2 ⟨r, rfl, hr0, _, hr1, _, hf2, hc2⟩
    have hr1 := hr1 (by decide)
    have hbx := hbx.fr hf2
    have hF2 := hF1.trans hf2
    have HBX := Lib.hid hbx
    obtain ⟨_, hz1, hz2, hz3⟩ := hbx
    have y0 := hz3 0 _ rfl
    have y1 := hz3 1 _ rfl
    have y2 := hz3 2 _ rfl
    clear hz3 hc1 hf1 hF1 ho1 hok hc2 hf2
    go_wp2_with fail
    have hbr := ((HBX.out.set 0 (by decide) (.string ⟨#[98, 111]⟩)).set 1 (by simp) (.int .i64 r)).set 2 (by simp) (.int .i64 1)
    simp only [List.set] at hbr
    have hfr := fr_set (p := w.heap.size) (j := 2) (u := .int .i64 1) (fr_set (p := w.heap.size) (j := 1) (u := .int .i64 r) (fr_set (p := w.heap.size) (j := 0) (u := .string ⟨#[98, 111]⟩) hF2 (Nat.le_refl _)) (Nat.le_refl _)) (Nat.le_refl _)
    generalize ((w2.setCell ⟨w.heap.size, 0, none⟩ (.string ⟨#[98, 111]⟩)).setCell ⟨w.heap.size, 1, none⟩ (.int .i64 r)).setCell ⟨w.heap.size, 2, none⟩ (.int .i64 1) = WR at *
    have r0 := hbr.2.2.2 0 _ rfl
    have r1 := hbr.2.2.2 1 _ rfl
    have r2 := hbr.2.2.2 2 _ rfl
    refine bodyPost_ret (v := .agg #[.string ⟨#[98, 111]⟩, .int .i64 r, .int .i64 1]) (by simp [results, Tryd.results22, go_sem, r0, r1, r2]) rfl ?_
    exact ⟨⟨⟨#[98, 111]⟩, r, 1⟩, rfl, ⟨(show (2 : Nat) ≤ 10 by decide), ⟨by simp only; omega, by simp only; omega⟩, ⟨(show (0 : Int) ≤ 1 by decide), (show (1 : Int) ≤ 100 by decide)⟩⟩, hfr.below (by omega) (Nat.le_refl _)⟩
  · have hz' : ((xs.length : Int) == 0) = false := by simpa using hz
    have hF1 := (Fr.of_below (lo := w.heap.size + 1) (hi := w.heap.size + 1 + 1) hal).trans hf1
    go_wp2_with fail
    refine (pick_c _ _ xs.length _ hc1 (by decide) (by omega)).mono ?_
    rintro e w2 ⟨r, rfl, hr0, _, hr1, hr2, hf2, hc2⟩
    obtain ⟨j, hj, rfl⟩ := pick_nat hr0 hr1 hr2 (by omega)
    have ho2 := (ho1.fr hf2 (.inr (by simp; omega))).wide (lo' := w.heap.size) (hi' := w2.heap.size) (by simp; omega) hf2.size (Nat.le_refl _)
    have hbx := hbx.fr hf2
    have hF2 := hF1.trans hf2
    have HBX := Lib.hid hbx
    obtain ⟨_, hz1, hz2, hz3⟩ := hbx
    have y0 := hz3 0 _ rfl
    have y1 := hz3 1 _ rfl
    have y2 := hz3 2 _ rfl
    have hokj := hok xs[j] (List.getElem_mem hj)
    obtain ⟨b, off, hAe, hbs, d0, d1, d2⟩ := ho2.rd.atHold hj
    subst hAe
    have hj0 : (0 : Int) ≤ (j : Int) := by omega
    have hj1 : (j : Int) < (xs.length : Int) := by omega
    generalize xs[j] = y at d0 d1 d2 hokj
    obtain ⟨yo, yi, yc⟩ := y
    simp only at d0 d1 d2
    clear hz3 hc1 hf1 hF1 ho1 hok hc2 hf2 hr0 hr1 hr2 ho2
    go_wp2_with fail
    have hbr := ((HBX.out.set 0 (by decide) (.string yo)).set 1 (by simp) (.int .i64 yi)).set 2 (by simp) (.int .i64 yc)
    simp only [List.set] at hbr
    have hfr := fr_set (p := w.heap.size) (j := 2) (u := .int .i64 yc) (fr_set (p := w.heap.size) (j := 1) (u := .int .i64 yi) (fr_set (p := w.heap.size) (j := 0) (u := .string yo) hF2 (Nat.le_refl _)) (Nat.le_refl _)) (Nat.le_refl _)
    generalize ((w2.setCell ⟨w.heap.size, 0, none⟩ (.string yo)).setCell ⟨w.heap.size, 1, none⟩ (.int .i64 yi)).setCell ⟨w.heap.size, 2, none⟩ (.int .i64 yc) = WR at *
    have r0 := hbr.2.2.2 0 _ rfl
    have r1 := hbr.2.2.2 1 _ rfl
    have r2 := hbr.2.2.2 2 _ rfl
    refine bodyPost_ret (v := .agg #[.string yo, .int .i64 yi, .int .i64 yc]) (by simp [results, Tryd.results22, go_sem, r0, r1, r2]) rfl ?_
    exact ⟨⟨yo, yi, yc⟩, rfl, hokj, hfr.below (by omega) (Nat.le_refl _)⟩
end Go.Proofs.YtebkfcdijjcefaaDoor
