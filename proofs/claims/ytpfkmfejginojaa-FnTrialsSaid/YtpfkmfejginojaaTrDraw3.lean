/- Contracts of the draws of the arguments of the laws on trials. No condition but that the code is one that can be. -/
import Derived.Test.YtpfkmfejginojaaTrDraw2
namespace Go.Proofs.Ytpfkmfejginojaa
set_option linter.unusedVariables false
set_option linter.unusedSimpArgs false
open Go.RowKit
attribute [local irreducible] wpQuiet
set_option maxRecDepth 100000 in
set_option maxHeartbeats 1600000 in
theorem drawAreTrials_c (bs : List Int) (A : Option Addr) (c : Nat) (w : World) (hr : Rd encY 1 w.heap.size w A bs) (hn : bs.length ≤ 65536) (hc : bs.length ≤ c) (hb : ∀ b ∈ bs, ByteI b) :
    Calls Try.prog 45 #[.slice A bs.length c] w fun e w' => ∃ (B : Option Addr) (c' : Nat) (xs : List Trial), e = .returned (.slice B xs.length c') ∧ xs.length ≤ 10 ∧ (∀ x ∈ xs, OkT x) ∧ Own encTrial 3 w.heap.size w'.heap.size w' B xs ∧ Below w.heap.size w w' := by
  have h0 := cur_new w bs A c 71 hr hn hc hb
  go_enter Try.func45, Try.ntmps45
  go_wp2_with fail
  refine (trials_c _ 0 _ h0 (by decide)).mono ?_
  rintro e w1 ⟨B, c', xs, rfl, hl, hok, ho, hf1, hc1⟩
  have ho2 := ho.wide (lo' := w.heap.size) (hi' := w1.heap.size) (by simp) (Nat.le_refl _) (Nat.le_refl _)
  have hbl := below_new hf1
  go_wp2_with fail
  go_returns
  exact ⟨B, c', xs, rfl, hl, hok, ho2, hbl⟩
theorem drawBestTrial_c (bs : List Int) (A : Option Addr) (c : Nat) (w : World) (hr : Rd encY 1 w.heap.size w A bs) (hn : bs.length ≤ 65536) (hc : bs.length ≤ c) (hb : ∀ b ∈ bs, ByteI b) :
    Calls Try.prog 22 #[.slice A bs.length c] w fun e w' => ∃ (B : Option Addr) (c' : Nat) (xs : List Trial), e = .returned (.slice B xs.length c') ∧ xs.length ≤ 10 ∧ (∀ x ∈ xs, OkT x) ∧ Own encTrial 3 w.heap.size w'.heap.size w' B xs ∧ Below w.heap.size w w' := by
  have HB := Lib.hid hb
  clear hb
  go_enter Try.func22, Try.ntmps22
  go_wp2_with fail
  refine (drawAreTrials_c bs A c w hr hn hc HB.out).mono ?_
  rintro e w1 ⟨B, c', xs, rfl, hl, hok, ho, hbl⟩
  go_wp2_with fail
  go_returns
  exact ⟨B, c', xs, rfl, hl, hok, ho, hbl⟩
/-- The result's block, behind the reader's: nothing old is turned. -/
theorem below_new2 {w w' : World} {o o2 : Obj} (h : Fr (w.heap.size + 1) (w.heap.size + 2) ((w.alloc o).alloc o2) w') : Below w.heap.size w w' :=
  (((Below.refl _ _).alloc (Nat.le_refl _) _).alloc (by simp) _).trans (h.below (by omega) (by simp; omega))
set_option maxRecDepth 100000 in
set_option maxHeartbeats 1600000 in
theorem drawOddsAfter_c (bs : List Int) (A : Option Addr) (c : Nat) (w : World) (hr : Rd encY 1 w.heap.size w A bs) (hn : bs.length ≤ 65536) (hc : bs.length ≤ c) (hb : ∀ b ∈ bs, ByteI b) :
    Calls Try.prog 49 #[.slice A bs.length c] w fun e w' => ∃ (B : Option Addr) (c' : Nat) (xs : List Trial) (o : Odds) (B2 : Option Addr) (c2 : Nat) (us : List Bool), e = .returned (.tuple #[.slice B xs.length c', .agg #[.int .i64 o.real, .int .i64 o.fake], .slice B2 us.length c2]) ∧ xs.length ≤ 10 ∧ us.length ≤ 11 ∧ (∀ x ∈ xs, OkT x) ∧ OkD o ∧ Own encTrial 3 w.heap.size w'.heap.size w' B xs ∧ Own encB 1 w.heap.size w'.heap.size w' B2 us ∧ Below w.heap.size w w' := by
  have HB := Lib.hid hb
  clear hb
  go_enter Try.func49, Try.ntmps49
  go_wp2_with fail
  have h0 := cur_new (w.alloc (.cells #[.int .i64 0, .int .i64 0] 31)) bs A c 71 (hr.go ((Below.refl _ _).alloc (Nat.le_refl _) _)) hn hc HB.out
  have hb0 := (boxV_at (w.heap.size + 1) w [.int .i64 0, .int .i64 0] 31 (by omega)).alloc (.cells #[.slice A bs.length c, .int .i64 0, .int .u64 0] 71)
  have hz : (w.alloc (.cells #[.int .i64 0, .int .i64 0] 31)).heap.size = w.heap.size + 1 := by simp
  have hy : ((w.alloc (.cells #[.int .i64 0, .int .i64 0] 31)).alloc (.cells #[.slice A bs.length c, .int .i64 0, .int .u64 0] 71)).heap.size = w.heap.size + 2 := by simp
  have hf0 := Fr.refl (w.heap.size + 1) (w.heap.size + 2) ((w.alloc (.cells #[.int .i64 0, .int .i64 0] 31)).alloc (.cells #[.slice A bs.length c, .int .i64 0, .int .u64 0] 71))
  have hB0 := fun (w' : World) (h : Fr (w.heap.size + 1) (w.heap.size + 2) ((w.alloc (.cells #[.int .i64 0, .int .i64 0] 31)).alloc (.cells #[.slice A bs.length c, .int .i64 0, .int .u64 0] 71)) w') => below_new2 h
  rw [hz] at h0
  simp only [List.toArray] at hb0
  generalize (w.alloc (.cells #[.int .i64 0, .int .i64 0] 31)).alloc (.cells #[.slice A bs.length c, .int .i64 0, .int .u64 0] 71) = W at *
  refine (trials_c _ 0 _ h0 (by decide)).mono ?_
  rintro e w1 ⟨B, c', xs, rfl, hl, hok, ho, hf1, hc1⟩
  have hb1 := hb0.fr hf1
  have hf1' := hf0.trans hf1
  have HK := Lib.hid hok
  clear hb0 hf0 hok
  go_wp2_with fail
  refine (odds_c _ _ _ hc1 (by decide)).mono ?_
  rintro e w2 ⟨o, rfl, hO, hf2, hc2⟩
  have hb2 := hb1.fr hf2
  have ho2 := ho.fr hf2 (.inr (by omega))
  have hf2' := hf1'.trans hf2
  clear hb1 ho hf1'
  go_wp2_with fail
  refine (results_c _ _ xs.length _ _ _ hc2 (by decide) hl).mono ?_
  rintro e w3 ⟨B2, c2, us, rfl, hul, hown, hf3, hc3⟩
  have hb3 := hb2.fr hf3
  have s1 := hf1.size
  have s2 := hf2.size
  have s3 := hf3.size
  have ho3 := (ho2.fr hf3 (.inr (by omega))).wide (lo' := w.heap.size + 2) (hi' := w3.heap.size) (by omega) (by omega) (Nat.le_refl _)
  have hown3 := hown.wide (lo' := w.heap.size + 2) (hi' := w3.heap.size) (by omega) (by omega) (Nat.le_refl _)
  have hf3' := hf2'.trans hf3
  have hq3 := hb3.2.2.1
  have y0 := hb3.2.2.2 0 _ rfl
  have y1 := hb3.2.2.2 1 _ rfl
  clear hb2 ho2 hf2' hown hc1 hc2
  go_wp2_with fail
  have hbr := ((hb3.set 0 (by decide) (.int .i64 o.real)).set 1 (by simp) (.int .i64 o.fake))
  simp only [List.set] at hbr
  have hS : Fr w.heap.size (w.heap.size + 1) w3 ((w3.setCell ⟨w.heap.size, 0, none⟩ (.int .i64 o.real)).setCell ⟨w.heap.size, 1, none⟩ (.int .i64 o.fake)) :=
    ((Fr.refl _ _ _).setCell (p := ⟨w.heap.size, 0, none⟩) (Nat.le_refl _) (Nat.lt_succ_self _) _).setCell (p := ⟨w.heap.size, 1, none⟩) (Nat.le_refl _) (Nat.lt_succ_self _) _
  have hbl : Below w.heap.size w ((w3.setCell ⟨w.heap.size, 0, none⟩ (.int .i64 o.real)).setCell ⟨w.heap.size, 1, none⟩ (.int .i64 o.fake)) := (hB0 _ hf3').trans (hS.below (Nat.le_refl _) (by omega))
  have ho4 := (ho3.fr hS (.inr (by omega))).wide (lo' := w.heap.size) (hi' := w3.heap.size) (by omega) (Nat.le_refl _) hS.size
  have hown4 := (hown3.fr hS (.inr (by omega))).wide (lo' := w.heap.size) (hi' := w3.heap.size) (by omega) (Nat.le_refl _) hS.size
  have ho4 := ho4.wide (Nat.le_refl _) hS.size (Nat.le_refl _)
  have hown4 := hown4.wide (Nat.le_refl _) hS.size (Nat.le_refl _)
  generalize (w3.setCell ⟨w.heap.size, 0, none⟩ (.int .i64 o.real)).setCell ⟨w.heap.size, 1, none⟩ (.int .i64 o.fake) = WR at *
  have r0 := hbr.2.2.2 0 _ rfl
  have r1 := hbr.2.2.2 1 _ rfl
  refine bodyPost_ret (v := .tuple #[.slice B xs.length c', .agg #[.int .i64 o.real, .int .i64 o.fake], .slice B2 us.length c2]) (by simp [results, Try.results49, go_sem, r0, r1]) rfl ?_
  exact ⟨B, c', xs, o, B2, c2, us, rfl, hl, hul, HK.out, hO, ho4, hown4, hbl⟩
set_option maxRecDepth 100000 in
set_option maxHeartbeats 1600000 in
theorem drawFewestTrials_c (bs : List Int) (A : Option Addr) (c : Nat) (w : World) (hr : Rd encY 1 w.heap.size w A bs) (hn : bs.length ≤ 65536) (hc : bs.length ≤ c) (hb : ∀ b ∈ bs, ByteI b) :
    Calls Try.prog 19 #[.slice A bs.length c] w fun e w' => ∃ (B : Option Addr) (c' : Nat) (xs : List Trial) (o : Odds) (n d : Int), e = .returned (.tuple #[.slice B xs.length c', .agg #[.int .i64 o.real, .int .i64 o.fake], .int .i64 n, .int .i64 d]) ∧ xs.length ≤ 10 ∧ (0 ≤ n ∧ n ≤ 1000) ∧ (0 ≤ d ∧ d ≤ 1001) ∧ (∀ x ∈ xs, OkT x) ∧ OkD o ∧ Own encTrial 3 w.heap.size w'.heap.size w' B xs ∧ Below w.heap.size w w' := by
  have HB := Lib.hid hb
  clear hb
  go_enter Try.func19, Try.ntmps19
  go_wp2_with fail
  have h0 := cur_new (w.alloc (.cells #[.int .i64 0, .int .i64 0] 31)) bs A c 71 (hr.go ((Below.refl _ _).alloc (Nat.le_refl _) _)) hn hc HB.out
  have hb0 := (boxV_at (w.heap.size + 1) w [.int .i64 0, .int .i64 0] 31 (by omega)).alloc (.cells #[.slice A bs.length c, .int .i64 0, .int .u64 0] 71)
  have hz : (w.alloc (.cells #[.int .i64 0, .int .i64 0] 31)).heap.size = w.heap.size + 1 := by simp
  have hy : ((w.alloc (.cells #[.int .i64 0, .int .i64 0] 31)).alloc (.cells #[.slice A bs.length c, .int .i64 0, .int .u64 0] 71)).heap.size = w.heap.size + 2 := by simp
  have hf0 := Fr.refl (w.heap.size + 1) (w.heap.size + 2) ((w.alloc (.cells #[.int .i64 0, .int .i64 0] 31)).alloc (.cells #[.slice A bs.length c, .int .i64 0, .int .u64 0] 71))
  have hB0 := fun (w' : World) (h : Fr (w.heap.size + 1) (w.heap.size + 2) ((w.alloc (.cells #[.int .i64 0, .int .i64 0] 31)).alloc (.cells #[.slice A bs.length c, .int .i64 0, .int .u64 0] 71)) w') => below_new2 h
  rw [hz] at h0
  simp only [List.toArray] at hb0
  generalize (w.alloc (.cells #[.int .i64 0, .int .i64 0] 31)).alloc (.cells #[.slice A bs.length c, .int .i64 0, .int .u64 0] 71) = W at *
  refine (trials_c _ 0 _ h0 (by decide)).mono ?_
  rintro e w1 ⟨B, c', xs, rfl, hl, hok, ho, hf1, hc1⟩
  have hb1 := hb0.fr hf1
  have hf1' := hf0.trans hf1
  have HK := Lib.hid hok
  clear hb0 hf0 hok
  go_wp2_with fail
  refine (odds_c _ _ _ hc1 (by decide)).mono ?_
  rintro e w2 ⟨o, rfl, hO, hf2, hc2⟩
  have hb2 := hb1.fr hf2
  have ho2 := ho.fr hf2 (.inr (by omega))
  have hf2' := hf1'.trans hf2
  clear hb1 ho hf1'
  go_wp2_with fail
  refine (among_c _ _ [1, 3, 9, 95, 999, 0] _ _ _ (hc2.alloc _) (by decide) (rd_litI _ _ _) (new_ne hc2.1) (by decide) (by decide)).mono ?_
  rintro e w2' ⟨n, rfl, hn, hf2a, hc2a⟩
  have hnn : 0 ≤ n ∧ n ≤ 1000 := by simp at hn; omega
  have hb2 := (hb2.alloc _).fr hf2a
  have ho2 := (ho2.go ((Below.refl _ _).alloc (Nat.le_refl _) _)).fr hf2a (.inr (by omega))
  have hf2a' := (fr_alloc hf2' _).trans hf2a
  have s3 := hf2a.size
  have s4 : w2.heap.size ≤ w2'.heap.size := Nat.le_trans (by simp) s3
  clear hf2' hn
  go_wp2_with fail
  refine (among_c _ _ [10, 100, 100, 1000, 1, 1001] _ _ _ (hc2a.alloc _) (by decide) (rd_litI _ _ _) (new_ne hc2a.1) (by decide) (by decide)).mono ?_
  rintro e w3 ⟨d, rfl, hd, hf3, hc3⟩
  have hdd : 0 ≤ d ∧ d ≤ 1001 := by simp at hd; omega
  have hb3 := (hb2.alloc _).fr hf3
  have s1 := hf1.size
  have s2 := hf2.size
  have s5 : w2'.heap.size ≤ w3.heap.size := Nat.le_trans (by simp) hf3.size
  have ho3 := ((ho2.go ((Below.refl _ _).alloc (Nat.le_refl _) _)).fr hf3 (.inr (by omega))).wide (lo' := w.heap.size + 2) (hi' := w3.heap.size) (by omega) (by omega) (Nat.le_refl _)
  have hf2' := fr_alloc hf2a' (.cells ([10, 100, 100, 1000, 1, 1001].map (Value.int .i64)).toArray 3)
  have hf3' := hf2'.trans hf3
  have hq3 := hb3.2.2.1
  have y0 := hb3.2.2.2 0 _ rfl
  have y1 := hb3.2.2.2 1 _ rfl
  clear hb2 ho2 hf2' hc1 hc2
  go_wp2_with fail
  have hbr := ((hb3.set 0 (by decide) (.int .i64 o.real)).set 1 (by simp) (.int .i64 o.fake))
  simp only [List.set] at hbr
  have hS : Fr w.heap.size (w.heap.size + 1) w3 ((w3.setCell ⟨w.heap.size, 0, none⟩ (.int .i64 o.real)).setCell ⟨w.heap.size, 1, none⟩ (.int .i64 o.fake)) :=
    ((Fr.refl _ _ _).setCell (p := ⟨w.heap.size, 0, none⟩) (Nat.le_refl _) (Nat.lt_succ_self _) _).setCell (p := ⟨w.heap.size, 1, none⟩) (Nat.le_refl _) (Nat.lt_succ_self _) _
  have hbl : Below w.heap.size w ((w3.setCell ⟨w.heap.size, 0, none⟩ (.int .i64 o.real)).setCell ⟨w.heap.size, 1, none⟩ (.int .i64 o.fake)) := (hB0 _ hf3').trans (hS.below (Nat.le_refl _) (by omega))
  have ho4 := (ho3.fr hS (.inr (by omega))).wide (lo' := w.heap.size) (hi' := w3.heap.size) (by omega) (Nat.le_refl _) hS.size
  have ho4 := ho4.wide (Nat.le_refl _) hS.size (Nat.le_refl _)
  generalize (w3.setCell ⟨w.heap.size, 0, none⟩ (.int .i64 o.real)).setCell ⟨w.heap.size, 1, none⟩ (.int .i64 o.fake) = WR at *
  have r0 := hbr.2.2.2 0 _ rfl
  have r1 := hbr.2.2.2 1 _ rfl
  refine bodyPost_ret (v := .tuple #[.slice B xs.length c', .agg #[.int .i64 o.real, .int .i64 o.fake], .int .i64 n, .int .i64 d]) (by simp [results, Try.results19, go_sem, r0, r1]) rfl ?_
  exact ⟨B, c', xs, o, n, d, rfl, hl, hnn, hdd, HK.out, hO, ho4, hbl⟩
set_option maxRecDepth 100000 in
set_option maxHeartbeats 1600000 in
theorem drawResultChance_c (bs : List Int) (A : Option Addr) (c : Nat) (w : World) (hr : Rd encY 1 w.heap.size w A bs) (hn : bs.length ≤ 65536) (hc : bs.length ≤ c) (hb : ∀ b ∈ bs, ByteI b) :
    Calls Try.prog 25 #[.slice A bs.length c] w fun e w' => ∃ (B : Option Addr) (c' : Nat) (xs : List Trial) (o : Odds) (B2 : Option Addr) (c2 : Nat) (us : List Bool), e = .returned (.tuple #[.slice B xs.length c', .agg #[.int .i64 o.real, .int .i64 o.fake], .slice B2 us.length c2]) ∧ xs.length ≤ 10 ∧ us.length ≤ 11 ∧ (∀ x ∈ xs, OkT x) ∧ OkD o ∧ Own encTrial 3 w.heap.size w'.heap.size w' B xs ∧ Own encB 1 w.heap.size w'.heap.size w' B2 us ∧ Below w.heap.size w w' := by
  have HB := Lib.hid hb
  clear hb
  go_enter Try.func25, Try.ntmps25
  go_wp2_with fail
  have hA := (Below.refl w.heap.size w).alloc (Nat.le_refl _) (.cells #[.int .i64 0, .int .i64 0] 31)
  have hb0 := boxV_at (w.heap.size + 1) w [.int .i64 0, .int .i64 0] 31 (by omega)
  have hz : (w.alloc (.cells #[.int .i64 0, .int .i64 0] 31)).heap.size = w.heap.size + 1 := by simp
  simp only [List.toArray] at hb0
  generalize w.alloc (.cells #[.int .i64 0, .int .i64 0] 31) = W at *
  refine (drawOddsAfter_c bs A c W (hr.go hA) hn hc HB.out).mono ?_
  rintro e w3 ⟨B, c', xs, o, B2, c2, us, rfl, hl, hul, hok, hO, ho, hown, hbl3⟩
  have HK := Lib.hid hok
  have hb3 := hb0.below hbl3
  have s1 := hbl3.size
  rw [hz] at ho hown
  clear hok hb0
  have hq3 := hb3.2.2.1
  have y0 := hb3.2.2.2 0 _ rfl
  have y1 := hb3.2.2.2 1 _ rfl
  go_wp2_with fail
  have hbr := ((hb3.set 0 (by decide) (.int .i64 o.real)).set 1 (by simp) (.int .i64 o.fake))
  simp only [List.set] at hbr
  have hS : Fr w.heap.size (w.heap.size + 1) w3 ((w3.setCell ⟨w.heap.size, 0, none⟩ (.int .i64 o.real)).setCell ⟨w.heap.size, 1, none⟩ (.int .i64 o.fake)) :=
    ((Fr.refl _ _ _).setCell (p := ⟨w.heap.size, 0, none⟩) (Nat.le_refl _) (Nat.lt_succ_self _) _).setCell (p := ⟨w.heap.size, 1, none⟩) (Nat.le_refl _) (Nat.lt_succ_self _) _
  have hbl : Below w.heap.size w ((w3.setCell ⟨w.heap.size, 0, none⟩ (.int .i64 o.real)).setCell ⟨w.heap.size, 1, none⟩ (.int .i64 o.fake)) := (hA.trans (hbl3.mono (by omega))).trans (hS.below (Nat.le_refl _) (by omega))
  have ho4 := ((ho.fr hS (.inr (by omega))).wide (lo' := w.heap.size) (hi' := w3.heap.size) (by omega) (Nat.le_refl _) hS.size).wide (Nat.le_refl _) hS.size (Nat.le_refl _)
  have hown4 := ((hown.fr hS (.inr (by omega))).wide (lo' := w.heap.size) (hi' := w3.heap.size) (by omega) (Nat.le_refl _) hS.size).wide (Nat.le_refl _) hS.size (Nat.le_refl _)
  generalize (w3.setCell ⟨w.heap.size, 0, none⟩ (.int .i64 o.real)).setCell ⟨w.heap.size, 1, none⟩ (.int .i64 o.fake) = WR at *
  have r0 := hbr.2.2.2 0 _ rfl
  have r1 := hbr.2.2.2 1 _ rfl
  refine bodyPost_ret (v := .tuple #[.slice B xs.length c', .agg #[.int .i64 o.real, .int .i64 o.fake], .slice B2 us.length c2]) (by simp [results, Try.results25, go_sem, r0, r1]) rfl ?_
  exact ⟨B, c', xs, o, B2, c2, us, rfl, hl, hul, HK.out, hO, ho4, hown4, hbl⟩
end Go.Proofs.Ytpfkmfejginojaa
