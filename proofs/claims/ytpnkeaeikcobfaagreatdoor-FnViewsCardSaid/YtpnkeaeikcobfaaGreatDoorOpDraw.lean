/- Contracts of the draws of opinions: each gives some opinions, items, days, names within bounds, and turns only the reader's own block. -/
import Derived.Test.YtpnkeaeikcobfaaGreatDoorCur
import Derived.Test.YtpnkeaeikcobfaaGreatDoorOpGive
import Derived.Test.YtpnkeaeikcobfaaGreatDoorOpView
import Derived.Deep.RegionHeld3
namespace Go.Proofs.YtpnkeaeikcobfaaGreatDoor
set_option linter.unusedVariables false
set_option linter.unusedSimpArgs false
open Go.RowKit
attribute [local irreducible] wpQuiet
theorem rd_litI (w : World) (xs : List Int) (E : TypeId) : Rd encI 1 (w.alloc (.cells (xs.map (Value.int .i64)).toArray E)).heap.size (w.alloc (.cells (xs.map (Value.int .i64)).toArray E)) (some ⟨w.heap.size, 0, none⟩) xs := fun _ =>
  ⟨w.heap.size, 0, rfl, by simp, fun i x hx j v hv => by
    have hj : j = 0 := by have := (List.getElem?_eq_some_iff.1 hv).1; simp [encI] at this; omega
    subst hj
    have hv' : v = .int .i64 x := by simpa [encI] using hv.symm
    subst hv'
    rw [World.cell?_alloc_new]
    simp [hx]⟩
theorem rd_litS (w : World) (xs : List ByteArray) (E : TypeId) : Rd encS 1 (w.alloc (.cells (xs.map Value.string).toArray E)).heap.size (w.alloc (.cells (xs.map Value.string).toArray E)) (some ⟨w.heap.size, 0, none⟩) xs := fun _ =>
  ⟨w.heap.size, 0, rfl, by simp, fun i x hx j v hv => by
    have hj : j = 0 := by have := (List.getElem?_eq_some_iff.1 hv).1; simp [encS] at this; omega
    subst hj
    have hv' : v = .string x := by simpa [encS] using hv.symm
    subst hv'
    rw [World.cell?_alloc_new]
    simp [hx]⟩
theorem rd_litP (w : World) (xs : List Int) (E : TypeId) (p : Nat) (hp : p = w.heap.size) : Rd encI 1 (w.alloc (.cells (xs.map (Value.int .i64)).toArray E)).heap.size (w.alloc (.cells (xs.map (Value.int .i64)).toArray E)) (some ⟨p, 0, none⟩) xs := by subst hp; exact rd_litI w xs E
theorem new_neP {g p : Nat} (h : g < p) : ∀ b off, (some ⟨p, 0, none⟩ : Option Addr) = some ⟨b, off, none⟩ → b ≠ g := fun b off e => by injection e with e; injection e with e1 _; omega
theorem Cur.alloc {g m : Nat} {w : World} (h : Cur g m w) (o : Obj) : Cur g m (w.alloc o) := h.below ((Below.refl _ _).alloc (Nat.le_refl _) _)
theorem fr_alloc {lo hi : Nat} {a w : World} (h : Fr lo hi a w) (o : Obj) : Fr lo hi a (w.alloc o) := h.trans (Fr.of_below ((Below.refl _ _).alloc (Nat.le_refl _) _))
theorem fr_drew {lo hi : Nat} {a w : World} (h : Fr lo hi a w) : Fr lo hi a w.drew := ⟨h.os, h.tape, h.output, h.size, h.block⟩
theorem new_ne {g : Nat} {w : World} (h : g < w.heap.size) : ∀ b off, (some ⟨w.heap.size, 0, none⟩ : Option Addr) = some ⟨b, off, none⟩ → b ≠ g := fun b off e => by injection e with e; injection e with e1 _; omega
theorem Rd.fr {α : Type} {enc : α → List Value} {k g : Nat} {w w' : World} {A : Option Addr} {xs : List α} (h : Rd enc k w.heap.size w A xs) (hA : ∀ b off, A = some ⟨b, off, none⟩ → b ≠ g) (hf : Fr g (g + 1) w w') : Rd enc k w'.heap.size w' A xs := fun hn => by
  obtain ⟨b, off, rfl, hb, hc⟩ := h hn
  have hne := hA b off rfl
  have hk := hf.block b hb (by omega)
  exact ⟨b, off, rfl, Nat.lt_of_lt_of_le hb hf.size, fun i x hx j v hv => (World.cell?_of_block (w := w) (a := ⟨b, _, none⟩) hk).trans (hc i x hx j v hv)⟩
theorem Rd.drew {α : Type} {enc : α → List Value} {k : Nat} {w : World} {A : Option Addr} {xs : List α} (h : Rd enc k w.heap.size w A xs) : Rd enc k w.drew.heap.size w.drew A xs := h
def OkO (x : Opinion) : Prop := x.expert.size ≤ 10 ∧ -1000000 ≤ x.item ∧ x.item ≤ 1000000 ∧ -1000000 ≤ x.day ∧ x.day ≤ 1000000 ∧ -1000000 ≤ x.says ∧ x.says ≤ 1000000 ∧ -1000000 ≤ x.over ∧ x.over ≤ 1000000
theorem expert17_c (g m : Nat) (w : World) (h : Cur g m w) (hm : m ≤ 1099511000000) :
    Calls Tryz.prog 65 #[.pointer (some ⟨g, 0, none⟩)] w fun e w' => ∃ x : ByteArray, e = .returned (.string x) ∧ x.size ≤ 10 ∧ Fr g (g + 1) w w' ∧ Cur g (m + 2) w' := by
  go_enter Tryz.func65, Tryz.ntmps65
  go_wp2_with fail
  refine (of_c g m [⟨#[97, 110, 110, 97]⟩, ⟨#[97, 110, 110, 97]⟩, ⟨#[98, 111]⟩, ⟨#[99, 97, 114, 108]⟩] _ _ _ (h.alloc _) hm (rd_litS w _ _) (new_ne h.1) (by decide) (by decide)).mono ?_
  rintro e w1 ⟨x, rfl, hx, hf, hc⟩
  have hs := (show ∀ x ∈ ([⟨#[97, 110, 110, 97]⟩, ⟨#[97, 110, 110, 97]⟩, ⟨#[98, 111]⟩, ⟨#[99, 97, 114, 108]⟩] : List ByteArray), x.size ≤ 10 by decide) x hx
  go_wp2_with fail
  go_returns
  exact ⟨x, rfl, hs, (fr_alloc (Fr.refl _ _ _) _).trans hf, hc⟩
theorem expertAsk_c (g m : Nat) (w : World) (h : Cur g m w) (hm : m ≤ 1099510000000) :
    Calls Tryz.prog 40 #[.pointer (some ⟨g, 0, none⟩)] w fun e w' => ∃ x : ByteArray, e = .returned (.string x) ∧ x.size ≤ 10 ∧ Fr g (g + 1) w w' ∧ Cur g (m + 4) w' := by
  go_enter Tryz.func40, Tryz.ntmps40
  go_wp2_with fail
  refine (one_c g m 10 w h (by omega) (by decide)).mono ?_
  rintro e w1 ⟨b, rfl, hf1, hc1⟩
  cases b
  · go_wp2_with fail
    refine (expert17_c g (m + 2) w1 hc1 (by omega)).mono ?_
    rintro e w2 ⟨x, rfl, hs, hf2, hc2⟩
    go_wp2_with fail
    go_returns
    exact ⟨x, rfl, hs, hf1.trans hf2, hc2⟩
  · go_wp2_with fail
    refine (of_c g (m + 2) [⟨#[122, 111, 101]⟩, ⟨#[]⟩, ⟨#[66, 111]⟩] _ _ _ (hc1.alloc _) (by omega) (rd_litS w1 _ _) (new_ne hc1.1) (by decide) (by decide)).mono ?_
    rintro e w2 ⟨x, rfl, hx, hf, hc⟩
    have hs := (show ∀ x ∈ ([⟨#[122, 111, 101]⟩, ⟨#[]⟩, ⟨#[66, 111]⟩] : List ByteArray), x.size ≤ 10 by decide) x hx
    go_wp2_with fail
    go_returns
    exact ⟨x, rfl, hs, (fr_alloc hf1 _).trans hf, hc⟩
theorem item17_c (g m : Nat) (w : World) (h : Cur g m w) (hm : m ≤ 1099510000000) :
    Calls Tryz.prog 46 #[.pointer (some ⟨g, 0, none⟩)] w fun e w' => ∃ x : Int, e = .returned (.int .i64 x) ∧ (0 ≤ x ∧ x ≤ 1000) ∧ Fr g (g + 1) w w' ∧ Cur g (m + 4) w' := by
  go_enter Tryz.func46, Tryz.ntmps46
  go_wp2_with fail
  refine (pick_c g m 24 _ (h.alloc _) (by omega) (by decide)).mono ?_
  rintro e w1 ⟨r, rfl, hr0, _, hr1, _, hf1, hc1⟩
  have hr2 := hr1 (by decide)
  clear hr1
  have hlit := (rd_litI w [1, 1, 2, 999, 5, 0, 1000] 3).fr (new_ne h.1) hf1
  have h3 : r / 11 = 0 ∨ r / 11 = 1 ∨ r / 11 = 2 := by omega
  rcases h3 with h3 | h3 | h3
  · go_wp2_with fail
    refine (among_c g (m + 2) (List.take 5 [1, 1, 2, 999, 5, 0, 1000]) _ 7 _ hc1 (by omega) (hlit.take 5) (new_ne h.1) (by decide) (by decide)).mono ?_
    rintro e w9 ⟨x, rfl, hx, hf9, hc9⟩
    have hs : 0 ≤ x ∧ x ≤ 1000 := by simp at hx; omega
    clear hx hlit
    go_wp2_with fail
    go_returns
    exact ⟨x, rfl, hs, ((fr_alloc (Fr.refl _ _ _) _).trans hf1).trans hf9, hc9⟩
  · go_wp2_with fail
    refine (among_c g (m + 2) (List.take 6 [1, 1, 2, 999, 5, 0, 1000]) _ 7 _ hc1 (by omega) (hlit.take 6) (new_ne h.1) (by decide) (by decide)).mono ?_
    rintro e w9 ⟨x, rfl, hx, hf9, hc9⟩
    have hs : 0 ≤ x ∧ x ≤ 1000 := by simp at hx; omega
    clear hx hlit
    go_wp2_with fail
    go_returns
    exact ⟨x, rfl, hs, ((fr_alloc (Fr.refl _ _ _) _).trans hf1).trans hf9, hc9⟩
  · go_wp2_with fail
    refine (among_c g (m + 2) (List.take 7 [1, 1, 2, 999, 5, 0, 1000]) _ 7 _ hc1 (by omega) (hlit.take 7) (new_ne h.1) (by decide) (by decide)).mono ?_
    rintro e w9 ⟨x, rfl, hx, hf9, hc9⟩
    have hs : 0 ≤ x ∧ x ≤ 1000 := by simp at hx; omega
    clear hx hlit
    go_wp2_with fail
    go_returns
    exact ⟨x, rfl, hs, ((fr_alloc (Fr.refl _ _ _) _).trans hf1).trans hf9, hc9⟩
theorem addr_eq {b off b' off' : Nat} (h : (some ⟨b, off, none⟩ : Option Addr) = some ⟨b', off', none⟩) : b = b' ∧ off = off' := by injection h with h; injection h with h1 h2; exact ⟨h1, h2⟩
theorem pick_nat {r : Int} {n : Nat} (h0 : 0 ≤ r) (h1 : 1 < (n : Int) → r < n) (h2 : (n : Int) ≤ 1 → r = 0) (hn : 0 < n) : ∃ k : Nat, k < n ∧ r = (k : Int) := by
  obtain ⟨k, rfl⟩ := Int.eq_ofNat_of_zero_le h0
  refine ⟨k, ?_, rfl⟩
  by_cases h : 1 < (n : Int)
  · have := h1 h; omega
  · have := h2 (by omega); omega
theorem keepDay {W W' : World} {b off g : Nat} {xs : List Opinion} (hf : Fr g (g + 1) W W') (hb : b < W.heap.size) (hne : b ≠ g) (h : ∀ (i : Nat) (hi : i < xs.length), W.cell? ⟨b, off + i * 5 + 2, none⟩ = some (.int .i64 xs[i].day)) : ∀ (i : Nat) (hi : i < xs.length), W'.cell? ⟨b, off + i * 5 + 2, none⟩ = some (.int .i64 xs[i].day) :=
  fun i hi => (World.cell?_of_block (w := W) (a := ⟨b, _, none⟩) (hf.block b hb (by omega))).trans (h i hi)
theorem keepDayA {W : World} {o : Obj} {b off : Nat} {xs : List Opinion} (hb : b < W.heap.size) (h : ∀ (i : Nat) (hi : i < xs.length), W.cell? ⟨b, off + i * 5 + 2, none⟩ = some (.int .i64 xs[i].day)) : ∀ (i : Nat) (hi : i < xs.length), (W.alloc o).cell? ⟨b, off + i * 5 + 2, none⟩ = some (.int .i64 xs[i].day) :=
  fun i hi => (((Below.refl _ _).alloc (Nat.le_refl _) o).cell (p := ⟨b, _, none⟩) hb).trans (h i hi)
set_option maxRecDepth 100000 in
set_option maxHeartbeats 4000000 in
theorem opinionDay_c (g m : Nat) (xs : List Opinion) (A : Option Addr) (c : Nat) (w : World) (h : Cur g m w) (hm : m ≤ 1099510000000) (hr : Rd encOpinion 5 w.heap.size w A xs) (hA : 0 < xs.length → ∀ b off, A = some ⟨b, off, none⟩ → b ≠ g) (hn : xs.length ≤ 1000) (hok : ∀ x ∈ xs, OkO x) :
    Calls Tryz.prog 41 #[.pointer (some ⟨g, 0, none⟩), .slice A xs.length c] w fun e w' => ∃ x : Int, e = .returned (.int .i64 x) ∧ (-1 ≤ x ∧ x ≤ 4001) ∧ Fr g (g + 1) w w' ∧ Cur g (m + 6) w' := by
  by_cases hz : xs.length = 0
  · have hz' : ((xs.length : Int) == 0) = true := by rw [hz]; rfl
    go_enter Tryz.func41, Tryz.ntmps41
    go_wp2_with fail
    refine (pick_c g m 24 _ (h.alloc _) (by omega) (by decide)).mono ?_
    rintro e w1 ⟨r, rfl, hr0, _, hr1, _, hf1, hc1⟩
    have hr2 := hr1 (by decide)
    clear hr1
    have hlit := (rd_litI w [0, 50, 4000, -1, 4001] 3).fr (new_ne h.1) hf1
    have h3 : r / 12 = 0 ∨ r / 12 = 1 := by omega
    rcases h3 with h3 | h3
    · go_wp2_with fail
      refine (among_c g (m + 2) (List.take 4 [0, 50, 4000, -1, 4001]) _ 5 _ hc1 (by omega) (hlit.take 4) (new_ne h.1) (by decide) (by decide)).mono ?_
      rintro e w9 ⟨x, rfl, hx, hf9, hc9⟩
      have hs : -1 ≤ x ∧ x ≤ 4001 := by simp at hx; omega
      clear hx hlit
      go_wp2_with fail
      go_returns
      exact ⟨x, rfl, hs, ((fr_alloc (Fr.refl _ _ _) _).trans hf1).trans hf9, hc9.more (by omega)⟩
    · go_wp2_with fail
      refine (among_c g (m + 2) (List.take 5 [0, 50, 4000, -1, 4001]) _ 5 _ hc1 (by omega) (hlit.take 5) (new_ne h.1) (by decide) (by decide)).mono ?_
      rintro e w9 ⟨x, rfl, hx, hf9, hc9⟩
      have hs : -1 ≤ x ∧ x ≤ 4001 := by simp at hx; omega
      clear hx hlit
      go_wp2_with fail
      go_returns
      exact ⟨x, rfl, hs, ((fr_alloc (Fr.refl _ _ _) _).trans hf1).trans hf9, hc9.more (by omega)⟩
  · have hz' : ((xs.length : Int) == 0) = false := by rw [beq_eq_false_iff_ne]; omega
    go_enter Tryz.func41, Tryz.ntmps41
    go_wp2_with fail
    refine (one_c g m 6 w h (by omega) (by decide)).mono ?_
    rintro e w1 ⟨b, rfl, hf1, hc1⟩
    cases b
    · go_upto_region 3 with fail
      have hA := hA (by omega)
      have hr := hr.fr hA hf1
      obtain ⟨b, off, hAe, _, _⟩ := hr.at_ (i := 0) (by omega)
      subst hAe
      have hne := hA b off rfl
      have hS : Hid (∀ (i : Nat) (hi : i < xs.length), w1.drew.cell? ⟨b, off + i * 5 + 2, none⟩ = some (.int .i64 xs[i].day)) := Lib.hid fun i hi => by
        obtain ⟨b', off', hA', _, _, _, d2, _⟩ := hr.atOpinion hi
        injection hA' with hA'; injection hA' with e1 e2
        subst e1 e2
        exact d2
      have hbw : b < w1.heap.size := by obtain ⟨b', off', hA', hb', _⟩ := hr.at_ (i := 0) (by omega); obtain ⟨rfl, rfl⟩ := addr_eq hA'; exact hb'
      have HD := Lib.hid (fun (i : Nat) (hi : i < xs.length) => (show -1000000 ≤ xs[i].day ∧ xs[i].day ≤ 1000000 from ⟨(hok _ (List.getElem_mem hi)).2.2.2.1, (hok _ (List.getElem_mem hi)).2.2.2.2.1⟩))
      clear hok hr
      have hg1 := hc1.1
      go_region_held3 (fun W => ∀ (i : Nat) (hi : i < xs.length), W.cell? ⟨b, off + i * 5 + 2, none⟩ = some (.int .i64 xs[i].day)) (first | exact hS.out | assumption | exact keepDayA hbw hS.out | (refine keepDay hf2 (by simp; try omega) hne ?_; (first | exact hS.out | exact keepDayA hbw hS.out)) | (refine keepDayA (by have := hf2.size; simp at this; omega) ?_; assumption) | (refine keepDay hf3 (by have := hf2.size; simp at this; simp; omega) hne ?_; (first | assumption | (refine keepDayA (by have := hf2.size; simp at this; omega) ?_; assumption)))) (first
        | (go_at_call 48; refine (pick_c g (m + 2) _ _ (by first | exact hc1 | exact hc1.alloc _) (by omega) (by omega)).mono ?_; rintro e w2 ⟨r, rfl, hr0, _, hr1, hr2, hf2, hc2⟩; obtain ⟨k, hk, rfl⟩ := pick_nat hr0 hr1 hr2 (by omega); obtain ⟨hd0, hd1⟩ := HD.out k hk)
        | (go_at_call 47; refine (among_c g (m + 4) [-1, 0, 0, 1] _ 4 _ (by first | exact hc2 | exact hc2.alloc _) (by omega) (by first | exact rd_litI _ _ _ | exact (rd_litI _ _ _).fr (new_ne hg1) hf2 | exact (Rd.drew (rd_litI _ _ _)).fr (new_ne hg1) hf2) (by first | exact new_ne hg1 | exact new_ne hc2.1) (by decide) (by decide)).mono ?_; rintro e w3 ⟨x, rfl, hx, hf3, hc3⟩; have hs : -1 ≤ x ∧ x ≤ 1 := (by simp at hx; omega); obtain ⟨hs0, hs1⟩ := hs; clear hx)
        | (go_at_call 62; refine (l1Most_c _ _ _).mono ?_; rintro e w4 ⟨rfl, rfl⟩)
        | (go_at_call 61; refine (l1Least_c _ _ _).mono ?_; rintro e w5 ⟨rfl, rfl⟩))
      all_goals
        go_wp2_with fail
        go_returns
        exact ⟨_, rfl, by omega, by first | exact (fr_drew hf1).trans (hf2.trans hf3) | exact (fr_drew hf1).trans (fr_alloc hf2 _ |>.trans hf3) | exact (fr_drew (fr_alloc hf1 _)).trans (hf2.trans hf3), hc3⟩
    · go_wp2_with fail
      refine (pick_c g (m + 2) 24 _ (hc1.alloc _) (by omega) (by decide)).mono ?_
      rintro e w2 ⟨r, rfl, hr0, _, hr1, _, hf2, hc2⟩
      have hr2 := hr1 (by decide)
      clear hr1
      have hlit := (rd_litI w1 [0, 50, 4000, -1, 4001] 3).fr (new_ne hc1.1) hf2
      have h3 : r / 12 = 0 ∨ r / 12 = 1 := by omega
      rcases h3 with h3 | h3
      · go_wp2_with fail
        refine (among_c g (m + 4) (List.take 4 [0, 50, 4000, -1, 4001]) _ 5 _ hc2 (by omega) (hlit.take 4) (new_ne hc1.1) (by decide) (by decide)).mono ?_
        rintro e w9 ⟨x, rfl, hx, hf9, hc9⟩
        have hs : -1 ≤ x ∧ x ≤ 4001 := by simp at hx; omega
        clear hx hlit
        go_wp2_with fail
        go_returns
        exact ⟨x, rfl, hs, (fr_alloc hf1 _).trans (hf2.trans hf9), hc9⟩
      · go_wp2_with fail
        refine (among_c g (m + 4) (List.take 5 [0, 50, 4000, -1, 4001]) _ 5 _ hc2 (by omega) (hlit.take 5) (new_ne hc1.1) (by decide) (by decide)).mono ?_
        rintro e w9 ⟨x, rfl, hx, hf9, hc9⟩
        have hs : -1 ≤ x ∧ x ≤ 4001 := by simp at hx; omega
        clear hx hlit
        go_wp2_with fail
        go_returns
        exact ⟨x, rfl, hs, (fr_alloc hf1 _).trans (hf2.trans hf9), hc9⟩
/-- A record of the call's own in a variable. -/
def Box (g p : Nat) (x : Opinion) (w : World) : Prop := p ≠ g ∧ Own encOpinion 5 p (p + 1) w (some ⟨p, 0, none⟩) [x]
theorem Box.cells {g p : Nat} {x : Opinion} {w : World} (h : Box g p x w) : p < w.heap.size ∧ (∀ o, w.frozen? ⟨p, o, none⟩ = false) ∧ w.cell? ⟨p, 0, none⟩ = some (.int .i64 x.item) ∧ w.cell? ⟨p, 1, none⟩ = some (.string x.expert) ∧ w.cell? ⟨p, 2, none⟩ = some (.int .i64 x.day) ∧ w.cell? ⟨p, 3, none⟩ = some (.int .i64 x.says) ∧ w.cell? ⟨p, 4, none⟩ = some (.int .i64 x.over) := by
  obtain ⟨b, off, hA, h1, h2, hc, hf⟩ := h.2.2 (by simp)
  obtain ⟨rfl, rfl⟩ := addr_eq hA
  exact ⟨Nat.lt_of_lt_of_le h2 h.2.1, hf, by simpa using hc 0 x rfl 0 _ rfl, by simpa using hc 0 x rfl 1 _ rfl, by simpa using hc 0 x rfl 2 _ rfl, by simpa using hc 0 x rfl 3 _ rfl, by simpa using hc 0 x rfl 4 _ rfl⟩
theorem Box.of {g p : Nat} {x : Opinion} {w : World} (hne : p ≠ g) (hlt : p < w.heap.size) (hf : ∀ o, w.frozen? ⟨p, o, none⟩ = false) (h0 : w.cell? ⟨p, 0, none⟩ = some (.int .i64 x.item)) (h1 : w.cell? ⟨p, 1, none⟩ = some (.string x.expert)) (h2 : w.cell? ⟨p, 2, none⟩ = some (.int .i64 x.day)) (h3 : w.cell? ⟨p, 3, none⟩ = some (.int .i64 x.says)) (h4 : w.cell? ⟨p, 4, none⟩ = some (.int .i64 x.over)) : Box g p x w :=
  ⟨hne, hlt, fun _ => ⟨p, 0, rfl, Nat.le_refl _, Nat.lt_succ_self _, fun i y hy j v hv => (rd_oneO h0 h1 h2 h3 h4 (by simp)).elim fun b hb => hb.elim fun off ho => by
    obtain ⟨hA, _, hc⟩ := ho
    obtain ⟨rfl, rfl⟩ := addr_eq hA
    exact hc i y hy j v hv, hf⟩⟩
theorem Box.fr {g p : Nat} {x : Opinion} {w w' : World} (h : Box g p x w) (hf : Fr g (g + 1) w w') : Box g p x w' := ⟨h.1, h.2.fr hf (by have := h.1; omega)⟩
theorem Box.below {g p : Nat} {x : Opinion} {w w' : World} (h : Box g p x w) (hb : Below w.heap.size w w') : Box g p x w' := ⟨h.1, h.2.go hb⟩
theorem box_new (g : Nat) (w : World) (x : Opinion) (E : TypeId) (h : g < w.heap.size) : Box g w.heap.size x (w.alloc (.cells #[.int .i64 x.item, .string x.expert, .int .i64 x.day, .int .i64 x.says, .int .i64 x.over] E)) :=
  Box.of (by omega) (by simp) (fun o => World.frozen?_alloc_new w _ E o) (by simp) (by simp) (by simp) (by simp) (by simp)
theorem OutR.fr {α : Type} {enc : α → List Value} {k : Nat} {E : TypeId} {base g : Nat} {v : Value} {ys : List α} {w w' : World} (h : OutR enc k E base v ys w) (hf : Fr g (g + 1) w w') (hg : g < base) : OutR enc k E base v ys w' := by
  have hgr : w.grownBy w' (some g) := ⟨hf.os, hf.tape, hf.output, hf.size, fun k hk hne => hf.block k hk (by have : k ≠ g := fun e => hne (by rw [e]); omega)⟩
  refine World.ownsRow.kept h hgr ?_
  cases hv : v.ownBlock with
  | none => simp
  | some q => exact .inr (by have := h.from_ q hv; intro e; injection e; omega)
theorem cur_set {g m p j : Nat} {w : World} {u : Value} (h : Cur g m w) (hp : g < p) : Cur g m (w.setCell ⟨p, j, none⟩ u) :=
  h.keep (by simp [World.setCell]) fun b hb => Below.heap_setCell _ _ _ _ (by simp only; omega)
theorem fr_set {lo hi p j : Nat} {a w : World} {u : Value} (h : Fr lo hi a w) (hp : a.heap.size ≤ p) : Fr lo hi a (w.setCell ⟨p, j, none⟩ u) :=
  ⟨h.os, h.tape, h.output, by simpa [World.setCell] using h.size, fun k hk hn => (Below.heap_setCell _ _ _ _ (by simp only; omega)).trans (h.block k hk hn)⟩
theorem OutR.set_ {α : Type} {enc : α → List Value} {k : Nat} {E : TypeId} {base p j : Nat} {v : Value} {ys : List α} {w : World} {u : Value} (h : OutR enc k E base v ys w) (hp : v.ownBlock ≠ some p) : OutR enc k E base v ys (w.setCell ⟨p, j, none⟩ u) := by
  have hgr : w.grownBy (w.setCell ⟨p, j, none⟩ u) (some p) := ⟨rfl, rfl, rfl, by simp [World.setCell], fun k hk hne => Below.heap_setCell _ _ _ _ (by simp only; intro e; exact hne (by rw [e]))⟩
  exact World.ownsRow.kept h hgr (by cases hv : v.ownBlock with
    | none => simp
    | some q => exact .inr (by rw [← hv]; exact hp))
theorem OutR.fresh {α : Type} {enc : α → List Value} {k : Nat} {E : TypeId} {base lo : Nat} {v : Value} {ys : List α} {w : World} (h : OutR enc k E base v ys w) (hl : lo ≤ base) : OutR enc k E lo v ys w := by
  refine ⟨h.1, ?_⟩
  rcases h.2 with h0 | ⟨g, cap, cur, hv, hb, h2⟩
  · exact .inl h0
  · exact .inr ⟨g, cap, cur, hv, by omega, h2⟩
theorem OutR.blk {α : Type} {enc : α → List Value} {k : Nat} {E : TypeId} {base : Nat} {v : Value} {ys : List α} {w : World} (h : OutR enc k E base v ys w) : v.ownBlock ≠ some w.heap.size := by
  intro e
  have := (World.ownsRow.lt h w.heap.size e).2
  omega
section
variable {g p : Nat} {x : Opinion} {w : World}
theorem far {p i j : Nat} {w : World} {u : Value} (h : i ≠ j) : (w.setCell ⟨p, i, none⟩ u).cell? ⟨p, j, none⟩ = w.cell? ⟨p, j, none⟩ := World.cell?_setCell_other w _ _ u (fun e => by injection e; omega)
theorem Box.setItem (h : Box g p x w) (a : Int) : Box g p ⟨a, x.expert, x.day, x.says, x.over⟩ (w.setCell ⟨p, 0, none⟩ (.int .i64 a)) := by
  obtain ⟨hl, hf, h0, h1, h2, h3, h4⟩ := h.cells
  exact Box.of h.1 (by simpa [World.setCell] using hl) (fun o => by rw [World.frozen?_setCell]; exact hf o) (World.cell?_setCell_same _ _ _ h0) ((far (by decide)).trans h1) ((far (by decide)).trans h2) ((far (by decide)).trans h3) ((far (by decide)).trans h4)
theorem Box.setExpert (h : Box g p x w) (a : ByteArray) : Box g p ⟨x.item, a, x.day, x.says, x.over⟩ (w.setCell ⟨p, 1, none⟩ (.string a)) := by
  obtain ⟨hl, hf, h0, h1, h2, h3, h4⟩ := h.cells
  exact Box.of h.1 (by simpa [World.setCell] using hl) (fun o => by rw [World.frozen?_setCell]; exact hf o) ((far (by decide)).trans h0) (World.cell?_setCell_same _ _ _ h1) ((far (by decide)).trans h2) ((far (by decide)).trans h3) ((far (by decide)).trans h4)
theorem Box.setSays (h : Box g p x w) (a : Int) : Box g p ⟨x.item, x.expert, x.day, a, x.over⟩ (w.setCell ⟨p, 3, none⟩ (.int .i64 a)) := by
  obtain ⟨hl, hf, h0, h1, h2, h3, h4⟩ := h.cells
  exact Box.of h.1 (by simpa [World.setCell] using hl) (fun o => by rw [World.frozen?_setCell]; exact hf o) ((far (by decide)).trans h0) ((far (by decide)).trans h1) ((far (by decide)).trans h2) (World.cell?_setCell_same _ _ _ h3) ((far (by decide)).trans h4)
theorem Box.setOver (h : Box g p x w) (a : Int) : Box g p ⟨x.item, x.expert, x.day, x.says, a⟩ (w.setCell ⟨p, 4, none⟩ (.int .i64 a)) := by
  obtain ⟨hl, hf, h0, h1, h2, h3, h4⟩ := h.cells
  exact Box.of h.1 (by simpa [World.setCell] using hl) (fun o => by rw [World.frozen?_setCell]; exact hf o) ((far (by decide)).trans h0) ((far (by decide)).trans h1) ((far (by decide)).trans h2) ((far (by decide)).trans h3) (World.cell?_setCell_same _ _ _ h4)
end
end Go.Proofs.YtpnkeaeikcobfaaGreatDoor
