/- TakeItem: the plain words and the program's contract. No condition but the sizes. -/
import Derived.Test.YthhdajmnidjhjaaAlRes
import Derived.Test.YthhdajmnidjhjaaAlAdd
import Derived.Test.YthhdajmnidjhjaaAlDel
namespace Go.Proofs.Ythhdajmnidjhjaa
set_option linter.unusedVariables false
set_option linter.unusedSimpArgs false
open Go.RowKit
attribute [local irreducible] wpQuiet
def tkF (z : Int) (p : Page) : Page := ⟨p.id, p.title, p.under, delI p.items z⟩
def tkL (xs : List Page) (z : Int) : List Page := atL xs (idxI (hasP z) xs) (tkF z)
def tkB (xs : List Page) (z : Int) : Bool := goodA xs && xs.any (hasP z)
def tkV (xs : List Page) (z : Int) : List Page := ifA (tkL xs z) (tkB xs z)
def tkN (xs : List Page) (z : Int) : Int := if tkB xs z = true then (match xs[(idxI (hasP z) xs).toNat]? with | some p => p.id | none => 0) else 0
section
variable {xs : List Page} {z : Int}
theorem tkV_no (h : tkB xs z = false) : tkV xs z = [] := ifA_no h
theorem tkV_yes (h : tkB xs z = true) : tkV xs z = tkL xs z := ifA_yes h
theorem tkN_no (h : tkB xs z = false) : tkN xs z = 0 := by simp [tkN, h]
theorem tkB_bad (h : goodA xs = false) : tkB xs z = false := by simp [tkB, h]
theorem delI_len (zs : List Int) (z : Int) : (delI zs z).length ≤ zs.length := List.length_filter_le _ _
theorem tk_of (xs : List Page) (z : Int) (hg : goodA xs = true) : (∃ j, ∃ (hj : j < xs.length), idxI (hasP z) xs = (j : Int) ∧ z ∈ xs[j].items ∧ tkB xs z = true ∧ tkL xs z = xs.set j (tkF z xs[j]) ∧ tkN xs z = xs[j].id) ∨ (idxI (hasP z) xs = -1 ∧ tkB xs z = false) := by
  rcases idxI_cases (hasP z) xs with ⟨j, hj, hi, hp, _⟩ | ⟨hi, hall⟩
  · have hB : tkB xs z = true := by
      unfold tkB
      rw [hg, Bool.true_and]
      exact List.any_eq_true.2 ⟨_, List.getElem_mem hj, hp⟩
    refine .inl ⟨j, hj, hi, by simpa [hasP] using hp, hB, by unfold tkL; rw [hi, atL_at hj], ?_⟩
    unfold tkN
    rw [if_pos hB, hi]
    simp only [Int.toNat_natCast, List.getElem?_eq_getElem hj]
  · refine .inr ⟨hi, ?_⟩
    unfold tkB
    rw [hg, Bool.true_and]
    exact List.any_eq_false.2 fun x hx => by simp [hall x hx]
theorem tkV_len (xs : List Page) (z : Int) : (tkV xs z).length ≤ 2097152 := by
  cases hB : tkB xs z with
  | false => rw [tkV_no hB]; simp
  | true =>
    have hg : goodA xs = true := by unfold tkB at hB; exact (Bool.and_eq_true _ _ ▸ hB).1
    rcases tk_of xs z hg with ⟨j, hj, _, _, _, hL, _⟩ | ⟨_, h⟩
    · rw [tkV_yes hB, hL, List.length_set]; have := goodA_len hg; omega
    · rw [hB] at h; cases h
theorem tkV_sum (xs : List Page) (z : Int) : sumI (tkV xs z) ≤ 2097152 := by
  cases hB : tkB xs z with
  | false => rw [tkV_no hB]; simp [sumI]
  | true =>
    have hg : goodA xs = true := by unfold tkB at hB; exact (Bool.and_eq_true _ _ ▸ hB).1
    rcases tk_of xs z hg with ⟨j, hj, _, _, _, hL, _⟩ | ⟨_, h⟩
    · rw [tkV_yes hB, hL]
      have h1 := sumI_set_le xs j (tkF z xs[j])
      have h2 := goodA_sum hg
      have h3 := delI_len xs[j].items z
      have h4 := (good_base hg hj).2.2.2.1
      have h5 : (tkF z xs[j]).items = delI xs[j].items z := rfl
      rw [h5] at h1
      omega
    · rw [hB] at h; cases h
end
set_option maxRecDepth 100000 in
set_option maxHeartbeats 1600000 in
theorem implTakeItem_c (xs : List Page) (A : Option Addr) (c : Nat) (z : Int) (w : World) (hr : RdP w.heap.size w A xs) (hcap : xs.length ≤ c) (hn : xs.length ≤ 1048576) (hs : sumI xs ≤ 1048576) (hw : ∀ x ∈ xs, x.title.size ≤ 9223372036854775807 ∧ x.items.length ≤ 9223372036854775807 ∧ ∀ z ∈ x.items, Fits z) (hz : -9223372036854775808 ≤ z ∧ z ≤ 9223372036854775807) :
    Calls Try.prog 18 #[.slice A xs.length c, .int .i64 z] w (RetA3 (tkV xs z) (tkN xs z) (tkB xs z) w) := by
  have HW := Lib.hid hw
  clear hw
  have hbA : Below w.heap.size w (w.alloc (.cells #[.int .i64 z] 3)) := by go_grown
  have hz0 : (w.alloc (.cells #[.int .i64 z] 3)).cell? ⟨w.heap.size, 0, none⟩ = some (.int .i64 z) := by simp
  have hsz : w.heap.size < (w.alloc (.cells #[.int .i64 z] 3)).heap.size := by simp
  go_enter Try.func18, Try.ntmps18
  go_wp2_with fail
  generalize w.alloc (.cells #[.int .i64 z] 3) = W at *
  refine (pageWith_c xs _ _ _ _ (hr.go hbA) hn (by omega)).mono ?_
  rintro _ w1 ⟨rfl, hb1⟩
  have hbg := below_via hbA hb1
  have hz1 := (hb1.cell (p := ⟨w.heap.size, 0, none⟩) hsz).trans hz0
  have hs1 := Nat.lt_of_lt_of_le hsz hb1.size
  go_wp2_with fail
  refine (isAlbum_c xs _ _ _ (hr.go hbg) hcap hn hs HW.out).mono ?_
  rintro _ w2 ⟨rfl, hb2⟩
  have hbg := below_via hbg hb2
  have hz2 := (hb2.cell (p := ⟨w.heap.size, 0, none⟩) hs1).trans hz1
  have hs2 := Nat.lt_of_lt_of_le hs1 hb2.size
  clear hz0 hsz hz1 hs1
  cases hG : goodA xs with
  | false =>
    have HB := Lib.hid (tkB_bad (z := z) hG)
    clear hG
    go_wp2_with fail
    go_returns
    exact ⟨_, _, ret_a3 (by rw [tkV_no HB.out]; rfl) (tkN_no HB.out).symm HB.out.symm, hbg, OwnP.none_ (tkV_no HB.out) (Nat.le_refl _)⟩
  | true =>
    have HG := Lib.hid hG
    rcases tk_of xs z hG with ⟨j, hj, hi, hzm, hB, hL, hN⟩ | ⟨hi, hB⟩
    · have HQ := Lib.hid hL
      have HB := Lib.hid hB
      have HN := Lib.hid hN
      have HZ := Lib.hid hzm
      rw [hi]
      clear hi hB hG hL hN
      have hj2 : ¬ (j : Int) < 0 := by omega
      have hj3 : (0 : Int) ≤ (j : Int) := by omega
      have hj4 : (j : Int) < (xs.length : Int) := by omega
      go_wp2_with fail
      refine (copyAlbum_c xs _ _ _ (hr.go hbg) hn hs).mono ?_
      rintro _ w3 ⟨v, ix, ms, rfl, hb3, hC⟩
      obtain ⟨g, c', m, rfl, hcc, hlo, hlt, hg0, hfz, hm, hit, d0, d1, d2, d3⟩ := hC.at_ hj
      have hil : xs[j].items.length ≤ 8 := (good_base HG.out hj).2.2.2.1
      have ho := hit.2.2.2.2.1
      have hx := hit.2.2.2.2.2
      rw [hit.2.2.2.1] at ho hx
      obtain ⟨gi, ci, hsl, hgl, hgu, _, _⟩ := ho.opened (List.length_pos_of_mem hzm)
      injection hsl with hsl _ hci
      rw [hsl, hci] at ho hx d3
      have hgx := hx gi rfl
      have hz3 := (hb3.cell (p := ⟨w.heap.size, 0, none⟩) hs2).trans hz2
      clear hzm
      go_wp2_with fail
      refine (deleteZ_c xs[j].items gi ci w2.heap.size z w.heap.size w3 ho hz3 (by omega) HZ.out (by omega)).mono ?_
      rintro _ w4 ⟨rfl, hfr, ho4⟩
      obtain ⟨ix', ms', hC4⟩ := hC.items (w' := w4) hj (fun b hb hb' => hfr.block b hb (by have : b ≠ gi := fun e => hb' (by rw [e]; exact hgx); omega)) hfr.size ho4 (fun b hb => .inl (by injection hb with hb; rw [← hb]; exact hgx))
      have hgg : g ≠ gi := fun e => by rw [e, hgx] at hg0; omega
      have hblk := hfr.block g hlt (by omega)
      have d3 := (World.cell?_of_block (w := w3) (a := ⟨g, j * 4 + 3, none⟩) hblk).trans d3
      have hfz : ∀ o, w4.frozen? ⟨g, o, none⟩ = false := fun o => (World.frozen?_of_block (w := w3) (a := ⟨g, o, none⟩) hblk).trans (hfz o)
      have hb3' := below_via hbg hb3
      have hlw := hbg.size
      have hb4 := (hb3'.trans (hfr.below (B := w.heap.size) (by omega) (by have := hb3'.size; omega))).setCell (p := ⟨g, j * 4 + 3, none⟩) (Nat.le_trans hlw hlo) (.slice (some ⟨gi, 0, none⟩) (delI xs[j].items z).length ci)
      have hQ : xs.set j ⟨xs[j].id, xs[j].title, xs[j].under, delI xs[j].items z⟩ = tkL xs z := HQ.out.symm
      have hQl : (tkL xs z).length = xs.length := by rw [HQ.out, List.length_set]
      have HQL := Lib.hid hQl
      rw [hQ] at hC4
      obtain ⟨A4, c4, hv4, _, hOw⟩ := hC4.shape
      injection hv4 with e1 e2 e3
      subst e1
      clear hC hC4 hit hm d0 d1 d2 e2 e3 ho hx ho4 hb3' hfr hblk hQ hQl
      go_upto_region 6 with fail
      generalize w4.setCell ⟨g, j * 4 + 3, none⟩ (.slice (some ⟨gi, 0, none⟩) (delI xs[j].items z).length ci) = w5 at *
      obtain ⟨b, off, Ai, c5, rfl, hbs, f0, _, _, _, _, _⟩ := (hr.below hb4).page hj
      generalize xs[j].id = q at *
      go_wp2_with fail
      go_quiet (fail)
      go_wp2_with fail
      go_returns
      exact ⟨_, _, ret_a3 (by rw [tkV_yes HB.out, HQL.out]) HN.out.symm HB.out.symm, below_drewN hb4 _, ((hOw.go (below_drewN (Below.refl _ _) _)).wide hlw (Nat.le_refl _) (Nat.le_refl _)).cast (by rw [tkV_yes HB.out])⟩
    · have HB := Lib.hid hB
      rw [hi]
      clear hi hB hG
      go_wp2_with fail
      go_returns
      exact ⟨_, _, ret_a3 (by rw [tkV_no HB.out]; rfl) (tkN_no HB.out).symm HB.out.symm, hbg, OwnP.none_ (tkV_no HB.out) (Nat.le_refl _)⟩
end Go.Proofs.Ythhdajmnidjhjaa
