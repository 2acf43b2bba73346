/- PutItem: the plain words and the contracts of the program and the reference. No condition but the sizes. -/
import Derived.Test.YthhdajmnidjhjaaAlMov
import Derived.Test.YthhdajmnidjhjaaAlTakS
import Derived.Test.YthhdajmnidjhjaaAlIns
import Derived.Test.YthhdajmnidjhjaaAlBs
import Derived.Test.YthhdajmnidjhjaaAlPutO
namespace Go.Proofs.Ythhdajmnidjhjaa
set_option linter.unusedVariables false
set_option linter.unusedSimpArgs false
open Go.RowKit
attribute [local irreducible] wpQuiet
def ptF (z : Int) (p : Page) : Page := ⟨p.id, p.title, p.under, putI p.items z⟩
def ptL (xs : List Page) (id z : Int) : List Page := atL xs (idxI (idP id) xs) (ptF z)
def ptB (xs : List Page) (id z : Int) : Bool := lvB xs id && !xs.any (hasP z) && goodA (ptL xs id z)
def ptV (xs : List Page) (id z : Int) : List Page := ifA (ptL xs id z) (ptB xs id z)
section
variable {xs : List Page} {id z : Int}
theorem ptB_good (h : ptB xs id z = true) : goodA (ptL xs id z) = true := by unfold ptB at h; exact (Bool.and_eq_true _ _ ▸ h).2
theorem ptV_len (xs : List Page) (id z : Int) : (ptV xs id z).length ≤ 2097152 := ifA_len ptB_good
theorem ptV_sum (xs : List Page) (id z : Int) : sumI (ptV xs id z) ≤ 2097152 := ifA_sum ptB_good
theorem ptV_no (h : ptB xs id z = false) : ptV xs id z = [] := ifA_no h
theorem ptV_yes (h : ptB xs id z = true) : ptV xs id z = ptL xs id z := ifA_yes h
theorem ptB_lv (h : lvB xs id = false) : ptB xs id z = false := by simp [ptB, h]
theorem ptB_has (h : xs.any (hasP z) = true) : ptB xs id z = false := by unfold ptB; rw [h]; simp
theorem ptB_at (h : lvB xs id = true) (h2 : xs.any (hasP z) = false) : ptB xs id z = goodA (ptL xs id z) := by unfold ptB; rw [h, h2]; rfl
theorem ptB_rng {j : Nat} (hj : j < xs.length) (hi : idxI (idP id) xs = (j : Int)) (h : inR z 1 999 = false) : ptB xs id z = false := by
  have hL : ptL xs id z = xs.set j (ptF z xs[j]) := by unfold ptL; rw [hi, atL_at hj]
  cases hg : goodA (ptL xs id z) with
  | false => unfold ptB; rw [hg]; simp
  | true =>
    rw [hL] at hg
    have h1 := (good_base hg (j := j) (by rw [List.length_set]; exact hj)).2.2.2.2.2 z (by simp [ptF, putI_mem])
    have : inR z 1 999 = true := by rw [inR_iff]; exact h1
    rw [h] at this; cases this
theorem putI_new {ys : List Int} {n : Int} (h : ¬ n ∈ ys) : putI ys n = ys.take (putK ys n) ++ [n] ++ ys.drop (putK ys n) := by
  unfold putI
  rw [if_neg (fun e => h (List.mem_of_getElem? e))]
theorem no_has {j : Nat} (hj : j < xs.length) (h : xs.any (hasP z) = false) : ¬ z ∈ xs[j].items := fun hz => by
  have := List.any_eq_false.1 h _ (List.getElem_mem hj)
  simp [hasP, hz] at this
theorem asc_le {l : List Int} (h : ascL l = true) : l.Pairwise (· ≤ ·) := List.pairwise_iff_getElem.2 fun i j hi hj hij => by have := ascL_lt h j i hj hij; omega
theorem putI_fit {ys : List Int} {n : Int} (h : ∀ y ∈ ys, Fits y) (hn : Fits n) : ∀ y ∈ putI ys n, Fits y := fun y hy => by
  rcases (putI_mem ys n y).1 hy with h1 | h1
  · exact h y h1
  · rw [h1]; exact hn
end
set_option maxRecDepth 100000 in
set_option maxHeartbeats 1600000 in
theorem implPutItem_c (xs : List Page) (A : Option Addr) (c : Nat) (id z : Int) (w : World) (hr : RdP w.heap.size w A xs) (hcap : xs.length ≤ c) (hn : xs.length ≤ 1048576) (hs : sumI xs ≤ 1048576) (hw : ∀ x ∈ xs, x.title.size ≤ 9223372036854775807 ∧ x.items.length ≤ 9223372036854775807 ∧ ∀ z ∈ x.items, Fits z) (hid : -9223372036854775808 ≤ id ∧ id ≤ 9223372036854775807) (hz : -9223372036854775808 ≤ z ∧ z ≤ 9223372036854775807) :
    Calls Try.prog 14 #[.slice A xs.length c, .int .i64 id, .int .i64 z] w (RetA (ptV xs id z) (ptB xs id z) w) := by
  have HW := Lib.hid hw
  clear hw
  go_enter Try.func14, Try.ntmps14
  go_wp2_with fail
  refine (pageAt_c xs _ _ _ _ hr hn).mono ?_
  rintro _ w1 ⟨rfl, hb1⟩
  go_wp2_with fail
  refine (isAlbum_c xs _ _ _ (hr.go hb1) hcap hn hs HW.out).mono ?_
  rintro _ w2 ⟨rfl, hb2⟩
  have hbg := below_via hb1 hb2
  cases hG : goodA xs with
  | false =>
    have HB := Lib.hid (ptB_lv (z := z) (lvB_bad (z := id) hG))
    clear hG
    go_wp2_with fail
    go_returns
    exact ⟨_, _, ret_list (by rw [ptV_no HB.out]; rfl) HB.out.symm, hbg, OwnP.none_ (ptV_no HB.out) (Nat.le_refl _)⟩
  | true =>
    have HG := Lib.hid hG
    rcases lv_of xs id hG with ⟨j, hj, hi, he, hB, hv⟩ | ⟨hi, hB, hv⟩
    · have HQ := Lib.hid (show ptL xs id z = xs.set j (ptF z xs[j]) by unfold ptL; rw [hi, atL_at hj])
      have HBR := Lib.hid (fun h => ptB_rng (z := z) hj hi h)
      have HBA := Lib.hid (fun h => ptB_at (z := z) hB h)
      rw [hi]
      clear hi hv hB hG he
      have hj2 : ¬ (j : Int) < 0 := by omega
      have hj3 : (0 : Int) ≤ (j : Int) := by omega
      have hj4 : (j : Int) < (xs.length : Int) := by omega
      go_wp2_with fail
      refine (isItem_c _ _).mono ?_
      rintro _ _ ⟨rfl, rfl⟩
      cases hR : inR z 1 999 with
      | false =>
        have HB := Lib.hid (HBR.out hR)
        clear hR
        go_wp2_with fail
        go_returns
        exact ⟨_, _, ret_list (by rw [ptV_no HB.out]; rfl) HB.out.symm, hbg, OwnP.none_ (ptV_no HB.out) (Nat.le_refl _)⟩
      | true =>
        clear hR
        go_wp2_with fail
        refine (pageWith_c xs _ _ _ _ (hr.go hbg) hn (by omega)).mono ?_
        rintro _ w2 ⟨rfl, hb2⟩
        have hbg := below_via hbg hb2
        have hge := idxI_any (hasP z) xs
        generalize idxI (hasP z) xs = qi at *
        cases hH : xs.any (hasP z) with
        | true =>
          have HB := Lib.hid (ptB_has (id := id) hH)
          rw [hH] at hge
          clear hH
          go_wp2_with fail
          go_returns
          exact ⟨_, _, ret_list (by rw [ptV_no HB.out]; rfl) HB.out.symm, hbg, OwnP.none_ (ptV_no HB.out) (Nat.le_refl _)⟩
        | false =>
          have HB := Lib.hid (HBA.out hH)
          have HNO := Lib.hid (no_has hj hH)
          rw [hH] at hge
          clear hH
          go_wp2_with fail
          refine (copyAlbum_c xs _ _ _ (hr.go hbg) hn hs).mono ?_
          rintro _ w3 ⟨v, ix, ms, rfl, hb3, hC⟩
          obtain ⟨g, c', m, rfl, hcc, hlo, hlt, hg0, hfz, hm, hit, d0, d1, d2, d3⟩ := hC.at_ hj
          have hil : xs[j].items.length ≤ 8 := (good_base HG.out hj).2.2.2.1
          have HAS := Lib.hid (asc_le (good_base HG.out hj).2.2.2.2.1)
          have hri : Rd encI 1 w3.heap.size w3 m.A xs[j].items := by
            obtain ⟨A', c2, hv, hOw⟩ := hit.2.2.2.2.1.own
            injection hv with hv _ _
            rw [hv]
            exact hOw.rd
          go_wp2_with fail
          refine (search_c xs[j].items _ _ z _ hri (by omega) HAS.out).mono ?_
          rintro _ _ ⟨fb, rfl, q, rfl⟩
          have hbq : Below w3.heap.size w3 (w3.drewN q) := below_drewN (Below.refl _ _) q
          have hCq := hC.go hbq
          have hsq := hbq.size
          have hbQ := below_drewN (below_via hbg hb3) q
          have d3 := (hbq.cell (p := ⟨g, _, none⟩) hlt).trans d3
          have hfz : ∀ o, (w3.drewN q).frozen? ⟨g, o, none⟩ = false := fun o => (hbq.frozen (p := ⟨g, o, none⟩) hlt).trans (hfz o)
          have hltq : g < (w3.drewN q).heap.size := hlt
          have HS := Lib.hid (show (w3.drewN q).heap.size = w3.heap.size from rfl)
          clear d0 d1 d2 hC hbq hri hsq
          generalize w3.drewN q = w4 at *
          go_wp2_with fail
          have hbW : Below w4.heap.size w4 (w4.alloc (.cells #[.int .i64 z] 3)) := (Below.refl _ _).alloc (Nat.le_refl _) _
          have hvW := heap_alloc_new w4 (.cells #[.int .i64 z] 3 (0, 0))
          have hsW : (w4.alloc (.cells #[.int .i64 z] 3)).heap.size = w4.heap.size + 1 := by simp
          have hCW := hCq.go hbW
          have d3 := (hbW.cell (p := ⟨g, _, none⟩) hltq).trans d3
          have hfz : ∀ o, (w4.alloc (.cells #[.int .i64 z] 3)).frozen? ⟨g, o, none⟩ = false := fun o => (hbW.frozen (p := ⟨g, o, none⟩) hltq).trans (hfz o)
          have hbQ := hbQ.trans (hbW.mono hbQ.size)
          obtain ⟨mq, hmq, hitq⟩ := hCq.it j _ (List.getElem?_eq_getElem hj)
          rw [hm] at hmq
          injection hmq with hmq
          subst hmq
          have hoq := hitq.2.2.2.2.1
          have hxq := hitq.2.2.2.2.2
          rw [hitq.2.2.2.1] at hoq hxq
          have hoW := hoq.below hbW
          have hult := hoq.lt_
          clear hCq hitq hit hm hoq hbW
          generalize w4.alloc (.cells #[.int .i64 z] 3) = W at *
          have hins := insI_c xs[j].items m.A m.c z (putK xs[j].items z) w4.heap.size w2.heap.size W hoW (putK_le _ _) hvW (fun b hb e => by have := hult b hb; omega) (by omega) (by have := hlo; omega)
          rw [← putI_new HNO.out] at hins
          refine hins.mono ?_
          rintro _ w5 ⟨A5, c5, rfl, ho5, hg5, hv5⟩
          have hgne : some g ≠ (Value.slice m.A xs[j].items.length m.c).ownBlock := fun e => by have := hxq g e.symm; omega
          obtain ⟨ix', ms', hC5⟩ := hCW.items (w' := w5) hj (fun b hb hbx => hg5.block b hb (fun e => hbx (hxq b e.symm))) hg5.size ho5 (fun b hb => hv5.elim (fun e => .inl (hxq b (e ▸ hb))) (fun e => .inr (by rw [e] at hb; injection hb with hb; omega)))
          have hgW : g < W.heap.size := by omega
          have hblk := hg5.block g hgW hgne
          have d3 := (World.cell?_of_block (w := W) (a := ⟨g, j * 4 + 3, none⟩) hblk).trans d3
          have hfz : ∀ o, w5.frozen? ⟨g, o, none⟩ = false := fun o => (World.frozen?_of_block (w := W) (a := ⟨g, o, none⟩) hblk).trans (hfz o)
          have hlw := hbg.size
          have hb5 := (Below.grown hbQ hg5 hbQ.size (fun b hb => Nat.le_trans hlw (hoW.from_ b hb))).setCell (p := ⟨g, j * 4 + 3, none⟩) (Nat.le_trans hlw hlo) (.slice A5 (putI xs[j].items z).length c5)
          have hPL := putI_len xs[j].items z
          have HWQ := Lib.hid (hw_set (j := j) (p := ptF z xs[j]) HW.out (have h0 := HW.out xs[j] (List.getElem_mem hj); ⟨h0.1, (show (putI xs[j].items z).length ≤ 9223372036854775807 by omega), putI_fit h0.2.2 hz⟩))
          have hsQ := sumI_set_le xs j (ptF z xs[j])
          have hilQ : (ptF z xs[j]).items.length ≤ 9 := (show (putI xs[j].items z).length ≤ 9 by omega)
          have h96 := goodA_sum HG.out
          have hQl : (xs.set j (ptF z xs[j])).length = xs.length := List.length_set ..
          change Cpy _ _ _ _ (xs.set j (ptF z xs[j])) _ at hC5
          obtain ⟨Q, hQ⟩ : ∃ Q, xs.set j (ptF z xs[j]) = Q := ⟨_, rfl⟩
          have HQ := Lib.hid (HQ.out.trans hQ)
          rw [hQ] at hC5 HWQ hsQ hQl
          rw [HQ.out] at HB
          have HQL := Lib.hid hQl
          obtain ⟨A4, c4, hv4, _, hOw⟩ := hC5.shape
          injection hv4 with e1 e2 e3
          subst e1
          clear hQ hC5 hCW ho5 hv5 hg5 hblk hoW e2 e3
          go_wp2_with fail
          generalize w5.setCell ⟨g, j * 4 + 3, none⟩ (.slice A5 (putI xs[j].items z).length c5) = w6 at *
          have hres := albumResult_c Q _ c' w6 hOw.rd (by omega) (by omega) (by omega) HWQ.out
          rw [hQl] at hres
          refine hres.mono ?_
          rintro _ w7 ⟨hb7, hcs⟩
          have hOw := hOw.go hb7
          have hbl := below_via hb5 hb7
          rcases hcs with ⟨hgd, rfl⟩ | ⟨hgd, rfl⟩
          · have HB := Lib.hid (HB.out.trans hgd)
            go_wp2_with fail
            go_returns
            exact ⟨_, _, ret_list (by rw [ptV_yes HB.out, HQ.out, HQL.out]) HB.out.symm, hbl, (hOw.wide hlw hb7.size (Nat.le_refl _)).cast (by rw [ptV_yes HB.out, HQ.out])⟩
          · have HB := Lib.hid (HB.out.trans hgd)
            go_wp2_with fail
            go_returns
            exact ⟨_, _, ret_list (by rw [ptV_no HB.out]; rfl) HB.out.symm, hbl, OwnP.none_ (ptV_no HB.out) (Nat.le_refl _)⟩
    · have HB := Lib.hid (ptB_lv (z := z) hB)
      rw [hi]
      clear hi hv hB hG
      go_wp2_with fail
      go_returns
      exact ⟨_, _, ret_list (by rw [ptV_no HB.out]; rfl) HB.out.symm, hbg, OwnP.none_ (ptV_no HB.out) (Nat.le_refl _)⟩
end Go.Proofs.Ythhdajmnidjhjaa
namespace Go.Proofs.Ythhdajmnidjhjaa
set_option linter.unusedVariables false
set_option linter.unusedSimpArgs false
open Go.RowKit
attribute [local irreducible] wpQuiet
/-- The call returns an album of its own with room for its pages, and b. -/
def RetAC (ps : List Page) (b : Bool) (w : World) (e : Ending) (w' : World) : Prop := ∃ B c', e = .returned (.tuple #[.slice B ps.length c', .bool b]) ∧ Below w.heap.size w w' ∧ OwnP w.heap.size w'.heap.size w' B ps ∧ ps.length ≤ c'
set_option maxRecDepth 100000 in
set_option maxHeartbeats 1600000 in
theorem implPutItemC_c (xs : List Page) (A : Option Addr) (c : Nat) (id z : Int) (w : World) (hr : RdP w.heap.size w A xs) (hcap : xs.length ≤ c) (hn : xs.length ≤ 1048576) (hs : sumI xs ≤ 1048576) (hw : ∀ x ∈ xs, x.title.size ≤ 9223372036854775807 ∧ x.items.length ≤ 9223372036854775807 ∧ ∀ z ∈ x.items, Fits z) (hid : -9223372036854775808 ≤ id ∧ id ≤ 9223372036854775807) (hz : -9223372036854775808 ≤ z ∧ z ≤ 9223372036854775807) :
    Calls Try.prog 14 #[.slice A xs.length c, .int .i64 id, .int .i64 z] w (RetAC (ptV xs id z) (ptB xs id z) w) := by
  have HW := Lib.hid hw
  clear hw
  go_enter Try.func14, Try.ntmps14
  go_wp2_with fail
  refine (pageAt_c xs _ _ _ _ hr hn).mono ?_
  rintro _ w1 ⟨rfl, hb1⟩
  go_wp2_with fail
  refine (isAlbum_c xs _ _ _ (hr.go hb1) hcap hn hs HW.out).mono ?_
  rintro _ w2 ⟨rfl, hb2⟩
  have hbg := below_via hb1 hb2
  cases hG : goodA xs with
  | false =>
    have HB := Lib.hid (ptB_lv (z := z) (lvB_bad (z := id) hG))
    clear hG
    go_wp2_with fail
    go_returns
    exact ⟨_, _, ret_list (by rw [ptV_no HB.out]; rfl) HB.out.symm, hbg, OwnP.none_ (ptV_no HB.out) (Nat.le_refl _), by rw [ptV_no HB.out]; exact Nat.zero_le _⟩
  | true =>
    have HG := Lib.hid hG
    rcases lv_of xs id hG with ⟨j, hj, hi, he, hB, hv⟩ | ⟨hi, hB, hv⟩
    · have HQ := Lib.hid (show ptL xs id z = xs.set j (ptF z xs[j]) by unfold ptL; rw [hi, atL_at hj])
      have HBR := Lib.hid (fun h => ptB_rng (z := z) hj hi h)
      have HBA := Lib.hid (fun h => ptB_at (z := z) hB h)
      rw [hi]
      clear hi hv hB hG he
      have hj2 : ¬ (j : Int) < 0 := by omega
      have hj3 : (0 : Int) ≤ (j : Int) := by omega
      have hj4 : (j : Int) < (xs.length : Int) := by omega
      go_wp2_with fail
      refine (isItem_c _ _).mono ?_
      rintro _ _ ⟨rfl, rfl⟩
      cases hR : inR z 1 999 with
      | false =>
        have HB := Lib.hid (HBR.out hR)
        clear hR
        go_wp2_with fail
        go_returns
        exact ⟨_, _, ret_list (by rw [ptV_no HB.out]; rfl) HB.out.symm, hbg, OwnP.none_ (ptV_no HB.out) (Nat.le_refl _), by rw [ptV_no HB.out]; exact Nat.zero_le _⟩
      | true =>
        clear hR
        go_wp2_with fail
        refine (pageWith_c xs _ _ _ _ (hr.go hbg) hn (by omega)).mono ?_
        rintro _ w2 ⟨rfl, hb2⟩
        have hbg := below_via hbg hb2
        have hge := idxI_any (hasP z) xs
        generalize idxI (hasP z) xs = qi at *
        cases hH : xs.any (hasP z) with
        | true =>
          have HB := Lib.hid (ptB_has (id := id) hH)
          rw [hH] at hge
          clear hH
          go_wp2_with fail
          go_returns
          exact ⟨_, _, ret_list (by rw [ptV_no HB.out]; rfl) HB.out.symm, hbg, OwnP.none_ (ptV_no HB.out) (Nat.le_refl _), by rw [ptV_no HB.out]; exact Nat.zero_le _⟩
        | false =>
          have HB := Lib.hid (HBA.out hH)
          have HNO := Lib.hid (no_has hj hH)
          rw [hH] at hge
          clear hH
          go_wp2_with fail
          refine (copyAlbum_c xs _ _ _ (hr.go hbg) hn hs).mono ?_
          rintro _ w3 ⟨v, ix, ms, rfl, hb3, hC⟩
          obtain ⟨g, c', m, rfl, hcc, hlo, hlt, hg0, hfz, hm, hit, d0, d1, d2, d3⟩ := hC.at_ hj
          have hil : xs[j].items.length ≤ 8 := (good_base HG.out hj).2.2.2.1
          have HAS := Lib.hid (asc_le (good_base HG.out hj).2.2.2.2.1)
          have hri : Rd encI 1 w3.heap.size w3 m.A xs[j].items := by
            obtain ⟨A', c2, hv, hOw⟩ := hit.2.2.2.2.1.own
            injection hv with hv _ _
            rw [hv]
            exact hOw.rd
          go_wp2_with fail
          refine (search_c xs[j].items _ _ z _ hri (by omega) HAS.out).mono ?_
          rintro _ _ ⟨fb, rfl, q, rfl⟩
          have hbq : Below w3.heap.size w3 (w3.drewN q) := below_drewN (Below.refl _ _) q
          have hCq := hC.go hbq
          have hsq := hbq.size
          have hbQ := below_drewN (below_via hbg hb3) q
          have d3 := (hbq.cell (p := ⟨g, _, none⟩) hlt).trans d3
          have hfz : ∀ o, (w3.drewN q).frozen? ⟨g, o, none⟩ = false := fun o => (hbq.frozen (p := ⟨g, o, none⟩) hlt).trans (hfz o)
          have hltq : g < (w3.drewN q).heap.size := hlt
          have HS := Lib.hid (show (w3.drewN q).heap.size = w3.heap.size from rfl)
          clear d0 d1 d2 hC hbq hri hsq
          generalize w3.drewN q = w4 at *
          go_wp2_with fail
          have hbW : Below w4.heap.size w4 (w4.alloc (.cells #[.int .i64 z] 3)) := (Below.refl _ _).alloc (Nat.le_refl _) _
          have hvW := heap_alloc_new w4 (.cells #[.int .i64 z] 3 (0, 0))
          have hsW : (w4.alloc (.cells #[.int .i64 z] 3)).heap.size = w4.heap.size + 1 := by simp
          have hCW := hCq.go hbW
          have d3 := (hbW.cell (p := ⟨g, _, none⟩) hltq).trans d3
          have hfz : ∀ o, (w4.alloc (.cells #[.int .i64 z] 3)).frozen? ⟨g, o, none⟩ = false := fun o => (hbW.frozen (p := ⟨g, o, none⟩) hltq).trans (hfz o)
          have hbQ := hbQ.trans (hbW.mono hbQ.size)
          obtain ⟨mq, hmq, hitq⟩ := hCq.it j _ (List.getElem?_eq_getElem hj)
          rw [hm] at hmq
          injection hmq with hmq
          subst hmq
          have hoq := hitq.2.2.2.2.1
          have hxq := hitq.2.2.2.2.2
          rw [hitq.2.2.2.1] at hoq hxq
          have hoW := hoq.below hbW
          have hult := hoq.lt_
          clear hCq hitq hit hm hoq hbW
          generalize w4.alloc (.cells #[.int .i64 z] 3) = W at *
          have hins := insI_c xs[j].items m.A m.c z (putK xs[j].items z) w4.heap.size w2.heap.size W hoW (putK_le _ _) hvW (fun b hb e => by have := hult b hb; omega) (by omega) (by have := hlo; omega)
          rw [← putI_new HNO.out] at hins
          refine hins.mono ?_
          rintro _ w5 ⟨A5, c5, rfl, ho5, hg5, hv5⟩
          have hgne : some g ≠ (Value.slice m.A xs[j].items.length m.c).ownBlock := fun e => by have := hxq g e.symm; omega
          obtain ⟨ix', ms', hC5⟩ := hCW.items (w' := w5) hj (fun b hb hbx => hg5.block b hb (fun e => hbx (hxq b e.symm))) hg5.size ho5 (fun b hb => hv5.elim (fun e => .inl (hxq b (e ▸ hb))) (fun e => .inr (by rw [e] at hb; injection hb with hb; omega)))
          have hgW : g < W.heap.size := by omega
          have hblk := hg5.block g hgW hgne
          have d3 := (World.cell?_of_block (w := W) (a := ⟨g, j * 4 + 3, none⟩) hblk).trans d3
          have hfz : ∀ o, w5.frozen? ⟨g, o, none⟩ = false := fun o => (World.frozen?_of_block (w := W) (a := ⟨g, o, none⟩) hblk).trans (hfz o)
          have hlw := hbg.size
          have hb5 := (Below.grown hbQ hg5 hbQ.size (fun b hb => Nat.le_trans hlw (hoW.from_ b hb))).setCell (p := ⟨g, j * 4 + 3, none⟩) (Nat.le_trans hlw hlo) (.slice A5 (putI xs[j].items z).length c5)
          have hPL := putI_len xs[j].items z
          have HWQ := Lib.hid (hw_set (j := j) (p := ptF z xs[j]) HW.out (have h0 := HW.out xs[j] (List.getElem_mem hj); ⟨h0.1, (show (putI xs[j].items z).length ≤ 9223372036854775807 by omega), putI_fit h0.2.2 hz⟩))
          have hsQ := sumI_set_le xs j (ptF z xs[j])
          have hilQ : (ptF z xs[j]).items.length ≤ 9 := (show (putI xs[j].items z).length ≤ 9 by omega)
          have h96 := goodA_sum HG.out
          have hQl : (xs.set j (ptF z xs[j])).length = xs.length := List.length_set ..
          change Cpy _ _ _ _ (xs.set j (ptF z xs[j])) _ at hC5
          obtain ⟨Q, hQ⟩ : ∃ Q, xs.set j (ptF z xs[j]) = Q := ⟨_, rfl⟩
          have HQ := Lib.hid (HQ.out.trans hQ)
          rw [hQ] at hC5 HWQ hsQ hQl
          rw [HQ.out] at HB
          have HQL := Lib.hid hQl
          obtain ⟨A4, c4, hv4, _, hOw⟩ := hC5.shape
          injection hv4 with e1 e2 e3
          subst e1
          clear hQ hC5 hCW ho5 hv5 hg5 hblk hoW e2 e3
          go_wp2_with fail
          generalize w5.setCell ⟨g, j * 4 + 3, none⟩ (.slice A5 (putI xs[j].items z).length c5) = w6 at *
          have hres := albumResult_c Q _ c' w6 hOw.rd (by omega) (by omega) (by omega) HWQ.out
          rw [hQl] at hres
          refine hres.mono ?_
          rintro _ w7 ⟨hb7, hcs⟩
          have hOw := hOw.go hb7
          have hbl := below_via hb5 hb7
          rcases hcs with ⟨hgd, rfl⟩ | ⟨hgd, rfl⟩
          · have HB := Lib.hid (HB.out.trans hgd)
            go_wp2_with fail
            go_returns
            exact ⟨_, _, ret_list (by rw [ptV_yes HB.out, HQ.out, HQL.out]) HB.out.symm, hbl, (hOw.wide hlw hb7.size (Nat.le_refl _)).cast (by rw [ptV_yes HB.out, HQ.out]), by rw [ptV_yes HB.out, HQ.out]; omega⟩
          · have HB := Lib.hid (HB.out.trans hgd)
            go_wp2_with fail
            go_returns
            exact ⟨_, _, ret_list (by rw [ptV_no HB.out]; rfl) HB.out.symm, hbl, OwnP.none_ (ptV_no HB.out) (Nat.le_refl _), by rw [ptV_no HB.out]; exact Nat.zero_le _⟩
    · have HB := Lib.hid (ptB_lv (z := z) hB)
      rw [hi]
      clear hi hv hB hG
      go_wp2_with fail
      go_returns
      exact ⟨_, _, ret_list (by rw [ptV_no HB.out]; rfl) HB.out.symm, hbg, OwnP.none_ (ptV_no HB.out) (Nat.le_refl _), by rw [ptV_no HB.out]; exact Nat.zero_le _⟩
end Go.Proofs.Ythhdajmnidjhjaa
namespace Go.Proofs.Ythhdajmnidjhjaa
set_option linter.unusedVariables false
set_option linter.unusedSimpArgs false
open Go.RowKit
attribute [local irreducible] wpQuiet
set_option maxRecDepth 100000 in
set_option maxHeartbeats 1600000 in
theorem specPutItem_c (xs : List Page) (A : Option Addr) (c : Nat) (id z : Int) (w : World) (hr : RdP w.heap.size w A xs) (hcap : xs.length ≤ c) (hn : xs.length ≤ 1048576) (hs : sumI xs ≤ 1048576) (hw : ∀ x ∈ xs, x.title.size ≤ 9223372036854775807 ∧ x.items.length ≤ 9223372036854775807 ∧ ∀ z ∈ x.items, Fits z) (hid : -9223372036854775808 ≤ id ∧ id ≤ 9223372036854775807) (hz : -9223372036854775808 ≤ z ∧ z ≤ 9223372036854775807) :
    Calls Try.prog 15 #[.slice A xs.length c, .int .i64 id, .int .i64 z] w (RetA (ptV xs id z) (ptB xs id z) w) := by
  have HW := Lib.hid hw
  clear hw
  go_enter Try.func15, Try.ntmps15
  go_wp2_with fail
  refine (l18Find_c xs _ _ _ _ hr hn).mono ?_
  rintro _ w1 ⟨rfl, hb1⟩
  go_wp2_with fail
  refine (l18Good_c xs _ _ _ (hr.go hb1) hcap hn hs HW.out).mono ?_
  rintro _ w2 ⟨rfl, hb2⟩
  have hbg := below_via hb1 hb2
  cases hG : goodA xs with
  | false =>
    have HB := Lib.hid (ptB_lv (z := z) (lvB_bad (z := id) hG))
    clear hG
    go_wp2_with fail
    go_returns
    exact ⟨_, _, ret_list (by rw [ptV_no HB.out]; rfl) HB.out.symm, below_via hbg (by go_grown), OwnP.none_ (ptV_no HB.out) (Nat.le_refl _)⟩
  | true =>
    have HG := Lib.hid hG
    rcases lv_of xs id hG with ⟨j, hj, hi, he, hB, hv⟩ | ⟨hi, hB, hv⟩
    · have HQ := Lib.hid (show ptL xs id z = xs.set j (ptF z xs[j]) by unfold ptL; rw [hi, atL_at hj])
      have HBR := Lib.hid (fun h => ptB_rng (z := z) hj hi h)
      have HBA := Lib.hid (fun h => ptB_at (z := z) hB h)
      rw [hi]
      clear hi hv hB hG he
      have hj2 : ¬ (j : Int) < 0 := by omega
      have hj3 : (0 : Int) ≤ (j : Int) := by omega
      have hj4 : (j : Int) < (xs.length : Int) := by omega
      go_wp2_with fail
      refine (l18With_c xs _ _ _ _ (hr.go hbg) hn (by omega)).mono ?_
      rintro _ w2 ⟨rfl, hb2⟩
      have hbg := below_via hbg hb2
      have hge := idxI_any (hasP z) xs
      generalize idxI (hasP z) xs = qi at *
      cases hH : xs.any (hasP z) with
      | true =>
        have HB := Lib.hid (ptB_has (id := id) hH)
        rw [hH] at hge
        clear hH
        go_wp2_with fail
        go_returns
        exact ⟨_, _, ret_list (by rw [ptV_no HB.out]; rfl) HB.out.symm, below_via hbg (by go_grown), OwnP.none_ (ptV_no HB.out) (Nat.le_refl _)⟩
      | false =>
        have HB := Lib.hid (HBA.out hH)
        have HNO := Lib.hid (no_has hj hH)
        rw [hH] at hge
        clear hH
        go_wp2_with fail
        refine (l18Own_c xs _ _ _ (hr.go hbg) hn hs).mono ?_
        rintro _ w3 ⟨v, ix, ms, rfl, hb3, hC⟩
        obtain ⟨g, c', m, rfl, hcc, hlo, hlt, hg0, hfz, hm, hit, d0, d1, d2, d3⟩ := hC.at_ hj
        have hil : xs[j].items.length ≤ 8 := (good_base HG.out hj).2.2.2.1
        have hri : Rd encI 1 w3.heap.size w3 m.A xs[j].items := by
          obtain ⟨A', c2, hv, hOw⟩ := hit.2.2.2.2.1.own
          injection hv with hv _ _
          rw [hv]
          exact hOw.rd
        go_upto_region 6 with fail
        have hW := New.of w3 [.int .i64 xs[j].id, .string xs[j].title, .int .i64 xs[j].under, .slice m.A xs[j].items.length m.c] 43
        have f3 := World.frozen?_alloc_new w3 #[.int .i64 xs[j].id, .string xs[j].title, .int .i64 xs[j].under, .slice m.A xs[j].items.length m.c] 43 3
        generalize w3.alloc (.cells #[.int .i64 xs[j].id, .string xs[j].title, .int .i64 xs[j].under, .slice m.A xs[j].items.length m.c] 43) = W at *
        obtain ⟨hWb, hWl, hWc⟩ := hW
        have e0 := hWc 0 _ rfl
        have e1 := hWc 1 _ rfl
        have e2 := hWc 2 _ rfl
        have e3 := hWc 3 _ rfl
        clear hWc
        have hriW := hri.go hWb
        have hb3' := below_via hbg hb3
        obtain ⟨hp, hhp⟩ : ∃ hp, w3.heap.size = hp := ⟨_, rfl⟩
        have hlt' := hlt
        have hs3 := hb3'.size
        have HH := Lib.hid hhp
        rw [hhp] at hWl e0 e1 e2 e3 f3 hlt' hs3 ⊢
        clear hhp
        have hmc : xs[j].items.length ≤ m.c := by
          obtain ⟨A', c2, hv, hle⟩ := hit.2.2.2.2.1.cap
          injection hv with _ _ hv
          rw [hv]; exact hle
        go_wp2_with fail
        refine (l1PutO_c xs[j].items m.A m.c z W hriW hmc HNO.out (by omega)).mono ?_
        rintro _ wr ⟨Au, cu, rfl, hbk, hok⟩
        have r0 := (hbk.cell (p := ⟨hp, 0, none⟩) hWl).trans e0
        have r1 := (hbk.cell (p := ⟨hp, 1, none⟩) hWl).trans e1
        have r2 := (hbk.cell (p := ⟨hp, 2, none⟩) hWl).trans e2
        have r3 := (hbk.cell (p := ⟨hp, 3, none⟩) hWl).trans e3
        have rf3 := (hbk.frozen (p := ⟨hp, 3, none⟩) hWl).trans f3
        have hPL := putI_len xs[j].items z
        have HWQ := Lib.hid (hw_set (j := j) (p := ptF z xs[j]) HW.out (have h0 := HW.out xs[j] (List.getElem_mem hj); ⟨h0.1, (show (putI xs[j].items z).length ≤ 9223372036854775807 by omega), putI_fit h0.2.2 hz⟩))
        have hsQ := sumI_set_le xs j (ptF z xs[j])
        have hilQ : (ptF z xs[j]).items.length ≤ 9 := (show (putI xs[j].items z).length ≤ 9 by omega)
        have h96 := goodA_sum HG.out
        rw [← HQ.out] at HWQ hsQ
        generalize hD : putI xs[j].items z = D at *
        have HD := Lib.hid hD
        clear hD
        go_upto_region 7 with fail
        have hws : w3.heap.size ≤ W.heap.size := hWb.size
        have hB3 := (hWb.trans (hbk.mono hws)).setCell (p := ⟨hp, 3, none⟩) (by rw [HH.out]; exact Nat.le_refl _) (.slice Au D.length cu)
        have hbS2 := (hb3'.trans ((hWb.mono hb3'.size).trans (hbk.mono (Nat.le_trans hb3'.size hws)))).setCell (p := ⟨hp, 3, none⟩) hs3 (.slice Au D.length cu)
        have hoD := hok.keep_ (w' := wr.setCell ⟨hp, 3, none⟩ (.slice Au D.length cu)) (fun b hb => far_set wr _ (fun e => by have := hok.from_ b hb; omega))
        have k0 := (World.cell?_setCell_other wr ⟨hp, 3, none⟩ ⟨hp, 0, none⟩ (.slice Au D.length cu) (by simp)).trans r0
        have k1 := (World.cell?_setCell_other wr ⟨hp, 3, none⟩ ⟨hp, 1, none⟩ (.slice Au D.length cu) (by simp)).trans r1
        have k2 := (World.cell?_setCell_other wr ⟨hp, 3, none⟩ ⟨hp, 2, none⟩ (.slice Au D.length cu) (by simp)).trans r2
        have k3 := World.cell?_setCell_same wr ⟨hp, 3, none⟩ (.slice Au D.length cu) r3
        clear r0 r1 r2 r3 rf3 e0 e1 e2 e3 f3 hok
        generalize wr.setCell ⟨hp, 3, none⟩ (.slice Au D.length cu) = W2 at *
        have d0 := (hB3.cell (p := ⟨g, _, none⟩) hlt).trans d0
        have d1 := (hB3.cell (p := ⟨g, _, none⟩) hlt).trans d1
        have d2 := (hB3.cell (p := ⟨g, _, none⟩) hlt).trans d2
        have d3 := (hB3.cell (p := ⟨g, _, none⟩) hlt).trans d3
        have hfz : ∀ o, W2.frozen? ⟨g, o, none⟩ = false := fun o => (hB3.frozen (p := ⟨g, o, none⟩) hlt).trans (hfz o)
        have hC3 := (hC.grown hB3 j).page hj ⟨xs[j].id, xs[j].title, xs[j].under, D⟩ (hoD.low (by have := hb3.size; omega)) (fun b hb => by
          have h1 := hoD.from_ b hb
          have h2 := hoD.lt_ b hb
          rw [if_neg (by omega), if_pos h2])
        have hQ : xs.set j ⟨xs[j].id, xs[j].title, xs[j].under, D⟩ = ptL xs id z := by rw [HQ.out, ← HD.out]; rfl
        have hQl : (ptL xs id z).length = xs.length := by rw [HQ.out, List.length_set]
        have HQL := Lib.hid hQl
        rw [hQ] at hC3
        have hlw := hbg.size
        have hb4 := below_setCells (Nat.le_trans hlw hlo) [.int .i64 xs[j].id, .string xs[j].title, .int .i64 xs[j].under, .slice Au D.length cu] (j * 4) _ hbS2
        have hb4' : Below w.heap.size w ((((W2.setCell ⟨g, j * 4, none⟩ (.int .i64 xs[j].id)).setCell ⟨g, j * 4 + 1, none⟩ (.string xs[j].title)).setCell ⟨g, j * 4 + 2, none⟩ (.int .i64 xs[j].under)).setCell ⟨g, j * 4 + 3, none⟩ (.slice Au D.length cu)) := hb4
        have hF4 : Fr g (g + 1) W2 ((((W2.setCell ⟨g, j * 4, none⟩ (.int .i64 xs[j].id)).setCell ⟨g, j * 4 + 1, none⟩ (.string xs[j].title)).setCell ⟨g, j * 4 + 2, none⟩ (.int .i64 xs[j].under)).setCell ⟨g, j * 4 + 3, none⟩ (.slice Au D.length cu)) := Fr.setCells (Nat.le_refl g) (Nat.lt_succ_self g) [.int .i64 xs[j].id, .string xs[j].title, .int .i64 xs[j].under, .slice Au D.length cu] (j * 4) _ (Fr.refl _ _ _)
        obtain ⟨A4, c4, hv4, _, hOw⟩ := hC3.shape
        injection hv4 with e1 e2 e3
        subst e1
        change OwnP w2.heap.size ((((W2.setCell ⟨g, j * 4, none⟩ (.int .i64 xs[j].id)).setCell ⟨g, j * 4 + 1, none⟩ (.string xs[j].title)).setCell ⟨g, j * 4 + 2, none⟩ (.int .i64 xs[j].under)).setCell ⟨g, j * 4 + 3, none⟩ (.slice Au D.length cu)).heap.size ((((W2.setCell ⟨g, j * 4, none⟩ (.int .i64 xs[j].id)).setCell ⟨g, j * 4 + 1, none⟩ (.string xs[j].title)).setCell ⟨g, j * 4 + 2, none⟩ (.int .i64 xs[j].under)).setCell ⟨g, j * 4 + 3, none⟩ (.slice Au D.length cu)) (some ⟨g, 0, none⟩) (ptL xs id z) at hOw
        have hhpw : hp < W2.heap.size := by have := hB3.size; have := cell_lt k0; omega
        clear hC hC3 hit hm e2 e3 hoD hQ hQl hb4
        go_wp2_with fail
        generalize (((W2.setCell ⟨g, j * 4, none⟩ (.int .i64 xs[j].id)).setCell ⟨g, j * 4 + 1, none⟩ (.string xs[j].title)).setCell ⟨g, j * 4 + 2, none⟩ (.int .i64 xs[j].under)).setCell ⟨g, j * 4 + 3, none⟩ (.slice Au D.length cu) = w5 at *
        generalize hQ : ptL xs id z = Q at *
        have HPQ := Lib.hid hQ
        clear hQ
        have hres := l18Good_c Q _ c' w5 hOw.rd (by have := HQL.out; omega) (by have := HQL.out; omega) (by omega) HWQ.out
        rw [HQL.out] at hres
        refine hres.mono ?_
        rintro _ w6 ⟨rfl, hb6⟩
        have hOw := hOw.go hb6
        have hbl := below_via hb4' hb6
        cases hgd : goodA Q with
        | true =>
          have HB := Lib.hid (HB.out.trans hgd)
          go_wp2_with fail
          go_returns
          exact ⟨_, _, ret_list (by rw [ptV_yes HB.out, HPQ.out, HQL.out]) HB.out.symm, hbl, (hOw.wide hlw hb6.size (Nat.le_refl _)).cast (by rw [ptV_yes HB.out, HPQ.out])⟩
        | false =>
          have HB := Lib.hid (HB.out.trans hgd)
          go_wp2_with fail
          go_returns
          exact ⟨_, _, ret_list (by rw [ptV_no HB.out]; rfl) HB.out.symm, below_via hbl (by go_grown), OwnP.none_ (ptV_no HB.out) (Nat.le_refl _)⟩
    · have HB := Lib.hid (ptB_lv (z := z) hB)
      rw [hi]
      clear hi hv hB hG
      go_wp2_with fail
      go_returns
      exact ⟨_, _, ret_list (by rw [ptV_no HB.out]; rfl) HB.out.symm, below_via hbg (by go_grown), OwnP.none_ (ptV_no HB.out) (Nat.le_refl _)⟩
end Go.Proofs.Ythhdajmnidjhjaa
