/- Contract of the draw of what a stamp shows: some codes; only the reader's own block is turned. No condition but flaws within bounds. -/
import Derived.Test.YtgjehnjpbekoeaaDoorFlDraw
import Derived.Test.YtgjehnjpbekoeaaDoorFlCodesO
import Derived.Test.YtgjehnjpbekoeaaDoorFlGood3
import Derived.Deep.CutBlock
import Derived.Deep.DeepCutAuto
import Derived.Deep.RegionHeld3
namespace Go.Proofs.YtgjehnjpbekoeaaDoor
set_option linter.unusedVariables false
set_option linter.unusedSimpArgs false
open Go.RowKit
attribute [local irreducible] wpQuiet
theorem Rd.frN {α : Type} {enc : α → List Value} {k g : Nat} {w w' : World} {A : Option Addr} {xs : List α} (h : Rd enc k w.heap.size w A xs) (hA : 0 < xs.length → ∀ b off, A = some ⟨b, off, none⟩ → b ≠ g) (hf : Fr g (g + 1) w w') : Rd enc k w'.heap.size w' A xs := fun hn => h.fr (hA hn) hf hn
theorem own_lit {w0 w : World} {xs : List Int} {p lo : Nat} (hs : w0.heap.size = p) (hr : Rd encI 1 w.heap.size w (some ⟨p, 0, none⟩) xs) (hl : lo ≤ p) (hf : ∀ o, w.frozen? ⟨p, o, none⟩ = false) : Own encI 1 lo w.heap.size w (some ⟨p, 0, none⟩) xs := ⟨Nat.le_refl _, fun hn => by
  obtain ⟨b, off, hA, hb, hc⟩ := hr hn
  obtain ⟨rfl, rfl⟩ := addr_eq hA
  exact ⟨_, _, rfl, hl, hb, hc, hf⟩⟩
theorem cell_frm {g b o : Nat} {a w : World} (h : Fr g (g + 1) a w) (hb : b < a.heap.size) (hne : b ≠ g) : w.cell? ⟨b, o, none⟩ = a.cell? ⟨b, o, none⟩ := World.cell?_of_block (w := a) (a := ⟨b, _, none⟩) (h.block b hb (by omega))
/-- A list of ints that was written out lies in a block of its own. -/
def LitI (g p : Nat) (xs : List Int) (w : World) : Prop := BoxV g p (xs.map (Value.int .i64)) w
theorem litI_of (g p : Nat) (xs : List Int) (W : World) (E : TypeId) (hp : W.heap.size = p) (hg : g < p) : LitI g p xs (W.alloc (.cells (xs.map (Value.int .i64)).toArray E)) := by subst hp; exact boxV_new g W _ E hg
theorem LitI.own {g p lo : Nat} {xs : List Int} {w : World} (h : LitI g p xs w) (hl : lo ≤ p) : Own encI 1 lo w.heap.size w (some ⟨p, 0, none⟩) xs := by
  obtain ⟨_, h2, h3, h4⟩ := h
  refine ⟨Nat.le_refl _, fun _ => ⟨p, 0, rfl, hl, h2, fun i x hx j v hv => ?_, h3⟩⟩
  have hj : j = 0 := by have := (List.getElem?_eq_some_iff.1 hv).1; simp [encI] at this; omega
  subst hj
  have hv' : v = .int .i64 x := by simpa [encI] using hv.symm
  subst hv'
  have := h4 i (.int .i64 x) (by simp [hx])
  simpa using this
set_option maxRecDepth 100000 in
set_option maxHeartbeats 1600000 in
theorem shown_c (g m : Nat) (w : World) (h : Cur g m w) (hm : m ≤ 1099500000000) (xs : List Flaw) (A : Option Addr) (c : Nat) (hr : Rd encFlaw 4 w.heap.size w A xs) (hA : 0 < xs.length → ∀ b off, A = some ⟨b, off, none⟩ → b ≠ g) (hn : xs.length ≤ 21) (hok : ∀ x ∈ xs, OkF x) :
    Calls Tryd.prog 45 #[.pointer (some ⟨g, 0, none⟩), .slice A xs.length c] w fun e w' => ∃ (B : Option Addr) (c' : Nat) (ys : List Int), e = .returned (.slice B ys.length c') ∧ ys.length ≤ 21 ∧ Own encI 1 w.heap.size w'.heap.size w' B ys ∧ ys.length ≤ c' ∧ Fr g (g + 1) w w' ∧ Cur g (m + 10) w' := by
  have hg := h.1
  have HY := Lib.hid hok
  have HA := Lib.hid hA
  clear hok hA
  go_enter Tryd.func45, Tryd.ntmps45
  go_upto_region 1 with fail
  go_cut [17] (fun v wx => ∃ b : Bool, v = .bool b ∧ (b = true → 0 < xs.length ∧ goodFl xs = true) ∧ Fr g (g + 1) w wx ∧ Cur g (m + 2) wx)
  case first =>
    by_cases h0 : 0 < xs.length
    · have h0' : (0 : Int) < (xs.length : Int) := by omega
      go_wp2_with fail
      refine (l15Good_c xs A c _ hr (by omega)).mono ?_
      rintro e w1 ⟨rfl, hb1⟩
      have hf1 := Fr.of_below (lo := g) (hi := g + 1) hb1
      have hc1 := h.below hb1
      cases hG : goodFl xs
      · go_wp2_with fail
        go_meet
        exact ⟨false, rfl, fun h => (by cases h), hf1, hc1.more (by omega)⟩
      · go_wp2_with fail
        refine (one_c g _ 4 _ hc1 (by omega) (by decide)).mono ?_
        rintro e w2 ⟨b, rfl, hf2, hc2⟩
        go_wp2_with fail
        go_meet
        exact ⟨_, rfl, fun _ => ⟨h0, hG⟩, hf1.trans hf2, hc2⟩
    · have h0' : ¬ ((0 : Int) < (xs.length : Int)) := by omega
      go_wp2_with fail
      go_meet
      exact ⟨false, rfl, fun h => (by cases h), Fr.refl _ _ _, h.more (by omega)⟩
  case rest =>
    obtain ⟨b, rfl, hb, hf, hc⟩ := hcut
    have hrc := hr.frN HA.out hf
    clear hr h
    have hwg : w.heap.size ≤ wc.heap.size := hf.size
    cases b
    · clear hb hrc
      go_wp2_with fail
      have hgn : g < wc.heap.size := hc.1
      have l0 : LitI g (wc.heap.size) [] (wc.alloc (.cells #[] 3)) := litI_of g (wc.heap.size) [] wc 3 rfl (by omega)
      replace hc := hc.alloc (.cells #[] 3)
      replace hf := fr_alloc hf (.cells #[] 3)
      have s0 : (wc.alloc (.cells #[] 3)).heap.size = wc.heap.size + 1 := by simp []
      generalize hn0 : wc.heap.size = n at *
      generalize wc.alloc (.cells #[] 3) = W1 at *
      have l1 : LitI g (n + 1) [1] (W1.alloc (.cells #[.int .i64 1] 3)) := litI_of g (n + 1) [1] W1 3 s0 (by omega)
      replace l0 := BoxV.alloc l0 (.cells #[.int .i64 1] 3)
      replace hc := hc.alloc (.cells #[.int .i64 1] 3)
      replace hf := fr_alloc hf (.cells #[.int .i64 1] 3)
      have s1 : (W1.alloc (.cells #[.int .i64 1] 3)).heap.size = n + 1 + 1 := by simp [s0]
      generalize W1.alloc (.cells #[.int .i64 1] 3) = W2 at *
      clear s0
      have l2 : LitI g (n + 1 + 1) [2] (W2.alloc (.cells #[.int .i64 2] 3)) := litI_of g (n + 1 + 1) [2] W2 3 s1 (by omega)
      replace l0 := BoxV.alloc l0 (.cells #[.int .i64 2] 3)
      replace l1 := BoxV.alloc l1 (.cells #[.int .i64 2] 3)
      replace hc := hc.alloc (.cells #[.int .i64 2] 3)
      replace hf := fr_alloc hf (.cells #[.int .i64 2] 3)
      have s2 : (W2.alloc (.cells #[.int .i64 2] 3)).heap.size = n + 1 + 1 + 1 := by simp [s1]
      generalize W2.alloc (.cells #[.int .i64 2] 3) = W3 at *
      clear s1
      have l3 : LitI g (n + 1 + 1 + 1) [1, 2] (W3.alloc (.cells #[.int .i64 1, .int .i64 2] 3)) := litI_of g (n + 1 + 1 + 1) [1, 2] W3 3 s2 (by omega)
      replace l0 := BoxV.alloc l0 (.cells #[.int .i64 1, .int .i64 2] 3)
      replace l1 := BoxV.alloc l1 (.cells #[.int .i64 1, .int .i64 2] 3)
      replace l2 := BoxV.alloc l2 (.cells #[.int .i64 1, .int .i64 2] 3)
      replace hc := hc.alloc (.cells #[.int .i64 1, .int .i64 2] 3)
      replace hf := fr_alloc hf (.cells #[.int .i64 1, .int .i64 2] 3)
      have s3 : (W3.alloc (.cells #[.int .i64 1, .int .i64 2] 3)).heap.size = n + 1 + 1 + 1 + 1 := by simp [s2]
      generalize W3.alloc (.cells #[.int .i64 1, .int .i64 2] 3) = W4 at *
      clear s2
      have l4 : LitI g (n + 1 + 1 + 1 + 1) [2, 1] (W4.alloc (.cells #[.int .i64 2, .int .i64 1] 3)) := litI_of g (n + 1 + 1 + 1 + 1) [2, 1] W4 3 s3 (by omega)
      replace l0 := BoxV.alloc l0 (.cells #[.int .i64 2, .int .i64 1] 3)
      replace l1 := BoxV.alloc l1 (.cells #[.int .i64 2, .int .i64 1] 3)
      replace l2 := BoxV.alloc l2 (.cells #[.int .i64 2, .int .i64 1] 3)
      replace l3 := BoxV.alloc l3 (.cells #[.int .i64 2, .int .i64 1] 3)
      replace hc := hc.alloc (.cells #[.int .i64 2, .int .i64 1] 3)
      replace hf := fr_alloc hf (.cells #[.int .i64 2, .int .i64 1] 3)
      have s4 : (W4.alloc (.cells #[.int .i64 2, .int .i64 1] 3)).heap.size = n + 1 + 1 + 1 + 1 + 1 := by simp [s3]
      generalize W4.alloc (.cells #[.int .i64 2, .int .i64 1] 3) = W5 at *
      clear s3
      have l5 : LitI g (n + 1 + 1 + 1 + 1 + 1) [0] (W5.alloc (.cells #[.int .i64 0] 3)) := litI_of g (n + 1 + 1 + 1 + 1 + 1) [0] W5 3 s4 (by omega)
      replace l0 := BoxV.alloc l0 (.cells #[.int .i64 0] 3)
      replace l1 := BoxV.alloc l1 (.cells #[.int .i64 0] 3)
      replace l2 := BoxV.alloc l2 (.cells #[.int .i64 0] 3)
      replace l3 := BoxV.alloc l3 (.cells #[.int .i64 0] 3)
      replace l4 := BoxV.alloc l4 (.cells #[.int .i64 0] 3)
      replace hc := hc.alloc (.cells #[.int .i64 0] 3)
      replace hf := fr_alloc hf (.cells #[.int .i64 0] 3)
      have s5 : (W5.alloc (.cells #[.int .i64 0] 3)).heap.size = n + 1 + 1 + 1 + 1 + 1 + 1 := by simp [s4]
      generalize W5.alloc (.cells #[.int .i64 0] 3) = W6 at *
      clear s4
      have l6 : LitI g (n + 1 + 1 + 1 + 1 + 1 + 1) [1, 2, 3, 4, 5, 6] (W6.alloc (.cells #[.int .i64 1, .int .i64 2, .int .i64 3, .int .i64 4, .int .i64 5, .int .i64 6] 3)) := litI_of g (n + 1 + 1 + 1 + 1 + 1 + 1) [1, 2, 3, 4, 5, 6] W6 3 s5 (by omega)
      replace l0 := BoxV.alloc l0 (.cells #[.int .i64 1, .int .i64 2, .int .i64 3, .int .i64 4, .int .i64 5, .int .i64 6] 3)
      replace l1 := BoxV.alloc l1 (.cells #[.int .i64 1, .int .i64 2, .int .i64 3, .int .i64 4, .int .i64 5, .int .i64 6] 3)
      replace l2 := BoxV.alloc l2 (.cells #[.int .i64 1, .int .i64 2, .int .i64 3, .int .i64 4, .int .i64 5, .int .i64 6] 3)
      replace l3 := BoxV.alloc l3 (.cells #[.int .i64 1, .int .i64 2, .int .i64 3, .int .i64 4, .int .i64 5, .int .i64 6] 3)
      replace l4 := BoxV.alloc l4 (.cells #[.int .i64 1, .int .i64 2, .int .i64 3, .int .i64 4, .int .i64 5, .int .i64 6] 3)
      replace l5 := BoxV.alloc l5 (.cells #[.int .i64 1, .int .i64 2, .int .i64 3, .int .i64 4, .int .i64 5, .int .i64 6] 3)
      replace hc := hc.alloc (.cells #[.int .i64 1, .int .i64 2, .int .i64 3, .int .i64 4, .int .i64 5, .int .i64 6] 3)
      replace hf := fr_alloc hf (.cells #[.int .i64 1, .int .i64 2, .int .i64 3, .int .i64 4, .int .i64 5, .int .i64 6] 3)
      have s6 : (W6.alloc (.cells #[.int .i64 1, .int .i64 2, .int .i64 3, .int .i64 4, .int .i64 5, .int .i64 6] 3)).heap.size = n + 1 + 1 + 1 + 1 + 1 + 1 + 1 := by simp [s5]
      generalize W6.alloc (.cells #[.int .i64 1, .int .i64 2, .int .i64 3, .int .i64 4, .int .i64 5, .int .i64 6] 3) = W7 at *
      clear s5
      have l7 : LitI g (n + 1 + 1 + 1 + 1 + 1 + 1 + 1) [1, 2, 3, 4, 5, 6, 7] (W7.alloc (.cells #[.int .i64 1, .int .i64 2, .int .i64 3, .int .i64 4, .int .i64 5, .int .i64 6, .int .i64 7] 3)) := litI_of g (n + 1 + 1 + 1 + 1 + 1 + 1 + 1) [1, 2, 3, 4, 5, 6, 7] W7 3 s6 (by omega)
      replace l0 := BoxV.alloc l0 (.cells #[.int .i64 1, .int .i64 2, .int .i64 3, .int .i64 4, .int .i64 5, .int .i64 6, .int .i64 7] 3)
      replace l1 := BoxV.alloc l1 (.cells #[.int .i64 1, .int .i64 2, .int .i64 3, .int .i64 4, .int .i64 5, .int .i64 6, .int .i64 7] 3)
      replace l2 := BoxV.alloc l2 (.cells #[.int .i64 1, .int .i64 2, .int .i64 3, .int .i64 4, .int .i64 5, .int .i64 6, .int .i64 7] 3)
      replace l3 := BoxV.alloc l3 (.cells #[.int .i64 1, .int .i64 2, .int .i64 3, .int .i64 4, .int .i64 5, .int .i64 6, .int .i64 7] 3)
      replace l4 := BoxV.alloc l4 (.cells #[.int .i64 1, .int .i64 2, .int .i64 3, .int .i64 4, .int .i64 5, .int .i64 6, .int .i64 7] 3)
      replace l5 := BoxV.alloc l5 (.cells #[.int .i64 1, .int .i64 2, .int .i64 3, .int .i64 4, .int .i64 5, .int .i64 6, .int .i64 7] 3)
      replace l6 := BoxV.alloc l6 (.cells #[.int .i64 1, .int .i64 2, .int .i64 3, .int .i64 4, .int .i64 5, .int .i64 6, .int .i64 7] 3)
      replace hc := hc.alloc (.cells #[.int .i64 1, .int .i64 2, .int .i64 3, .int .i64 4, .int .i64 5, .int .i64 6, .int .i64 7] 3)
      replace hf := fr_alloc hf (.cells #[.int .i64 1, .int .i64 2, .int .i64 3, .int .i64 4, .int .i64 5, .int .i64 6, .int .i64 7] 3)
      have s7 : (W7.alloc (.cells #[.int .i64 1, .int .i64 2, .int .i64 3, .int .i64 4, .int .i64 5, .int .i64 6, .int .i64 7] 3)).heap.size = n + 1 + 1 + 1 + 1 + 1 + 1 + 1 + 1 := by simp [s6]
      generalize W7.alloc (.cells #[.int .i64 1, .int .i64 2, .int .i64 3, .int .i64 4, .int .i64 5, .int .i64 6, .int .i64 7] 3) = W8 at *
      clear s6
      have lt : BoxV g (n + 1 + 1 + 1 + 1 + 1 + 1 + 1 + 1) [.slice (some ⟨n, 0, none⟩) 0 0, .slice (some ⟨n + 1, 0, none⟩) 1 1, .slice (some ⟨n + 1 + 1, 0, none⟩) 1 1, .slice (some ⟨n + 1 + 1 + 1, 0, none⟩) 2 2, .slice (some ⟨n + 1 + 1 + 1 + 1, 0, none⟩) 2 2, .slice (some ⟨n + 1 + 1 + 1 + 1 + 1, 0, none⟩) 1 1, .slice (some ⟨n + 1 + 1 + 1 + 1 + 1 + 1, 0, none⟩) 6 6, .slice (some ⟨n + 1 + 1 + 1 + 1 + 1 + 1 + 1, 0, none⟩) 7 7] (W8.alloc (.cells #[.slice (some ⟨n, 0, none⟩) 0 0, .slice (some ⟨n + 1, 0, none⟩) 1 1, .slice (some ⟨n + 1 + 1, 0, none⟩) 1 1, .slice (some ⟨n + 1 + 1 + 1, 0, none⟩) 2 2, .slice (some ⟨n + 1 + 1 + 1 + 1, 0, none⟩) 2 2, .slice (some ⟨n + 1 + 1 + 1 + 1 + 1, 0, none⟩) 1 1, .slice (some ⟨n + 1 + 1 + 1 + 1 + 1 + 1, 0, none⟩) 6 6, .slice (some ⟨n + 1 + 1 + 1 + 1 + 1 + 1 + 1, 0, none⟩) 7 7] 31)) := by rw [← s7]; exact boxV_new g W8 _ 31 (by omega)
      replace l0 := BoxV.alloc l0 (.cells #[.slice (some ⟨n, 0, none⟩) 0 0, .slice (some ⟨n + 1, 0, none⟩) 1 1, .slice (some ⟨n + 1 + 1, 0, none⟩) 1 1, .slice (some ⟨n + 1 + 1 + 1, 0, none⟩) 2 2, .slice (some ⟨n + 1 + 1 + 1 + 1, 0, none⟩) 2 2, .slice (some ⟨n + 1 + 1 + 1 + 1 + 1, 0, none⟩) 1 1, .slice (some ⟨n + 1 + 1 + 1 + 1 + 1 + 1, 0, none⟩) 6 6, .slice (some ⟨n + 1 + 1 + 1 + 1 + 1 + 1 + 1, 0, none⟩) 7 7] 31)
      replace l1 := BoxV.alloc l1 (.cells #[.slice (some ⟨n, 0, none⟩) 0 0, .slice (some ⟨n + 1, 0, none⟩) 1 1, .slice (some ⟨n + 1 + 1, 0, none⟩) 1 1, .slice (some ⟨n + 1 + 1 + 1, 0, none⟩) 2 2, .slice (some ⟨n + 1 + 1 + 1 + 1, 0, none⟩) 2 2, .slice (some ⟨n + 1 + 1 + 1 + 1 + 1, 0, none⟩) 1 1, .slice (some ⟨n + 1 + 1 + 1 + 1 + 1 + 1, 0, none⟩) 6 6, .slice (some ⟨n + 1 + 1 + 1 + 1 + 1 + 1 + 1, 0, none⟩) 7 7] 31)
      replace l2 := BoxV.alloc l2 (.cells #[.slice (some ⟨n, 0, none⟩) 0 0, .slice (some ⟨n + 1, 0, none⟩) 1 1, .slice (some ⟨n + 1 + 1, 0, none⟩) 1 1, .slice (some ⟨n + 1 + 1 + 1, 0, none⟩) 2 2, .slice (some ⟨n + 1 + 1 + 1 + 1, 0, none⟩) 2 2, .slice (some ⟨n + 1 + 1 + 1 + 1 + 1, 0, none⟩) 1 1, .slice (some ⟨n + 1 + 1 + 1 + 1 + 1 + 1, 0, none⟩) 6 6, .slice (some ⟨n + 1 + 1 + 1 + 1 + 1 + 1 + 1, 0, none⟩) 7 7] 31)
      replace l3 := BoxV.alloc l3 (.cells #[.slice (some ⟨n, 0, none⟩) 0 0, .slice (some ⟨n + 1, 0, none⟩) 1 1, .slice (some ⟨n + 1 + 1, 0, none⟩) 1 1, .slice (some ⟨n + 1 + 1 + 1, 0, none⟩) 2 2, .slice (some ⟨n + 1 + 1 + 1 + 1, 0, none⟩) 2 2, .slice (some ⟨n + 1 + 1 + 1 + 1 + 1, 0, none⟩) 1 1, .slice (some ⟨n + 1 + 1 + 1 + 1 + 1 + 1, 0, none⟩) 6 6, .slice (some ⟨n + 1 + 1 + 1 + 1 + 1 + 1 + 1, 0, none⟩) 7 7] 31)
      replace l4 := BoxV.alloc l4 (.cells #[.slice (some ⟨n, 0, none⟩) 0 0, .slice (some ⟨n + 1, 0, none⟩) 1 1, .slice (some ⟨n + 1 + 1, 0, none⟩) 1 1, .slice (some ⟨n + 1 + 1 + 1, 0, none⟩) 2 2, .slice (some ⟨n + 1 + 1 + 1 + 1, 0, none⟩) 2 2, .slice (some ⟨n + 1 + 1 + 1 + 1 + 1, 0, none⟩) 1 1, .slice (some ⟨n + 1 + 1 + 1 + 1 + 1 + 1, 0, none⟩) 6 6, .slice (some ⟨n + 1 + 1 + 1 + 1 + 1 + 1 + 1, 0, none⟩) 7 7] 31)
      replace l5 := BoxV.alloc l5 (.cells #[.slice (some ⟨n, 0, none⟩) 0 0, .slice (some ⟨n + 1, 0, none⟩) 1 1, .slice (some ⟨n + 1 + 1, 0, none⟩) 1 1, .slice (some ⟨n + 1 + 1 + 1, 0, none⟩) 2 2, .slice (some ⟨n + 1 + 1 + 1 + 1, 0, none⟩) 2 2, .slice (some ⟨n + 1 + 1 + 1 + 1 + 1, 0, none⟩) 1 1, .slice (some ⟨n + 1 + 1 + 1 + 1 + 1 + 1, 0, none⟩) 6 6, .slice (some ⟨n + 1 + 1 + 1 + 1 + 1 + 1 + 1, 0, none⟩) 7 7] 31)
      replace l6 := BoxV.alloc l6 (.cells #[.slice (some ⟨n, 0, none⟩) 0 0, .slice (some ⟨n + 1, 0, none⟩) 1 1, .slice (some ⟨n + 1 + 1, 0, none⟩) 1 1, .slice (some ⟨n + 1 + 1 + 1, 0, none⟩) 2 2, .slice (some ⟨n + 1 + 1 + 1 + 1, 0, none⟩) 2 2, .slice (some ⟨n + 1 + 1 + 1 + 1 + 1, 0, none⟩) 1 1, .slice (some ⟨n + 1 + 1 + 1 + 1 + 1 + 1, 0, none⟩) 6 6, .slice (some ⟨n + 1 + 1 + 1 + 1 + 1 + 1 + 1, 0, none⟩) 7 7] 31)
      replace l7 := BoxV.alloc l7 (.cells #[.slice (some ⟨n, 0, none⟩) 0 0, .slice (some ⟨n + 1, 0, none⟩) 1 1, .slice (some ⟨n + 1 + 1, 0, none⟩) 1 1, .slice (some ⟨n + 1 + 1 + 1, 0, none⟩) 2 2, .slice (some ⟨n + 1 + 1 + 1 + 1, 0, none⟩) 2 2, .slice (some ⟨n + 1 + 1 + 1 + 1 + 1, 0, none⟩) 1 1, .slice (some ⟨n + 1 + 1 + 1 + 1 + 1 + 1, 0, none⟩) 6 6, .slice (some ⟨n + 1 + 1 + 1 + 1 + 1 + 1 + 1, 0, none⟩) 7 7] 31)
      replace hc := hc.alloc (.cells #[.slice (some ⟨n, 0, none⟩) 0 0, .slice (some ⟨n + 1, 0, none⟩) 1 1, .slice (some ⟨n + 1 + 1, 0, none⟩) 1 1, .slice (some ⟨n + 1 + 1 + 1, 0, none⟩) 2 2, .slice (some ⟨n + 1 + 1 + 1 + 1, 0, none⟩) 2 2, .slice (some ⟨n + 1 + 1 + 1 + 1 + 1, 0, none⟩) 1 1, .slice (some ⟨n + 1 + 1 + 1 + 1 + 1 + 1, 0, none⟩) 6 6, .slice (some ⟨n + 1 + 1 + 1 + 1 + 1 + 1 + 1, 0, none⟩) 7 7] 31)
      replace hf := fr_alloc hf (.cells #[.slice (some ⟨n, 0, none⟩) 0 0, .slice (some ⟨n + 1, 0, none⟩) 1 1, .slice (some ⟨n + 1 + 1, 0, none⟩) 1 1, .slice (some ⟨n + 1 + 1 + 1, 0, none⟩) 2 2, .slice (some ⟨n + 1 + 1 + 1 + 1, 0, none⟩) 2 2, .slice (some ⟨n + 1 + 1 + 1 + 1 + 1, 0, none⟩) 1 1, .slice (some ⟨n + 1 + 1 + 1 + 1 + 1 + 1, 0, none⟩) 6 6, .slice (some ⟨n + 1 + 1 + 1 + 1 + 1 + 1 + 1, 0, none⟩) 7 7] 31)
      generalize W8.alloc (.cells #[.slice (some ⟨n, 0, none⟩) 0 0, .slice (some ⟨n + 1, 0, none⟩) 1 1, .slice (some ⟨n + 1 + 1, 0, none⟩) 1 1, .slice (some ⟨n + 1 + 1 + 1, 0, none⟩) 2 2, .slice (some ⟨n + 1 + 1 + 1 + 1, 0, none⟩) 2 2, .slice (some ⟨n + 1 + 1 + 1 + 1 + 1, 0, none⟩) 1 1, .slice (some ⟨n + 1 + 1 + 1 + 1 + 1 + 1, 0, none⟩) 6 6, .slice (some ⟨n + 1 + 1 + 1 + 1 + 1 + 1 + 1, 0, none⟩) 7 7] 31) = W9 at *
      clear s7
      refine (pick_c g _ 8 _ hc (by omega) (by decide)).mono ?_
      rintro e w9 ⟨r, rfl, hr0, _, hr1, _, hf9, hc9⟩
      have hr1 := hr1 (by decide)
      replace hf := hf.trans hf9
      obtain ⟨_, _, _, hpc⟩ := lt.fr hf9
      clear lt hc
      have h8 : r = 0 ∨ r = 1 ∨ r = 2 ∨ r = 3 ∨ r = 4 ∨ r = 5 ∨ r = 6 ∨ r = 7 := by omega
      clear hr0 hr1
      rcases h8 with rfl | rfl | rfl | rfl | rfl | rfl | rfl | rfl
      · have d := hpc 0 _ rfl
        have lk := BoxV.fr l0 hf9
        clear hpc
        go_wp2_with fail
        go_returns
        exact ⟨some ⟨n, 0, none⟩, 0, [], rfl, by decide, LitI.own lk (by omega), by decide, hf, hc9.more (by omega)⟩
      · have d := hpc 1 _ rfl
        have lk := BoxV.fr l1 hf9
        clear hpc
        go_wp2_with fail
        go_returns
        exact ⟨some ⟨n + 1, 0, none⟩, 1, [1], rfl, by decide, LitI.own lk (by omega), by decide, hf, hc9.more (by omega)⟩
      · have d := hpc 2 _ rfl
        have lk := BoxV.fr l2 hf9
        clear hpc
        go_wp2_with fail
        go_returns
        exact ⟨some ⟨n + 1 + 1, 0, none⟩, 1, [2], rfl, by decide, LitI.own lk (by omega), by decide, hf, hc9.more (by omega)⟩
      · have d := hpc 3 _ rfl
        have lk := BoxV.fr l3 hf9
        clear hpc
        go_wp2_with fail
        go_returns
        exact ⟨some ⟨n + 1 + 1 + 1, 0, none⟩, 2, [1, 2], rfl, by decide, LitI.own lk (by omega), by decide, hf, hc9.more (by omega)⟩
      · have d := hpc 4 _ rfl
        have lk := BoxV.fr l4 hf9
        clear hpc
        go_wp2_with fail
        go_returns
        exact ⟨some ⟨n + 1 + 1 + 1 + 1, 0, none⟩, 2, [2, 1], rfl, by decide, LitI.own lk (by omega), by decide, hf, hc9.more (by omega)⟩
      · have d := hpc 5 _ rfl
        have lk := BoxV.fr l5 hf9
        clear hpc
        go_wp2_with fail
        go_returns
        exact ⟨some ⟨n + 1 + 1 + 1 + 1 + 1, 0, none⟩, 1, [0], rfl, by decide, LitI.own lk (by omega), by decide, hf, hc9.more (by omega)⟩
      · have d := hpc 6 _ rfl
        have lk := BoxV.fr l6 hf9
        clear hpc
        go_wp2_with fail
        go_returns
        exact ⟨some ⟨n + 1 + 1 + 1 + 1 + 1 + 1, 0, none⟩, 6, [1, 2, 3, 4, 5, 6], rfl, by decide, LitI.own lk (by omega), by decide, hf, hc9.more (by omega)⟩
      · have d := hpc 7 _ rfl
        have lk := BoxV.fr l7 hf9
        clear hpc
        go_wp2_with fail
        go_returns
        exact ⟨some ⟨n + 1 + 1 + 1 + 1 + 1 + 1 + 1, 0, none⟩, 7, [1, 2, 3, 4, 5, 6, 7], rfl, by decide, LitI.own lk (by omega), by decide, hf, hc9.more (by omega)⟩
    · obtain ⟨hpos, hG⟩ := hb rfl
      have HG := Lib.hid hG
      clear hb hG
      go_wp2_with fail
      refine (pick_c g _ xs.length _ hc (by omega) (by omega)).mono ?_
      rintro e w3 ⟨r, rfl, hr0, _, hr1, hr2, hf3, hc3⟩
      obtain ⟨k, hk, rfl⟩ := pick_nat hr0 hr1 hr2 hpos
      have hr3 := hrc.frN HA.out hf3
      have hf3 := hf.trans hf3
      clear hrc hf hc hr0 hr1 hr2
      have hokk := HY.out xs[k] (List.getElem_mem hk)
      obtain ⟨b, off, rfl, hbs, d0, d1, d2, d3⟩ := hr3.atFlaw hk
      generalize xs[k] = y at d0 d1 d2 d3 hokk
      obtain ⟨ya, yb, yc, yd⟩ := y
      obtain ⟨⟨k1, k2⟩, ⟨k3, k4⟩, ⟨k5, k6⟩, k7, k8⟩ := hokk
      simp only at d0 d1 d2 d3 k1 k2 k3 k4
      have HR := Lib.hid hr3
      clear hr3
      go_upto_region 3 with fail
      have hbx := boxV_new g w3 [.int .i64 ya, .int .i64 yb, .int .i64 yc, .int .i64 yd] 43 hc3.1
      have hc4 := hc3.alloc (.cells #[.int .i64 ya, .int .i64 yb, .int .i64 yc, .int .i64 yd] 43)
      have hf4 := fr_alloc hf3 (.cells #[.int .i64 ya, .int .i64 yb, .int .i64 yc, .int .i64 yd] 43)
      have hr4 := HR.out.go ((Below.refl w3.heap.size w3).alloc (Nat.le_refl _) (.cells #[.int .i64 ya, .int .i64 yb, .int .i64 yc, .int .i64 yd] 43))
      simp only [List.toArray] at hbx
      generalize w3.alloc (.cells #[.int .i64 ya, .int .i64 yb, .int .i64 yc, .int .i64 yd] 43) = V at *
      generalize w3.heap.size = p at *
      clear hc3 hf3 HR d0 d1 d2 d3
      obtain ⟨hpg, hpl, _, hpc⟩ := hbx
      have d0 := hpc 0 _ rfl
      have d1 := hpc 1 _ rfl
      clear hpc
      have KE := Lib.hid (show ∀ W, Below V.heap.size V W → W.cell? ⟨p, 0, none⟩ = some (.int .i64 ya) ∧ W.cell? ⟨p, 1, none⟩ = some (.int .i64 yb) from fun W hW => ⟨(hW.cell (p := ⟨p, 0, none⟩) hpl).trans d0, (hW.cell (p := ⟨p, 1, none⟩) hpl).trans d1⟩)
      have hx1 : p < (V.alloc (.cells #[.int .i64 1, .int .i64 2, .int .i64 3, .int .i64 5, .int .i64 9] 3)).drew.heap.size := Nat.lt_of_lt_of_le hpl (by simp)
      have HR4 := Lib.hid (hr4.go (((Below.refl V.heap.size V).alloc (Nat.le_refl _) (.cells #[.int .i64 1, .int .i64 2, .int .i64 3, .int .i64 5, .int .i64 9] 3)).drew))
      have hf5 := fr_drew (fr_alloc hf4 (.cells #[.int .i64 1, .int .i64 2, .int .i64 3, .int .i64 5, .int .i64 9] 3))
      have hNE := Lib.hid (new_ne hc4.1)
      have hc5 : Cur g (m + 4) (V.alloc (.cells #[.int .i64 1, .int .i64 2, .int .i64 3, .int .i64 5, .int .i64 9] 3)).drew := hc4.alloc _
      clear hr4 hf4 hc4 d0 d1
      go_region_held3 (fun W => W.cell? ⟨p, 0, none⟩ = some (.int .i64 ya) ∧ W.cell? ⟨p, 1, none⟩ = some (.int .i64 yb)) (first | exact KE.out _ (Below.refl _ _) | exact KE.out _ ((Below.refl _ _).drew) | exact KE.out _ (((Below.refl _ _).alloc (Nat.le_refl _) _).drew) | exact ke6 | exact ke7) (first
        | (go_at_call 42; refine (among_c g _ [1, 2, 3, 5, 9] _ 5 _ hc5 (by omega) (rd_litI V [1, 2, 3, 5, 9] 3) hNE.out (by decide) (by decide)).mono ?_; rintro e w6 ⟨v, rfl, hv, hf6, hc6⟩; have ke := KE.out _ (((Below.refl _ _).alloc (Nat.le_refl _) (.cells #[.int .i64 1, .int .i64 2, .int .i64 3, .int .i64 5, .int .i64 9] 3)).drew); have ke6 := And.intro ((cell_frm hf6 hx1 hpg).trans ke.1) ((cell_frm hf6 hx1 hpg).trans ke.2); have hx6 : p < w6.heap.size := Nat.lt_of_lt_of_le hx1 hf6.size; have hr6 := HR4.out.frN HA.out hf6)
        | (go_at_call 36; refine (l15CodesO_c xs _ c _ v _ hr6 HY.out hn).mono ?_; rintro e w7 ⟨B, c', rfl, hb7, hown, hcB⟩; have ke7 := And.intro ((hb7.cell (p := ⟨p, 0, none⟩) hx6).trans ke6.1) ((hb7.cell (p := ⟨p, 1, none⟩) hx6).trans ke6.2)))
      all_goals
        have hl := codesL_len xs (IntKind.i64.wrap (IntKind.i64.wrap (10 * ya) + yb)) v
        have hf7 := (hf5.trans hf6).trans (Fr.of_below hb7)
        have hc7 := hc6.below hb7
        have ho7 := hown.wide (lo' := w.heap.size) (hf5.trans hf6).size (Nat.le_refl _) (Nat.le_refl _)
        generalize codesL xs (IntKind.i64.wrap (IntKind.i64.wrap (10 * ya) + yb)) v = ys at *
        clear hr6 hx6 ke ke6 ke7 hf5 hf6 hc5 hc6 hb7 hown
        go_wp2_with fail
        go_returns
        exact ⟨B, c', ys, rfl, by omega, ho7, hcB, hf7, hc7.more (by omega)⟩
end Go.Proofs.YtgjehnjpbekoeaaDoor
