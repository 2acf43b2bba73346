/- Contracts of the functions by which the laws copy, compare and count albums. No condition but the size that the laws ask. -/
import Derived.Test.YtpjnlcppjcnlgaaGreatDoorCvPage
namespace Go.Proofs.YtpjnlcppjcnlgaaGreatDoor
set_option linter.unusedVariables false
set_option linter.unusedSimpArgs false
open Go.RowKit
/-- Block g has n*4 cells that may be written; the first of them are the pages ps, their items in blocks of their own behind g and below hi. -/
structure FillP (g n hi : Nat) (ps : List Page) (w : World) : Prop where
  lt : g < hi
  le : hi ≤ w.heap.size
  there : ∀ o, o < n * 4 → ∃ v, w.cell? ⟨g, o, none⟩ = some v
  free : ∀ o, w.frozen? ⟨g, o, none⟩ = false
  pages : ∃ ix : Nat → Nat, ∀ (i : Nat) (p : Page), ps[i]? = some p → OPg g hi ix g i w (i * 4) p
theorem FillP.new (w : World) (cs : Array Value) (e : TypeId) (n : Nat) (h : cs.size = n * 4) : FillP w.heap.size n (w.heap.size + 1) [] (w.alloc (.cells cs e)) :=
  ⟨by omega, by simp, fun o ho => ⟨cs[o]'(by omega), by rw [World.cell?_alloc_new, Array.getElem?_eq_getElem (by omega)]⟩, fun o => World.frozen?_alloc_new w cs e o, fun _ => 0, fun i p h => by simp at h⟩
theorem FillP.below {g n hi : Nat} {ps : List Page} {w w' : World} (h : FillP g n hi ps w) (hb : Below w.heap.size w w') : FillP g n hi ps w' := by
  have hg := h.lt
  have hl := h.le
  have kc : ∀ b o, g ≤ b → b < hi → w'.cell? ⟨b, o, none⟩ = w.cell? ⟨b, o, none⟩ := fun b o _ h2 => hb.cell (p := ⟨b, o, none⟩) (by simp only; omega)
  have kf : ∀ b o, g ≤ b → b < hi → w'.frozen? ⟨b, o, none⟩ = w.frozen? ⟨b, o, none⟩ := fun b o _ h2 => hb.frozen (p := ⟨b, o, none⟩) (by simp only; omega)
  obtain ⟨ix, hp⟩ := h.pages
  exact ⟨hg, Nat.le_trans hl hb.size, fun o ho => by obtain ⟨v, hv⟩ := h.there o ho; exact ⟨v, (kc _ _ (Nat.le_refl _) hg).trans hv⟩, fun o => (kf _ _ (Nat.le_refl _) hg).trans (h.free o), ix, fun i p hi => (hp i p hi).keep (Nat.le_refl _) hg kc kf⟩
theorem FillP.step {g n hi hi2 i c : Nat} {xs : List Page} {w : World} {A : Option Addr} (h : FillP g n hi (xs.take i) w) (hx : i < xs.length) (hn : xs.length ≤ n) (ho : Own encI 1 hi hi2 w A xs[i].items) (hc : xs[i].items.length ≤ c) (hh : hi ≤ hi2) :
    FillP g n hi2 (xs.take (i + 1)) (w.setCells g (i * 4) [.int .i64 xs[i].id, .string xs[i].title, .int .i64 xs[i].under, .slice A xs[i].items.length c]) := by
  obtain ⟨ix, hp⟩ := h.pages
  have hg := h.lt
  have hlen : (xs.take i).length = i := by simp; omega
  have h0 := h.there (i * 4) (by omega)
  have h1 := h.there (i * 4 + 1) (by omega)
  have h2 := h.there (i * 4 + 2) (by omega)
  have h3 := h.there (i * 4 + 3) (by omega)
  show FillP g n hi2 (xs.take (i + 1)) ((((w.setCell ⟨g, i * 4, none⟩ (.int .i64 xs[i].id)).setCell ⟨g, i * 4 + 1, none⟩ (.string xs[i].title)).setCell ⟨g, i * 4 + 2, none⟩ (.int .i64 xs[i].under)).setCell ⟨g, i * 4 + 3, none⟩ (.slice A xs[i].items.length c))
  have far : ∀ (W : World) (p q : Nat) (u : Value), p ≠ q → (W.setCell ⟨g, p, none⟩ u).cell? ⟨g, q, none⟩ = W.cell? ⟨g, q, none⟩ := fun W p q u h => World.cell?_setCell_other W _ _ u (fun e => by injection e; omega)
  have out : ∀ (W : World) (p q b : Nat) (u : Value), b ≠ g → (W.setCell ⟨g, p, none⟩ u).cell? ⟨b, q, none⟩ = W.cell? ⟨b, q, none⟩ := fun W p q b u h => World.cell?_setCell_other W _ _ u (fun e => by injection e; omega)
  refine ⟨by omega, by simpa [World.setCell] using ho.1, fun o h' => setCell_keeps (setCell_keeps (setCell_keeps (setCell_keeps (h.there o h')))), fun o => by simp only [World.frozen?_setCell]; exact h.free o, fun b => if hi ≤ b then i else ix b, fun j p hj => ?_⟩
  rcases Nat.lt_or_ge j i with hji | hji
  · rw [List.getElem?_take, if_pos (by omega)] at hj
    have hj' : (xs.take i)[j]? = some p := by rw [List.getElem?_take, if_pos hji]; exact hj
    refine OPg.wide (lo := g) (hi := hi) (ix := ix) ?_ (Nat.le_refl _) hh (fun x _ hx => if_neg (by omega))
    exact ((((hp j p hj').set_ (by omega) _).set_ (by omega) _).set_ (by omega) _).set_ (by omega) _
  · have hje : j = i := by
      rcases Nat.eq_or_lt_of_le hji with e | e
      · exact e.symm
      · rw [List.getElem?_take, if_neg (by omega)] at hj; cases hj
    subst hje
    rw [List.getElem?_take, if_pos (by omega), List.getElem?_eq_getElem hx] at hj
    injection hj with hj
    subst hj
    obtain ⟨v0, e0⟩ := h0
    obtain ⟨v1, e1⟩ := h1
    obtain ⟨v2, e2⟩ := h2
    obtain ⟨v3, e3⟩ := h3
    refine ⟨?_, ?_, ?_, A, c, ?_, hc, fun hpos => ?_⟩
    · rw [far _ _ _ _ (by omega), far _ _ _ _ (by omega), far _ _ _ _ (by omega)]; exact World.cell?_setCell_same _ _ _ e0
    · rw [far _ _ _ _ (by omega), far _ _ _ _ (by omega)]; exact World.cell?_setCell_same _ _ _ ((far _ _ _ _ (by omega)).trans e1)
    · rw [far _ _ _ _ (by omega)]; exact World.cell?_setCell_same _ _ _ ((far _ _ _ _ (by omega)).trans ((far _ _ _ _ (by omega)).trans e2))
    · exact World.cell?_setCell_same _ _ _ ((far _ _ _ _ (by omega)).trans ((far _ _ _ _ (by omega)).trans ((far _ _ _ _ (by omega)).trans e3)))
    · obtain ⟨b, off, rfl, k1, k2, k3, k4⟩ := ho.2 hpos
      refine ⟨b, off, rfl, by omega, k2, by omega, if_pos k1, fun m z hz => ?_, fun o => by simp only [World.frozen?_setCell]; exact k4 o⟩
      rw [out _ _ _ _ _ (by omega), out _ _ _ _ _ (by omega), out _ _ _ _ _ (by omega), out _ _ _ _ _ (by omega)]
      simpa using k3 m z hz 0 _ rfl
theorem FillP.own {g n hi : Nat} {ps : List Page} {w : World} (h : FillP g n hi ps w) : OwnP g hi w (some ⟨g, 0, none⟩) ps := by
  obtain ⟨ix, hp⟩ := h.pages
  exact ⟨h.le, fun _ => ⟨g, 0, ix, rfl, Nat.le_refl _, h.lt, h.free, fun i p hi => by simpa using hp i p hi⟩⟩
theorem infoPage : (Tryz.prog.info? 56).map (fun i => (i.zero, i.size, i.bytes)) = some (some (.agg #[.int .i64 0, .string ⟨#[]⟩, .int .i64 0, .slice none 0 0]), 4, 56) := by kernel_rfl
end Go.Proofs.YtpjnlcppjcnlgaaGreatDoor
