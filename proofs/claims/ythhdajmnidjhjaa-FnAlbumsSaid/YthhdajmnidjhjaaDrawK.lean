/- What the draws have in common: slices written out, the reader's block, a record of the call's own in a variable. No condition. -/
import Derived.Test.YthhdajmnidjhjaaCur
import Derived.Test.YthhdajmnidjhjaaApp2
import Derived.WalkSpells
namespace Go.Proofs.Ythhdajmnidjhjaa
set_option linter.unusedVariables false
set_option linter.unusedSimpArgs false
open Go.RowKit
attribute [local irreducible] wpQuiet
theorem rd_litI (w : World) (xs : List Int) (E : TypeId) : Rd encI 1 (w.alloc (.cells (xs.map (Value.int .i64)).toArray E)).heap.size (w.alloc (.cells (xs.map (Value.int .i64)).toArray E)) (some ⟨w.heap.size, 0, none⟩) xs := fun _ =>
  ⟨w.heap.size, 0, rfl, by simp, fun i x hx j v hv => by
    have hj : j = 0 := by have := (List.getElem?_eq_some_iff.1 hv).1; simp [encI] at this; omega
    subst hj
    have hv' : v = .int .i64 x := by simpa [encI] using hv.symm
    subst hv'
    rw [World.cell?_alloc_new]
    simp [hx]⟩
theorem rd_litS (w : World) (xs : List ByteArray) (E : TypeId) : Rd encS 1 (w.alloc (.cells (xs.map Value.string).toArray E)).heap.size (w.alloc (.cells (xs.map Value.string).toArray E)) (some ⟨w.heap.size, 0, none⟩) xs := fun _ =>
  ⟨w.heap.size, 0, rfl, by simp, fun i x hx j v hv => by
    have hj : j = 0 := by have := (List.getElem?_eq_some_iff.1 hv).1; simp [encS] at this; omega
    subst hj
    have hv' : v = .string x := by simpa [encS] using hv.symm
    subst hv'
    rw [World.cell?_alloc_new]
    simp [hx]⟩
theorem rd_litP (w : World) (xs : List Int) (E : TypeId) (p : Nat) (hp : p = w.heap.size) : Rd encI 1 (w.alloc (.cells (xs.map (Value.int .i64)).toArray E)).heap.size (w.alloc (.cells (xs.map (Value.int .i64)).toArray E)) (some ⟨p, 0, none⟩) xs := by subst hp; exact rd_litI w xs E
theorem new_neP {g p : Nat} (h : g < p) : ∀ b off, (some ⟨p, 0, none⟩ : Option Addr) = some ⟨b, off, none⟩ → b ≠ g := fun b off e => by injection e with e; injection e with e1 _; omega
theorem Cur.alloc {g m : Nat} {w : World} (h : Cur g m w) (o : Obj) : Cur g m (w.alloc o) := h.below ((Below.refl _ _).alloc (Nat.le_refl _) _)
theorem fr_alloc {lo hi : Nat} {a w : World} (h : Fr lo hi a w) (o : Obj) : Fr lo hi a (w.alloc o) := h.trans (Fr.of_below ((Below.refl _ _).alloc (Nat.le_refl _) _))
theorem fr_drew {lo hi : Nat} {a w : World} (h : Fr lo hi a w) : Fr lo hi a w.drew := ⟨h.os, h.tape, h.output, h.size, h.block⟩
theorem new_ne {g : Nat} {w : World} (h : g < w.heap.size) : ∀ b off, (some ⟨w.heap.size, 0, none⟩ : Option Addr) = some ⟨b, off, none⟩ → b ≠ g := fun b off e => by injection e with e; injection e with e1 _; omega
theorem Rd.fr {α : Type} {enc : α → List Value} {k g : Nat} {w w' : World} {A : Option Addr} {xs : List α} (h : Rd enc k w.heap.size w A xs) (hA : ∀ b off, A = some ⟨b, off, none⟩ → b ≠ g) (hf : Fr g (g + 1) w w') : Rd enc k w'.heap.size w' A xs := fun hn => by
  obtain ⟨b, off, rfl, hb, hc⟩ := h hn
  have hne := hA b off rfl
  have hk := hf.block b hb (by omega)
  exact ⟨b, off, rfl, Nat.lt_of_lt_of_le hb hf.size, fun i x hx j v hv => (World.cell?_of_block (w := w) (a := ⟨b, _, none⟩) hk).trans (hc i x hx j v hv)⟩
theorem Rd.drew {α : Type} {enc : α → List Value} {k : Nat} {w : World} {A : Option Addr} {xs : List α} (h : Rd enc k w.heap.size w A xs) : Rd enc k w.drew.heap.size w.drew A xs := h
theorem addr_eq {b off b' off' : Nat} (h : (some ⟨b, off, none⟩ : Option Addr) = some ⟨b', off', none⟩) : b = b' ∧ off = off' := by injection h with h; injection h with h1 h2; exact ⟨h1, h2⟩
theorem pick_nat {r : Int} {n : Nat} (h0 : 0 ≤ r) (h1 : 1 < (n : Int) → r < n) (h2 : (n : Int) ≤ 1 → r = 0) (hn : 0 < n) : ∃ k : Nat, k < n ∧ r = (k : Int) := by
  obtain ⟨k, rfl⟩ := Int.eq_ofNat_of_zero_le h0
  refine ⟨k, ?_, rfl⟩
  by_cases h : 1 < (n : Int)
  · have := h1 h; omega
  · have := h2 (by omega); omega
theorem OutR.fr {α : Type} {enc : α → List Value} {k : Nat} {E : TypeId} {base g : Nat} {v : Value} {ys : List α} {w w' : World} (h : OutR enc k E base v ys w) (hf : Fr g (g + 1) w w') (hg : g < base) : OutR enc k E base v ys w' := by
  have hgr : w.grownBy w' (some g) := ⟨hf.os, hf.tape, hf.output, hf.size, fun k hk hne => hf.block k hk (by have : k ≠ g := fun e => hne (by rw [e]); omega)⟩
  refine World.ownsRow.kept h hgr ?_
  cases hv : v.ownBlock with
  | none => simp
  | some q => exact .inr (by have := h.from_ q hv; intro e; injection e; omega)
theorem cur_set {g m p j : Nat} {w : World} {u : Value} (h : Cur g m w) (hp : g < p) : Cur g m (w.setCell ⟨p, j, none⟩ u) :=
  h.keep (by simp [World.setCell]) fun b hb => Below.heap_setCell _ _ _ _ (by simp only; omega)
theorem fr_set {lo hi p j : Nat} {a w : World} {u : Value} (h : Fr lo hi a w) (hp : a.heap.size ≤ p) : Fr lo hi a (w.setCell ⟨p, j, none⟩ u) :=
  ⟨h.os, h.tape, h.output, by simpa [World.setCell] using h.size, fun k hk hn => (Below.heap_setCell _ _ _ _ (by simp only; omega)).trans (h.block k hk hn)⟩
theorem OutR.set_ {α : Type} {enc : α → List Value} {k : Nat} {E : TypeId} {base p j : Nat} {v : Value} {ys : List α} {w : World} {u : Value} (h : OutR enc k E base v ys w) (hp : v.ownBlock ≠ some p) : OutR enc k E base v ys (w.setCell ⟨p, j, none⟩ u) := by
  have hgr : w.grownBy (w.setCell ⟨p, j, none⟩ u) (some p) := ⟨rfl, rfl, rfl, by simp [World.setCell], fun k hk hne => Below.heap_setCell _ _ _ _ (by simp only; intro e; exact hne (by rw [e]))⟩
  exact World.ownsRow.kept h hgr (by cases hv : v.ownBlock with
    | none => simp
    | some q => exact .inr (by rw [← hv]; exact hp))
theorem OutR.fresh {α : Type} {enc : α → List Value} {k : Nat} {E : TypeId} {base lo : Nat} {v : Value} {ys : List α} {w : World} (h : OutR enc k E base v ys w) (hl : lo ≤ base) : OutR enc k E lo v ys w := by
  refine ⟨h.1, ?_⟩
  rcases h.2 with h0 | ⟨g, cap, cur, hv, hb, h2⟩
  · exact .inl h0
  · exact .inr ⟨g, cap, cur, hv, by omega, h2⟩
theorem OutR.blk {α : Type} {enc : α → List Value} {k : Nat} {E : TypeId} {base : Nat} {v : Value} {ys : List α} {w : World} (h : OutR enc k E base v ys w) : v.ownBlock ≠ some w.heap.size := by
  intro e
  have := (World.ownsRow.lt h w.heap.size e).2
  omega
theorem far {p i j : Nat} {w : World} {u : Value} (h : i ≠ j) : (w.setCell ⟨p, i, none⟩ u).cell? ⟨p, j, none⟩ = w.cell? ⟨p, j, none⟩ := World.cell?_setCell_other w _ _ u (fun e => by injection e; omega)
/-- A reader that the call has just made. -/
theorem cur_new (w : World) (bs : List Int) (A : Option Addr) (c : Nat) (E : TypeId) (hr : Rd encY 1 w.heap.size w A bs) (hn : bs.length ≤ 65536) (hc : bs.length ≤ c) (hb : ∀ b ∈ bs, ByteI b) : Cur w.heap.size 0 (w.alloc (.cells #[.slice A bs.length c, .int .i64 0, .int .u64 0] E)) :=
  ⟨by simp, A, bs, c, 0, 0, by simp, by simp, by simp, Nat.le_refl _, hn, hc, hb, hr.keep fun b o h => ((Below.refl _ _).alloc (Nat.le_refl _) _).cell (p := ⟨b, o, none⟩) h, by decide, by decide, fun o => World.frozen?_alloc_new w _ E o⟩
theorem below_new {w w' : World} {o : Obj} (h : Fr w.heap.size (w.heap.size + 1) (w.alloc o) w') : Below w.heap.size w w' :=
  ((Below.refl _ _).alloc (Nat.le_refl _) _).trans (h.below (Nat.le_refl _) (by simp))
theorem Own.toNe {α : Type} {enc : α → List Value} {k lo hi g : Nat} {w : World} {A : Option Addr} {xs : List α} (h : Own enc k lo hi w A xs) (hg : g < lo) : 0 < xs.length → ∀ b off, A = some ⟨b, off, none⟩ → b ≠ g := fun hn b off e => by
  obtain ⟨b', off', hA, h1, _⟩ := h.2 hn
  rw [hA] at e
  obtain ⟨rfl, rfl⟩ := addr_eq e
  omega
/-- A record of the call's own in a block of its own: its cells are vs. -/
def BoxV (g p : Nat) (vs : List Value) (w : World) : Prop := p ≠ g ∧ p < w.heap.size ∧ (∀ o, w.frozen? ⟨p, o, none⟩ = false) ∧ ∀ i v, vs[i]? = some v → w.cell? ⟨p, i, none⟩ = some v
section
variable {g p : Nat} {vs : List Value} {w w' : World}
theorem BoxV.fr (h : BoxV g p vs w) (hf : Fr g (g + 1) w w') : BoxV g p vs w' := by
  obtain ⟨h1, h2, h3, h4⟩ := h
  have hk := hf.block p h2 (by omega)
  exact ⟨h1, Nat.lt_of_lt_of_le h2 hf.size, fun o => (World.frozen?_of_block (w := w) (a := ⟨p, o, none⟩) hk).trans (h3 o), fun i v hv => (World.cell?_of_block (w := w) (a := ⟨p, i, none⟩) hk).trans (h4 i v hv)⟩
theorem BoxV.below (h : BoxV g p vs w) (hb : Below w.heap.size w w') : BoxV g p vs w' := h.fr (Fr.of_below hb)
theorem BoxV.alloc (h : BoxV g p vs w) (o : Obj) : BoxV g p vs (w.alloc o) := h.below ((Below.refl _ _).alloc (Nat.le_refl _) _)
theorem BoxV.set (h : BoxV g p vs w) (j : Nat) (hj : j < vs.length) (u : Value) : BoxV g p (vs.set j u) (w.setCell ⟨p, j, none⟩ u) := by
  obtain ⟨h1, h2, h3, h4⟩ := h
  refine ⟨h1, by simpa [World.setCell] using h2, fun o => by rw [World.frozen?_setCell]; exact h3 o, fun i v hv => ?_⟩
  by_cases hi : j = i
  · subst hi
    rw [List.getElem?_set_self hj] at hv
    injection hv with hv; subst hv
    exact World.cell?_setCell_same _ _ _ (h4 j _ (List.getElem?_eq_getElem hj))
  · rw [List.getElem?_set_ne hi] at hv
    exact (far hi).trans (h4 i v hv)
theorem BoxV.other {q j : Nat} {u : Value} (h : BoxV g p vs w) (hq : p ≠ q) : BoxV g p vs (w.setCell ⟨q, j, none⟩ u) := by
  obtain ⟨h1, h2, h3, h4⟩ := h
  exact ⟨h1, by simpa [World.setCell] using h2, fun o => by rw [World.frozen?_setCell]; exact h3 o, fun i v hv => (World.cell?_setCell_other w _ _ u (fun e => by injection e; omega)).trans (h4 i v hv)⟩
theorem boxV_new (g : Nat) (w : World) (vs : List Value) (E : TypeId) (h : g < w.heap.size) : BoxV g w.heap.size vs (w.alloc (.cells vs.toArray E)) :=
  ⟨by omega, by simp, fun o => World.frozen?_alloc_new w _ E o, fun i v hv => by rw [World.cell?_alloc_new]; simpa using hv⟩
end
theorem boxV_at (g : Nat) (w : World) (vs : List Value) (E : TypeId) (h : w.heap.size ≠ g) : BoxV g w.heap.size vs (w.alloc (.cells vs.toArray E)) :=
  ⟨h, by simp, fun o => World.frozen?_alloc_new w _ E o, fun i v hv => by rw [World.cell?_alloc_new]; simpa using hv⟩
theorem cur_app {g m base : Nat} {w w' : World} {o : Obj} (h : Cur g m w) (hb : Below base (w.alloc o) w') (hg : g < base) : Cur g m w' :=
  h.keep (Nat.le_trans (by simp) hb.size) fun b hb' => (hb.block b (by omega)).trans (((Below.refl w.heap.size w).alloc (Nat.le_refl _) o).block b (by have := h.1; omega))
theorem fr_app {lo hi base : Nat} {a w w' : World} {o : Obj} (h : Fr lo hi a w) (hb : Below base (w.alloc o) w') (hle : a.heap.size ≤ base) : Fr lo hi a w' :=
  have hA := (Below.refl w.heap.size w).alloc (Nat.le_refl _) o
  ⟨hb.os.trans (hA.os.trans h.os), hb.tape.trans (hA.tape.trans h.tape), hb.output.trans (hA.output.trans h.output), Nat.le_trans h.size (Nat.le_trans hA.size hb.size), fun b h1 h2 => (hb.block b (by omega)).trans ((hA.block b (Nat.lt_of_lt_of_le h1 h.size)).trans (h.block b h1 h2))⟩
def lenV : Value → Nat
  | .slice _ n _ => n
  | _ => 0
end Go.Proofs.Ythhdajmnidjhjaa
