/- Words for a slice that a call makes by 'make([]T, n)' and fills in a loop, and for writes into a slice of its own. No condition of its own. -/
import Derived.Test.YtpnkeaeikcobfaaGreatDoorLib
import Derived.Laws.MakeOwn
import Derived.Laws.NewBlocks
import Derived.Laws.IdiomCopy
namespace Go.Proofs.YtpnkeaeikcobfaaGreatDoor
set_option linter.unusedVariables false
set_option linter.unusedSimpArgs false
open Go.RowKit

theorem run_makeFull {P : Program} (t e : TypeId) (i : TypeInfo) (z : Value) (ht : P.underlying t = some (.slice e)) (hi : P.info? e = some i) (hz : i.zero = some z) (n : Nat) (hb : i.bytes * n ≤ 281474976710656) (h63 : n ≤ 9223372036854775807) (w : World) :
    (Instr.makeSlice t (.int .i64 (n : Int)) (.int .i64 (n : Int))).run P w = .ok (.slice (some ⟨w.heap.size, 0, none⟩) n n) (w.alloc (.cells (madeCells z.cells (n * i.size)) e)) := by
  have hb' : (i.bytes : Int) * (n : Int) ≤ 281474976710656 := by
    have h : ((i.bytes * n : Nat) : Int) ≤ 281474976710656 := by omega
    rwa [Int.natCast_mul] at h
  have hr := run_make (P := P) w t e i z ht hi hz .i64 .i64 n n (by omega) (by omega) hb' (by omega)
  simp only [Int.toNat_natCast] at hr
  exact hr

theorem setCell_keeps {w : World} {p q : Addr} {x : Value} (h : ∃ v, w.cell? q = some v) : ∃ v, (w.setCell p x).cell? q = some v := by
  obtain ⟨v, h⟩ := h
  by_cases e : p = q
  · subst e; exact ⟨x, World.cell?_setCell_same w p x h⟩
  · exact ⟨v, by rw [World.cell?_setCell_other w p q x e]; exact h⟩

/-- Block g has n*k cells that may be written; the first of them are the records ys. -/
structure Fill {α : Type} (enc : α → List Value) (k g n : Nat) (ys : List α) (w : World) : Prop where
  lt : g < w.heap.size
  there : ∀ o, o < n * k → ∃ v, w.cell? ⟨g, o, none⟩ = some v
  free : ∀ o, w.frozen? ⟨g, o, none⟩ = false
  cells : ∀ (i : Nat) (x : α), ys[i]? = some x → ∀ (j : Nat) (v : Value), (enc x)[j]? = some v → w.cell? ⟨g, i * k + j, none⟩ = some v

section
variable {α : Type} {enc : α → List Value} {k g n : Nat} {ys : List α} {w w' : World}
theorem Fill.new (w : World) (cs : Array Value) (e : TypeId) (h : cs.size = n * k) : Fill enc k w.heap.size n [] (w.alloc (.cells cs e)) :=
  ⟨by simp, fun o ho => ⟨cs[o]'(by omega), by rw [World.cell?_alloc_new, Array.getElem?_eq_getElem (by omega)]⟩, fun o => World.frozen?_alloc_new w cs e o, fun i x h => by simp at h⟩
theorem Fill.keep (h : Fill enc k g n ys w) (hs : w.heap.size ≤ w'.heap.size) (hb : w'.heap[g]? = w.heap[g]?) : Fill enc k g n ys w' :=
  ⟨Nat.lt_of_lt_of_le h.lt hs, fun o ho => by
      obtain ⟨v, hv⟩ := h.there o ho
      exact ⟨v, (World.cell?_of_block (w := w) (a := ⟨g, o, none⟩) hb).trans hv⟩,
    fun o => (World.frozen?_of_block (w := w) (a := ⟨g, o, none⟩) hb).trans (h.free o),
    fun i x hx j v hv => (World.cell?_of_block (w := w) (a := ⟨g, i * k + j, none⟩) hb).trans (h.cells i x hx j v hv)⟩
theorem Fill.below (h : Fill enc k g n ys w) (hb : Below w.heap.size w w') : Fill enc k g n ys w' := h.keep hb.size (hb.block g h.lt)
theorem Fill.set_ (h : Fill enc k g n ys w) {o : Nat} (ho : ys.length * k ≤ o) (hk : ∀ x, x ∈ ys → (enc x).length = k) (u : Value) : Fill enc k g n ys (w.setCell ⟨g, o, none⟩ u) :=
  ⟨by simpa [World.setCell] using h.lt, fun o' h' => setCell_keeps (h.there o' h'), fun o' => by rw [World.frozen?_setCell]; exact h.free o',
    fun i x hx j v hv => by
      have hi : i < ys.length := (List.getElem?_eq_some_iff.1 hx).1
      have hj : j < k := by rw [← hk x (List.mem_of_getElem? hx)]; exact (List.getElem?_eq_some_iff.1 hv).1
      have : i * k + j < ys.length * k := by
        have := Nat.mul_le_mul_right k (show i + 1 ≤ ys.length by omega)
        rw [Nat.add_mul] at this
        omega
      rw [World.cell?_setCell_other w _ _ u (fun e => by injection e; omega)]
      exact h.cells i x hx j v hv⟩
theorem Fill.snoc (h : Fill enc k g n ys w) {x : α} (hx : ∀ (j : Nat) (v : Value), (enc x)[j]? = some v → w.cell? ⟨g, ys.length * k + j, none⟩ = some v) : Fill enc k g n (ys ++ [x]) w :=
  ⟨h.lt, h.there, h.free, fun i y hy j v hv => by
    rcases Nat.lt_or_ge i ys.length with hi | hi
    · rw [List.getElem?_append_left hi] at hy
      exact h.cells i y hy j v hv
    · rw [List.getElem?_append_right hi] at hy
      have : i = ys.length := by
        rcases Nat.eq_or_lt_of_le hi with e | e
        · exact e.symm
        · rw [List.getElem?_eq_none (by simp; omega)] at hy; cases hy
      subst this
      simp at hy
      subst hy
      exact hx j v hv⟩
theorem Fill.own (h : Fill enc k g n ys w) {lo hi : Nat} (hl : lo ≤ g) (hg : g < hi) (hh : hi ≤ w.heap.size) : Own enc k lo hi w (some ⟨g, 0, none⟩) ys :=
  ⟨hh, fun _ => ⟨g, 0, rfl, hl, hg, fun i x hx j v hv => by simpa using h.cells i x hx j v hv, h.free⟩⟩
end

theorem take_succ_get {α : Type} (xs : List α) (i : Nat) (h : i < xs.length) : xs.take (i + 1) = xs.take i ++ [xs[i]] := by
  rw [List.take_succ_eq_append_getElem h]

theorem Fill.step {α : Type} {enc : α → List Value} {k g n i : Nat} {xs : List α} {w : World} (h : Fill enc k g n (xs.take i) w) (hi : i < xs.length) (hn : xs.length ≤ n) (hl : ∀ x : α, (enc x).length = k) :
    Fill enc k g n (xs.take (i + 1)) (w.setCells g (i * k) (enc xs[i])) := by
  have hlen : (xs.take i).length = i := by simp; omega
  have hroom : ∀ j, j < (enc xs[i]).length → (w.cell? ⟨g, i * k + j, none⟩).isSome = true := fun j hj => by
    rw [hl] at hj
    have := Nat.mul_le_mul_right k (show i + 1 ≤ n by omega)
    rw [Nat.add_mul] at this
    obtain ⟨v, hv⟩ := h.there (i * k + j) (by omega)
    rw [hv]; rfl
  rw [take_succ_get xs i hi]
  have h1 : Fill enc k g n (xs.take i) (w.setCells g (i * k) (enc xs[i])) := by
    have : ∀ (vs : List Value) (o : Nat) (w : World), i * k ≤ o → Fill enc k g n (xs.take i) w → Fill enc k g n (xs.take i) (w.setCells g o vs) := by
      intro vs
      induction vs with
      | nil => intro o w _ h; exact h
      | cons v vs ih => intro o w ho h; exact ih (o + 1) _ (by omega) (h.set_ (by rw [hlen]; exact ho) (fun x _ => hl x) v)
    exact this _ _ _ (Nat.le_refl _) h
  refine h1.snoc fun j v hv => ?_
  rw [hlen]
  obtain ⟨hj, hv⟩ := List.getElem?_eq_some_iff.1 hv
  rw [World.cell?_setCells_in g _ _ _ hroom j hj, hv]
theorem below_setCells {B g : Nat} {a : World} (hg : B ≤ g) : ∀ (vs : List Value) (o : Nat) (w : World), Below B a w → Below B a (w.setCells g o vs)
  | [], _, _, h => h
  | v :: vs, o, w, h => below_setCells hg vs (o + 1) _ (h.setCell (p := ⟨g, o, none⟩) hg v)
end Go.Proofs.YtpnkeaeikcobfaaGreatDoor
