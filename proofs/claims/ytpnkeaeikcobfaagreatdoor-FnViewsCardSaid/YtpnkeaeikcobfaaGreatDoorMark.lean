/- Words for a slice of the call's own that is written anew record by record; the text of a mark; marks on numbers. No condition of its own. -/
import Derived.Test.YtpnkeaeikcobfaaGreatDoorFill
import Derived.Test.YtpnkeaeikcobfaaGreatDoorProg
namespace Go.Proofs.YtpnkeaeikcobfaaGreatDoor
set_option linter.unusedVariables false
set_option linter.unusedSimpArgs false
open Go.RowKit

/-- Block g has n*k cells from off on that may be written; the records before number i are f 0, f 1, ..; of record i the first cells are cur. -/
structure Mk {α : Type} (enc : α → List Value) (f : Nat → α) (k g off n i : Nat) (cur : List Value) (w : World) : Prop where
  lt : g < w.heap.size
  there : ∀ o, o < n * k → ∃ v, w.cell? ⟨g, off + o, none⟩ = some v
  free : ∀ o, w.frozen? ⟨g, o, none⟩ = false
  cells : ∀ i', i' < i → ∀ (j : Nat) (v : Value), (enc (f i'))[j]? = some v → w.cell? ⟨g, off + i' * k + j, none⟩ = some v
  cur : ∀ (j : Nat) (v : Value), cur[j]? = some v → w.cell? ⟨g, off + i * k + j, none⟩ = some v

section
variable {α : Type} {enc : α → List Value} {f : Nat → α} {k g off n i lo hi : Nat} {cur : List Value} {w w' : World} {A : Option Addr} {xs : List α}
theorem mul_lt_step {i' i k j : Nat} (h : i' < i) (hj : j < k) : i' * k + j < i * k := by
  have := Nat.mul_le_mul_right k (show i' + 1 ≤ i by omega)
  rw [Nat.add_mul] at this
  omega
theorem Mk.begin_ (o : Own enc k lo hi w A xs) (hn : 0 < xs.length) (hl : ∀ x : α, (enc x).length = k) : ∃ b off, A = some ⟨b, off, none⟩ ∧ lo ≤ b ∧ b < hi ∧ Mk enc f k b off xs.length 0 [] w := by
  obtain ⟨b, off, hA, h1, h2, hc, hf⟩ := o.2 hn
  refine ⟨b, off, hA, h1, h2, Nat.lt_of_lt_of_le h2 o.1, fun o' ho => ?_, hf, fun i' h => absurd h (by omega), fun j v h => by simp at h⟩
  have hk : 0 < k := by
    rcases Nat.eq_zero_or_pos k with h | h
    · subst h; omega
    · exact h
  have hd : o' / k < xs.length := Nat.div_lt_of_lt_mul (by rw [Nat.mul_comm]; exact ho)
  have hm : o' % k < k := Nat.mod_lt _ hk
  have hx := hc (o' / k) _ (List.getElem?_eq_getElem hd) (o' % k) _ (List.getElem?_eq_getElem (by rw [hl]; exact hm))
  have : off + o' / k * k + o' % k = off + o' := by rw [Nat.mul_comm, Nat.add_assoc, Nat.div_add_mod]
  rw [this] at hx
  exact ⟨_, hx⟩
theorem Mk.keep (h : Mk enc f k g off n i cur w) (hs : w.heap.size ≤ w'.heap.size) (hb : w'.heap[g]? = w.heap[g]?) : Mk enc f k g off n i cur w' :=
  ⟨Nat.lt_of_lt_of_le h.lt hs, fun o ho => by
      obtain ⟨v, hv⟩ := h.there o ho
      exact ⟨v, (World.cell?_of_block (w := w) (a := ⟨g, off + o, none⟩) hb).trans hv⟩,
    fun o => (World.frozen?_of_block (w := w) (a := ⟨g, o, none⟩) hb).trans (h.free o),
    fun i' hi j v hv => (World.cell?_of_block (w := w) (a := ⟨g, off + i' * k + j, none⟩) hb).trans (h.cells i' hi j v hv),
    fun j v hv => (World.cell?_of_block (w := w) (a := ⟨g, off + i * k + j, none⟩) hb).trans (h.cur j v hv)⟩
theorem Mk.below (h : Mk enc f k g off n i cur w) (hb : Below w.heap.size w w') : Mk enc f k g off n i cur w' := h.keep hb.size (hb.block g h.lt)
theorem Mk.at_ (h : Mk enc f k g off n i cur w) (hi : i < n) {j : Nat} (hj : j < k) : ∃ v, w.cell? ⟨g, off + i * k + j, none⟩ = some v := by
  have := h.there (i * k + j) (mul_lt_step hi hj)
  rwa [← Nat.add_assoc] at this
theorem Mk.set_ (h : Mk enc f k g off n i cur w) (hi : i < n) (hj : cur.length < k) (hl : ∀ x : α, (enc x).length = k) (u : Value) : Mk enc f k g off n i (cur ++ [u]) (w.setCell ⟨g, off + i * k + cur.length, none⟩ u) :=
  ⟨by simpa [World.setCell] using h.lt, fun o' h' => setCell_keeps (h.there o' h'), fun o' => by rw [World.frozen?_setCell]; exact h.free o',
    fun i' hi' j v hv => by
      have hj' : j < k := by rw [← hl (f i')]; exact (List.getElem?_eq_some_iff.1 hv).1
      have := mul_lt_step hi' hj'
      rw [World.cell?_setCell_other w _ _ u (fun e => by injection e; omega)]
      exact h.cells i' hi' j v hv,
    fun j v hv => by
      rcases Nat.lt_or_ge j cur.length with hlt | hge
      · rw [List.getElem?_append_left hlt] at hv
        rw [World.cell?_setCell_other w _ _ u (fun e => by injection e; omega)]
        exact h.cur j v hv
      · rw [List.getElem?_append_right hge] at hv
        have hje : j = cur.length := by
          rcases Nat.eq_or_lt_of_le hge with e | e
          · exact e.symm
          · rw [List.getElem?_eq_none (by simp; omega)] at hv; cases hv
        subst hje
        simp at hv
        subst hv
        obtain ⟨v0, h0⟩ := h.at_ hi hj
        exact World.cell?_setCell_same _ _ _ h0⟩
theorem Mk.done (h : Mk enc f k g off n i (enc (f i)) w) : Mk enc f k g off n (i + 1) [] w :=
  ⟨h.lt, h.there, h.free, fun i' hi' j v hv => by
    rcases Nat.lt_or_ge i' i with hlt | hge
    · exact h.cells i' hlt j v hv
    · have : i' = i := by omega
      subst this
      exact h.cur j v hv, fun j v h => by simp at h⟩
theorem Mk.cast {cur' : List Value} (h : Mk enc f k g off n i cur w) (e : cur = cur') : Mk enc f k g off n i cur' w := e ▸ h
theorem Mk.own (h : Mk enc f k g off n n cur w) (h1 : lo ≤ g) (h2 : g < hi) (hh : hi ≤ w.heap.size) : Own enc k lo hi w (some ⟨g, off, none⟩) ((List.range n).map f) :=
  ⟨hh, fun _ => ⟨g, off, rfl, h1, h2, fun i x hx j v hv => by
    have hi : i < n := by
      have := (List.getElem?_eq_some_iff.1 hx).1
      simpa using this
    rw [List.getElem?_map, List.getElem?_range hi] at hx
    simp at hx
    subst hx
    exact h.cells i hi j v hv, h.free⟩⟩
end
theorem Fr.then_ {lo hi : Nat} {a w w' : World} (h : Fr lo hi a w) (k : Below w.heap.size w w') : Fr lo hi a w' := h.trans (Fr.of_below k)

/-- A number in a cell. -/
def encI (n : Int) : List Value := [.int .i64 n]
theorem encI_len (n : Int) : (encI n).length = 1 := rfl
theorem Rd.int {B : Nat} {w : World} {A : Option Addr} {xs : List Int} (h : Rd encI 1 B w A xs) {i : Nat} (hi : i < xs.length) :
    ∃ b off, A = some ⟨b, off, none⟩ ∧ b < B ∧ w.cell? ⟨b, off + i, none⟩ = some (.int .i64 xs[i]) := by
  obtain ⟨b, off, hA, hb, hc⟩ := h.at_ hi
  exact ⟨b, off, hA, hb, by simpa using hc 0 _ rfl⟩
def marks (k : Int) (n : Nat) : List Int := (List.range n).map fun i : Nat => k + (i : Int)
theorem marks_len (k : Int) (n : Nat) : (marks k n).length = n := by simp [marks]
theorem marks_get (k : Int) (n i : Nat) (h : i < (marks k n).length) : (marks k n)[i] = k + (i : Int) := by simp [marks]
end Go.Proofs.YtpnkeaeikcobfaaGreatDoor
