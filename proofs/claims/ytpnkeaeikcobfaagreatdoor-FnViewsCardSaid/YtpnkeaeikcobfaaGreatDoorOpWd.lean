/- Words for the slice that marks withdrawn opinions. -/
import Derived.Test.YtpnkeaeikcobfaaGreatDoorOpGood2
import Derived.Test.YtpnkeaeikcobfaaGreatDoorApp
namespace Go.Proofs.YtpnkeaeikcobfaaGreatDoor
set_option linter.unusedVariables false
set_option linter.unusedSimpArgs false
open Go.RowKit
theorem infoB : (Tryz.prog.info? 4).map (fun i => (i.zero, i.size, i.bytes)) = some (some (.bool false), 1, 1) := by kernel_rfl
section
variable {α : Type} {enc : α → List Value} {lo hi : Nat} {w : World} {ys : List α}
theorem own_made (w : World) (n : Nat) (E : TypeId) (cs : Array Value) (x : α) (z : Value) (hx : enc x = [z]) (hcs : cs.toList = List.replicate n z) : Own enc 1 w.heap.size (w.heap.size + 1) (w.alloc (.cells cs E)) (some ⟨w.heap.size, 0, none⟩) (List.replicate n x) := by
  refine ⟨by simp, fun _ => ⟨w.heap.size, 0, rfl, Nat.le_refl _, by omega, fun i y hy j v hv => ?_, fun o => World.frozen?_alloc_new w cs E o⟩⟩
  obtain ⟨hi, hy'⟩ := List.getElem?_eq_some_iff.1 hy
  simp at hi hy'
  subst hy'
  have hj : j = 0 := by rw [hx] at hv; have := (List.getElem?_eq_some_iff.1 hv).1; simp at this; omega
  subst hj
  have hv' : v = z := by rw [hx] at hv; simpa using hv.symm
  subst hv'
  rw [World.cell?_alloc_new]
  have : cs.toList[i]? = some v := by rw [hcs]; simp [hi]
  simpa using this
theorem own_at {b i : Nat} (h : Own enc 1 lo hi w (some ⟨b, 0, none⟩) ys) (hi' : i < ys.length) {u : Value} (hu : enc ys[i] = [u]) : w.cell? ⟨b, i, none⟩ = some u := by
  obtain ⟨b', off, hA, _, _, hc, _⟩ := h.2 (by omega)
  injection hA with hA; injection hA with h1 h2
  subst h1 h2
  have := hc i _ (List.getElem?_eq_getElem hi') 0 u (by rw [hu]; rfl)
  simpa using this
theorem own_free {b : Nat} (h : Own enc 1 lo hi w (some ⟨b, 0, none⟩) ys) (hn : 0 < ys.length) : (∀ o, w.frozen? ⟨b, o, none⟩ = false) ∧ lo ≤ b ∧ b < hi := by
  obtain ⟨b', off, hA, h1, h2, _, hf⟩ := h.2 hn
  injection hA with hA; injection hA with h3 h4
  subst h3 h4
  exact ⟨hf, h1, h2⟩
theorem own_set {b i : Nat} (h : Own enc 1 lo hi w (some ⟨b, 0, none⟩) ys) (hi' : i < ys.length) (hl : ∀ x, (enc x).length = 1) (x : α) {u : Value} (hu : enc x = [u]) : Own enc 1 lo hi (w.setCell ⟨b, i, none⟩ u) (some ⟨b, 0, none⟩) (ys.set i x) := by
  obtain ⟨b', off, hA, h1, h2, hc, hf⟩ := h.2 (by omega)
  injection hA with hA; injection hA with h3 h4
  subst h3 h4
  refine ⟨by simpa [World.setCell] using h.1, fun _ => ⟨b, 0, rfl, h1, h2, fun j y hy m v hv => ?_, fun o => by rw [World.frozen?_setCell]; exact hf o⟩⟩
  have hm : m = 0 := by have := (List.getElem?_eq_some_iff.1 hv).1; rw [hl] at this; omega
  subst hm
  have hz : (⟨b, 0 + j * 1 + 0, none⟩ : Addr) = ⟨b, j, none⟩ := by simp
  rw [hz]
  obtain ⟨u0, hu0⟩ : ∃ u0, enc ys[i] = [u0] := by
    have := hl ys[i]
    match henc : enc ys[i], this with
    | [a], _ => exact ⟨a, rfl⟩
  have h0 := hc i _ (List.getElem?_eq_getElem hi') 0 u0 (by rw [hu0]; rfl)
  have hz0 : (⟨b, 0 + i * 1 + 0, none⟩ : Addr) = ⟨b, i, none⟩ := by simp
  rw [hz0] at h0
  rw [List.getElem?_set] at hy
  by_cases hij : i = j
  · subst hij
    simp [hi'] at hy
    subst hy
    rw [hu] at hv
    have hv' : v = u := by simpa using hv.symm
    subst hv'
    exact World.cell?_setCell_same _ _ _ h0
  · rw [if_neg hij] at hy
    rw [World.cell?_setCell_other _ _ _ _ (by simp [hij])]
    have := hc j y hy 0 v hv
    rwa [hz] at this
end
def wdO (xs : List Opinion) (k : Nat) : List Bool := (List.range xs.length).map fun v : Nat => usedO xs k (v : Int)
theorem wdO_len (xs : List Opinion) (k : Nat) : (wdO xs k).length = xs.length := by simp [wdO]
theorem wdO_get {xs : List Opinion} {k t : Nat} (h : t < (wdO xs k).length) : (wdO xs k)[t] = usedO xs k (t : Int) := by simp [wdO]
theorem wdO_0 (xs : List Opinion) : wdO xs 0 = List.replicate xs.length false := by
  apply List.ext_getElem
  · simp [wdO]
  · intro i h1 h2
    simp [wdO, usedO]
theorem usedO_next {xs : List Opinion} {k : Nat} (h : k < xs.length) (v : Int) : usedO xs (k + 1) v = (usedO xs k v || decide (xs[k].over = v)) := by
  unfold usedO; rw [take_succ_get xs k h, List.any_append]; simp
theorem wdO_neg {xs : List Opinion} {k : Nat} (h : k < xs.length) (hn : xs[k].over < 0) : wdO xs (k + 1) = wdO xs k := by
  unfold wdO
  apply List.map_congr_left
  intro v _
  rw [usedO_next h, decide_eq_false (by omega), Bool.or_false]
theorem wdO_pos {xs : List Opinion} {k t : Nat} (h : k < xs.length) (ht : t < xs.length) (ho : xs[k].over = t) : wdO xs (k + 1) = (wdO xs k).set t true := by
  apply List.ext_getElem
  · simp [wdO]
  · intro i h1 h2
    rw [List.getElem_set]
    have hi : i < xs.length := by simpa [wdO] using h1
    simp only [wdO, List.getElem_map, List.getElem_range]
    rw [usedO_next h, ho]
    by_cases e : t = i
    · subst e; simp
    · rw [if_neg e, decide_eq_false (by omega), Bool.or_false]
end Go.Proofs.YtpnkeaeikcobfaaGreatDoor
