/- Plain facts on holds: their order, how often an owner has an item, and where a hold has its place. -/
import Derived.Test.YtebkfcdijjcefaaDoorHoGood2
import Derived.Sort.Walk0
namespace Go.Proofs.YtebkfcdijjcefaaDoor
set_option linter.unusedVariables false
set_option linter.unusedSimpArgs false
open Go.RowKit
theorem sLt_trans {a b c : ByteArray} (h : sLt a b = true) (k : sLt b c = true) : sLt a c = true := by
  unfold sLt at *
  simp only [Go.Proofs.bytesLess_eq, decide_eq_true_eq] at *
  exact List.lt_trans h k
theorem bef_trans {a b c : ByteArray} {i j k : Int} (h : befI a b i j < 0) (h' : befI b c j k < 0) : befI a c i k < 0 := by
  rw [befI_lt] at *
  rcases h with h | ⟨rfl, h⟩
  · rcases h' with h' | ⟨rfl, h'⟩
    · exact .inl (sLt_trans h h')
    · exact .inl h
  · rcases h' with h' | ⟨rfl, h'⟩
    · exact .inl h'
    · exact .inr ⟨rfl, by omega⟩
theorem sLt_irrefl (a : ByteArray) : sLt a a = false := by
  unfold sLt
  rw [Go.Proofs.bytesLess_eq, decide_eq_false_iff_not]
  exact List.lt_irrefl _
theorem bef_irrefl (a : ByteArray) (i : Int) : ¬ befI a a i i < 0 := by
  rw [befI_lt]
  rintro (h | ⟨_, h⟩)
  · rw [sLt_irrefl] at h; cases h
  · omega
theorem befI_zero (a o : ByteArray) (i j : Int) : (befI a o i j = 0) = (a = o ∧ i = j) := by
  apply propext
  unfold befI cmpS
  by_cases h1 : sLt a o = true
  · rw [if_pos h1]
    simp only [orI]
    constructor
    · intro h; simp at h
    · rintro ⟨rfl, _⟩; rw [sLt_irrefl] at h1; cases h1
  · by_cases h2 : a = o
    · rw [if_neg h1, if_pos h2]
      simp only [orI, cmpI, h2, true_and, if_true]
      constructor
      · intro h
        by_cases h3 : i < j
        · simp [h3] at h
        · by_cases h4 : j < i
          · simp [h3, h4] at h
          · omega
      · rintro rfl; simp
    · rw [if_neg h1, if_neg h2]
      simp [orI, h2]
/-- The hold lies before a place. -/
def Hold.pre (o : ByteArray) (z : Int) (h : Hold) : Bool := decide (befI h.owner o h.item z < 0)
def posH (xs : List Hold) (o : ByteArray) (z : Int) : Nat := (xs.takeWhile (Hold.pre o z)).length
def Hold.at_ (o : ByteArray) (z : Int) (h : Hold) : Bool := decide (h.owner = o) && decide (h.item = z)
def hasH (xs : List Hold) (o : ByteArray) (z : Int) : Bool := match xs[posH xs o z]? with | some h => h.at_ o z | none => false
def cntH (xs : List Hold) (o : ByteArray) (z : Int) : Int := match xs.find? (Hold.at_ o z) with | some h => h.count | none => 0
theorem goodH_len {xs : List Hold} (h : goodH xs = true) : xs.length ≤ 20 := by
  simp only [goodH, Bool.and_eq_true, decide_eq_true_eq] at h; exact h.2
theorem goodH_at {xs : List Hold} (h : goodH xs = true) {k : Nat} (hk : k < xs.length) : okAtH xs k = true := by
  simp only [goodH, Bool.and_eq_true] at h
  exact List.all_eq_true.1 h.1 k (List.mem_range.2 hk)
theorem goodH_ok {xs : List Hold} (h : goodH xs = true) {k : Nat} (hk : k < xs.length) : xs[k].ok = true := by
  by_cases ho : xs[k].ok = true
  · exact ho
  · have := okAtH_no hk (by simpa using ho)
    rw [goodH_at h hk] at this; cases this
theorem goodH_next {xs : List Hold} (h : goodH xs = true) {k : Nat} (hk : k + 1 < xs.length) : xs[k].bef xs[k + 1] = true := by
  have := goodH_at h hk
  rw [okAtH_s hk, Bool.and_eq_true] at this
  exact this.2
theorem goodH_lt {xs : List Hold} (h : goodH xs = true) : ∀ (d i : Nat) (hi : i + 1 + d < xs.length), (xs[i]'(by omega)).bef xs[i + 1 + d] = true
  | 0, i, hi => goodH_next h hi
  | d + 1, i, hi => by
    have h1 := goodH_lt h d i (by omega)
    have h2 := goodH_next h (k := i + 1 + d) (by omega)
    unfold Hold.bef at *
    rw [decide_eq_true_eq] at *
    exact bef_trans h1 h2
theorem goodH_lt' {xs : List Hold} (h : goodH xs = true) {i j : Nat} (hij : i < j) (hj : j < xs.length) : (xs[i]'(by omega)).bef xs[j] = true := by
  obtain ⟨d, rfl⟩ : ∃ d, j = i + 1 + d := ⟨j - i - 1, by omega⟩
  exact goodH_lt h d i hj
/-- If the places before i lie before, and place i does not, then i is the position. -/
theorem takeWhile_len {α : Type} (p : α → Bool) (xs : List α) (i : Nat) (h1 : ∀ x ∈ xs.take i, p x = true) (hi : i ≤ xs.length) (h2 : ∀ h : i < xs.length, p xs[i] = false) : (xs.takeWhile p).length = i := by
  induction xs generalizing i with
  | nil => simp at hi; simp [hi]
  | cons x xs ih =>
    cases i with
    | zero => have := h2 (by simp); simp at this; simp [this]
    | succ i =>
      have hx : p x = true := h1 x (by simp)
      rw [List.takeWhile_cons_of_pos hx]
      simp only [List.length_cons]
      rw [ih i (fun y hy => h1 y (by simp [hy])) (by simpa using hi) (fun h => by have h3 := h2 (by simpa using h); rwa [List.getElem_cons_succ] at h3)]
theorem posH_eq {xs : List Hold} {o : ByteArray} {z : Int} {i : Nat} (h1 : ∀ x ∈ xs.take i, x.pre o z = true) (hi : i ≤ xs.length) (h2 : ∀ h : i < xs.length, xs[i].pre o z = false) : posH xs o z = i := takeWhile_len _ _ _ h1 hi h2
theorem pre_down {xs : List Hold} (h : goodH xs = true) {o : ByteArray} {z : Int} {i j : Nat} (hij : i ≤ j) (hj : j < xs.length) (hp : xs[j].pre o z = true) : (xs[i]'(by omega)).pre o z = true := by
  rcases Nat.eq_or_lt_of_le hij with rfl | hlt
  · exact hp
  · have := goodH_lt' h hlt hj
    unfold Hold.bef at this
    unfold Hold.pre at *
    rw [decide_eq_true_eq] at *
    exact bef_trans this hp
theorem pre_take {xs : List Hold} (h : goodH xs = true) {o : ByteArray} {z : Int} {j : Nat} (hj : j < xs.length) (hp : xs[j].pre o z = true) : ∀ x ∈ xs.take (j + 1), x.pre o z = true := by
  intro x hx
  obtain ⟨i, hi, rfl⟩ := List.mem_take_iff_getElem.1 hx
  exact pre_down h (by omega) hj hp
theorem at_pre {h : Hold} {o : ByteArray} {z : Int} (ha : h.at_ o z = true) : h.pre o z = false := by
  simp only [Hold.at_, Bool.and_eq_true, decide_eq_true_eq] at ha
  obtain ⟨rfl, rfl⟩ := ha
  unfold Hold.pre
  rw [decide_eq_false_iff_not]
  exact bef_irrefl _ _
theorem cntH_pos {xs : List Hold} (h : goodH xs = true) (o : ByteArray) (z : Int) : cntH xs o z = if hasH xs o z = true then (xs[posH xs o z]?.map (·.count)).getD 0 else 0 := by
  unfold cntH
  cases hf : xs.find? (Hold.at_ o z) with
  | none =>
    have hno : ∀ x ∈ xs, x.at_ o z = false := by simpa using hf
    have : hasH xs o z = false := by
      unfold hasH
      cases hx : xs[posH xs o z]? with
      | none => rfl
      | some x => exact hno x (List.mem_of_getElem? hx)
    simp [this]
  | some x =>
    rw [List.find?_eq_some_iff_getElem] at hf
    obtain ⟨hx, i, hi, rfl, hb⟩ := hf
    have hpos : posH xs o z = i := by
      refine posH_eq (fun y hy => ?_) (by omega) (fun _ => at_pre hx)
      obtain ⟨m, hm, rfl⟩ := List.mem_take_iff_getElem.1 hy
      have := goodH_lt' h (show m < i by omega) hi
      simp only [Hold.at_, Bool.and_eq_true, decide_eq_true_eq] at hx
      obtain ⟨rfl, rfl⟩ := hx
      exact this
    have : hasH xs o z = true := by
      unfold hasH
      rw [hpos, List.getElem?_eq_getElem hi]
      exact hx
    rw [if_pos this, hpos, List.getElem?_eq_getElem hi]
    rfl
end Go.Proofs.YtebkfcdijjcefaaDoor
