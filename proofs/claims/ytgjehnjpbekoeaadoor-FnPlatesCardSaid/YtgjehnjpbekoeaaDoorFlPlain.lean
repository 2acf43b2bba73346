/- Plain facts on flaws: their order, and where a flaw has its place. -/
import Derived.Test.YtgjehnjpbekoeaaDoorFlGood3
namespace Go.Proofs.YtgjehnjpbekoeaaDoor
set_option linter.unusedVariables false
set_option linter.unusedSimpArgs false
open Go.RowKit
theorem goodFl_len {xs : List Flaw} (h : goodFl xs = true) : xs.length ≤ 20 := by
  simp only [goodFl, Bool.and_eq_true, decide_eq_true_eq] at h; exact h.2
theorem goodFl_at {xs : List Flaw} (h : goodFl xs = true) {k : Nat} (hk : k < xs.length) : okAtF xs k = true := by
  simp only [goodFl, Bool.and_eq_true] at h
  exact all_at h.1 hk
theorem goodFl_ok {xs : List Flaw} (h : goodFl xs = true) {k : Nat} (hk : k < xs.length) : xs[k].ok = true := okAtF_ok hk (goodFl_at h hk)
theorem goodFl_next {xs : List Flaw} (h : goodFl xs = true) {k : Nat} (hk : k + 1 < xs.length) : xs[k].key < xs[k + 1].key := by
  have := goodFl_at h hk
  rw [okAtF_s hk, Bool.and_eq_true] at this
  exact of_decide_eq_true this.2
theorem goodFl_lt {xs : List Flaw} (h : goodFl xs = true) : ∀ (d i : Nat) (hi : i + 1 + d < xs.length), (xs[i]'(by omega)).key < xs[i + 1 + d].key
  | 0, i, hi => goodFl_next h hi
  | d + 1, i, hi => by
    have h1 := goodFl_lt h d i (by omega)
    have h2 := goodFl_next h (k := i + 1 + d) (by omega)
    exact Int.lt_trans h1 h2
theorem goodFl_lt' {xs : List Flaw} (h : goodFl xs = true) {i j : Nat} (hij : i < j) (hj : j < xs.length) : (xs[i]'(by omega)).key < xs[j].key := by
  obtain ⟨d, rfl⟩ : ∃ d, j = i + 1 + d := ⟨j - i - 1, by omega⟩
  exact goodFl_lt h d i hj
def AscF (xs : List Flaw) : Prop := xs.Pairwise (fun a b => a.key < b.key)
theorem goodFl_iff (xs : List Flaw) : goodFl xs = true ↔ (∀ x ∈ xs, x.ok = true) ∧ AscF xs ∧ xs.length ≤ 20 := by
  constructor
  · intro h
    refine ⟨fun x hx => ?_, List.pairwise_iff_getElem.2 fun i j hi hj hij => goodFl_lt' h hij hj, goodFl_len h⟩
    obtain ⟨i, hi, rfl⟩ := List.getElem_of_mem hx
    exact goodFl_ok h hi
  · rintro ⟨h1, h2, h3⟩
    simp only [goodFl, Bool.and_eq_true, decide_eq_true_eq, List.all_eq_true, List.mem_range]
    refine ⟨fun k hk => ?_, h3⟩
    cases k with
    | zero => rw [okAtF_0 hk]; exact h1 _ (List.getElem_mem hk)
    | succ j =>
      rw [okAtF_s hk, Bool.and_eq_true]
      exact ⟨h1 _ (List.getElem_mem hk), decide_eq_true (List.pairwise_iff_getElem.1 h2 j (j + 1) (by omega) hk (by omega))⟩
def Flaw.pre (x y : Flaw) : Bool := decide (y.key < x.key)
def Flaw.pre' (y x : Flaw) : Bool := Flaw.pre x y
def posFl (xs : List Flaw) (x : Flaw) : Nat := (xs.takeWhile (Flaw.pre x)).length
def hasFl (xs : List Flaw) (x : Flaw) : Bool := match xs[posFl xs x]? with | some y => decide (y.key = x.key) | none => false
def insFl (xs : List Flaw) (x : Flaw) : List Flaw := xs.take (posFl xs x) ++ [x] ++ xs.drop (posFl xs x)
theorem takeW_len {α : Type} (p : α → Bool) (xs : List α) (i : Nat) (h1 : ∀ x ∈ xs.take i, p x = true) (hi : i ≤ xs.length) (h2 : ∀ h : i < xs.length, p xs[i] = false) : (xs.takeWhile p).length = i := by
  induction xs generalizing i with
  | nil => simp at hi; simp [hi]
  | cons x xs ih =>
    cases i with
    | zero => have := h2 (by simp); simp at this; simp [this]
    | succ i =>
      have hx : p x = true := h1 x (by simp)
      rw [List.takeWhile_cons_of_pos hx]
      simp only [List.length_cons]
      rw [ih i (fun y hy => h1 y (by simp [hy])) (by simpa using hi) (fun h => by have h3 := h2 (by simpa using h); rwa [List.getElem_cons_succ] at h3)]
theorem posFl_eq {xs : List Flaw} {x : Flaw} {i : Nat} (h1 : ∀ y ∈ xs.take i, y.pre' x = true) (hi : i ≤ xs.length) (h2 : ∀ h : i < xs.length, xs[i].pre' x = false) : posFl xs x = i := takeW_len _ _ _ h1 hi h2
theorem pre_downF {xs : List Flaw} (h : goodFl xs = true) {x : Flaw} {i j : Nat} (hij : i ≤ j) (hj : j < xs.length) (hp : xs[j].pre' x = true) : (xs[i]'(by omega)).pre' x = true := by
  rcases Nat.eq_or_lt_of_le hij with rfl | hlt
  · exact hp
  · have := goodFl_lt' h hlt hj
    have h2 : xs[j].key < x.key := of_decide_eq_true hp
    exact decide_eq_true (by omega)
theorem pre_upF {xs : List Flaw} (h : goodFl xs = true) {x : Flaw} {i j : Nat} (hij : i ≤ j) (hj : j < xs.length) (hp : (xs[i]'(by omega)).pre' x = false) : xs[j].pre' x = false := by
  cases hq : xs[j].pre' x with
  | false => rfl
  | true => rw [pre_downF h hij hj hq] at hp; cases hp
theorem takeF_mem {xs : List Flaw} {p : Flaw → Bool} {i : Nat} (h : ∀ m (hm : m < xs.length), m < i → p xs[m] = true) : ∀ x ∈ xs.take i, p x = true := by
  intro x hx
  obtain ⟨m, hm, rfl⟩ := List.mem_take_iff_getElem.1 hx
  exact h m (by omega) (by omega)
theorem posFl_le (xs : List Flaw) (x : Flaw) : posFl xs x ≤ xs.length := by
  unfold posFl; exact List.Sublist.length_le (List.takeWhile_sublist _)
theorem mem_twF {α : Type} {p : α → Bool} {x : α} : ∀ {l : List α}, x ∈ l.takeWhile p → p x = true
  | [], h => by cases h
  | y :: l, h => by
    rw [List.takeWhile_cons] at h
    split at h
    · rename_i hy
      rcases List.mem_cons.1 h with rfl | h
      · exact hy
      · exact mem_twF h
    · cases h
theorem head_dwF {α : Type} {p : α → Bool} {x : α} {t : List α} : ∀ {l : List α}, l.dropWhile p = x :: t → p x = false
  | [], h => by cases h
  | y :: l, h => by
    rw [List.dropWhile_cons] at h
    split at h
    · exact head_dwF h
    · rename_i hy
      injection h with h1 h2
      subst h1
      simpa using hy
theorem takeFl_eq (xs : List Flaw) (x : Flaw) : xs.take (posFl xs x) = xs.takeWhile (Flaw.pre x) := by
  unfold posFl
  exact (List.prefix_iff_eq_take.1 (List.takeWhile_prefix _)).symm
theorem dropFl_eq (xs : List Flaw) (x : Flaw) : xs.drop (posFl xs x) = xs.dropWhile (Flaw.pre x) := by
  have h1 : xs.takeWhile (Flaw.pre x) ++ xs.dropWhile (Flaw.pre x) = xs := List.takeWhile_append_dropWhile
  have h2 : xs.drop (posFl xs x) = (xs.takeWhile (Flaw.pre x) ++ xs.dropWhile (Flaw.pre x)).drop (xs.takeWhile (Flaw.pre x)).length := by rw [h1]; rfl
  rw [h2, List.drop_left]
/-- The list with one more flaw is valid just if its place is free and there is room. -/
theorem ins_good {xs : List Flaw} (h : goodFl xs = true) {x : Flaw} (hx : x.ok = true) : goodFl (insFl xs x) = (!hasFl xs x && !decide (xs.length = 20)) := by
  obtain ⟨h1, h2, h3⟩ := (goodFl_iff xs).1 h
  have hp := posFl_le xs x
  have hl : (insFl xs x).length = xs.length + 1 := by unfold insFl; simp; omega
  have hpre : ∀ y ∈ xs.take (posFl xs x), y.key < x.key := fun y hy => by
    rw [takeFl_eq] at hy
    have h9 := mem_twF hy
    exact of_decide_eq_true h9
  have hok : ∀ y ∈ insFl xs x, y.ok = true := fun y hy => by
    unfold insFl at hy
    rw [List.mem_append, List.mem_append] at hy
    rcases hy with (hy | hy) | hy
    · exact h1 y (List.mem_of_mem_take hy)
    · obtain rfl : y = x := by simpa using hy
      exact hx
    · exact h1 y (List.mem_of_mem_drop hy)
  by_cases hlen : xs.length = 20
  · have : goodFl (insFl xs x) = false := by
      cases hc : goodFl (insFl xs x) with
      | false => rfl
      | true => have := goodFl_len hc; omega
    rw [this]; simp [hlen]
  · have hpw := h2
    have hsp : xs = xs.take (posFl xs x) ++ xs.drop (posFl xs x) := (List.take_append_drop ..).symm
    unfold AscF at hpw
    rw [hsp, List.pairwise_append] at hpw
    obtain ⟨p1, p2, p3⟩ := hpw
    cases hd : xs.drop (posFl xs x) with
    | nil =>
      have hlp : xs.length ≤ posFl xs x := by simpa using hd
      have hf : hasFl xs x = false := by unfold hasFl; rw [List.getElem?_eq_none hlp]
      rw [hf]
      have : goodFl (insFl xs x) = true := by
        rw [goodFl_iff]
        refine ⟨hok, ?_, by omega⟩
        unfold insFl AscF
        rw [hd, List.append_nil, List.pairwise_append]
        refine ⟨p1, List.pairwise_singleton _ _, fun a ha b hb => ?_⟩
        obtain rfl : b = x := by simpa using hb
        exact hpre a ha
      rw [this]; simp [hlen]
    | cons y t =>
      have hlt : posFl xs x < xs.length := by
        rcases Nat.lt_or_ge (posFl xs x) xs.length with h | h
        · exact h
        · rw [List.drop_of_length_le h] at hd; cases hd
      have hg : xs[posFl xs x]? = some y := by
        have := List.drop_eq_getElem_cons hlt
        rw [hd] at this
        injection this with e1 _
        rw [List.getElem?_eq_getElem hlt, e1]
      have hny : ¬ y.key < x.key := by
        have := hd
        rw [dropFl_eq] at this
        have h9 := head_dwF this
        exact of_decide_eq_false h9
      have hf : hasFl xs x = decide (y.key = x.key) := by unfold hasFl; rw [hg]
      rw [hf]
      rw [hd, List.pairwise_cons] at p2
      by_cases he : y.key = x.key
      · have : goodFl (insFl xs x) = false := by
          cases hc : goodFl (insFl xs x) with
          | false => rfl
          | true =>
            have := ((goodFl_iff _).1 hc).2.1
            unfold insFl AscF at this
            rw [hd, List.append_assoc, List.singleton_append, List.pairwise_append, List.pairwise_cons] at this
            have := this.2.1.1 y (List.mem_cons_self ..)
            omega
        rw [this]; simp [he]
      · have hlt2 : x.key < y.key := by omega
        have : goodFl (insFl xs x) = true := by
          rw [goodFl_iff]
          refine ⟨hok, ?_, by omega⟩
          unfold insFl AscF
          rw [hd, List.append_assoc, List.singleton_append, List.pairwise_append, List.pairwise_cons]
          refine ⟨p1, ⟨fun b hb => ?_, List.pairwise_cons.2 p2⟩, fun a ha b hb => ?_⟩
          · rcases List.mem_cons.1 hb with rfl | hb
            · exact hlt2
            · have := p2.1 b hb; omega
          · rcases List.mem_cons.1 hb with rfl | hb
            · exact hpre a ha
            · exact p3 a ha b (by rw [hd]; exact hb)
        rw [this]; simp [he, hlen]
end Go.Proofs.YtgjehnjpbekoeaaDoor
