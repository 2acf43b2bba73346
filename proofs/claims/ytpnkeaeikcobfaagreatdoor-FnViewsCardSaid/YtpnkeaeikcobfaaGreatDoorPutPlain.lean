/- Plain facts on ascending lists of numbers. -/
import Derived.Test.YtpnkeaeikcobfaaGreatDoorPut
namespace Go.Proofs.YtpnkeaeikcobfaaGreatDoor
set_option linter.unusedVariables false
set_option linter.unusedSimpArgs false
def asc (l : List Int) : Prop := l.Pairwise (· < ·)
theorem asc_ext : ∀ (a b : List Int), asc a → asc b → (∀ x, x ∈ a ↔ x ∈ b) → a = b
  | [], [], _, _, _ => rfl
  | [], y :: b, _, _, h => absurd ((h y).2 (by simp)) (by simp)
  | x :: a, [], _, _, h => absurd ((h x).1 (by simp)) (by simp)
  | x :: a, y :: b, ha, hb, h => by
    unfold asc at ha hb
    rw [List.pairwise_cons] at ha hb
    have hxy : x = y := by
      rcases List.mem_cons.1 ((h x).1 (by simp)) with h1 | h1
      · exact h1
      · rcases List.mem_cons.1 ((h y).2 (by simp)) with h2 | h2
        · exact h2.symm
        · have := hb.1 x h1
          have := ha.1 y h2
          omega
    subst hxy
    rw [asc_ext a b ha.2 hb.2 (fun z => by
      constructor
      · intro hz
        rcases List.mem_cons.1 ((h z).1 (by simp [hz])) with h1 | h1
        · subst h1; have := ha.1 _ hz; omega
        · exact h1
      · intro hz
        rcases List.mem_cons.1 ((h z).2 (by simp [hz])) with h1 | h1
        · subst h1; have := hb.1 _ hz; omega
        · exact h1)]
theorem putK_le (ys : List Int) (n : Int) : putK ys n ≤ ys.length := by unfold putK; exact List.Sublist.length_le (List.takeWhile_sublist _)
theorem putK_before (ys : List Int) (n : Int) : ∀ x ∈ ys.take (putK ys n), x < n := by
  intro x hx
  unfold putK at hx
  have : ys.take (ys.takeWhile fun y => decide (y < n)).length = ys.takeWhile fun y => decide (y < n) := by
    have h := List.takeWhile_append_dropWhile (p := fun y => decide (y < n)) (l := ys)
    have h2 := List.take_left' (l₁ := ys.takeWhile fun y => decide (y < n)) (l₂ := ys.dropWhile fun y => decide (y < n)) rfl
    rw [h] at h2
    exact h2
  rw [this] at hx
  have := List.all_eq_true.1 (List.all_takeWhile (p := fun y => decide (y < n)) (l := ys)) x hx
  simpa using this
theorem putK_at (ys : List Int) (n : Int) (h : putK ys n < ys.length) : ¬ ys[putK ys n] < n := by
  unfold putK at h ⊢
  induction ys with
  | nil => simp at h
  | cons y ys ih =>
    by_cases hy : y < n
    · simp only [List.takeWhile_cons, hy, decide_true, if_true, List.length_cons, List.getElem_cons_succ] at h ⊢
      exact ih (by omega)
    · simp [hy]
theorem putI_mem (ys : List Int) (n x : Int) : x ∈ putI ys n ↔ x ∈ ys ∨ x = n := by
  unfold putI
  split
  · rename_i h
    have := List.mem_of_getElem? h
    constructor
    · exact .inl
    · rintro (h | rfl)
      · exact h
      · exact this
  · have e : x ∈ ys ↔ x ∈ ys.take (putK ys n) ∨ x ∈ ys.drop (putK ys n) := by
      conv => lhs; rw [← List.take_append_drop (putK ys n) ys]
      exact List.mem_append
    rw [List.append_assoc, List.mem_append, List.mem_append, e]
    simp only [List.mem_singleton]
    constructor
    · rintro (h | h | h)
      · exact .inl (.inl h)
      · exact .inr h
      · exact .inl (.inr h)
    · rintro ((h | h) | h)
      · exact .inl h
      · exact .inr (.inr h)
      · exact .inr (.inl h)
theorem putI_asc {ys : List Int} (n : Int) (h : asc ys) : asc (putI ys n) := by
  unfold putI
  split
  · exact h
  · rename_i hne
    unfold asc at h ⊢
    have h' := h
    rw [← List.take_append_drop (putK ys n) ys, List.pairwise_append] at h'
    obtain ⟨h1, h2, h3⟩ := h'
    have hdrop : ∀ y ∈ ys.drop (putK ys n), n < y := by
      intro y hy
      rcases Nat.lt_or_ge (putK ys n) ys.length with hlt | hge
      · have ha := putK_at ys n hlt
        have hne' : ys[putK ys n] ≠ n := by intro e; apply hne; rw [List.getElem?_eq_getElem hlt, e]
        rw [List.drop_eq_getElem_cons hlt] at hy h2
        rw [List.pairwise_cons] at h2
        rcases List.mem_cons.1 hy with rfl | hy
        · omega
        · have := h2.1 y hy; omega
      · rw [List.drop_eq_nil_of_le hge] at hy; cases hy
    rw [List.append_assoc, List.pairwise_append]
    refine ⟨h1, ?_, ?_⟩
    · simp only [List.cons_append, List.nil_append, List.pairwise_cons]
      exact ⟨hdrop, h2⟩
    · intro x hx y hy
      have hxn := putK_before ys n x hx
      simp only [List.cons_append, List.nil_append, List.mem_cons] at hy
      rcases hy with rfl | hy
      · exact hxn
      · exact h3 x hx y hy
theorem putI_len (ys : List Int) (n : Int) : (putI ys n).length ≤ ys.length + 1 := by
  unfold putI
  split
  · omega
  · have := putK_le ys n
    simp; omega
/-- Numbers put into a list, one after another. -/
def puts (l : List Int) : List Int := l.foldl putI []
theorem puts_snoc (l : List Int) (n : Int) : puts (l ++ [n]) = putI (puts l) n := by unfold puts; rw [List.foldl_append]; rfl
theorem puts_asc_from : ∀ (l a : List Int), asc a → asc (l.foldl putI a) ∧ ∀ x, x ∈ l.foldl putI a ↔ x ∈ a ∨ x ∈ l
  | [], a, h => ⟨h, by simp⟩
  | y :: l, a, h => by
    obtain ⟨h1, h2⟩ := puts_asc_from l (putI a y) (putI_asc y h)
    refine ⟨h1, fun x => ?_⟩
    show x ∈ l.foldl putI (putI a y) ↔ _
    rw [h2, putI_mem, List.mem_cons, or_assoc]
theorem puts_asc (l : List Int) : asc (puts l) := (puts_asc_from l [] List.Pairwise.nil).1
theorem puts_mem (l : List Int) (x : Int) : x ∈ puts l ↔ x ∈ l := by
  have := (puts_asc_from l [] List.Pairwise.nil).2 x
  simpa [puts] using this
theorem puts_len (l : List Int) : (puts l).length ≤ l.length := by
  have : ∀ (l a : List Int), (l.foldl putI a).length ≤ a.length + l.length := by
    intro l
    induction l with
    | nil => simp
    | cons y l ih =>
      intro a
      have h1 := ih (putI a y)
      have h2 := putI_len a y
      simp only [List.foldl_cons, List.length_cons]
      omega
  simpa [puts] using this l []
theorem asc_range (n : Nat) (p : Nat → Bool) (f : Nat → Int) (hf : ∀ i j, i < j → f i < f j) : asc (((List.range n).filter p).map f) := by
  unfold asc
  rw [List.pairwise_map]
  have : (List.range n).Pairwise (· < ·) := List.pairwise_lt_range
  exact (this.filter p).imp fun h => hf _ _ h
end Go.Proofs.YtpnkeaeikcobfaaGreatDoor
