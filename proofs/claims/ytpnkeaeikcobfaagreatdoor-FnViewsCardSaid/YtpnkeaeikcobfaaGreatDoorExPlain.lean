/- ExpertNames: the plain words and the plain law: names put one by one into an ordered list, and the names sorted at once, are one list. No condition, and no program in sight. -/
import Derived.Test.YtpnkeaeikcobfaaGreatDoorOpGood3
import Derived.Test.YtpnkeaeikcobfaaGreatDoorCmpS
import Derived.Sort.Walk0
namespace Go.Proofs.YtpnkeaeikcobfaaGreatDoor
set_option linter.unusedVariables false
set_option linter.unusedSimpArgs false
open Go.RowKit
section
variable {α : Type} {lt : α → α → Bool} {l m : List α} {x : α}
/-- A strict order of all things. -/
structure OrdE (lt : α → α → Bool) : Prop where
  irr : ∀ x, lt x x = false
  trans : ∀ x y z, lt x y = true → lt y z = true → lt x z = true
  total : ∀ x y, lt x y = false → lt y x = false → x = y
def sortedE (lt : α → α → Bool) (l : List α) : Prop := l.Pairwise fun x y => lt x y = true
/-- Two ordered lists of the same members are one. -/
theorem sorted_one (ho : OrdE lt) : ∀ {l m : List α}, sortedE lt l → sortedE lt m → (∀ x, x ∈ l ↔ x ∈ m) → l = m
  | [], [], _, _, _ => rfl
  | [], y :: m, _, _, h => by have := (h y).2 (List.mem_cons_self ..); cases this
  | x :: l, [], _, _, h => by have := (h x).1 (List.mem_cons_self ..); cases this
  | x :: l, y :: m, hl, hm, h => by
    obtain ⟨hx, hl1⟩ := List.pairwise_cons.1 hl
    obtain ⟨hy, hm1⟩ := List.pairwise_cons.1 hm
    have e : x = y := by
      rcases List.mem_cons.1 ((h x).1 (List.mem_cons_self ..)) with e | h1
      · exact e
      · rcases List.mem_cons.1 ((h y).2 (List.mem_cons_self ..)) with e | h2
        · exact e.symm
        · have := ho.trans _ _ _ (hx y h2) (hy x h1)
          rw [ho.irr] at this; cases this
    subst e
    refine congrArg (x :: ·) (sorted_one ho hl1 hm1 fun z => ?_)
    constructor
    · intro hz
      rcases List.mem_cons.1 ((h z).1 (List.mem_cons_of_mem _ hz)) with e | h1
      · subst e; have := hx z hz; rw [ho.irr] at this; cases this
      · exact h1
    · intro hz
      rcases List.mem_cons.1 ((h z).2 (List.mem_cons_of_mem _ hz)) with e | h1
      · subst e; have := hy z hz; rw [ho.irr] at this; cases this
      · exact h1
/-- From place k down, as long as x comes ahead of what stands there. -/
def downE (lt : α → α → Bool) (x : α) (l : List α) : Nat → Nat
  | 0 => 0
  | k + 1 => match l[k]? with
    | some y => if lt x y = true then downE lt x l k else k + 1
    | none => k + 1
def insE (lt : α → α → Bool) (l : List α) (x : α) : List α := l.take (downE lt x l l.length) ++ [x] ++ l.drop (downE lt x l l.length)
theorem downE_yes {k : Nat} (hk : k < l.length) (h : lt x l[k] = true) : downE lt x l (k + 1) = downE lt x l k := by
  conv => lhs; unfold downE
  simp only [List.getElem?_eq_getElem hk]; rw [if_pos h]
theorem downE_no {k : Nat} (hk : k < l.length) (h : lt x l[k] = false) : downE lt x l (k + 1) = k + 1 := by
  conv => lhs; unfold downE
  simp only [List.getElem?_eq_getElem hk]; rw [if_neg (by simp [h])]
theorem downE_le : ∀ k, downE lt x l k ≤ k
  | 0 => Nat.le_refl _
  | k + 1 => by
    have := downE_le k
    unfold downE
    split
    · split <;> omega
    · omega
theorem downE_after : ∀ {k : Nat} (_ : k ≤ l.length) (i : Nat) (_ : i < l.length), downE lt x l k ≤ i → i < k → lt x l[i] = true
  | k + 1, hk, i, hi, h1, h2 => by
    by_cases h : lt x (l[k]'(by omega)) = true
    · rw [downE_yes (by omega) h] at h1
      rcases Nat.lt_or_ge i k with h3 | h3
      · exact downE_after (by omega) i hi h1 h3
      · obtain rfl : i = k := by omega
        exact h
    · rw [downE_no (by omega) (by simpa using h)] at h1; omega
theorem downE_last : ∀ {k : Nat} (_ : k ≤ l.length), 0 < downE lt x l k → ∃ (h : downE lt x l k - 1 < l.length), lt x (l[downE lt x l k - 1]) = false
  | 0, _, h => by simp [downE] at h
  | k + 1, hk, h => by
    by_cases h1 : lt x (l[k]'(by omega)) = true
    · rw [downE_yes (by omega) h1] at h ⊢
      exact downE_last (by omega) h
    · have h2 : lt x (l[k]'(by omega)) = false := by simpa using h1
      have e := downE_no (by omega) h2
      refine ⟨by omega, ?_⟩
      have : ∀ (n : Nat) (hn : n < l.length), n = k → lt x l[n] = false := fun n hn e => by subst e; exact h2
      exact this _ _ (by omega)
theorem insE_mem (y : α) : y ∈ insE lt l x ↔ y ∈ l ∨ y = x := by
  unfold insE
  rw [List.mem_append, List.mem_append]
  have : y ∈ l ↔ y ∈ l.take (downE lt x l l.length) ∨ y ∈ l.drop (downE lt x l l.length) := by rw [← List.mem_append, List.take_append_drop]
  rw [this]
  simp only [List.mem_singleton]
  constructor
  · rintro ((h | h) | h)
    · exact .inl (.inl h)
    · exact .inr h
    · exact .inl (.inr h)
  · rintro ((h | h) | h)
    · exact .inl (.inl h)
    · exact .inr h
    · exact .inl (.inr h)
theorem insE_sorted (ho : OrdE lt) (h : sortedE lt l) (hx : ¬ x ∈ l) : sortedE lt (insE lt l x) := by
  have hle := downE_le (lt := lt) (x := x) (l := l) l.length
  have haft := fun i hi => downE_after (lt := lt) (x := x) (l := l) (Nat.le_refl _) i hi
  have hb : ∀ y ∈ l.take (downE lt x l l.length), lt y x = true := fun y hy => by
    obtain ⟨i, hi, rfl⟩ := List.mem_take_iff_getElem.1 hy
    obtain ⟨hlt, hno⟩ := downE_last (lt := lt) (x := x) (l := l) (Nat.le_refl _) (by omega)
    have hne : l[downE lt x l l.length - 1] ≠ x := fun e => hx (e ▸ List.getElem_mem hlt)
    have h1 : lt (l[downE lt x l l.length - 1]) x = true := by
      cases hc : lt (l[downE lt x l l.length - 1]) x with
      | true => rfl
      | false => exact absurd (ho.total _ _ hc hno) hne
    rcases Nat.lt_or_ge i (downE lt x l l.length - 1) with h2 | h2
    · exact ho.trans _ _ _ (List.pairwise_iff_getElem.1 h i _ (by omega) hlt h2) h1
    · have : ∀ (n : Nat) (hn : n < l.length), n = downE lt x l l.length - 1 → lt l[n] x = true := fun n hn e => by subst e; exact h1
      exact this _ _ (by omega)
  have ha : ∀ y ∈ l.drop (downE lt x l l.length), lt x y = true := fun y hy => by
    obtain ⟨i, hi, rfl⟩ := List.getElem_of_mem hy
    rw [List.getElem_drop]
    rw [List.length_drop] at hi
    exact haft _ (by omega) (by omega) (by omega)
  unfold insE sortedE
  rw [List.append_assoc]
  refine List.pairwise_append.2 ⟨h.sublist (List.take_sublist _ _), ?_, ?_⟩
  · refine List.pairwise_append.2 ⟨by simp, h.sublist (List.drop_sublist _ _), ?_⟩
    intro a ha' b hb'
    simp at ha'; subst ha'
    exact ha b hb'
  · intro a ha' b hb'
    rcases List.mem_append.1 hb' with h1 | h1
    · simp at h1; subst h1; exact hb a ha'
    · exact ho.trans _ _ _ (hb a ha') (ha b h1)
end
theorem sLt_transE {a b c : ByteArray} (h : sLt a b = true) (k : sLt b c = true) : sLt a c = true := by
  unfold sLt at *
  simp only [Go.Proofs.bytesLess_eq, decide_eq_true_eq] at *
  exact List.lt_trans h k
theorem sLt_irrE (a : ByteArray) : sLt a a = false := by
  unfold sLt
  rw [Go.Proofs.bytesLess_eq, decide_eq_false_iff_not]
  exact List.lt_irrefl _
theorem sLt_totE {a b : ByteArray} (h : sLt a b = false) (k : sLt b a = false) : a = b := by
  unfold sLt at *
  simp only [Go.Proofs.bytesLess_eq, decide_eq_false_iff_not] at *
  have h1 := List.le_antisymm (List.not_lt.1 k) (List.not_lt.1 h)
  have := toList_beq a b
  rw [beq_iff_eq.2 h1] at this
  exact of_decide_eq_true this.symm
/-- How many opinions an expert has given. -/
def cntE (xs : List Opinion) (e : ByteArray) : Nat := (xs.filter fun x => decide (x.expert = e)).length
/-- More opinions first, then by name. -/
def befE (xs : List Opinion) (a b : ByteArray) : Bool := decide (cntE xs b < cntE xs a) || (decide (cntE xs a = cntE xs b) && sLt a b)
theorem befE_ord (xs : List Opinion) : OrdE (befE xs) := {
  irr := fun x => by simp [befE, sLt_irrE]
  trans := fun a b c h1 h2 => by
    simp only [befE, Bool.or_eq_true, Bool.and_eq_true, decide_eq_true_eq] at *
    rcases h1 with h1 | ⟨h1, h3⟩ <;> rcases h2 with h2 | ⟨h2, h4⟩
    · left; omega
    · left; omega
    · left; omega
    · right; exact ⟨by omega, sLt_transE h3 h4⟩
  total := fun a b h1 h2 => by
    simp only [befE, Bool.or_eq_false_iff, Bool.and_eq_false_iff, decide_eq_false_iff_not] at h1 h2
    have e : cntE xs a = cntE xs b := by omega
    rcases h1.2 with h | h
    · exact absurd e h
    · rcases h2.2 with h' | h'
      · exact absurd e.symm h'
      · exact sLt_totE h h' }
def hasE (l : List ByteArray) (e : ByteArray) : Bool := l.any fun y => decide (y = e)
theorem hasE_iff {l : List ByteArray} {e : ByteArray} : hasE l e = true ↔ e ∈ l := by
  unfold hasE
  rw [List.any_eq_true]
  constructor
  · rintro ⟨y, hy, h⟩; rw [decide_eq_true_eq] at h; exact h ▸ hy
  · exact fun h => ⟨e, h, decide_eq_true rfl⟩
theorem hasE_no {l : List ByteArray} {e : ByteArray} (h : ¬ e ∈ l) : hasE l e = false := by
  cases hc : hasE l e with
  | false => rfl
  | true => exact absurd (hasE_iff.1 hc) h
/-- The names among the first k opinions, in order. -/
def exF (xs : List Opinion) : Nat → List ByteArray
  | 0 => []
  | k + 1 => match xs[k]? with
    | none => exF xs k
    | some x => if hasE (exF xs k) x.expert = true then exF xs k else insE (befE xs) (exF xs k) x.expert
def exV (xs : List Opinion) : List ByteArray := if goodO xs = true then exF xs xs.length else []
section
variable {xs : List Opinion} {k : Nat}
theorem exF_yes (hk : k < xs.length) (h : xs[k].expert ∈ exF xs k) : exF xs (k + 1) = exF xs k := by
  conv => lhs; unfold exF
  simp only [List.getElem?_eq_getElem hk]; rw [if_pos (hasE_iff.2 h)]
theorem exF_no (hk : k < xs.length) (h : ¬ xs[k].expert ∈ exF xs k) : exF xs (k + 1) = insE (befE xs) (exF xs k) xs[k].expert := by
  conv => lhs; unfold exF
  simp only [List.getElem?_eq_getElem hk]; rw [if_neg (by rw [hasE_no h]; simp)]
theorem exF_mem : ∀ {k : Nat}, k ≤ xs.length → ∀ e, e ∈ exF xs k ↔ e ∈ (xs.take k).map (·.expert)
  | 0, _, e => by simp [exF]
  | k + 1, hk, e => by
    have ih := exF_mem (k := k) (by omega)
    rw [take_succ_get xs k (by omega), List.map_append, List.mem_append, ← ih e]
    by_cases h : (xs[k]'(by omega)).expert ∈ exF xs k
    · rw [exF_yes (by omega) h]
      simp only [List.map_cons, List.map_nil, List.mem_singleton]
      constructor
      · exact .inl
      · rintro (h1 | h1)
        · exact h1
        · rw [h1]; exact h
    · rw [exF_no (by omega) h, insE_mem]
      simp
theorem exF_len : ∀ (k : Nat), (exF xs k).length ≤ k
  | 0 => by simp [exF]
  | k + 1 => by
    have ih := exF_len k
    unfold exF
    split
    · omega
    · split
      · omega
      · unfold insE; simp only [List.length_append, List.length_take, List.length_drop, List.length_cons, List.length_nil]; omega
theorem exF_sorted (ho : OrdE (befE xs)) : ∀ {k : Nat}, k ≤ xs.length → sortedE (befE xs) (exF xs k)
  | 0, _ => List.Pairwise.nil
  | k + 1, hk => by
    have ih := exF_sorted ho (k := k) (by omega)
    by_cases h : (xs[k]'(by omega)).expert ∈ exF xs k
    · rw [exF_yes (by omega) h]; exact ih
    · rw [exF_no (by omega) h]; exact insE_sorted ho ih h
theorem exV_len : (exV xs).length ≤ 2097152 := by
  unfold exV
  split
  · rename_i h
    have h1 := exF_len (xs := xs) xs.length
    have h2 := goodO_len h
    omega
  · simp
end
end Go.Proofs.YtpnkeaeikcobfaaGreatDoor
