/- Plain facts on look-alikes: the groups of positions that show the same codes. -/
import Derived.Test.YtgjehnjpbekoeaaDoorFlCodes
namespace Go.Proofs.YtgjehnjpbekoeaaDoor
set_option linter.unusedVariables false
set_option linter.unusedSimpArgs false
open Go.RowKit
section
variable (xs : List Flaw) (st : Int)
def cdN (k : Nat) : List Int := codesL xs (k : Int) st
/-- Position k shows codes, and no position ahead of it shows the same. -/
def fstB (k : Nat) : Bool := !decide (cdN xs st k = []) && (List.range k).all fun j => !decide (cdN xs st j = cdN xs st k)
/-- The positions below n that show what position a shows. -/
def samG (n a : Nat) : List Int := ((List.range n).filter fun b => decide (cdN xs st b = cdN xs st a)).map fun k : Nat => (k : Int)
def grpF (k : Nat) : List Nat := (List.range k).filter (fstB xs st)
def grp (k : Nat) : List (List Int) := (grpF xs st k).map (samG xs st k)
def twoP (p : List Int) : Bool := decide (2 ≤ p.length)
/-- What the reference has put out when it has come to position k. -/
def grpS (k : Nat) : List (List Int) := ((grpF xs st k).map (samG xs st 100)).filter twoP
def laB : Bool := goodFl xs && inR st 1 9
def laV : List (List Int) := if laB xs st = true then grpS xs st 100 else []
end
section
variable {xs : List Flaw} {st : Int} {k n a b i : Nat}
theorem fstB_iff : fstB xs st k = true ↔ cdN xs st k ≠ [] ∧ ∀ j, j < k → cdN xs st j ≠ cdN xs st k := by
  simp only [fstB, Bool.and_eq_true, Bool.not_eq_true', decide_eq_false_iff_not, List.all_eq_true, List.mem_range, ne_eq]
theorem grpF_mem : a ∈ grpF xs st k ↔ a < k ∧ fstB xs st a = true := by simp [grpF]
theorem samG_mem {z : Int} : z ∈ samG xs st n a ↔ ∃ b : Nat, b < n ∧ cdN xs st b = cdN xs st a ∧ z = (b : Int) := by
  simp only [samG, List.mem_map, List.mem_filter, List.mem_range, decide_eq_true_eq]
  constructor
  · rintro ⟨b, ⟨h1, h2⟩, h3⟩; exact ⟨b, h1, h2, h3.symm⟩
  · rintro ⟨b, h1, h2, h3⟩; exact ⟨b, ⟨h1, h2⟩, h3.symm⟩
theorem samG_len : (samG xs st n a).length ≤ n := by
  unfold samG; rw [List.length_map]
  exact Nat.le_trans (List.length_filter_le _ _) (by simp)
theorem samG_yes (h : cdN xs st n = cdN xs st a) : samG xs st (n + 1) a = samG xs st n a ++ [(n : Int)] := by
  unfold samG; rw [List.range_succ, List.filter_append, List.map_append]; simp [h]
theorem samG_no (h : cdN xs st n ≠ cdN xs st a) : samG xs st (n + 1) a = samG xs st n a := by
  unfold samG; rw [List.range_succ, List.filter_append, List.map_append]; simp [h]
theorem samG_self (h : fstB xs st a = true) : samG xs st a a = [] := by
  have h2 := (fstB_iff.1 h).2
  unfold samG
  rw [List.map_eq_nil_iff, List.filter_eq_nil_iff]
  intro j hj hc
  exact h2 j (List.mem_range.1 hj) (by simpa using hc)
/-- The list of those with the codes of a first position begins with it. -/
theorem samG_head (h : fstB xs st a = true) : ∀ d, ∃ t, samG xs st (a + 1 + d) a = (a : Int) :: t
  | 0 => ⟨[], by rw [Nat.add_zero, samG_yes rfl, samG_self h]; rfl⟩
  | d + 1 => by
    obtain ⟨t, ht⟩ := samG_head h d
    by_cases hc : cdN xs st (a + 1 + d) = cdN xs st a
    · exact ⟨t ++ [((a + 1 + d : Nat) : Int)], by rw [← Nat.add_assoc, samG_yes hc, ht]; rfl⟩
    · exact ⟨t, by rw [← Nat.add_assoc, samG_no hc, ht]⟩
theorem samG_head' (h : fstB xs st a = true) (hn : a < n) : ∃ t, samG xs st n a = (a : Int) :: t := by
  obtain ⟨d, rfl⟩ : ∃ d, n = a + 1 + d := ⟨n - a - 1, by omega⟩
  exact samG_head h d
theorem grp_ne {p : List Int} (h : p ∈ grp xs st k) : ∃ a, a < k ∧ fstB xs st a = true ∧ ∃ t, p = (a : Int) :: t := by
  obtain ⟨a, ha, rfl⟩ := List.mem_map.1 h
  obtain ⟨h1, h2⟩ := grpF_mem.1 ha
  exact ⟨a, h1, h2, samG_head' h2 h1⟩
theorem grp_len : (grp xs st k).length ≤ k := by
  unfold grp grpF; rw [List.length_map]; exact Nat.le_trans (List.length_filter_le _ _) (by simp)
theorem grp_elen {p : List Int} (h : p ∈ grp xs st k) : p.length ≤ k := by
  obtain ⟨a, _, rfl⟩ := List.mem_map.1 h; exact samG_len
/-- There is a first one of those with the same codes. -/
theorem first_of (xs : List Flaw) (st : Int) : ∀ j, cdN xs st j ≠ [] → ∃ a, a ≤ j ∧ fstB xs st a = true ∧ cdN xs st a = cdN xs st j := by
  intro j
  induction j using Nat.strongRecOn with
  | _ j ih =>
    intro hne
    by_cases h : fstB xs st j = true
    · exact ⟨j, Nat.le_refl _, h, rfl⟩
    · have : ∃ i, i < j ∧ cdN xs st i = cdN xs st j := by
        refine Classical.byContradiction fun hc => h (fstB_iff.2 ⟨hne, fun i hi he => hc ⟨i, hi, he⟩⟩)
      obtain ⟨i, hi, he⟩ := this
      obtain ⟨a, h1, h2, h3⟩ := ih i hi (by rw [he]; exact hne)
      exact ⟨a, by omega, h2, h3.trans he⟩
theorem grpF_yes (h : fstB xs st k = true) : grpF xs st (k + 1) = grpF xs st k ++ [k] := by
  unfold grpF; rw [List.range_succ, List.filter_append]; simp [h]
theorem grpF_no (h : fstB xs st k = false) : grpF xs st (k + 1) = grpF xs st k := by
  unfold grpF; rw [List.range_succ, List.filter_append]; simp [h]
theorem fst_empty (h : cdN xs st k = []) : fstB xs st k = false := by simp [fstB, h]
theorem grp_skip (h : cdN xs st k = []) : grp xs st (k + 1) = grp xs st k := by
  unfold grp
  rw [grpF_no (fst_empty h)]
  refine List.map_congr_left fun a ha => samG_no ?_
  have := (fstB_iff.1 (grpF_mem.1 ha).2).1
  rw [h]; exact fun e => this e.symm
/-- The groups' question: does its first position show these codes? -/
def hitP (xs : List Flaw) (st : Int) (cs : List Int) (p : List Int) : Bool := decide (codesL xs (p.headD 0) st = cs)
theorem hit_iff {p : List Int} {t : List Int} (h : p = (a : Int) :: t) (cs : List Int) : hitP xs st cs p = decide (cdN xs st a = cs) := by subst h; rfl
theorem grp_new (h : cdN xs st k ≠ []) (hn : ∀ p ∈ grp xs st k, hitP xs st (cdN xs st k) p = false) : grp xs st (k + 1) = grp xs st k ++ [[(k : Int)]] := by
  have hf : fstB xs st k = true := fstB_iff.2 ⟨h, fun j hj he => by
    obtain ⟨a, h1, h2, h3⟩ := first_of xs st j (by rw [he]; exact h)
    obtain ⟨t, ht⟩ := samG_head' (n := k) h2 (by omega)
    have := hn _ (List.mem_map.2 ⟨a, grpF_mem.2 ⟨by omega, h2⟩, rfl⟩)
    rw [hit_iff ht] at this
    exact of_decide_eq_false this (h3.trans he)⟩
  unfold grp
  rw [grpF_yes hf, List.map_append]
  congr 1
  · refine List.map_congr_left fun a ha => samG_no fun e => ?_
    exact (fstB_iff.1 hf).2 a (grpF_mem.1 ha).1 e.symm
  · rw [List.map_cons, List.map_nil, samG_yes rfl, samG_self hf]; rfl
theorem grp_old (hk : cdN xs st k ≠ []) (hi : i < (grp xs st k).length) (h : hitP xs st (cdN xs st k) (grp xs st k)[i] = true) : grp xs st (k + 1) = (grp xs st k).set i ((grp xs st k)[i] ++ [(k : Int)]) := by
  have hiF : i < (grpF xs st k).length := by simpa [grp] using hi
  have hnd : (grpF xs st k).Pairwise (· < ·) := List.Pairwise.filter _ List.pairwise_lt_range
  have hat : ∀ j (hj : j < (grpF xs st k).length), (grpF xs st k)[j] < k ∧ fstB xs st (grpF xs st k)[j] = true := fun j hj => grpF_mem.1 (List.getElem_mem hj)
  have hgi : (grp xs st k)[i] = samG xs st k (grpF xs st k)[i] := by simp [grp]
  obtain ⟨t, ht⟩ := samG_head' (n := k) (hat i hiF).2 (hat i hiF).1
  have hc : cdN xs st (grpF xs st k)[i] = cdN xs st k := by
    rw [hgi, hit_iff ht] at h
    exact of_decide_eq_true h
  have hf : fstB xs st k = false := by
    cases hq : fstB xs st k
    · rfl
    · exact absurd hc ((fstB_iff.1 hq).2 _ (hat i hiF).1)
  rw [hgi]
  unfold grp
  rw [grpF_no hf]
  refine List.ext_getElem (by simp) fun j h1 h2 => ?_
  have hjF : j < (grpF xs st k).length := by simpa using h1
  rw [List.getElem_map, List.getElem_set]
  split
  · rename_i e; subst e
    exact samG_yes hc.symm
  · rename_i e
    rw [List.getElem_map]
    refine samG_no fun e2 => e ?_
    have he : cdN xs st (grpF xs st k)[i] = cdN xs st (grpF xs st k)[j] := hc.trans e2
    have : (grpF xs st k)[i] = (grpF xs st k)[j] := by
      rcases Nat.lt_trichotomy (grpF xs st k)[i] (grpF xs st k)[j] with hl | hl | hl
      · exact absurd he ((fstB_iff.1 (hat j hjF).2).2 _ hl)
      · exact hl
      · exact absurd he.symm ((fstB_iff.1 (hat i hiF).2).2 _ hl)
    rcases Nat.lt_trichotomy i j with hl | hl | hl
    · have := List.pairwise_iff_getElem.1 hnd i j hiF hjF hl; omega
    · exact hl
    · have := List.pairwise_iff_getElem.1 hnd j i hjF hiF hl; omega
theorem grpS_yes (h : fstB xs st k = true) (h2 : 2 ≤ (samG xs st 100 k).length) : grpS xs st (k + 1) = grpS xs st k ++ [samG xs st 100 k] := by
  unfold grpS; rw [grpF_yes h, List.map_append, List.filter_append]; simp [twoP, h2]
theorem grpS_one (h : fstB xs st k = true) (h2 : ¬ 2 ≤ (samG xs st 100 k).length) : grpS xs st (k + 1) = grpS xs st k := by
  unfold grpS; rw [grpF_yes h, List.map_append, List.filter_append]; simp [twoP, h2]
theorem grpS_no (h : fstB xs st k = false) : grpS xs st (k + 1) = grpS xs st k := by
  unfold grpS; rw [grpF_no h]
theorem grpS_grp : grpS xs st 100 = (grp xs st 100).filter twoP := rfl
theorem grpS_len : (grpS xs st k).length ≤ k := by
  unfold grpS grpF
  exact Nat.le_trans (List.length_filter_le _ _) (by rw [List.length_map]; exact Nat.le_trans (List.length_filter_le _ _) (by simp))
theorem sum_bd : ∀ (l : List (List Int)) (m : Nat), (∀ p ∈ l, p.length ≤ m) → (l.map List.length).sum ≤ l.length * m
  | [], m, _ => by simp
  | p :: l, m, h => by
    have h1 := sum_bd l m fun q hq => h q (List.mem_cons_of_mem _ hq)
    have h2 := h p (List.mem_cons_self ..)
    simp only [List.map_cons, List.sum_cons, List.length_cons, Nat.add_mul]
    omega
theorem laV_len (xs : List Flaw) (st : Int) : (laV xs st).length ≤ 100 := by
  unfold laV; split
  · exact grpS_len
  · simp
theorem laV_mem {p : List Int} (h : p ∈ laV xs st) : laB xs st = true ∧ ∃ a, fstB xs st a = true ∧ a < 100 ∧ p = samG xs st 100 a ∧ 2 ≤ p.length := by
  unfold laV at h
  split at h
  · rename_i hb
    obtain ⟨h1, h2⟩ := List.mem_filter.1 h
    obtain ⟨a, ha, rfl⟩ := List.mem_map.1 h1
    exact ⟨hb, a, (grpF_mem.1 ha).2, (grpF_mem.1 ha).1, rfl, of_decide_eq_true h2⟩
  · simp at h
theorem laV_elen {p : List Int} (h : p ∈ laV xs st) : p.length ≤ 100 := by
  obtain ⟨_, a, _, _, rfl, _⟩ := laV_mem h; exact samG_len
theorem laV_sum (xs : List Flaw) (st : Int) : ((laV xs st).map List.length).sum ≤ 10000 := by
  have h1 := sum_bd (laV xs st) 100 fun p hp => laV_elen hp
  have h2 := laV_len xs st
  have h3 : (laV xs st).length * 100 ≤ 100 * 100 := Nat.mul_le_mul_right 100 h2
  omega
/-- What the reference knows when it has come to position a: those that show the codes of a first position ahead of it. -/
def KnA (xs : List Flaw) (st : Int) (a : Nat) (K : List Int) : Prop := ∀ z : Nat, (z : Int) ∈ K ↔ ∃ f, f < a ∧ fstB xs st f = true ∧ f < z ∧ z < 100 ∧ cdN xs st z = cdN xs st f
theorem KnA.at_ {K : List Int} (h : KnA xs st a K) (ha : a < 100) (hne : cdN xs st a ≠ []) : decide ((a : Int) ∈ K) = !fstB xs st a := by
  cases hf : fstB xs st a
  · have : ∃ j, j < a ∧ cdN xs st j = cdN xs st a := Classical.byContradiction fun hc => by
      have := (fstB_iff (k := a) (xs := xs) (st := st)).2 ⟨hne, fun j hj he => hc ⟨j, hj, he⟩⟩
      rw [hf] at this; cases this
    obtain ⟨j, hj, he⟩ := this
    obtain ⟨f, h1, h2, h3⟩ := first_of xs st j (by rw [he]; exact hne)
    exact decide_eq_true ((h a).2 ⟨f, by omega, h2, by omega, ha, (h3.trans he).symm⟩)
  · refine decide_eq_false fun hm => ?_
    obtain ⟨f, h1, h2, h3, h4, h5⟩ := (h a).1 hm
    exact (fstB_iff.1 hf).2 f h3 h5.symm
theorem KnA.skip {K : List Int} (h : KnA xs st a K) (hf : fstB xs st a = false) : KnA xs st (a + 1) K := fun z => by
  rw [h z]
  constructor
  · rintro ⟨f, h1, h2⟩; exact ⟨f, by omega, h2⟩
  · rintro ⟨f, h1, h2, h3⟩
    refine ⟨f, ?_, h2, h3⟩
    by_cases e : f = a
    · subst e; rw [hf] at h2; cases h2
    · omega
/-- .. and when it has gone on to position b behind a first position a. -/
def KnB (xs : List Flaw) (st : Int) (a b : Nat) (K : List Int) : Prop := ∀ z : Nat, (z : Int) ∈ K ↔ (∃ f, f < a ∧ fstB xs st f = true ∧ f < z ∧ z < 100 ∧ cdN xs st z = cdN xs st f) ∨ (a < z ∧ z < b ∧ cdN xs st z = cdN xs st a)
theorem KnA.begin_ {K : List Int} (h : KnA xs st a K) : KnB xs st a (a + 1) K := fun z => by
  rw [h z]
  constructor
  · exact .inl
  · rintro (h | ⟨h1, h2, _⟩)
    · exact h
    · omega
theorem KnB.no {K : List Int} (h : KnB xs st a b K) (hc : cdN xs st b ≠ cdN xs st a) : KnB xs st a (b + 1) K := fun z => by
  rw [h z]
  constructor
  · rintro (h | ⟨h1, h2, h3⟩)
    · exact .inl h
    · exact .inr ⟨h1, by omega, h3⟩
  · rintro (h | ⟨h1, h2, h3⟩)
    · exact .inl h
    · refine .inr ⟨h1, ?_, h3⟩
      by_cases e : z = b
      · subst e; exact absurd h3 hc
      · omega
theorem KnB.yes {K K' : List Int} (h : KnB xs st a b K) (hab : a < b) (hc : cdN xs st b = cdN xs st a) (hK : ∀ z : Int, z ∈ K' ↔ z ∈ K ∨ z = (b : Int)) : KnB xs st a (b + 1) K' := fun z => by
  rw [hK, h z]
  constructor
  · rintro ((h | ⟨h1, h2, h3⟩) | e)
    · exact .inl h
    · exact .inr ⟨h1, by omega, h3⟩
    · have : z = b := by omega
      subst this; exact .inr ⟨hab, by omega, hc⟩
  · rintro (h | ⟨h1, h2, h3⟩)
    · exact .inl (.inl h)
    · by_cases e : z = b
      · exact .inr (by omega)
      · exact .inl (.inr ⟨h1, by omega, h3⟩)
theorem KnB.end_ {K : List Int} (h : KnB xs st a 100 K) (hf : fstB xs st a = true) : KnA xs st (a + 1) K := fun z => by
  rw [h z]
  constructor
  · rintro (⟨f, h1, h2⟩ | ⟨h1, h2, h3⟩)
    · exact ⟨f, by omega, h2⟩
    · exact ⟨a, by omega, hf, h1, h2, h3⟩
  · rintro ⟨f, h1, h2, h3, h4, h5⟩
    by_cases e : f = a
    · subst e; exact .inr ⟨h3, h4, h5⟩
    · exact .inl ⟨f, by omega, h2, h3, h4, h5⟩
theorem KnA.start : KnA xs st 0 [] := fun z => by simp
end
end Go.Proofs.YtgjehnjpbekoeaaDoor
