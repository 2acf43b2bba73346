/- When a list of pages is an album: the plain words. No condition. -/
import Derived.Test.YtpjnlcppjcnlgaaGreatDoorCvPage
import Derived.Test.YtpjnlcppjcnlgaaGreatDoorWord
import Derived.Test.YtpjnlcppjcnlgaaGreatDoorCmpS
import Derived.Test.YtpjnlcppjcnlgaaGreatDoorOver
import Derived.IntWalk
namespace Go.Proofs.YtpjnlcppjcnlgaaGreatDoor
set_option linter.unusedVariables false
set_option linter.unusedSimpArgs false
open Go.RowKit
/-- A struct that the call has just laid into a new block. -/
structure New (w W : World) (vs : List Value) : Prop where
  below : Below w.heap.size w W
  lt : w.heap.size < W.heap.size
  cell : ∀ (j : Nat) (v : Value), vs[j]? = some v → W.cell? ⟨w.heap.size, j, none⟩ = some v
theorem New.of (w : World) (vs : List Value) (t : TypeId) : New w (w.alloc (.cells vs.toArray t)) vs :=
  ⟨(Below.refl _ _).alloc (Nat.le_refl _) _, by simp, fun j v hv => by rw [World.cell?_alloc_new]; simpa using hv⟩
theorem range_next {p : Nat → Bool} {k : Nat} (h : (List.range k).all p = true) (hk : p k = true) : (List.range (k + 1)).all p = true := by
  rw [List.range_succ, List.all_append, h]; simp [hk]
theorem take_no {α : Type} {p : α → Bool} {xs : List α} {k : Nat} (hk : k < xs.length) (h0 : ∀ x ∈ xs.take k, p x = false) (h1 : p xs[k] = false) : ∀ x ∈ xs.take (k + 1), p x = false := by
  rw [take_succ_get xs k hk]
  intro x hx
  rcases List.mem_append.1 hx with h | h
  · exact h0 x h
  · simp at h; subst h; exact h1
theorem take_all {α : Type} {p : α → Bool} {xs : List α} {k : Nat} (hk : k < xs.length) (h0 : (xs.take k).all p = true) (h1 : p xs[k] = true) : (xs.take (k + 1)).all p = true := by
  rw [take_succ_get xs k hk, List.all_append, h0]; simp [h1]
theorem all_no {α : Type} {p : α → Bool} {xs : List α} {k : Nat} (hk : k < xs.length) (h1 : p xs[k] = false) : xs.all p = false :=
  List.all_eq_false.2 ⟨xs[k], List.getElem_mem hk, by simp [h1]⟩
/-- Number i is more than the one ahead of it. -/
def ascO (l : List Int) (i : Nat) : Bool := decide (i = 0) || match l[i - 1]?, l[i]? with | some a, some b => decide (a < b) | _, _ => false
def ascL (l : List Int) : Bool := (List.range l.length).all (ascO l)
theorem ascO_0 (l : List Int) : ascO l 0 = true := by simp [ascO]
theorem ascO_s {l : List Int} {j : Nat} (h : j + 1 < l.length) : ascO l (j + 1) = decide (l[j] < l[j + 1]) := by
  have : j < l.length := by omega
  simp [ascO, h, this]
theorem ascL_no {l : List Int} {k : Nat} (h : k < l.length) (hc : ascO l k = false) : ascL l = false := List.all_eq_false.2 ⟨k, List.mem_range.2 h, by simp [hc]⟩
def risL (l : List Int) (lo hi : Int) : Bool := ascL l && l.all fun z => inR z lo hi
theorem ascL_lt {l : List Int} (h : ascL l = true) : ∀ (j i : Nat) (hj : j < l.length) (hij : i < j), l[i]'(by omega) < l[j]
  | j + 1, i, hj, hij => by
    have h1 := List.all_eq_true.1 h (j + 1) (List.mem_range.2 hj)
    rw [ascO_s hj] at h1
    simp only [decide_eq_true_eq] at h1
    rcases Nat.lt_or_ge i j with hlt | hge
    · have := ascL_lt h j i (by omega) hlt
      omega
    · have : i = j := by omega
      subst this; exact h1
/-- What is asked of a page by itself. -/
def Page.base (p : Page) : Bool := inR p.id 1 99 && isW p.title && decide (p.items.length ≤ 8) && ascL p.items && p.items.all fun z => inR z 1 999
def ordA (ps : List Page) (i : Nat) (p : Page) : Bool := decide (i = 0) || match ps[i - 1]? with | none => false | some q => decide (q.id < p.id)
def idP (id : Int) (q : Page) : Bool := decide (q.id = id)
def hasP (z : Int) (q : Page) : Bool := decide (z ∈ q.items)
def twinP (p q : Page) : Bool := decide (q.under = p.under) && decide (q.title = p.title)
def undA (ps : List Page) (i : Nat) (p : Page) : Bool := decide (p.under = 0) || (ps.take i).any (idP p.under)
def freeA (ps : List Page) (i : Nat) (p : Page) : Bool := p.items.all fun z => !(ps.take i).any (hasP z)
def soloA (ps : List Page) (i : Nat) (p : Page) : Bool := !(ps.take i).any (twinP p)
def okA (ps : List Page) (i : Nat) : Bool := match ps[i]? with
  | none => true
  | some p => p.base && ordA ps i p && undA ps i p && soloA ps i p && freeA ps i p
def goodA (ps : List Page) : Bool := (List.range ps.length).all (okA ps) && decide (ps.length ≤ 12)
theorem okA_val {ps : List Page} {i : Nat} (h : i < ps.length) : okA ps i = (ps[i].base && ordA ps i ps[i] && undA ps i ps[i] && soloA ps i ps[i] && freeA ps i ps[i]) := by simp [okA, h]
theorem ordA_0 (ps : List Page) (p : Page) : ordA ps 0 p = true := by simp [ordA]
theorem ordA_s {ps : List Page} {j : Nat} (h : j < ps.length) (p : Page) : ordA ps (j + 1) p = decide (ps[j].id < p.id) := by simp [ordA, h]
theorem goodA_no {ps : List Page} {k : Nat} (h : k < ps.length) (ho : okA ps k = false) : goodA ps = false := by
  have : (List.range ps.length).all (okA ps) = false := List.all_eq_false.2 ⟨k, List.mem_range.2 h, by simp [ho]⟩
  simp [goodA, this]
theorem goodA_all {ps : List Page} (h : (List.range ps.length).all (okA ps) = true) : decide ((ps.length : Int) ≤ 12) = goodA ps := by
  simp only [goodA, h, Bool.true_and]
  congr 1; simp; omega
theorem goodA_many {ps : List Page} (h : 12 < ps.length) : decide ((ps.length : Int) ≤ 12) = goodA ps := by
  rw [decide_eq_false (by omega)]
  simp [goodA]; intro _; omega
theorem goodA_len {ps : List Page} (h : goodA ps = true) : ps.length ≤ 12 := by
  simp only [goodA, Bool.and_eq_true, decide_eq_true_eq] at h; exact h.2
theorem goodA_at {ps : List Page} (h : goodA ps = true) {k : Nat} (hk : k < ps.length) : okA ps k = true := by
  simp only [goodA, Bool.and_eq_true] at h
  exact List.all_eq_true.1 h.1 k (List.mem_range.2 hk)
/-- The reference asks for the page above in the whole list, with a smaller number. -/
def undS (ps : List Page) (p : Page) : Bool := decide (p.under = 0) || (decide (p.under < p.id) && ps.any (idP p.under))
def okS (ps : List Page) (i : Nat) : Bool := match ps[i]? with
  | none => true
  | some p => p.base && ordA ps i p && undS ps p && freeA ps i p && soloA ps i p
theorem okS_val {ps : List Page} {i : Nat} (h : i < ps.length) : okS ps i = (ps[i].base && ordA ps i ps[i] && undS ps ps[i] && freeA ps i ps[i] && soloA ps i ps[i]) := by simp [okS, h]
theorem ord_lt {ps : List Page} : ∀ (n : Nat) (hn : n ≤ ps.length), (∀ j (hj : j < n), ordA ps j (ps[j]'(by omega)) = true) → ∀ (j i : Nat) (hj : j < n) (hij : i < j), (ps[i]'(by omega)).id < (ps[j]'(by omega)).id
  | n, hn, h, j + 1, i, hj, hij => by
    have h1 := h (j + 1) hj
    rw [ordA_s (show j < ps.length by omega)] at h1
    simp only [decide_eq_true_eq] at h1
    rcases Nat.lt_or_ge i j with hlt | hge
    · have := ord_lt n hn h j i (by omega) hlt
      omega
    · have : i = j := by omega
      subst this; exact h1
theorem okS_ord {ps : List Page} {i : Nat} (hi : i < ps.length) (h : okS ps i = true) : ordA ps i ps[i] = true := by
  rw [okS_val hi] at h; simp only [Bool.and_eq_true] at h; exact h.1.1.1.2
theorem okA_ord {ps : List Page} {i : Nat} (hi : i < ps.length) (h : okA ps i = true) : ordA ps i ps[i] = true := by
  rw [okA_val hi] at h; simp only [Bool.and_eq_true] at h; exact h.1.1.1.2
/-- Where all ahead are in order, the program's question is the reference's. -/
theorem okA_okS {ps : List Page} {i : Nat} (hi : i < ps.length) (h : ∀ j (hj : j < i), ordA ps j (ps[j]'(by omega)) = true) (ha : okA ps i = true) : okS ps i = true := by
  rw [okA_val hi] at ha
  rw [okS_val hi]
  simp only [Bool.and_eq_true] at ha ⊢
  refine ⟨⟨⟨ha.1.1.1, ?_⟩, ha.2⟩, ha.1.2⟩
  have hu := ha.1.1.2
  unfold undA at hu; unfold undS
  simp only [Bool.or_eq_true, Bool.and_eq_true, decide_eq_true_eq] at hu ⊢
  rcases hu with h0 | h0
  · exact .inl h0
  · right
    obtain ⟨q, hq, hqi⟩ := List.any_eq_true.1 h0
    obtain ⟨j, hj, rfl⟩ := List.mem_take_iff_getElem.1 hq
    have hj' : j < i := by omega
    have hjl : j < ps.length := by omega
    refine ⟨?_, List.any_eq_true.2 ⟨_, List.mem_of_mem_take hq, hqi⟩⟩
    simp only [idP, decide_eq_true_eq] at hqi
    rw [← hqi]
    refine ord_lt (ps := ps) (i + 1) (by omega) (fun k hk => ?_) i j (by omega) hj'
    rcases Nat.lt_or_ge k i with h1 | h1
    · exact h k h1
    · have : k = i := by omega
      subst this; exact ha.1.1.1.2
theorem okS_no {ps : List Page} {i : Nat} (hi : i < ps.length) (h : (List.range i).all (okS ps) = true) (hs : okS ps i = false) : goodA ps = false := by
  refine goodA_no hi ?_
  cases ha : okA ps i with
  | false => rfl
  | true =>
    rw [okA_okS hi (fun j hj => okS_ord (by omega) (List.all_eq_true.1 h j (List.mem_range.2 hj))) ha] at hs
    cases hs
theorem okS_all {ps : List Page} (h : (List.range ps.length).all (okS ps) = true) : (List.range ps.length).all (okA ps) = true := by
  refine List.all_eq_true.2 fun i hi => ?_
  have hi := List.mem_range.1 hi
  have hs := List.all_eq_true.1 h i (List.mem_range.2 hi)
  have hord : ∀ j (hj : j < ps.length), ordA ps j ps[j] = true := fun j hj => okS_ord hj (List.all_eq_true.1 h j (List.mem_range.2 hj))
  rw [okS_val hi] at hs
  rw [okA_val hi]
  simp only [Bool.and_eq_true] at hs ⊢
  refine ⟨⟨⟨hs.1.1.1, ?_⟩, hs.2⟩, hs.1.2⟩
  have hu := hs.1.1.2
  unfold undS at hu; unfold undA
  simp only [Bool.or_eq_true, Bool.and_eq_true, decide_eq_true_eq] at hu ⊢
  rcases hu with h0 | ⟨h1, h0⟩
  · exact .inl h0
  · right
    obtain ⟨q, hq, hqi⟩ := List.any_eq_true.1 h0
    obtain ⟨j, hj, rfl⟩ := List.getElem_of_mem hq
    have hqi' : ps[j].id = ps[i].under := by simpa [idP] using hqi
    refine List.any_eq_true.2 ⟨_, List.mem_take_iff_getElem.2 ⟨j, ?_, rfl⟩, hqi⟩
    rcases Nat.lt_or_ge j i with h2 | h2
    · omega
    · exfalso
      rcases Nat.eq_or_lt_of_le h2 with h3 | h3
      · subst h3; omega
      · have := ord_lt ps.length (Nat.le_refl _) hord j i hj h3
        omega
end Go.Proofs.YtpjnlcppjcnlgaaGreatDoor
