/- Albums as results: words, bounds, albumResult. No condition but the sizes. -/
import Derived.Test.YtpjnlcppjcnlgaaGreatDoorAlCpy3
import Derived.Test.YtpjnlcppjcnlgaaGreatDoorAlIs
import Derived.Test.YtpjnlcppjcnlgaaGreatDoorAlTop
namespace Go.Proofs.YtpjnlcppjcnlgaaGreatDoor
set_option linter.unusedVariables false
set_option linter.unusedSimpArgs false
open Go.RowKit
attribute [local irreducible] wpQuiet
def atL (xs : List Page) (i : Int) (f : Page → Page) : List Page := match xs[i.toNat]? with | some p => xs.set i.toNat (f p) | none => xs
theorem atL_at {xs : List Page} {j : Nat} (hj : j < xs.length) (f : Page → Page) : atL xs (j : Int) f = xs.set j (f xs[j]) := by
  unfold atL
  simp only [Int.toNat_natCast, List.getElem?_eq_getElem hj]
theorem sumI_8 : ∀ (ps : List Page), (∀ p ∈ ps, p.items.length ≤ 8) → sumI ps ≤ 8 * ps.length
  | [], _ => by simp [sumI]
  | p :: ps, h => by
    have ih := sumI_8 ps (fun q hq => h q (List.mem_cons_of_mem _ hq))
    have := h p (List.mem_cons_self ..)
    rw [sumI_cons, List.length_cons]; omega
theorem goodA_sum {xs : List Page} (hg : goodA xs = true) : sumI xs ≤ 96 := by
  have h1 := goodA_len hg
  have h2 := sumI_8 xs fun p hp => by
    obtain ⟨j, hj, rfl⟩ := List.getElem_of_mem hp
    exact (good_base hg hj).2.2.2.1
  omega
/-- An album if it is good, else none. -/
def ifA (ps : List Page) (b : Bool) : List Page := if b = true then ps else []
theorem ifA_no {ps : List Page} {b : Bool} (h : b = false) : ifA ps b = [] := by simp [ifA, h]
theorem ifA_yes {ps : List Page} {b : Bool} (h : b = true) : ifA ps b = ps := by simp [ifA, h]
theorem ifA_len {ps : List Page} {b : Bool} (h : b = true → goodA ps = true) : (ifA ps b).length ≤ 2097152 := by
  unfold ifA; split
  · rename_i hb; have := goodA_len (h hb); omega
  · simp
theorem ifA_sum {ps : List Page} {b : Bool} (h : b = true → goodA ps = true) : sumI (ifA ps b) ≤ 2097152 := by
  unfold ifA; split
  · rename_i hb; have := goodA_sum (h hb); omega
  · simp [sumI]
/-- The call returns an album of its own, and b. -/
def RetA (ps : List Page) (b : Bool) (w : World) (e : Ending) (w' : World) : Prop := ∃ B c', e = .returned (.tuple #[.slice B ps.length c', .bool b]) ∧ Below w.heap.size w w' ∧ OwnP w.heap.size w'.heap.size w' B ps
theorem albumResult_c (ps : List Page) (A : Option Addr) (c : Nat) (w : World) (hr : RdP w.heap.size w A ps) (hcap : ps.length ≤ c) (hn : ps.length ≤ 1048576) (hs : sumI ps ≤ 1048576) (hw : ∀ x ∈ ps, x.title.size ≤ 9223372036854775807 ∧ x.items.length ≤ 9223372036854775807 ∧ ∀ z ∈ x.items, Fits z) :
    Calls Tryz.prog 32 #[.slice A ps.length c] w fun e w' => Below w.heap.size w w' ∧ ((goodA ps = true ∧ e = .returned (.tuple #[.slice A ps.length c, .bool true])) ∨ (goodA ps = false ∧ e = .returned (.tuple #[.slice none 0 0, .bool false]))) := by
  have HW := Lib.hid hw
  clear hw
  go_enter Tryz.func32, Tryz.ntmps32
  go_wp2_with fail
  refine (isAlbum_c ps _ _ _ hr hcap hn hs HW.out).mono ?_
  rintro _ w1 ⟨rfl, hb1⟩
  cases hG : goodA ps with
  | true =>
    go_wp2_with fail
    go_returns
    exact ⟨hb1, .inl ⟨hG, rfl⟩⟩
  | false =>
    go_wp2_with fail
    go_returns
    exact ⟨hb1, .inr ⟨hG, rfl⟩⟩
theorem hw_set {xs : List Page} {j : Nat} {p : Page} (hw : ∀ x ∈ xs, x.title.size ≤ 9223372036854775807 ∧ x.items.length ≤ 9223372036854775807 ∧ ∀ z ∈ x.items, Fits z) (hp : p.title.size ≤ 9223372036854775807 ∧ p.items.length ≤ 9223372036854775807 ∧ ∀ z ∈ p.items, Fits z) : ∀ x ∈ xs.set j p, x.title.size ≤ 9223372036854775807 ∧ x.items.length ≤ 9223372036854775807 ∧ ∀ z ∈ x.items, Fits z := fun x hx => by
  rcases List.mem_or_eq_of_mem_set hx with h | h
  · exact hw x h
  · rw [h]; exact hp
theorem sumI_set_le : ∀ (xs : List Page) (j : Nat) (p : Page), sumI (xs.set j p) ≤ sumI xs + p.items.length
  | [], _, _ => by simp [sumI]
  | x :: xs, 0, p => by rw [List.set_cons_zero, sumI_cons, sumI_cons]; omega
  | x :: xs, j + 1, p => by have := sumI_set_le xs j p; rw [List.set_cons_succ, sumI_cons, sumI_cons]; omega
end Go.Proofs.YtpjnlcppjcnlgaaGreatDoor
