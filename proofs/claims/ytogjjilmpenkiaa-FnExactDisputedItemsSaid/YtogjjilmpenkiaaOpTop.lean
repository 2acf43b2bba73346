/- Contracts of Standing, ViewOf, FirstView, HistoryOf: the program's and the reference's. No condition but the sizes. -/
import Derived.Test.YtogjjilmpenkiaaOpView
namespace Go.Proofs.Ytogjjilmpenkiaa
set_option linter.unusedVariables false
set_option linter.unusedSimpArgs false
open Go.RowKit
attribute [local irreducible] wpQuiet
def stB (xs : List Opinion) (z d : Int) : Bool := goodO xs && inR z 1 999 && inR d 0 4000
def stV (xs : List Opinion) (z d : Int) : List Int := if stB xs z d = true then standL xs z d else []
theorem stV_len {xs : List Opinion} {z d : Int} (h : xs.length ≤ 1048576) : (stV xs z d).length ≤ 2097152 := by
  unfold stV; split
  · have : (standL xs z d).length ≤ xs.length := by unfold standL; exact range_len
    omega
  · simp
def vwV (xs : List Opinion) (z d : Int) : Int := if stB xs z d = true then viewM xs z d else 0
def fvP (xs : List Opinion) (z s : Int) (x : Opinion) : Bool := decide (viewM xs z x.day = s)
def fvG (xs : List Opinion) (z s : Int) : Bool := goodO xs && inR z 1 999 && inR s 1 4
def fvB (xs : List Opinion) (z s : Int) : Bool := fvG xs z s && xs.any (fvP xs z s)
def fvV (xs : List Opinion) (z s : Int) : Int := if fvG xs z s = true then (match xs.find? (fvP xs z s) with | some x => x.day | none => 0) else 0
theorem fv_hit {xs : List Opinion} {z s : Int} {k : Nat} (hk : k < xs.length) (hg : fvG xs z s = true) (h0 : ∀ x ∈ xs.take k, fvP xs z s x = false) (h1 : fvP xs z s xs[k] = true) : fvV xs z s = xs[k].day ∧ fvB xs z s = true := by
  have hf : xs.find? (fvP xs z s) = some xs[k] := by
    rw [List.find?_eq_some_iff_getElem]
    refine ⟨h1, k, hk, rfl, fun j hj => ?_⟩
    have := h0 xs[j] (List.mem_take_iff_getElem.2 ⟨j, by omega, rfl⟩)
    simp [this]
  refine ⟨?_, ?_⟩
  · unfold fvV; rw [if_pos hg, hf]
  · unfold fvB; rw [hg, List.any_eq_true.2 ⟨xs[k], List.getElem_mem hk, h1⟩]; rfl
theorem fv_miss {xs : List Opinion} {z s : Int} (h0 : ∀ x ∈ xs, fvP xs z s x = false) : fvV xs z s = 0 ∧ fvB xs z s = false := by
  have hf : xs.find? (fvP xs z s) = none := List.find?_eq_none.2 (fun x hx => by rw [h0 x hx]; exact Bool.false_ne_true)
  have ha : xs.any (fvP xs z s) = false := List.any_eq_false.2 (fun x hx => by rw [h0 x hx]; exact Bool.false_ne_true)
  refine ⟨?_, ?_⟩
  · unfold fvV; rw [hf]; split <;> rfl
  · unfold fvB; rw [ha, Bool.and_false]
def overO (xs : List Opinion) (i : Int) : Int := match xs[i.toNat]? with | none => -1 | some x => x.over
theorem overO_nat {xs : List Opinion} {i : Nat} (h : i < xs.length) : overO xs (i : Int) = xs[i].over := by simp [overO, h]
def histF (xs : List Opinion) : Nat → Int → List Int
  | 0, _ => []
  | f + 1, i => if i < 0 then [] else i :: histF xs f (overO xs i)
theorem histF_neg (xs : List Opinion) (f : Nat) {i : Int} (h : i < 0) : histF xs f i = [] := by cases f <;> simp [histF, h]
theorem histF_len (xs : List Opinion) : ∀ (f : Nat) (i : Int), (histF xs f i).length ≤ f
  | 0, _ => by simp [histF]
  | f + 1, i => by
    unfold histF; split
    · simp
    · have := histF_len xs f (overO xs i); simp; omega
def hiB (xs : List Opinion) (z : Int) : Bool := goodO xs && inR z 0 ((xs.length : Int) - 1)
def hiV (xs : List Opinion) (z : Int) : List Int := if hiB xs z = true then histF xs (xs.length + 1) z else []
theorem hiV_len {xs : List Opinion} {z : Int} (h : xs.length ≤ 1048576) : (hiV xs z).length ≤ 2097152 := by
  unfold hiV; split
  · have := histF_len xs (xs.length + 1) z; omega
  · simp
theorem goodO_low {xs : List Opinion} (h : goodO xs = true) {k : Nat} (hk : k < xs.length) : -1 ≤ xs[k].over ∧ xs[k].over < (k : Int) := by
  have := goodO_at h hk
  rw [okO_val hk] at this
  simp only [Bool.and_eq_true, decide_eq_true_eq] at this
  exact ⟨this.1.1.1.2, this.1.1.2⟩
end Go.Proofs.Ytogjjilmpenkiaa
