/- Contracts of ChangedMinds: the program's and the reference's. No condition but the sizes. -/
import Derived.Test.YtpnkeaeikcobfaaGreatDoorOpLaw1
namespace Go.Proofs.YtpnkeaeikcobfaaGreatDoor
set_option linter.unusedVariables false
set_option linter.unusedSimpArgs false
open Go.RowKit
attribute [local irreducible] wpQuiet
def mindP (xs : List Opinion) (o : ByteArray) (x : Opinion) : Bool := decide (x.expert = o) && (decide (0 ≤ x.over) && match xs[x.over.toNat]? with | none => false | some y => decide (y.says ≠ x.says))
def mindN (xs : List Opinion) (o : ByteArray) (k : Nat) : Nat := ((xs.take k).filter (mindP xs o)).length
def mindB (xs : List Opinion) (o : ByteArray) : Bool := goodO xs && isW o
def mindV (xs : List Opinion) (o : ByteArray) : Int := if mindB xs o = true then (mindN xs o xs.length : Int) else 0
theorem mindN_le (xs : List Opinion) (o : ByteArray) (k : Nat) : mindN xs o k ≤ k := by unfold mindN; exact Nat.le_trans (List.length_filter_le _ _) (by simp; omega)
theorem mindN_yes {xs : List Opinion} {o : ByteArray} {k : Nat} (hk : k < xs.length) (h : mindP xs o xs[k] = true) : mindN xs o (k + 1) = mindN xs o k + 1 := by unfold mindN; rw [take_succ_get xs k hk, List.filter_append]; simp [h]
theorem mindN_no {xs : List Opinion} {o : ByteArray} {k : Nat} (hk : k < xs.length) (h : mindP xs o xs[k] = false) : mindN xs o (k + 1) = mindN xs o k := by unfold mindN; rw [take_succ_get xs k hk, List.filter_append]; simp [h]
theorem goodO_over {xs : List Opinion} (h : goodO xs = true) {k t : Nat} (hk : k < xs.length) (ho : xs[k].over = t) : t < xs.length := by
  have := goodO_at h hk
  rw [okO_val hk] at this
  simp only [Bool.and_eq_true, decide_eq_true_eq] at this
  have := this.1.1.2
  omega
theorem goodO_before {xs : List Opinion} (h : goodO xs = true) {k t : Nat} (hk : k < xs.length) (ho : xs[k].over = t) : t < k := by
  have := goodO_at h hk
  rw [okO_val hk] at this
  simp only [Bool.and_eq_true, decide_eq_true_eq] at this
  have := this.1.1.2
  omega
theorem mindP_val {xs : List Opinion} {x : Opinion} {t : Nat} (h : t < xs.length) (ho : x.over = t) (o : ByteArray) : mindP xs o x = (decide (x.expert = o) && decide (xs[t].says ≠ x.says)) := by simp [mindP, ho, h]
end Go.Proofs.YtpnkeaeikcobfaaGreatDoor
