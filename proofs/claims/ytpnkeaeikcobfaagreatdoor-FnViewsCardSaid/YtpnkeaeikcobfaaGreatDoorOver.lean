/- A statement whose order of evaluation is open, whose operations only read and whose callees make memory of their own alone: one walk serves every order. No condition of its own. -/
import Derived.Test.YtpnkeaeikcobfaaGreatDoorLib
import Derived.Deep.QuietTactic
namespace Go.Proofs.YtpnkeaeikcobfaaGreatDoor
set_option linter.unusedVariables false
set_option linter.unusedSimpArgs false
open Go.RowKit

/-- w with whatever blocks behind its own, and whatever number of draws. -/
def over (w x : World) : World := { heap := w.heap ++ x.heap, tape := w.tape, drawn := x.drawn, os := w.os, output := w.output }

theorem over_size (w x : World) : (over w x).heap.size = w.heap.size + x.heap.size := by simp [over]
theorem over_heap (w x : World) (k : Nat) (h : k < w.heap.size) : (over w x).heap[k]? = w.heap[k]? := by
  simp [over, Array.getElem?_append, h]
theorem over_below (w x : World) : Below w.heap.size w (over w x) := ⟨rfl, rfl, rfl, by simp [over], fun k h => over_heap w x k h⟩
theorem over_cell (w : World) : ∀ (x : World) (b o : Nat), b < w.heap.size → (over w x).cell? ⟨b, o, none⟩ = w.cell? ⟨b, o, none⟩ := fun x b o h => (over_below w x).cell (p := ⟨b, o, none⟩) h
theorem below_over {w w' : World} (h : Below w.heap.size w w') : ∃ x, w' = over w x := by
  refine ⟨{ heap := w'.heap.extract w.heap.size w'.heap.size, tape := w'.tape, drawn := w'.drawn, os := w'.os, output := w'.output }, ?_⟩
  have hh : w'.heap = w.heap ++ w'.heap.extract w.heap.size w'.heap.size := by
    apply Array.ext_getElem?
    intro i
    rw [Array.getElem?_append]
    split
    · rename_i hi; exact h.block i hi
    · rename_i hi
      rw [Array.getElem?_extract]
      split
      · congr 1; omega
      · rename_i h2
        rw [Array.getElem?_eq_none (by omega)]
  obtain ⟨heap, tape, drawn, os, output⟩ := w'
  obtain rfl : os = w.os := h.os
  obtain rfl : tape = w.tape := h.tape
  obtain rfl : output = w.output := h.output
  exact congrArg (fun H => ({ heap := H, tape := w.tape, drawn := drawn, os := w.os, output := w.output } : World)) hh

theorem Calls.over_of {P : Program} {f : FuncId} {args : Array Value} {w x : World} {v : Value} (h : Calls P f args (over w x) (Ret v (over w x))) :
    Calls P f args (over w x) fun e w'' => e = .returned v ∧ ∃ x', w'' = over w x' :=
  h.mono fun _ _ ⟨he, hb⟩ => ⟨he, below_over ((over_below w x).trans (hb.mono (by simp [over])))⟩
theorem Calls.over_pure {P : Program} {f : FuncId} {args : Array Value} {w x : World} {v : Value} (h : Calls P f args (over w x) (Pure v (over w x))) :
    Calls P f args (over w x) fun e w'' => e = .returned v ∧ ∃ x', w'' = over w x' :=
  h.mono fun _ _ ⟨he, hb⟩ => ⟨he, x, hb.symm⟩

theorem wp_region_over {P : Program} {id : Nat} {Q : Exit → Act → World → Prop} {a : Act} {w : World} {l : List Oper} (hm : P.follows .mixedOrders = true) (hB : Region.lexB .any l.toArray = true)
    (h : wpQuiet P l.toArray (fun w' => ∃ x, w' = over w x) (fun a' => ∀ w', (∃ x, w' = over w x) → Q .normal a' w') l a) : (Code.region id l.toArray true).wp P Q a w :=
  wp_region_quiet (C := fun w' => ∃ x, w' = over w x) hm hB (below_over ((Below.refl _ w).drew)) (by simpa using h)
end Go.Proofs.YtpnkeaeikcobfaaGreatDoor
