/- A map from int to bool that a call makes and uses as a set of numbers: what it answers, and what a store does. No condition but that the numbers are ints. -/
import Derived.Test.YtpjnlcppjcnlgaaGreatDoorProg
import Derived.Test.YtpjnlcppjcnlgaaGreatDoorOpenScal
import Derived.Maps.Own
import Derived.Maps.OwnOps
import Derived.Maps.Views
import Derived.Maps.OwnSet
namespace Go.Proofs.YtpjnlcppjcnlgaaGreatDoor
set_option linter.unusedVariables false
set_option linter.unusedSimpArgs false
open Go.RowKit Go.Maps
theorem lawI : Keyed Tryz.prog 3 := int_keyed Tryz.underlying3
theorem zeroB (w : World) : (zeroValue 4).run Tryz.prog w = .ok (.bool false) w := by kernel_rfl
theorem wf_int {x : Int} (h : Fits x) : (Lit.int .i64 x).wf = true := by
  have e1 : IntKind.i64.min = -9223372036854775808 := by decide
  have e2 : IntKind.i64.max = 9223372036854775807 := by decide
  show (decide (IntKind.i64.min ≤ x) && decide (x ≤ IntKind.i64.max)) = true
  rw [e1, e2]
  simpa [Fits] using h
/-- Block B holds a map of at most n entries that answers true at the numbers of S alone. -/
def SetB (B n : Nat) (S : List Int) (w : World) : Prop := ∃ D : DataW Unit, w.ownsMap Tryz.prog 3 (plainElem Tryz.prog 4) B n D ∧ ∀ x : Int, D.atKey (.int .i64 x) (.lit (.bool false)) = .lit (.bool (decide (x ∈ S)))
section
variable {w w' : World} {B n n' : Nat} {S T : List Int}
theorem SetB.made (w : World) : SetB w.heap.size 0 [] (w.alloc (.map #[] 0)) := ⟨_, World.ownsMap_made w _ _ _, fun x => rfl⟩
theorem SetB.lt (h : SetB B n S w) : B < w.heap.size := by obtain ⟨D, h, _⟩ := h; exact h.lt
theorem SetB.mono (h : SetB B n S w) (hn : n ≤ n') : SetB B n' S w := by obtain ⟨D, h, h2⟩ := h; exact ⟨D, h.mono hn, h2⟩
theorem SetB.cast (h : SetB B n S w) (hs : ∀ x, x ∈ S ↔ x ∈ T) : SetB B n T w := by
  obtain ⟨D, h, h2⟩ := h
  exact ⟨D, h, fun x => by rw [h2 x]; congr 3; exact propext (hs x)⟩
theorem SetB.kept {row : Option Nat} (h : SetB B n S w) (hg : w.grownBy w' row) (hne : some B ≠ row) : SetB B n S w' := by obtain ⟨D, h, h2⟩ := h; exact ⟨D, h.kept hg hne, h2⟩
theorem SetB.go (h : SetB B n S w) (hb : Below w.heap.size w w') : SetB B n S w' :=
  h.kept (row := none) ⟨hb.os, hb.tape, hb.output, hb.size, fun k hk _ => hb.block k hk⟩ (by simp)
theorem plainElem_bool_inv {P : Program} {e : TypeId} (he : P.underlying e = some .bool) {v : Value} {z : DataW Unit × List MemPlace} (h : plainElem P e v = some z) : ∃ b, v = .bool b ∧ z = (.lit (.bool b), []) := by
  unfold plainElem at h
  rw [he] at h
  cases v <;> simp at h
  subst h
  exact ⟨_, rfl, rfl⟩
theorem SetB.run (h : SetB B n S w) {x : Int} (hf : Fits x) : (Instr.lookup 68 (.map (some B)) (.int .i64 x) false).run Tryz.prog w = .ok (.bool (decide (x ∈ S))) w := by
  obtain ⟨D, h, h2⟩ := h
  obtain ⟨v, ps, hrun, hv⟩ := h.lookup lawI Tryz.underlying68 (zeroB w) (plainElem_bool Tryz.underlying4 false) (keyOf_int_mk Tryz.underlying3 (wf_int hf))
  obtain ⟨b, rfl, hb⟩ := plainElem_bool_inv Tryz.underlying4 hv
  rw [h2 x] at hb
  simp only [Prod.mk.injEq, DataW.lit.injEq, Lit.bool.injEq] at hb
  rw [hrun, hb.1]
theorem wpList_look {ops : Array Oper} {rest : List Oper} {o : Oper} {a : Act} {Q : Exit → Act → World → Prop} (hg : o.guard = none) (m x : Operand) (hop : o.op = Op.lookup 68 m x false)
    (hm : a.eval m = .map (some B)) (h : SetB B n S w) (key : Int) (hx : a.eval x = .int .i64 key) (hf : Fits key) (hK : wpList Tryz.prog ops Q rest (a.put o.dst (.bool (decide (key ∈ S)))) w) : wpList Tryz.prog ops Q (o :: rest) a w := by
  refine wpList_plain hg fun K' hK' => ?_
  have hrun := h.run hf
  unfold Oper.wp
  simp [execOp, hop, hm, hx, hrun, Result.andThen]
  exact hK' _ _ hK
theorem wpList_put {ops : Array Oper} {rest : List Oper} {o : Oper} {a : Act} {Q : Exit → Act → World → Prop} (hg : o.guard = none) (m x v : Operand) (hop : o.op = Op.mapUpdate 68 m x v)
    (hm : a.eval m = .map (some B)) (h : SetB B n S w) (hn : n < maxLen) (key : Int) (hx : a.eval x = .int .i64 key) (hv : a.eval v = .bool true) (hf : Fits key)
    (hK : ∀ w', SetB B (n + 1) (key :: S) w' → w.grownBy w' (some B) → wpList Tryz.prog ops Q rest (a.put o.dst undef) w') : wpList Tryz.prog ops Q (o :: rest) a w := by
  obtain ⟨D, h, h2⟩ := h
  refine wpList_mapUpdate_own w hg m x v 68 hop 3 4 lawI Tryz.underlying68 _ B n D hm h hn _ _ (.int .i64 key) hx hv (keyOf_int_mk Tryz.underlying3 (wf_int hf)) (.lit (.bool true)) [] (plainElem_bool Tryz.underlying4 true) fun w' h3 h4 => hK w' ⟨_, h3, fun y => ?_⟩ h4
  by_cases hy : y = key
  · subst hy
    rw [atKey_put_same h.isMap (show WideAt.IsKeyLit (.int .i64 y) from trivial)]
    simp
  · rw [atKey_put_other (by intro e; injection e with _ e; exact hy e), h2 y]
    simp [hy]
end
end Go.Proofs.YtpjnlcppjcnlgaaGreatDoor
