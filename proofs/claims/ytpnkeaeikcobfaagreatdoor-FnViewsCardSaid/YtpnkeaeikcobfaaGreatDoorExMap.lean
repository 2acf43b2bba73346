/- A map from string to int that a call makes and in which it counts the experts of opinions: what it answers, what a step does, what its keys are. No condition but the texts' sizes. -/
import Derived.Test.YtpnkeaeikcobfaaGreatDoorExPlain
import Derived.Maps.Own
import Derived.Maps.OwnOps
import Derived.Maps.Views
import Derived.Maps.OwnSet
import Derived.Maps.Range
import Derived.Sort.KeysCollected
import Derived.StringKeys
namespace Go.Proofs.YtpnkeaeikcobfaaGreatDoor
set_option linter.unusedVariables false
set_option linter.unusedSimpArgs false
open Go.RowKit Go.Maps
theorem lawStr : Keyed Tryz.prog 9 := string_keyed Tryz.underlying9
theorem zeroI (w : World) : (zeroValue 3).run Tryz.prog w = .ok (.int .i64 0) w := by kernel_rfl
/-- Block B holds a map of at most n entries that answers at each name how many opinions among ys are that expert's; its keys are the experts. -/
def CntB (B n : Nat) (ys : List Opinion) (w : World) : Prop :=
  ∃ D : DataW Unit, w.ownsMap Tryz.prog 9 (plainElem Tryz.prog 3) B n D ∧ (∀ e : ByteArray, e.size ≤ maxLen → D.atKey (.string e.data.toList) (.lit (.int .i64 0)) = .lit (.int .i64 (cntE ys e : Int))) ∧ ∀ l : List UInt8, has D (.string l) = true ↔ ∃ y ∈ ys, y.expert.data.toList = l
theorem data_inj {a b : ByteArray} (h : a.data.toList = b.data.toList) : a = b := by
  cases a; cases b
  simpa using h
theorem cntE_snoc (ys : List Opinion) (x : Opinion) (e : ByteArray) : cntE (ys ++ [x]) e = cntE ys e + if x.expert = e then 1 else 0 := by
  unfold cntE
  rw [List.filter_append, List.length_append]
  by_cases h : x.expert = e <;> simp [h]
theorem cntE_le (ys : List Opinion) (e : ByteArray) : cntE ys e ≤ ys.length := List.length_filter_le _ _
section
variable {w w' : World} {B n n' : Nat} {ys : List Opinion}
theorem CntB.made (w : World) : CntB w.heap.size 0 [] (w.alloc (.map #[] 0)) := ⟨_, World.ownsMap_made w _ _ _, fun e _ => rfl, fun l => by simp [has]⟩
theorem CntB.lt (h : CntB B n ys w) : B < w.heap.size := by obtain ⟨D, h, _⟩ := h; exact h.lt
theorem CntB.kept {row : Option Nat} (h : CntB B n ys w) (hg : w.grownBy w' row) (hne : some B ≠ row) : CntB B n ys w' := by obtain ⟨D, h, h2⟩ := h; exact ⟨D, h.kept hg hne, h2⟩
theorem CntB.go (h : CntB B n ys w) (hb : Below w.heap.size w w') : CntB B n ys w' :=
  h.kept (row := none) ⟨hb.os, hb.tape, hb.output, hb.size, fun k hk _ => hb.block k hk⟩ (by simp)
theorem cnt_wf {m : Nat} (h : m ≤ 9223372036854775807) : (Lit.int .i64 (m : Int)).wf = true := by
  have e1 : IntKind.i64.min = -9223372036854775808 := by decide
  have e2 : IntKind.i64.max = 9223372036854775807 := by decide
  show (decide (IntKind.i64.min ≤ (m : Int)) && decide ((m : Int) ≤ IntKind.i64.max)) = true
  rw [e1, e2]
  simp
  omega
theorem CntB.run (h : CntB B n ys w) {e : ByteArray} (hf : e.size ≤ maxLen) : (Instr.lookup 67 (.map (some B)) (.string e) false).run Tryz.prog w = .ok (.int .i64 (cntE ys e : Int)) w := by
  obtain ⟨D, h, h2, _⟩ := h
  obtain ⟨c, hrun, hc, _⟩ := h.lookup_int lawStr Tryz.underlying67 Tryz.underlying3 (zeroI w) (WideMaps.keyOf_string_mk Tryz.underlying9 hf)
  rw [h2 e hf] at hc
  simp only [DataW.lit.injEq, Lit.int.injEq, true_and] at hc
  rw [hrun, ← hc]
theorem wpList_look {ops : Array Oper} {rest : List Oper} {o : Oper} {a : Act} {Q : Exit → Act → World → Prop} (hg : o.guard = none) (m x : Operand) (hop : o.op = Op.lookup 67 m x false)
    (hm : a.eval m = .map (some B)) (h : CntB B n ys w) (e : ByteArray) (hx : a.eval x = .string e) (hf : e.size ≤ maxLen) (hK : wpList Tryz.prog ops Q rest (a.put o.dst (.int .i64 (cntE ys e : Int))) w) : wpList Tryz.prog ops Q (o :: rest) a w := by
  refine wpList_plain hg fun K' hK' => ?_
  have hrun := h.run hf
  unfold Oper.wp
  simp [execOp, hop, hm, hx, hrun, Result.andThen]
  exact hK' _ _ hK
theorem wpList_count {ops : Array Oper} {rest : List Oper} {o : Oper} {a : Act} {Q : Exit → Act → World → Prop} (hg : o.guard = none) (m x v : Operand) (hop : o.op = Op.mapUpdate 67 m x v)
    (hm : a.eval m = .map (some B)) (h : CntB B n ys w) (hn : n < maxLen) (y : Opinion) (hx : a.eval x = .string y.expert) (hv : a.eval v = .int .i64 ((cntE ys y.expert : Int) + 1)) (hf : y.expert.size ≤ maxLen) (hl : ys.length ≤ 1048576)
    (hK : ∀ w', CntB B (n + 1) (ys ++ [y]) w' → w.grownBy w' (some B) → wpList Tryz.prog ops Q rest (a.put o.dst undef) w') : wpList Tryz.prog ops Q (o :: rest) a w := by
  obtain ⟨D, h, h2, h3⟩ := h
  have hle := cntE_le ys y.expert
  refine wpList_mapUpdate_own w hg m x v 67 hop 9 3 lawStr Tryz.underlying67 _ B n D hm h hn _ _ (.string y.expert.data.toList) hx hv (WideMaps.keyOf_string_mk Tryz.underlying9 hf) (.lit (.int .i64 ((cntE ys y.expert : Int) + 1))) [] (plainElem_int Tryz.underlying3 (by have := cnt_wf (m := cntE ys y.expert + 1) (by omega); simpa using this)) fun w' h4 h5 => hK w' ⟨_, h4, fun e he => ?_, fun l => ?_⟩ h5
  · by_cases hy : e = y.expert
    · subst hy
      rw [atKey_put_same h.isMap (show WideAt.IsKeyLit (.string y.expert.data.toList) from trivial), cntE_snoc, if_pos rfl]
      simp
    · rw [atKey_put_other (by intro e1; injection e1 with e1; exact hy (data_inj e1)), h2 e he, cntE_snoc, if_neg (fun e1 => hy e1.symm), Nat.add_zero]
  · by_cases hy : l = y.expert.data.toList
    · subst hy
      rw [has_put_same h.isMap (show WideAt.IsKeyLit (.string y.expert.data.toList) from trivial)]
      simp only [true_iff]
      exact ⟨y, by simp, rfl⟩
    · rw [has_put_other (by intro e1; injection e1 with e1; exact hy e1), h3 l]
      constructor
      · rintro ⟨z, hz, rfl⟩; exact ⟨z, List.mem_append_left _ hz, rfl⟩
      · rintro ⟨z, hz, rfl⟩
        rcases List.mem_append.1 hz with h6 | h6
        · exact ⟨z, h6, rfl⟩
        · simp at h6; subst h6; exact absurd rfl hy
end
end Go.Proofs.YtpnkeaeikcobfaaGreatDoor
