/- Contracts of OddsAfter, in the reference and in the program. No condition but the lists' sizes. -/
import Derived.Test.YtpfkmfejginojaaTrOdds
import Derived.Test.YtpfkmfejginojaaScal
namespace Go.Proofs.Ytpfkmfejginojaa
set_option linter.unusedVariables false
set_option linter.unusedSimpArgs false
open Go.RowKit
/-- The odds after the first k trials. -/
def oddsF (xs : List Trial) (o : Odds) (bs : List Bool) (k : Nat) : Odds :=
  (List.range k).foldl (fun o i => match xs[i]?, bs[i]? with | some t, some b => o.after t b | _, _ => o) o
theorem oddsF_succ (xs : List Trial) (o : Odds) (bs : List Bool) {k : Nat} (h : k < xs.length) (h' : k < bs.length) : oddsF xs o bs (k + 1) = (oddsF xs o bs k).after xs[k] bs[k] := by
  unfold oddsF; rw [List.range_succ, List.foldl_append]; simp [h, h']
theorem oddsF_upto (xs : List Trial) (o : Odds) (bs : List Bool) (h0 : o.upto 0) (hg : ∀ (i : Nat) (h : i < xs.length), xs[i].ok = true) (hl : bs.length = xs.length) (k : Nat) (hk : k ≤ xs.length) : (oddsF xs o bs k).upto k := by
  induction k with
  | zero => exact h0
  | succ k ih =>
    rw [oddsF_succ xs o bs (by omega) (by omega)]
    exact after_upto (ih (by omega)) (hg k (by omega)) _
def oddsOk (xs : List Trial) (o : Odds) (bs : List Bool) : Bool := goodT xs && isOd o.real o.fake && decide (bs.length = xs.length)
def oddsR (xs : List Trial) (o : Odds) (bs : List Bool) : Odds := if oddsOk xs o bs then oddsF xs o bs xs.length else ⟨0, 0⟩
def oddsV (xs : List Trial) (o : Odds) (bs : List Bool) : Value := .tuple #[.agg #[.int .i64 (oddsR xs o bs).real, .int .i64 (oddsR xs o bs).fake], .bool (oddsOk xs o bs)]
theorem oddsV_no {xs : List Trial} {o : Odds} {bs : List Bool} (h : oddsOk xs o bs = false) : oddsV xs o bs = .tuple #[.agg #[.int .i64 0, .int .i64 0], .bool false] := by simp [oddsV, oddsR, h]
theorem oddsV_yes {xs : List Trial} {o : Odds} {bs : List Bool} (h : oddsOk xs o bs = true) : oddsV xs o bs = .tuple #[.agg #[.int .i64 (oddsF xs o bs xs.length).real, .int .i64 (oddsF xs o bs xs.length).fake], .bool true] := by simp [oddsV, oddsR, h]
theorem isOd_upto {a b : Int} (h : isOd a b = true) : Odds.upto ⟨a, b⟩ 0 := by
  obtain ⟨h1, h2, h3, h4⟩ := isOd_bd h
  exact ⟨h1, by simpa using h2, h3, by simpa using h4⟩
theorem oddsV_eq (xs : List Trial) (o : Odds) (bs : List Bool) : oddsV xs o bs = .tuple #[.agg #[.int .i64 (oddsR xs o bs).real, .int .i64 (oddsR xs o bs).fake], .bool (oddsOk xs o bs)] := rfl
/-- Odds in a variable of the call's own. -/
theorem box2_new (w : World) (o : Odds) (t : TypeId) : Own encOdds 2 w.heap.size (w.heap.size + 1) (w.alloc (.cells #[.int .i64 o.real, .int .i64 o.fake] t)) (some ⟨w.heap.size, 0, none⟩) [o] :=
  ⟨by simp, fun _ => ⟨w.heap.size, 0, rfl, Nat.le_refl _, by omega, fun i x hx j v hv => by
    match i, hx with
    | 0, hx =>
      simp at hx; subst hx
      match j, hv with
      | 0, hv => simp [encOdds] at hv; subst hv; simp
      | 1, hv => simp [encOdds] at hv; subst hv; simp,
    fun o' => World.frozen?_alloc_new w _ t o'⟩⟩
theorem box2 {w : World} {o : Odds} {lo hi b : Nat} (h : Own encOdds 2 lo hi w (some ⟨b, 0, none⟩) [o]) : w.cell? ⟨b, 0, none⟩ = some (.int .i64 o.real) ∧ w.cell? ⟨b, 1, none⟩ = some (.int .i64 o.fake) := by
  obtain ⟨b', off, hA, _, _, hc, _⟩ := h.2 (by simp)
  injection hA with hA; injection hA with h1 h2
  subst h1 h2
  exact ⟨by simpa using hc 0 o rfl 0 _ rfl, by simpa using hc 0 o rfl 1 _ rfl⟩
end Go.Proofs.Ytpfkmfejginojaa
