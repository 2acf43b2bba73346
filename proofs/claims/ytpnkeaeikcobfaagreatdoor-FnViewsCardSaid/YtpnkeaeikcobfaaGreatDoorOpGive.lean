/- Contracts of GiveOpinion: the program's and the reference's. No condition but the sizes. -/
import Derived.Test.YtpnkeaeikcobfaaGreatDoorOpLast
import Derived.Test.YtpnkeaeikcobfaaGreatDoorApp2
import Derived.WalkSpells
import Derived.Deep.RegionHeld3
import Derived.Deep.DeepCutAuto
namespace Go.Proofs.YtpnkeaeikcobfaaGreatDoor
set_option linter.unusedVariables false
set_option linter.unusedSimpArgs false
open Go.RowKit
attribute [local irreducible] wpQuiet
theorem oneO (x : Opinion) : ∀ u ∈ encOpinion x, u.oneCell' = true := by
  intro u hu; simp [encOpinion] at hu; rcases hu with rfl | rfl | rfl | rfl | rfl <;> rfl
/-- The program's fold. -/
def lastF (xs : List Opinion) (e : ByteArray) (a v : Int) : Int := if expO xs e v.toNat = true then v else a
theorem lastF_T (xs : List Opinion) (z : Int) (e : ByteArray) (d : Int) : ∀ k, (((List.range k).filter (standP xs z d)).map nat).foldl (lastF xs e) (-1) = lastT xs z e d k
  | 0 => rfl
  | k + 1 => by
    cases h : standP xs z d k with
    | true =>
      rw [range_yes h, List.foldl_append, lastF_T xs z e d k]
      conv => rhs; unfold lastT
      simp [lastF, lastP, h, nat]
    | false =>
      rw [range_no h, lastF_T xs z e d k]
      conv => rhs; unfold lastT
      simp [lastP, h]
def giveB (xs : List Opinion) (z : Int) (e : ByteArray) (d s : Int) : Bool := goodO xs && goodO (xs ++ [⟨z, e, d, s, lastO xs z e d⟩])
def giveL (xs : List Opinion) (z : Int) (e : ByteArray) (d s : Int) : List Opinion := if giveB xs z e d s = true then xs ++ [⟨z, e, d, s, lastO xs z e d⟩] else []
theorem giveL_len (xs : List Opinion) (z : Int) (e : ByteArray) (d s : Int) : (giveL xs z e d s).length ≤ 16 := by
  unfold giveL giveB
  split
  · rename_i h
    simp only [Bool.and_eq_true] at h
    have := goodO_len h.1
    simp; omega
  · simp
theorem goodO_bad {xs : List Opinion} {x : Opinion} (h : x.base = false) : goodO (xs ++ [x]) = false :=
  goodO_no (k := xs.length) (by simp) (by rw [okO_val (by simp)]; simp [h])
theorem rd_oneO {w : World} {b : Nat} {x : Opinion} (e0 : w.cell? ⟨b, 0, none⟩ = some (.int .i64 x.item)) (e1 : w.cell? ⟨b, 1, none⟩ = some (.string x.expert)) (e2 : w.cell? ⟨b, 2, none⟩ = some (.int .i64 x.day)) (e3 : w.cell? ⟨b, 3, none⟩ = some (.int .i64 x.says)) (e4 : w.cell? ⟨b, 4, none⟩ = some (.int .i64 x.over)) : Rd encOpinion 5 w.heap.size w (some ⟨b, 0, none⟩) [x] := fun _ =>
  ⟨b, 0, rfl, cell_lt e0, fun i y hy j v hv => by
    have hi : i = 0 := by have := (List.getElem?_eq_some_iff.1 hy).1; simp at this; omega
    subst hi
    have hy' : y = x := by simpa using hy.symm
    subst hy'
    have hj : j < 5 := by have := (List.getElem?_eq_some_iff.1 hv).1; simpa [encOpinion] using this
    match j, hj with
    | 0, _ => have hv' : v = .int .i64 y.item := by simpa [encOpinion] using hv.symm
              subst hv'; exact e0
    | 1, _ => have hv' : v = .string y.expert := by simpa [encOpinion] using hv.symm
              subst hv'; exact e1
    | 2, _ => have hv' : v = .int .i64 y.day := by simpa [encOpinion] using hv.symm
              subst hv'; exact e2
    | 3, _ => have hv' : v = .int .i64 y.says := by simpa [encOpinion] using hv.symm
              subst hv'; exact e3
    | 4, _ => have hv' : v = .int .i64 y.over := by simpa [encOpinion] using hv.symm
              subst hv'; exact e4⟩
end Go.Proofs.YtpnkeaeikcobfaaGreatDoor
