/- Contracts of the functions by which the laws copy, compare and count lists of lists of numbers. No condition but the size that the laws ask. -/
import Derived.Test.YtgjehnjpbekoeaaDoorRecSS
import Derived.Test.YtgjehnjpbekoeaaDoorMark
import Derived.Test.YtgjehnjpbekoeaaDoorScal
namespace Go.Proofs.YtgjehnjpbekoeaaDoor
set_option linter.unusedVariables false
set_option linter.unusedSimpArgs false
open Go.RowKit
def sumS (ps : List (List Int)) : Nat := (ps.map List.length).sum
theorem sumS_cons (p : List Int) (ps : List (List Int)) : sumS (p :: ps) = p.length + sumS ps := by simp [sumS]
theorem sumS_append (ps qs : List (List Int)) : sumS (ps ++ qs) = sumS ps + sumS qs := by simp [sumS]
theorem sumS_mem {ps : List (List Int)} {p : List Int} (h : p ∈ ps) : p.length ≤ sumS ps := by
  induction ps with
  | nil => cases h
  | cons q ps ih =>
    rw [sumS_cons]
    rcases List.mem_cons.1 h with rfl | h
    · omega
    · have := ih h; omega
theorem sumS_take_succ {ps : List (List Int)} {k : Nat} (h : k < ps.length) : sumS (ps.take (k + 1)) = sumS (ps.take k) + ps[k].length := by
  rw [take_succ_get ps k h, sumS_append]; simp [sumS]
theorem RdSS.rd {B : Nat} {w : World} {A : Option Addr} {ps : List (List Int)} (h : RdSS B w A ps) : RdSS B w A ps := h
theorem infoSS : (Tryd.prog.info? 31).map (fun i => (i.zero, i.size, i.bytes)) = some (some (.slice none 0 0), 1, 24) := by kernel_rfl
end Go.Proofs.YtgjehnjpbekoeaaDoor
