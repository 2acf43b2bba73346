/- Contracts of DoublesOf, OwnersOf: the program's and the reference's. No condition but the sizes. -/
import Derived.Test.YtbkdapnnpmahkaaHoTop1
import Derived.Test.YtbkdapnnpmahkaaApp
namespace Go.Proofs.Ytbkdapnnpmahkaa
set_option linter.unusedVariables false
set_option linter.unusedSimpArgs false
open Go.RowKit
def dblB (xs : List Hold) (o : ByteArray) : Bool := goodH xs && isW o
def dblP (o : ByteArray) (h : Hold) : Bool := decide (h.owner = o) && decide (1 < h.count)
def dblV (xs : List Hold) (o : ByteArray) : List Int := if dblB xs o = true then (xs.filter (dblP o)).map (·.item) else []
def ownB (xs : List Hold) (z : Int) : Bool := goodH xs && inR z 1 99
def ownP (z : Int) (h : Hold) : Bool := decide (h.item = z)
def ownH (xs : List Hold) (z : Int) : List ByteArray := (xs.filter (ownP z)).map (·.owner)
def ownV (xs : List Hold) (z : Int) : List ByteArray := if ownB xs z = true then (xs.filter (ownP z)).map (·.owner) else []
theorem dblV_len {xs : List Hold} {o : ByteArray} (h : xs.length ≤ 1048576) : (dblV xs o).length ≤ 2097152 := by
  unfold dblV; split
  · rw [List.length_map]; have := List.length_filter_le (dblP o) xs; omega
  · simp
theorem ownV_len {xs : List Hold} {z : Int} (h : xs.length ≤ 1048576) : (ownV xs z).length ≤ 2097152 := by
  unfold ownV; split
  · rw [List.length_map]; have := List.length_filter_le (ownP z) xs; omega
  · simp
end Go.Proofs.Ytbkdapnnpmahkaa
