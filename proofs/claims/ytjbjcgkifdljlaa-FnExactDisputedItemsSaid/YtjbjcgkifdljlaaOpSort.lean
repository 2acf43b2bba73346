/- The library's sort and compaction of a slice of numbers, by the shelf's contracts. No condition of its own. -/
import Derived.Test.YtjbjcgkifdljlaaApp
import Derived.Ground.NamesProg
import Derived.Ground.Names2Prog
import Derived.Shelf.Lay
import Derived.Shelf.Sort.Plain
import Derived.Shelf.Slices.CompactI
import Derived.Shelf.Slices.In.SortNone
import Derived.Test.YtjbjcgkifdljlaaOpComp
import Derived.Sort.OwnSortedInts
import Derived.Lib.OwnBridge
namespace Go.Proofs.Ytjbjcgkifdljlaa
set_option linter.unusedVariables false
set_option linter.unusedSimpArgs false
open Go.RowKit Go.Shelf Go.Sort
shelf_lay Lays.n189 Nm 189 at Try as laysSort
shelf_lay Lays2.n20 Nm2 20 at Try as laysCompact
theorem sort_c (b o cap : Nat) (zs : List Int) (w : World) (hH : Holds (Value.int .i64) w b o zs.toArray) (hb : b < w.heap.size) (hn : zs.length ≤ 2097152) :
    Calls Try.prog 75 #[.slice (some ⟨b, o, none⟩) zs.length cap] w fun e w' =>
      e = .returned (.tuple #[]) ∧ ∃ n os, w' = grow (putRow (Value.int .i64) (Sort.ahead w n) b o (zs.mergeSort fun x y => decide (x ≤ y)).toArray) os :=
  Any.slices_Sort_int laysSort b o cap zs w hH hb (by omega)
theorem compact_c (b o cap : Nat) (zs : List Int) (w : World) (hH : Holds (Value.int .i64) w b o zs.toArray) (hn : zs.length ≤ 2097152) (hcap : zs.length ≤ cap) :
    Calls Try.prog 76 #[.slice (some ⟨b, o, none⟩) zs.length cap] w fun e w' =>
      e = .returned (.slice (some ⟨b, o, none⟩) (Go.Lib.compact zs).length cap) ∧ ∃ q, w' = putRow (Value.int .i64) (Sort.ahead w q) b o (Go.Lib.compact zs ++ List.replicate (zs.length - (Go.Lib.compact zs).length) 0).toArray :=
  Any.slices_Compact_int laysCompact b o cap zs w hH (by omega) hcap
theorem sort_none (p : Option Addr) (cap : Nat) (w : World) : Calls Try.prog 75 #[.slice p 0 cap] w fun e w' => e = .returned (.tuple #[]) ∧ w' = w := Any.slices_Sort_int_none laysSort p cap w
theorem compact_none (p : Option Addr) (cap : Nat) (w : World) : Calls Try.prog 76 #[.slice p 0 cap] w fun e w' => e = .returned (.slice p 0 cap) ∧ w' = w := Any.slices_Compact_int_empty laysCompact p cap w
/-- The sort of a slice of the call's own: it holds the sorted numbers, whatever it held before; nothing older turns. -/
theorem sortOwn_c (base : Nat) (v : Value) (zs : List Int) (w : World) (E : TypeId) (ho : Out (Value.int .i64) E base v zs w) (hb : base ≤ w.heap.size) (hn : zs.length ≤ 2097152) :
    Calls Try.prog 75 #[v] w fun e w' => e = .returned (.tuple #[]) ∧ Below base w w' ∧ Out (Value.int .i64) E base v (zs.mergeSort fun x y => decide (x ≤ y)) w' := by
  have hl2 : (zs.mergeSort fun x y => decide (x ≤ y)).length = zs.length := List.length_mergeSort zs
  rcases ho.2 with ⟨rfl, h0⟩ | ⟨g, cap, cur, rfl, hbase, hg, h1, h2, h3, h4⟩
  · have : zs = [] := List.eq_nil_of_length_eq_zero h0
    subst this
    refine (sort_none _ _ _).mono ?_
    rintro e w' ⟨rfl, rfl⟩
    exact ⟨rfl, Below.refl _ _ |>.mono hb, by simpa using ho⟩
  · have hlt : g < w.heap.size := by
      rcases Nat.lt_or_ge g w.heap.size with h | h
      · exact h
      · rw [Array.getElem?_eq_none h] at hg; cases hg
    refine (sort_c g 0 cap zs w (holds_of_blockI hg (by simpa using h4)) hlt hn).mono ?_
    rintro e w' ⟨rfl, n, os, rfl⟩
    refine ⟨rfl, Below.grown (Below.refl _ _ |>.mono hb) (grownBy_sortedI _) hb (fun j hj => by cases hj; exact hbase), ?_⟩
    unfold Out
    rw [hl2]
    exact ownsRow_sortedI hl2 hbase hg h1 h2 h3
/-- The compaction of a slice of the call's own. -/
theorem compactOwn_c (base : Nat) (v : Value) (zs : List Int) (w : World) (E : TypeId) (ho : Out (Value.int .i64) E base v zs w) (hb : base ≤ w.heap.size) (hn : zs.length ≤ 2097152) :
    Calls Try.prog 76 #[v] w fun e w' => ∃ v', e = .returned v' ∧ Below base w w' ∧ Out (Value.int .i64) E base v' (Go.Lib.compact zs) w' := by
  have hle := Go.Lib.compact_length_le zs
  rcases ho.2 with ⟨rfl, h0⟩ | ⟨g, cap, cur, rfl, hbase, hg, h1, h2, h3, h4⟩
  · have : zs = [] := List.eq_nil_of_length_eq_zero h0
    subst this
    refine (compact_none _ _ _).mono ?_
    rintro e w' ⟨rfl, rfl⟩
    exact ⟨_, rfl, Below.refl _ _ |>.mono hb, ho⟩
  · refine (compact_c g 0 cap zs w (holds_of_blockI hg (by simpa using h4)) hn h1).mono ?_
    rintro e w' ⟨rfl, q, rfl⟩
    refine ⟨_, rfl, Go.Lib.below_putRow (Below.refl _ _ |>.mono hb) hbase, ?_⟩
    have hc := Go.Lib.ownsRow_putRow (q := q) (k := (Go.Lib.compact zs).length) (ys := Go.Lib.compact zs ++ List.replicate (zs.length - (Go.Lib.compact zs).length) 0) ho (by simp; omega) hle
    rw [List.take_left] at hc
    exact hc
end Go.Proofs.Ytjbjcgkifdljlaa
