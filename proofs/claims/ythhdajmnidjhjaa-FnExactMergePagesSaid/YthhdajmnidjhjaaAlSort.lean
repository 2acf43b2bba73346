/- The library's sort of a slice of numbers, by the shelf's contract. No condition of its own. -/
import Derived.Test.YthhdajmnidjhjaaApp2
import Derived.Ground.NamesProg
import Derived.Shelf.Sort.Plain
import Derived.Shelf.Slices.In.SortNone
import Derived.Test.YthhdajmnidjhjaaPutPlain
import Derived.Sort.OwnSortedInts
import Derived.Lib.OwnBridge
namespace Go.Proofs.Ythhdajmnidjhjaa
set_option linter.unusedVariables false
set_option linter.unusedSimpArgs false
open Go.RowKit Go.Shelf Go.Sort
def laysSort_ren : Go.Shelf.Ren := ⟨fun | 189 => 39 | 125 => 74 | 257 => 73 | 128 => 95 | 129 => 96 | 294 => 87 | 295 => 88 | 296 => 89 | 297 => 90 | 298 => 91 | 299 => 92 | 216 => 82 | 300 => 93 | 301 => 94 | 328 => 101 | 329 => 102 | 330 => 103 | 331 => 104 | 332 => 105 | 215 => 99 | 343 => 107 | n => n, fun | 28 => 39 | 3 => 3 | 46 => 82 | 0 => 0 | 51 => 97 | 53 => 62 | 4 => 4 | 183 => 92 | 182 => 91 | 131 => 35 | 5 => 5 | 9 => 9 | 218 => 100 | 222 => 104 | 228 => 106 | 229 => 107 | n => n, fun | n => n⟩
theorem laysSort : Go.Proofs.Lays.n189 Try.prog laysSort_ren := {
  mixed := by kernel_rfl
  f125 := Try.func74.trans (congrArg some (by kernel_rfl))
  f128 := Try.func95.trans (congrArg some (by kernel_rfl))
  f129 := Try.func96.trans (congrArg some (by kernel_rfl))
  f189 := Try.func39.trans (congrArg some (by kernel_rfl))
  f215 := Try.func99.trans (congrArg some (by kernel_rfl))
  f216 := Try.func82.trans (congrArg some (by kernel_rfl))
  f257 := Try.func73.trans (congrArg some (by kernel_rfl))
  f294 := Try.func87.trans (congrArg some (by kernel_rfl))
  f295 := Try.func88.trans (congrArg some (by kernel_rfl))
  f296 := Try.func89.trans (congrArg some (by kernel_rfl))
  f297 := Try.func90.trans (congrArg some (by kernel_rfl))
  f298 := Try.func91.trans (congrArg some (by kernel_rfl))
  f299 := Try.func92.trans (congrArg some (by kernel_rfl))
  f300 := Try.func93.trans (congrArg some (by kernel_rfl))
  f301 := Try.func94.trans (congrArg some (by kernel_rfl))
  f328 := Try.func101.trans (congrArg some (by kernel_rfl))
  f329 := Try.func102.trans (congrArg some (by kernel_rfl))
  f330 := Try.func103.trans (congrArg some (by kernel_rfl))
  f331 := Try.func104.trans (congrArg some (by kernel_rfl))
  f332 := Try.func105.trans (congrArg some (by kernel_rfl))
  f343 := Try.func107.trans (congrArg some (by kernel_rfl))
  t0 := Try.underlying0
  a0 := Try.isAgg0
  z0 := Try.sizeOf0
  v0 := Try.zeroValue0
  t3 := Try.underlying3
  a3 := Try.isAgg3
  z3 := Try.sizeOf3
  v3 := Try.zeroValue3
  t4 := Try.underlying4
  a4 := Try.isAgg4
  z4 := Try.sizeOf4
  v4 := Try.zeroValue4
  t5 := Try.underlying5
  a5 := Try.isAgg5
  z5 := Try.sizeOf5
  v5 := Try.zeroValue5
  t9 := Try.underlying9
  a9 := Try.isAgg9
  z9 := Try.sizeOf9
  v9 := Try.zeroValue9
  t28 := Try.underlying39
  a28 := Try.isAgg39
  z28 := Try.sizeOf39
  v28 := Try.zeroValue39
  t46 := Try.underlying82
  a46 := Try.isAgg82
  z46 := Try.sizeOf82
  v46 := Try.zeroValue82
  t51 := Try.underlying97
  a51 := Try.isAgg97
  z51 := Try.sizeOf97
  v51 := Try.zeroValue97
  t53 := Try.underlying62
  a53 := Try.isAgg62
  z53 := Try.sizeOf62
  v53 := Try.zeroValue62
  t131 := Try.underlying35
  a131 := Try.isAgg35
  z131 := Try.sizeOf35
  v131 := Try.zeroValue35
  t182 := Try.underlying91
  a182 := Try.isAgg91
  z182 := Try.sizeOf91
  v182 := Try.zeroValue91
  t183 := Try.underlying92
  a183 := Try.isAgg92
  z183 := Try.sizeOf92
  v183 := Try.zeroValue92
  t218 := Try.underlying100
  a218 := Try.isAgg100
  z218 := Try.sizeOf100
  v218 := Try.zeroValue100
  t222 := Try.underlying104
  a222 := Try.isAgg104
  z222 := Try.sizeOf104
  v222 := Try.zeroValue104
  t228 := Try.underlying106
  a228 := Try.isAgg106
  z228 := Try.sizeOf106
  v228 := Try.zeroValue106
  t229 := Try.underlying107
  a229 := Try.isAgg107
  z229 := Try.sizeOf107
  v229 := Try.zeroValue107 }
theorem sort_c (b o cap : Nat) (zs : List Int) (w : World) (hH : Holds (Value.int .i64) w b o zs.toArray) (hb : b < w.heap.size) (hn : zs.length ≤ 2097152) :
    Calls Try.prog 39 #[.slice (some ⟨b, o, none⟩) zs.length cap] w fun e w' =>
      e = .returned (.tuple #[]) ∧ ∃ n os, w' = grow (putRow (Value.int .i64) (Sort.ahead w n) b o (zs.mergeSort fun x y => decide (x ≤ y)).toArray) os :=
  Any.slices_Sort_int laysSort b o cap zs w hH hb (by omega)
theorem sort_none (p : Option Addr) (cap : Nat) (w : World) : Calls Try.prog 39 #[.slice p 0 cap] w fun e w' => e = .returned (.tuple #[]) ∧ w' = w := Any.slices_Sort_int_none laysSort p cap w
/-- The sort of a slice of the call's own: it holds the sorted numbers, whatever it held before; nothing older turns. -/
theorem sortOwn_c (base : Nat) (v : Value) (zs : List Int) (w : World) (E : TypeId) (ho : Out (Value.int .i64) E base v zs w) (hb : base ≤ w.heap.size) (hn : zs.length ≤ 2097152) :
    Calls Try.prog 39 #[v] w fun e w' => e = .returned (.tuple #[]) ∧ Below base w w' ∧ Out (Value.int .i64) E base v (zs.mergeSort fun x y => decide (x ≤ y)) w' := by
  have hl2 : (zs.mergeSort fun x y => decide (x ≤ y)).length = zs.length := List.length_mergeSort zs
  rcases ho.2 with ⟨rfl, h0⟩ | ⟨g, cap, cur, rfl, hbase, hg, h1, h2, h3, h4⟩
  · have : zs = [] := List.eq_nil_of_length_eq_zero h0
    subst this
    refine (sort_none _ _ _).mono ?_
    rintro e w' ⟨rfl, rfl⟩
    exact ⟨rfl, Below.refl _ _ |>.mono hb, by simpa using ho⟩
  · have hlt : g < w.heap.size := by
      rcases Nat.lt_or_ge g w.heap.size with h | h
      · exact h
      · rw [Array.getElem?_eq_none h] at hg; cases hg
    refine (sort_c g 0 cap zs w (holds_of_blockI hg (by simpa using h4)) hlt hn).mono ?_
    rintro e w' ⟨rfl, n, os, rfl⟩
    refine ⟨rfl, Below.grown (Below.refl _ _ |>.mono hb) (grownBy_sortedI _) hb (fun j hj => by cases hj; exact hbase), ?_⟩
    unfold Out
    rw [hl2]
    exact ownsRow_sortedI hl2 hbase hg h1 h2 h3
theorem OutR.toOut {E : TypeId} {base : Nat} {v : Value} {ys : List Int} {w : World} (h : OutR encI 1 E base v ys w) : Out (Value.int .i64) E base v ys w := by
  unfold OutR at h
  unfold Out
  have : ys.flatMap encI = ys.map (Value.int .i64) := by
    clear h
    induction ys with
    | nil => rfl
    | cons y ys ih => rw [List.flatMap_cons, List.map_cons, ih]; rfl
  rw [this] at h
  exact h
/-- Numbers all unlike, sorted, are what comes of putting them in one by one. -/
theorem sort_puts {zs qs : List Int} (hn : zs.Nodup) (hm : ∀ x, x ∈ zs ↔ x ∈ qs) : (zs.mergeSort fun x y => decide (x ≤ y)) = puts qs := by
  apply asc_ext _ _ ?_ (puts_asc _)
  · intro x; rw [List.mem_mergeSort, puts_mem, hm]
  · have h1 := List.pairwise_mergeSort (le := fun (x y : Int) => decide (x ≤ y)) (fun a b c h1 h2 => by simp only [decide_eq_true_eq] at *; omega) (fun a b => by simp only [Bool.or_eq_true, decide_eq_true_eq]; omega) zs
    have h2 : (zs.mergeSort fun x y => decide (x ≤ y)).Nodup := (List.mergeSort_perm zs _).nodup_iff.2 hn
    unfold asc
    exact (h1.and h2).imp fun h => by have := h.1; simp only [decide_eq_true_eq] at this; have := h.2; omega
end Go.Proofs.Ythhdajmnidjhjaa
