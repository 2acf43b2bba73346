/- The library's sort of a slice of numbers, by the shelf's contract. No condition of its own. -/
import Derived.Test.YtpjnlcppjcnlgaaGreatDoorApp2
import Derived.Ground.NamesProg
import Derived.Shelf.Sort.Plain
import Derived.Shelf.Slices.In.SortNone
import Derived.Test.YtpjnlcppjcnlgaaGreatDoorPutPlain
import Derived.Sort.OwnSortedInts
import Derived.Lib.OwnBridge
namespace Go.Proofs.YtpjnlcppjcnlgaaGreatDoor
set_option linter.unusedVariables false
set_option linter.unusedSimpArgs false
open Go.RowKit Go.Shelf Go.Sort
def laysSort_ren : Go.Shelf.Ren := ⟨fun | 189 => 38 | 125 => 63 | 257 => 62 | 128 => 84 | 129 => 85 | 294 => 75 | 295 => 76 | 296 => 77 | 297 => 78 | 298 => 79 | 299 => 80 | 216 => 81 | 300 => 82 | 301 => 83 | 328 => 93 | 329 => 94 | 330 => 95 | 331 => 96 | 332 => 97 | 215 => 98 | 343 => 105 | n => n, fun | 28 => 36 | 3 => 3 | 46 => 76 | 0 => 0 | 51 => 99 | 53 => 46 | 4 => 4 | 183 => 93 | 182 => 92 | 131 => 30 | 5 => 5 | 9 => 9 | 218 => 108 | 222 => 112 | 228 => 121 | 229 => 122 | n => n, fun | n => n⟩
theorem laysSort : Go.Proofs.Lays.n189 Tryz.prog laysSort_ren := {
  mixed := by kernel_rfl
  f125 := Tryz.func63.trans (congrArg some (by kernel_rfl))
  f128 := Tryz.func84.trans (congrArg some (by kernel_rfl))
  f129 := Tryz.func85.trans (congrArg some (by kernel_rfl))
  f189 := Tryz.func38.trans (congrArg some (by kernel_rfl))
  f215 := Tryz.func98.trans (congrArg some (by kernel_rfl))
  f216 := Tryz.func81.trans (congrArg some (by kernel_rfl))
  f257 := Tryz.func62.trans (congrArg some (by kernel_rfl))
  f294 := Tryz.func75.trans (congrArg some (by kernel_rfl))
  f295 := Tryz.func76.trans (congrArg some (by kernel_rfl))
  f296 := Tryz.func77.trans (congrArg some (by kernel_rfl))
  f297 := Tryz.func78.trans (congrArg some (by kernel_rfl))
  f298 := Tryz.func79.trans (congrArg some (by kernel_rfl))
  f299 := Tryz.func80.trans (congrArg some (by kernel_rfl))
  f300 := Tryz.func82.trans (congrArg some (by kernel_rfl))
  f301 := Tryz.func83.trans (congrArg some (by kernel_rfl))
  f328 := Tryz.func93.trans (congrArg some (by kernel_rfl))
  f329 := Tryz.func94.trans (congrArg some (by kernel_rfl))
  f330 := Tryz.func95.trans (congrArg some (by kernel_rfl))
  f331 := Tryz.func96.trans (congrArg some (by kernel_rfl))
  f332 := Tryz.func97.trans (congrArg some (by kernel_rfl))
  f343 := Tryz.func105.trans (congrArg some (by kernel_rfl))
  t0 := Tryz.underlying0
  a0 := Tryz.isAgg0
  z0 := Tryz.sizeOf0
  v0 := Tryz.zeroValue0
  t3 := Tryz.underlying3
  a3 := Tryz.isAgg3
  z3 := Tryz.sizeOf3
  v3 := Tryz.zeroValue3
  t4 := Tryz.underlying4
  a4 := Tryz.isAgg4
  z4 := Tryz.sizeOf4
  v4 := Tryz.zeroValue4
  t5 := Tryz.underlying5
  a5 := Tryz.isAgg5
  z5 := Tryz.sizeOf5
  v5 := Tryz.zeroValue5
  t9 := Tryz.underlying9
  a9 := Tryz.isAgg9
  z9 := Tryz.sizeOf9
  v9 := Tryz.zeroValue9
  t28 := Tryz.underlying36
  a28 := Tryz.isAgg36
  z28 := Tryz.sizeOf36
  v28 := Tryz.zeroValue36
  t46 := Tryz.underlying76
  a46 := Tryz.isAgg76
  z46 := Tryz.sizeOf76
  v46 := Tryz.zeroValue76
  t51 := Tryz.underlying99
  a51 := Tryz.isAgg99
  z51 := Tryz.sizeOf99
  v51 := Tryz.zeroValue99
  t53 := Tryz.underlying46
  a53 := Tryz.isAgg46
  z53 := Tryz.sizeOf46
  v53 := Tryz.zeroValue46
  t131 := Tryz.underlying30
  a131 := Tryz.isAgg30
  z131 := Tryz.sizeOf30
  v131 := Tryz.zeroValue30
  t182 := Tryz.underlying92
  a182 := Tryz.isAgg92
  z182 := Tryz.sizeOf92
  v182 := Tryz.zeroValue92
  t183 := Tryz.underlying93
  a183 := Tryz.isAgg93
  z183 := Tryz.sizeOf93
  v183 := Tryz.zeroValue93
  t218 := Tryz.underlying108
  a218 := Tryz.isAgg108
  z218 := Tryz.sizeOf108
  v218 := Tryz.zeroValue108
  t222 := Tryz.underlying112
  a222 := Tryz.isAgg112
  z222 := Tryz.sizeOf112
  v222 := Tryz.zeroValue112
  t228 := Tryz.underlying121
  a228 := Tryz.isAgg121
  z228 := Tryz.sizeOf121
  v228 := Tryz.zeroValue121
  t229 := Tryz.underlying122
  a229 := Tryz.isAgg122
  z229 := Tryz.sizeOf122
  v229 := Tryz.zeroValue122 }
theorem sort_c (b o cap : Nat) (zs : List Int) (w : World) (hH : Holds (Value.int .i64) w b o zs.toArray) (hb : b < w.heap.size) (hn : zs.length ≤ 2097152) :
    Calls Tryz.prog 38 #[.slice (some ⟨b, o, none⟩) zs.length cap] w fun e w' =>
      e = .returned (.tuple #[]) ∧ ∃ n os, w' = grow (putRow (Value.int .i64) (Sort.ahead w n) b o (zs.mergeSort fun x y => decide (x ≤ y)).toArray) os :=
  Any.slices_Sort_int laysSort b o cap zs w hH hb (by omega)
theorem sort_none (p : Option Addr) (cap : Nat) (w : World) : Calls Tryz.prog 38 #[.slice p 0 cap] w fun e w' => e = .returned (.tuple #[]) ∧ w' = w := Any.slices_Sort_int_none laysSort p cap w
/-- The sort of a slice of the call's own: it holds the sorted numbers, whatever it held before; nothing older turns. -/
theorem sortOwn_c (base : Nat) (v : Value) (zs : List Int) (w : World) (E : TypeId) (ho : Out (Value.int .i64) E base v zs w) (hb : base ≤ w.heap.size) (hn : zs.length ≤ 2097152) :
    Calls Tryz.prog 38 #[v] w fun e w' => e = .returned (.tuple #[]) ∧ Below base w w' ∧ Out (Value.int .i64) E base v (zs.mergeSort fun x y => decide (x ≤ y)) w' := by
  have hl2 : (zs.mergeSort fun x y => decide (x ≤ y)).length = zs.length := List.length_mergeSort zs
  rcases ho.2 with ⟨rfl, h0⟩ | ⟨g, cap, cur, rfl, hbase, hg, h1, h2, h3, h4⟩
  · have : zs = [] := List.eq_nil_of_length_eq_zero h0
    subst this
    refine (sort_none _ _ _).mono ?_
    rintro e w' ⟨rfl, rfl⟩
    exact ⟨rfl, Below.refl _ _ |>.mono hb, by simpa using ho⟩
  · have hlt : g < w.heap.size := by
      rcases Nat.lt_or_ge g w.heap.size with h | h
      · exact h
      · rw [Array.getElem?_eq_none h] at hg; cases hg
    refine (sort_c g 0 cap zs w (holds_of_blockI hg (by simpa using h4)) hlt hn).mono ?_
    rintro e w' ⟨rfl, n, os, rfl⟩
    refine ⟨rfl, Below.grown (Below.refl _ _ |>.mono hb) (grownBy_sortedI _) hb (fun j hj => by cases hj; exact hbase), ?_⟩
    unfold Out
    rw [hl2]
    exact ownsRow_sortedI hl2 hbase hg h1 h2 h3
theorem OutR.toOut {E : TypeId} {base : Nat} {v : Value} {ys : List Int} {w : World} (h : OutR encI 1 E base v ys w) : Out (Value.int .i64) E base v ys w := by
  unfold OutR at h
  unfold Out
  have : ys.flatMap encI = ys.map (Value.int .i64) := by
    clear h
    induction ys with
    | nil => rfl
    | cons y ys ih => rw [List.flatMap_cons, List.map_cons, ih]; rfl
  rw [this] at h
  exact h
/-- Numbers all unlike, sorted, are what comes of putting them in one by one. -/
theorem sort_puts {zs qs : List Int} (hn : zs.Nodup) (hm : ∀ x, x ∈ zs ↔ x ∈ qs) : (zs.mergeSort fun x y => decide (x ≤ y)) = puts qs := by
  apply asc_ext _ _ ?_ (puts_asc _)
  · intro x; rw [List.mem_mergeSort, puts_mem, hm]
  · have h1 := List.pairwise_mergeSort (le := fun (x y : Int) => decide (x ≤ y)) (fun a b c h1 h2 => by simp only [decide_eq_true_eq] at *; omega) (fun a b => by simp only [Bool.or_eq_true, decide_eq_true_eq]; omega) zs
    have h2 : (zs.mergeSort fun x y => decide (x ≤ y)).Nodup := (List.mergeSort_perm zs _).nodup_iff.2 hn
    unfold asc
    exact (h1.and h2).imp fun h => by have := h.1; simp only [decide_eq_true_eq] at this; have := h.2; omega
end Go.Proofs.YtpjnlcppjcnlgaaGreatDoor
