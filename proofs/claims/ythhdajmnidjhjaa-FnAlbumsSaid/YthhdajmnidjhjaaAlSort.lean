/- The library's sort of a slice of numbers, by the shelf's contract. No condition of its own. -/
import Derived.Test.YthhdajmnidjhjaaApp2
import Derived.Ground.NamesProg
import Derived.Shelf.Sort.Plain
import Derived.Shelf.Slices.In.SortNone
import Derived.Test.YthhdajmnidjhjaaPutPlain
import Derived.Sort.OwnSortedInts
import Derived.Lib.OwnBridge
import Derived.Test.YthhdajmnidjhjaaAlPg
import Derived.Test.YthhdajmnidjhjaaAlPart
import Derived.Test.YthhdajmnidjhjaaAlPit
import Derived.Test.YthhdajmnidjhjaaAlIs
namespace Go.Proofs.Ythhdajmnidjhjaa
set_option linter.unusedVariables false
set_option linter.unusedSimpArgs false
open Go.RowKit Go.Shelf Go.Sort
def laysSort_ren : Go.Shelf.Ren := ⟨fun | 189 => 39 | 125 => 74 | 257 => 73 | 128 => 95 | 129 => 96 | 294 => 87 | 295 => 88 | 296 => 89 | 297 => 90 | 298 => 91 | 299 => 92 | 216 => 82 | 300 => 93 | 301 => 94 | 328 => 101 | 329 => 102 | 330 => 103 | 331 => 104 | 332 => 105 | 215 => 99 | 343 => 107 | n => n, fun | 28 => 39 | 3 => 3 | 46 => 82 | 0 => 0 | 51 => 97 | 53 => 62 | 4 => 4 | 183 => 92 | 182 => 91 | 131 => 35 | 5 => 5 | 9 => 9 | 218 => 100 | 222 => 104 | 228 => 106 | 229 => 107 | n => n, fun | n => n⟩
theorem laysSort : Go.Proofs.Lays.n189 Try.prog laysSort_ren := {
  mixed := by kernel_rfl
  f125 := Try.func74.trans (congrArg some (by kernel_rfl))
  f128 := Try.func95.trans (congrArg some (by kernel_rfl))
  f129 := Try.func96.trans (congrArg some (by kernel_rfl))
  f189 := Try.func39.trans (congrArg some (by kernel_rfl))
  f215 := Try.func99.trans (congrArg some (by kernel_rfl))
  f216 := Try.func82.trans (congrArg some (by kernel_rfl))
  f257 := Try.func73.trans (congrArg some (by kernel_rfl))
  f294 := Try.func87.trans (congrArg some (by kernel_rfl))
  f295 := Try.func88.trans (congrArg some (by kernel_rfl))
  f296 := Try.func89.trans (congrArg some (by kernel_rfl))
  f297 := Try.func90.trans (congrArg some (by kernel_rfl))
  f298 := Try.func91.trans (congrArg some (by kernel_rfl))
  f299 := Try.func92.trans (congrArg some (by kernel_rfl))
  f300 := Try.func93.trans (congrArg some (by kernel_rfl))
  f301 := Try.func94.trans (congrArg some (by kernel_rfl))
  f328 := Try.func101.trans (congrArg some (by kernel_rfl))
  f329 := Try.func102.trans (congrArg some (by kernel_rfl))
  f330 := Try.func103.trans (congrArg some (by kernel_rfl))
  f331 := Try.func104.trans (congrArg some (by kernel_rfl))
  f332 := Try.func105.trans (congrArg some (by kernel_rfl))
  f343 := Try.func107.trans (congrArg some (by kernel_rfl))
  t0 := Try.underlying0
  a0 := Try.isAgg0
  z0 := Try.sizeOf0
  v0 := Try.zeroValue0
  t3 := Try.underlying3
  a3 := Try.isAgg3
  z3 := Try.sizeOf3
  v3 := Try.zeroValue3
  t4 := Try.underlying4
  a4 := Try.isAgg4
  z4 := Try.sizeOf4
  v4 := Try.zeroValue4
  t5 := Try.underlying5
  a5 := Try.isAgg5
  z5 := Try.sizeOf5
  v5 := Try.zeroValue5
  t9 := Try.underlying9
  a9 := Try.isAgg9
  z9 := Try.sizeOf9
  v9 := Try.zeroValue9
  t28 := Try.underlying39
  a28 := Try.isAgg39
  z28 := Try.sizeOf39
  v28 := Try.zeroValue39
  t46 := Try.underlying82
  a46 := Try.isAgg82
  z46 := Try.sizeOf82
  v46 := Try.zeroValue82
  t51 := Try.underlying97
  a51 := Try.isAgg97
  z51 := Try.sizeOf97
  v51 := Try.zeroValue97
  t53 := Try.underlying62
  a53 := Try.isAgg62
  z53 := Try.sizeOf62
  v53 := Try.zeroValue62
  t131 := Try.underlying35
  a131 := Try.isAgg35
  z131 := Try.sizeOf35
  v131 := Try.zeroValue35
  t182 := Try.underlying91
  a182 := Try.isAgg91
  z182 := Try.sizeOf91
  v182 := Try.zeroValue91
  t183 := Try.underlying92
  a183 := Try.isAgg92
  z183 := Try.sizeOf92
  v183 := Try.zeroValue92
  t218 := Try.underlying100
  a218 := Try.isAgg100
  z218 := Try.sizeOf100
  v218 := Try.zeroValue100
  t222 := Try.underlying104
  a222 := Try.isAgg104
  z222 := Try.sizeOf104
  v222 := Try.zeroValue104
  t228 := Try.underlying106
  a228 := Try.isAgg106
  z228 := Try.sizeOf106
  v228 := Try.zeroValue106
  t229 := Try.underlying107
  a229 := Try.isAgg107
  z229 := Try.sizeOf107
  v229 := Try.zeroValue107 }
theorem sort_c (b o cap : Nat) (zs : List Int) (w : World) (hH : Holds (Value.int .i64) w b o zs.toArray) (hb : b < w.heap.size) (hn : zs.length ≤ 2097152) :
    Calls Try.prog 39 #[.slice (some ⟨b, o, none⟩) zs.length cap] w fun e w' =>
      e = .returned (.tuple #[]) ∧ ∃ n os, w' = grow (putRow (Value.int .i64) (Sort.ahead w n) b o (zs.mergeSort fun x y => decide (x ≤ y)).toArray) os :=
  Any.slices_Sort_int laysSort b o cap zs w hH hb (by omega)
theorem sort_none (p : Option Addr) (cap : Nat) (w : World) : Calls Try.prog 39 #[.slice p 0 cap] w fun e w' => e = .returned (.tuple #[]) ∧ w' = w := Any.slices_Sort_int_none laysSort p cap w
/-- The sort of a slice of the call's own: it holds the sorted numbers, whatever it held before; nothing older turns. -/
theorem sortOwn_c (base : Nat) (v : Value) (zs : List Int) (w : World) (E : TypeId) (ho : Out (Value.int .i64) E base v zs w) (hb : base ≤ w.heap.size) (hn : zs.length ≤ 2097152) :
    Calls Try.prog 39 #[v] w fun e w' => e = .returned (.tuple #[]) ∧ Below base w w' ∧ Out (Value.int .i64) E base v (zs.mergeSort fun x y => decide (x ≤ y)) w' := by
  have hl2 : (zs.mergeSort fun x y => decide (x ≤ y)).length = zs.length := List.length_mergeSort zs
  rcases ho.2 with ⟨rfl, h0⟩ | ⟨g, cap, cur, rfl, hbase, hg, h1, h2, h3, h4⟩
  · have : zs = [] := List.eq_nil_of_length_eq_zero h0
    subst this
    refine (sort_none _ _ _).mono ?_
    rintro e w' ⟨rfl, rfl⟩
    exact ⟨rfl, Below.refl _ _ |>.mono hb, by simpa using ho⟩
  · have hlt : g < w.heap.size := by
      rcases Nat.lt_or_ge g w.heap.size with h | h
      · exact h
      · rw [Array.getElem?_eq_none h] at hg; cases hg
    refine (sort_c g 0 cap zs w (holds_of_blockI hg (by simpa using h4)) hlt hn).mono ?_
    rintro e w' ⟨rfl, n, os, rfl⟩
    refine ⟨rfl, Below.grown (Below.refl _ _ |>.mono hb) (grownBy_sortedI _) hb (fun j hj => by cases hj; exact hbase), ?_⟩
    unfold Out
    rw [hl2]
    exact ownsRow_sortedI hl2 hbase hg h1 h2 h3
theorem OutR.toOut {E : TypeId} {base : Nat} {v : Value} {ys : List Int} {w : World} (h : OutR encI 1 E base v ys w) : Out (Value.int .i64) E base v ys w := by
  unfold OutR at h
  unfold Out
  have : ys.flatMap encI = ys.map (Value.int .i64) := by
    clear h
    induction ys with
    | nil => rfl
    | cons y ys ih => rw [List.flatMap_cons, List.map_cons, ih]; rfl
  rw [this] at h
  exact h
/-- Numbers all unlike, sorted, are what comes of putting them in one by one. -/
theorem sort_puts {zs qs : List Int} (hn : zs.Nodup) (hm : ∀ x, x ∈ zs ↔ x ∈ qs) : (zs.mergeSort fun x y => decide (x ≤ y)) = puts qs := by
  apply asc_ext _ _ ?_ (puts_asc _)
  · intro x; rw [List.mem_mergeSort, puts_mem, hm]
  · have h1 := List.pairwise_mergeSort (le := fun (x y : Int) => decide (x ≤ y)) (fun a b c h1 h2 => by simp only [decide_eq_true_eq] at *; omega) (fun a b => by simp only [Bool.or_eq_true, decide_eq_true_eq]; omega) zs
    have h2 : (zs.mergeSort fun x y => decide (x ≤ y)).Nodup := (List.mergeSort_perm zs _).nodup_iff.2 hn
    unfold asc
    exact (h1.and h2).imp fun h => by have := h.1; simp only [decide_eq_true_eq] at this; have := h.2; omega
end Go.Proofs.Ythhdajmnidjhjaa
namespace Go.Proofs.Ythhdajmnidjhjaa
set_option linter.unusedVariables false
set_option linter.unusedSimpArgs false
open Go.RowKit
/-- The items of the pages, among the first k, whose numbers are in P. -/
def iuL (xs : List Page) (P : List Int) (k : Nat) : List Int := ((xs.take k).filter fun p => decide (p.id ∈ P)).flatMap (·.items)
def iuV (xs : List Page) (z : Int) : List Int := if lvB xs z = true then puts (iuL xs (partA xs z) xs.length) else []
section
variable {xs : List Page} {P : List Int} {k : Nat}
theorem iuL_0 : iuL xs P 0 = [] := by simp [iuL]
theorem iuL_yes (hk : k < xs.length) (h : xs[k].id ∈ P) : iuL xs P (k + 1) = iuL xs P k ++ xs[k].items := by
  unfold iuL; rw [take_succ_get xs k hk, List.filter_append]; simp [h]
theorem iuL_no (hk : k < xs.length) (h : ¬ xs[k].id ∈ P) : iuL xs P (k + 1) = iuL xs P k := by
  unfold iuL; rw [take_succ_get xs k hk, List.filter_append]; simp [h]
theorem iuL_len : ∀ {k : Nat}, k ≤ xs.length → (iuL xs P k).length ≤ sumI (xs.take k)
  | 0, _ => by simp [iuL_0]
  | k + 1, hk => by
    have ih := iuL_len (k := k) (by omega)
    rw [sumI_take_succ (by omega)]
    by_cases h : (xs[k]'(by omega)).id ∈ P
    · rw [iuL_yes (by omega) h, List.length_append]; omega
    · rw [iuL_no (by omega) h]; omega
theorem iuV_no {z : Int} (h : lvB xs z = false) : iuV xs z = [] := by simp [iuV, h]
theorem iuV_yes {z : Int} (h : lvB xs z = true) : iuV xs z = puts (iuL xs (partA xs z) xs.length) := by simp [iuV, h]
theorem good_len8 (hg : goodA xs = true) : ∀ p ∈ xs, p.items.length ≤ 8 := fun p hp => by
  obtain ⟨j, hj, rfl⟩ := List.getElem_of_mem hp
  exact (good_base hg hj).2.2.2.1
theorem flat_8 : ∀ (ps : List Page), (∀ p ∈ ps, p.items.length ≤ 8) → (ps.flatMap (·.items)).length ≤ 8 * ps.length
  | [], _ => by simp
  | p :: ps, h => by
    have ih := flat_8 ps (fun q hq => h q (List.mem_cons_of_mem _ hq))
    have := h p (List.mem_cons_self ..)
    rw [List.flatMap_cons, List.length_append, List.length_cons]; omega
theorem iuV_len (z : Int) : (iuV xs z).length ≤ 2097152 := by
  unfold iuV
  split
  · rename_i h
    have hg : goodA xs = true := by unfold lvB at h; exact (Bool.and_eq_true _ _ ▸ h).1
    have h1 := goodA_len hg
    have h2 := puts_len (iuL xs (partA xs z) xs.length)
    have h3 : (iuL xs (partA xs z) xs.length).length ≤ 8 * ((xs.take xs.length).filter fun p => decide (p.id ∈ partA xs z)).length :=
      flat_8 _ fun p hp => good_len8 hg p (List.mem_of_mem_take (List.mem_filter.1 hp).1)
    have h4 := List.length_filter_le (fun p : Page => decide (p.id ∈ partA xs z)) (xs.take xs.length)
    rw [List.take_length] at h3 h4
    omega
  · simp
theorem partP_sub {id : Int} : ∀ {k : Nat}, k ≤ xs.length → (partP xs id k).Sublist (xs.take k)
  | 0, _ => by simp [partP]
  | k + 1, hk => by
    have ih := partP_sub (id := id) (k := k) (by omega)
    rw [take_succ_get xs k (by omega)]
    by_cases hc : (xs[k]'(by omega)).id = id ∨ (xs[k]'(by omega)).under ∈ partK xs id k
    · rw [partP_yes (by omega) hc]; exact ih.append (List.Sublist.refl _)
    · rw [partP_no (by omega) hc]; exact ih.trans (List.sublist_append_left _ _)
theorem good_nodup (hg : goodA xs = true) : ∀ {k : Nat}, k ≤ xs.length → ((xs.take k).flatMap (·.items)).Nodup
  | 0, _ => by simp
  | k + 1, hk => by
    have ih := good_nodup hg (k := k) (by omega)
    have hgb := good_base hg (show k < xs.length by omega)
    have hok := goodA_at hg (show k < xs.length by omega)
    rw [okA_val (by omega)] at hok
    simp only [Bool.and_eq_true] at hok
    have hfree := hok.2
    unfold freeA at hfree
    rw [take_succ_get xs k (by omega), List.flatMap_append]
    refine List.nodup_append.2 ⟨ih, ?_, ?_⟩
    · simp only [List.flatMap_cons, List.flatMap_nil, List.append_nil]
      refine List.pairwise_iff_getElem.2 fun i j hi hj hij e => ?_
      have := ascL_lt hgb.2.2.2.2.1 j i hj hij
      omega
    · intro a ha b hb e
      subst e
      simp only [List.flatMap_cons, List.flatMap_nil, List.append_nil] at hb
      have h1 := List.all_eq_true.1 hfree a hb
      obtain ⟨p, hp, hpa⟩ := List.mem_flatMap.1 ha
      have h2 : (xs.take k).any (hasP a) = true := List.any_eq_true.2 ⟨p, hp, by simpa [hasP] using hpa⟩
      rw [h2] at h1
      cases h1
theorem sub_flat {ps qs : List Page} (h : ps.Sublist qs) : (ps.flatMap (·.items)).Sublist (qs.flatMap (·.items)) := by
  induction h with
  | slnil => exact List.Sublist.refl _
  | cons a _ ih => rw [List.flatMap_cons]; exact ih.trans (List.sublist_append_right _ _)
  | cons_cons a _ ih => rw [List.flatMap_cons, List.flatMap_cons]; exact (List.Sublist.refl _).append ih
/-- The pages of the part, sorted, are the reference's list. -/
theorem iu_law (hg : goodA xs = true) {id : Int} : (((partP xs id xs.length).flatMap (·.items)).mergeSort fun x y => decide (x ≤ y)) = puts (iuL xs (partA xs id) xs.length) := by
  refine sort_puts ?_ fun x => ?_
  · have h := good_nodup hg (Nat.le_refl xs.length)
    exact h.sublist (sub_flat (partP_sub (Nat.le_refl _)))
  · have hm := partP_map (id := id) (Nat.le_refl xs.length)
    unfold iuL partA
    rw [List.take_length]
    simp only [List.mem_flatMap, List.mem_filter, decide_eq_true_eq]
    constructor
    · rintro ⟨p, hp, hx⟩
      exact ⟨p, ⟨partP_mem p hp, by rw [← hm]; exact List.mem_map.2 ⟨p, hp, rfl⟩⟩, hx⟩
    · rintro ⟨p, ⟨hp, hi⟩, hx⟩
      rw [← hm] at hi
      obtain ⟨q, hq, e⟩ := List.mem_map.1 hi
      obtain ⟨i, hi', rfl⟩ := List.getElem_of_mem hp
      obtain ⟨i2, hi2, e2⟩ := List.getElem_of_mem (partP_mem q hq)
      subst e2
      have := good_inj hg hi2 hi' e
      subst this
      exact ⟨_, hq, hx⟩
end
end Go.Proofs.Ythhdajmnidjhjaa
namespace Go.Proofs.Ythhdajmnidjhjaa
set_option linter.unusedVariables false
set_option linter.unusedSimpArgs false
open Go.RowKit
attribute [local irreducible] wpQuiet
def paV (xs : List Page) (z : Int) : List Int := if lvB xs z = true then partA xs z else []
theorem paV_no {xs : List Page} {z : Int} (h : lvB xs z = false) : paV xs z = [] := by simp [paV, h]
theorem paV_yes {xs : List Page} {z : Int} (h : lvB xs z = true) : paV xs z = partA xs z := by simp [paV, h]
theorem paV_le (xs : List Page) (z : Int) : (paV xs z).length ≤ xs.length := by
  unfold paV
  split
  · exact partK_len xs z xs.length
  · simp
theorem specPartOf_c (xs : List Page) (A : Option Addr) (c : Nat) (z : Int) (w : World) (hr : RdP w.heap.size w A xs) (hcap : xs.length ≤ c) (hn : xs.length ≤ 1048576) (hs : sumI xs ≤ 1048576) (hw : ∀ x ∈ xs, x.title.size ≤ 9223372036854775807 ∧ x.items.length ≤ 9223372036854775807 ∧ ∀ z ∈ x.items, Fits z) (hz : -9223372036854775808 ≤ z ∧ z ≤ 9223372036854775807) :
    Calls Try.prog 25 #[.slice A xs.length c, .int .i64 z] w (RetL encI 1 (paV xs z) (lvB xs z) w) := by
  have HW := Lib.hid hw
  clear hw
  by_cases hF : goodA xs = false
  · go_enter Try.func25, Try.ntmps25
    have hbg := Below.refl w.heap.size w
    go_wp2_with fail
    refine (l18Good_c xs _ _ _ (hr.go hbg) hcap hn hs HW.out).mono ?_
    rintro e wg0 ⟨rfl, hb0⟩
    have hbg := below_via hbg hb0
    go_wp2_with fail
    go_returns
    have HB : lvB xs z = false := by simp [lvB, hF]
    exact ⟨_, _, ret_list (by rw [paV_no HB]; rfl) HB.symm, below_via hbg (by go_grown), Own.none_ (paV_no HB) (Nat.le_refl _)⟩
  have G0 : goodA xs = true := by simpa using hF
  clear hF
  go_enter Try.func25, Try.ntmps25
  have hbg := Below.refl w.heap.size w
  go_wp2_with fail
  refine (l18Good_c xs _ _ _ (hr.go hbg) hcap hn hs HW.out).mono ?_
  rintro e wg0 ⟨rfl, hb0⟩
  have hbg := below_via hbg hb0
  have HG := Lib.hid G0
  go_wp2_with fail
  clear G0
  refine (l18Find_c xs _ _ _ _ (hr.go hbg) hn).mono ?_
  rintro _ w1 ⟨rfl, hb1⟩
  have hbg := below_via hbg hb1
  rcases lv_of xs z HG.out with ⟨j, hj, hi, he, hB, hv⟩ | ⟨hi, hB, hv⟩
  · subst he
    rw [hi]
    have HB := Lib.hid hB
    have HP := Lib.hid (paV_yes hB)
    clear hi hv hB
    have hj2 : ¬ (j : Int) < 0 := by omega
    go_wp2_with fail
    refine (l18Part_c xs _ _ j _ (hr.go hbg) HG.out hj).mono ?_
    rintro _ w2 ⟨B2, c2, rfl, hb2, ho2⟩
    have ho2 := ho2.wide hbg.size (Nat.le_refl _) (Nat.le_refl _)
    go_wp2_with fail
    go_returns
    exact ⟨_, _, ret_list (by rw [HP.out]) HB.out.symm, below_via hbg hb2, by rw [HP.out]; exact ho2⟩
  · rw [hi]
    have HB := Lib.hid hB
    have HP := Lib.hid (paV_no hB)
    clear hi hv hB
    go_wp2_with fail
    go_returns
    exact ⟨_, _, ret_list (by rw [HP.out]; rfl) HB.out.symm, below_via hbg (by go_grown), Own.none_ HP.out (Nat.le_refl _)⟩
end Go.Proofs.Ythhdajmnidjhjaa
namespace Go.Proofs.Ythhdajmnidjhjaa
set_option linter.unusedVariables false
set_option linter.unusedSimpArgs false
open Go.RowKit
section
variable {xs : List Page} {id z : Int}
theorem pt_of (h : ptB xs id z = true) : goodA xs = true ∧ goodA (ptL xs id z) = true ∧ ∃ (j : Nat) (hj : j < xs.length), xs[j].id = id ∧ ptL xs id z = xs.set j (ptF z xs[j]) ∧ ∀ k (hk : k < xs.length), ¬ z ∈ xs[k].items := by
  have h' := h
  simp only [ptB, Bool.and_eq_true, Bool.not_eq_true'] at h'
  obtain ⟨⟨h1, h2⟩, h3⟩ := h'
  have h1' := h1
  simp only [lvB, Bool.and_eq_true] at h1'
  refine ⟨h1'.1, h3, ?_⟩
  rcases lv_of xs id h1'.1 with ⟨j, hj, hi, hid, _, _⟩ | ⟨_, hb, _⟩
  · refine ⟨j, hj, hid.symm, ?_, fun k hk => no_has hk h2⟩
    unfold ptL
    rw [hi, atL_at hj]
  · rw [h1] at hb; cases hb
theorem pt_get {j : Nat} (hj : j < xs.length) {k : Nat} (hk : k < (xs.set j (ptF z xs[j])).length) : ((xs.set j (ptF z xs[j]))[k]).id = (xs[k]'(by rw [List.length_set] at hk; exact hk)).id ∧ (¬ z ∈ (xs[k]'(by rw [List.length_set] at hk; exact hk)).items → (z ∈ ((xs.set j (ptF z xs[j]))[k]).items ↔ k = j)) := by
  rw [List.length_set] at hk
  by_cases e : j = k
  · subst e
    rw [List.getElem_set_self]
    exact ⟨rfl, fun _ => ⟨fun _ => rfl, fun _ => (putI_mem _ _ _).2 (.inr rfl)⟩⟩
  · rw [List.getElem_set_ne e]
    exact ⟨rfl, fun hn => ⟨fun h => absurd h hn, fun h => absurd h.symm e⟩⟩
theorem del_put {l : List Int} (h : ¬ z ∈ l) : delI (putI l z) z = l := by
  have hf : ∀ (m : List Int), (∀ y ∈ m, y ∈ l) → m.filter (fun y => decide (y ≠ z)) = m := fun m hm => List.filter_eq_self.2 fun y hy => by
    have : y ≠ z := fun e => h (e ▸ hm y hy)
    simpa using this
  rw [putI_new h]
  unfold delI
  rw [List.filter_append, List.filter_append, hf _ fun y hy => List.mem_of_mem_take hy, hf _ fun y hy => List.mem_of_mem_drop hy]
  simp
theorem put_law (h : ptB xs id z = true) : pwB (ptL xs id z) z = true ∧ pwV (ptL xs id z) z = id ∧ tkB (ptL xs id z) z = true ∧ tkN (ptL xs id z) z = id ∧ tkV (ptL xs id z) z = xs := by
  obtain ⟨hg, hG, j, hj, hid, hL, hno⟩ := pt_of h
  rw [hL] at hG ⊢
  have hjL : j < (xs.set j (ptF z xs[j])).length := by rw [List.length_set]; exact hj
  have hmem : z ∈ ((xs.set j (ptF z xs[j]))[j]).items := ((pt_get hj hjL).2 (hno j hj)).2 rfl
  have hidx : ∀ k, k < xs.length → idxI (hasP z) (xs.set j (ptF z xs[j])) = (k : Int) → z ∈ ((xs.set j (ptF z xs[j]))[k]?.getD ⟨0, ⟨#[]⟩, 0, []⟩).items → k = j := fun k hk _ hm => by
    have hkL : k < (xs.set j (ptF z xs[j])).length := by rw [List.length_set]; exact hk
    rw [List.getElem?_eq_getElem hkL] at hm
    exact ((pt_get hj hkL).2 (hno k hk)).1 hm
  have hpw : pwB (xs.set j (ptF z xs[j])) z = true := by
    unfold pwB
    rw [hG, Bool.true_and, inR_iff]
    exact (good_base hG hjL).2.2.2.2.2 z hmem
  refine ⟨hpw, ?_, ?_⟩
  · rcases idxI_cases (hasP z) (xs.set j (ptF z xs[j])) with ⟨k, hk, hi, hp, _⟩ | ⟨_, hall⟩
    · have hk' : k < xs.length := by rw [List.length_set] at hk; exact hk
      have hkj : k = j := ((pt_get hj hk).2 (hno k hk')).1 (by simpa [hasP] using hp)
      subst hkj
      rcases pw_of _ z hpw with ⟨i, hi', e1, e2⟩ | ⟨e1, _⟩
      · have : i = k := by omega
        subst this
        rw [e2, (pt_get hk' hi').1]; exact hid
      · omega
    · have h1 : hasP z ((xs.set j (ptF z xs[j]))[j]) = true := by unfold hasP; exact decide_eq_true hmem
      rw [hall _ (List.getElem_mem hjL)] at h1; cases h1
  · rcases tk_of _ z hG with ⟨k, hk, _, hm, hB, hT, hN⟩ | ⟨hi, _⟩
    · have hk' : k < xs.length := by rw [List.length_set] at hk; exact hk
      have hkj : k = j := ((pt_get hj hk).2 (hno k hk')).1 hm
      subst hkj
      refine ⟨hB, by rw [hN, (pt_get hk' hk).1]; exact hid, ?_⟩
      rw [tkV_yes hB, hT, List.getElem_set_self, List.set_set]
      have : tkF z (ptF z xs[k]) = xs[k] := by
        unfold tkF ptF
        simp only
        rw [del_put (hno k hk')]
      rw [this, List.set_getElem_self]
    · rcases idxI_cases (hasP z) (xs.set j (ptF z xs[j])) with ⟨k, hk, e, _⟩ | ⟨_, hall⟩
      · omega
      · have h1 : hasP z ((xs.set j (ptF z xs[j]))[j]) = true := by unfold hasP; exact decide_eq_true hmem
        rw [hall _ (List.getElem_mem hjL)] at h1; cases h1
theorem put_part (h : ptB xs id z = true) {i : Nat} (hi : i < xs.length) : lvB (ptL xs id z) xs[i].id = true ∧ decide (id ∈ paV (ptL xs id z) xs[i].id) = decide (z ∈ iuV (ptL xs id z) xs[i].id) := by
  obtain ⟨hg, hG, j, hj, hid, hL, hno⟩ := pt_of h
  rw [hL] at hG ⊢
  have hiL : i < (xs.set j (ptF z xs[j])).length := by rw [List.length_set]; exact hi
  have hjL : j < (xs.set j (ptF z xs[j])).length := by rw [List.length_set]; exact hj
  have hlv : lvB (xs.set j (ptF z xs[j])) xs[i].id = true := by
    unfold lvB
    rw [hG, Bool.true_and]
    exact List.any_eq_true.2 ⟨_, List.getElem_mem hiL, by simp [idP, (pt_get hj hiL).1]⟩
  refine ⟨hlv, ?_⟩
  rw [paV_yes hlv, iuV_yes hlv, decide_eq_decide, puts_mem]
  unfold iuL
  rw [List.take_length]
  simp only [List.mem_flatMap, List.mem_filter, decide_eq_true_eq]
  constructor
  · intro hm
    exact ⟨_, ⟨List.getElem_mem hjL, by rw [(pt_get hj hjL).1, hid]; exact hm⟩, ((pt_get hj hjL).2 (hno j hj)).2 rfl⟩
  · rintro ⟨p, ⟨hp, hm⟩, hz⟩
    obtain ⟨k, hk, rfl⟩ := List.getElem_of_mem hp
    have hk' : k < xs.length := by rw [List.length_set] at hk; exact hk
    have hkj : k = j := ((pt_get hj hk).2 (hno k hk')).1 hz
    subst hkj
    rw [(pt_get hk' hk).1, hid] at hm
    exact hm
end
end Go.Proofs.Ythhdajmnidjhjaa
namespace Go.Proofs.Ythhdajmnidjhjaa
set_option linter.unusedVariables false
set_option linter.unusedSimpArgs false
open Go.RowKit
attribute [local irreducible] wpQuiet
set_option maxRecDepth 100000 in
set_option maxHeartbeats 1600000 in
theorem specItemsUnder_c (xs : List Page) (A : Option Addr) (c : Nat) (z : Int) (w : World) (hr : RdP w.heap.size w A xs) (hcap : xs.length ≤ c) (hn : xs.length ≤ 1048576) (hs : sumI xs ≤ 1048576) (hw : ∀ x ∈ xs, x.title.size ≤ 9223372036854775807 ∧ x.items.length ≤ 9223372036854775807 ∧ ∀ z ∈ x.items, Fits z) (hz : -9223372036854775808 ≤ z ∧ z ≤ 9223372036854775807) :
    Calls Try.prog 27 #[.slice A xs.length c, .int .i64 z] w (RetL encI 1 (iuV xs z) (lvB xs z) w) := by
  have HW := Lib.hid hw
  clear hw
  by_cases hF : goodA xs = false
  · go_enter Try.func27, Try.ntmps27
    have hbg := (show Below w.heap.size w (w.alloc (.cells #[] 3)) by go_grown)
    have hbx := Below.refl (w.alloc (.cells #[] 3)).heap.size (w.alloc (.cells #[] 3))
    go_wp2_with fail
    refine (l18Good_c xs _ _ _ (hr.go hbg) hcap hn hs HW.out).mono ?_
    rintro e wg0 ⟨rfl, hb0⟩
    have hbg := below_via hbg hb0
    have hbx := below_via hbx hb0
    go_wp2_with fail
    go_returns
    have HB : lvB xs z = false := by simp [lvB, hF]
    exact ⟨_, _, ret_list (by rw [iuV_no HB]; rfl) HB.symm, hbg, Own.none_ (iuV_no HB) (Nat.le_refl _)⟩
  have G0 : goodA xs = true := by simpa using hF
  clear hF
  go_enter Try.func27, Try.ntmps27
  have hbg := (show Below w.heap.size w (w.alloc (.cells #[] 3)) by go_grown)
  have hbx := Below.refl (w.alloc (.cells #[] 3)).heap.size (w.alloc (.cells #[] 3))
  go_wp2_with fail
  refine (l18Good_c xs _ _ _ (hr.go hbg) hcap hn hs HW.out).mono ?_
  rintro e wg0 ⟨rfl, hb0⟩
  have hbg := below_via hbg hb0
  have hbx := below_via hbx hb0
  have HG := Lib.hid G0
  have hlen := goodA_len G0
  go_wp2_with fail
  clear G0
  refine (l18Find_c xs _ _ _ _ (hr.go hbg) hn).mono ?_
  rintro _ w1 ⟨rfl, hb1⟩
  have hbg := below_via hbg hb1
  rcases lv_of xs z HG.out with ⟨j, hj, hi, he, hB, hv⟩ | ⟨hi, hB, hv⟩
  · subst he
    rw [hi]
    have HB := Lib.hid hB
    have HP := Lib.hid (iuV_yes hB)
    clear hi hv hB
    have hj2 : ¬ (j : Int) < 0 := by omega
    go_wp2_with fail
    refine (l18Part_c xs _ _ j _ (hr.go hbg) HG.out hj).mono ?_
    rintro _ w2 ⟨B2, c2, rfl, hb2, ho2⟩
    have hP := ho2.rd
    have hpl := partK_len xs xs[j].id xs.length
    have hbg := below_via hbg hb2
    change (partA xs xs[j].id).length ≤ xs.length at hpl
    generalize partA xs xs[j].id = P at *
    clear ho2
    go_wp2_with fail
    go_loopw [6, 8] (fun u i wr => ∃ (k c' : Nat) (A' : Option Addr), k ≤ xs.length ∧ i = .int .i64 k ∧ u = .slice A' (puts (iuL xs P k)).length c' ∧ (puts (iuL xs P k)).length ≤ c' ∧ Own encI 1 w2.heap.size wr.heap.size wr A' (puts (iuL xs P k)) ∧ Below w2.heap.size w2 wr) (fun _ i _ => xs.length - (intOf i).toNat)
    case atStart => exact ⟨0, 0, _, Nat.zero_le _, rfl, rfl, Nat.le_refl _, Own.nil (Nat.le_refl _), Below.refl _ _⟩
    case round =>
      obtain ⟨k, c', A', hk, rfl, rfl, hcl, ho, hb⟩ := hrel
      have hul := iuL_len (P := P) hk
      have hsl := sumI_take_le xs k
      by_cases hlt : k < xs.length
      · have hil : xs[k].items.length ≤ 8 := (good_base HG.out hlt).2.2.2.1
        have hk0 : (0 : Int) ≤ (k : Int) := by omega
        have hk1 : (k : Int) < (xs.length : Int) := by omega
        by_cases hm : xs[k].id ∈ P
        · have HS := Lib.hid (iuL_yes hlt hm)
          have HD := Lib.hid (decide_eq_true hm)
          clear hm
          generalize iuL xs P k = L at *
          go_wp2_with fail
          go_loopw [6, 9] (fun u v wr3 => ∃ (m c3 : Nat) (A3 : Option Addr), m ≤ xs[k].items.length ∧ v = .int .i64 m ∧ u = .slice A3 (puts (L ++ xs[k].items.take m)).length c3 ∧ (puts (L ++ xs[k].items.take m)).length ≤ c3 ∧ Own encI 1 w2.heap.size wr3.heap.size wr3 A3 (puts (L ++ xs[k].items.take m)) ∧ Below w2.heap.size w2 wr3) (fun _ v _ => xs[k].items.length - (intOf v).toNat)
          case atStart => exact ⟨0, c', A', Nat.zero_le _, rfl, by simp, by simpa using hcl, by simpa using ho, hb⟩
          case round =>
            obtain ⟨m, c3, A3, hmi, rfl, rfl, hcl3, ho3, hb3⟩ := hrel
            clear ho hb hcl
            have hpl3 := puts_len (L ++ xs[k].items.take m)
            rw [List.length_append, List.length_take] at hpl3
            obtain ⟨b, off, Ai, ci, rfl, hbs, d0, d1, d2, d3, hci, hri⟩ := ((hr.go hbg).below hb3).page hlt
            by_cases hlm : m < xs[k].items.length
            · obtain ⟨bi, oi, rfl, hbis, g0⟩ := hri.int hlm
              have hm0 : (0 : Int) ≤ (m : Int) := by omega
              have hm1 : (m : Int) < (xs[k].items.length : Int) := by omega
              have HPS := Lib.hid (show puts (L ++ xs[k].items.take (m + 1)) = putI (puts (L ++ xs[k].items.take m)) (xs[k].items[m]) by rw [← puts_snoc, List.append_assoc, List.take_succ_eq_append_getElem hlm])
              generalize puts (L ++ xs[k].items.take m) = ys at *
              go_wp2_with fail
              refine (l1Has_c P _ _ _ _ (hP.go hb3) (by omega)).mono ?_
              rw [HD.out]
              rintro _ _ ⟨rfl, rfl⟩
              go_wp2_with fail
              refine (l1Put_c ys _ _ _ _ w2.heap.size _ ho3 hb3.size hcl3 (by omega)).mono ?_
              rintro _ w5 ⟨B5, c5, rfl, hb5, ho5, hc5⟩
              rw [← HPS.out] at ho5 hc5 ⊢
              have hbl := hb3.trans (hb5.mono hb3.size)
              go_wp2_with fail
              go_roundw
              case rel => exact ⟨m + 1, c5, B5, by omega, by go_num, rfl, hc5, ho5, hbl⟩
              case measure => simp [intOf]; omega
            · have hme : m = xs[k].items.length := by omega
              have HE := Lib.hid (show L ++ xs[k].items.take m = iuL xs P (k + 1) by rw [hme, List.take_length, HS.out])
              rw [HE.out] at ho3 hcl3
              go_wp2_with fail
              go_roundw
              case rel => exact ⟨k + 1, c3, A3, by omega, by go_num, by rw [HE.out], hcl3, ho3, hb3⟩
              case measure => simp [intOf]; omega
        · have HS := Lib.hid (iuL_no hlt hm)
          have HD := Lib.hid (decide_eq_false hm)
          clear hm
          generalize iuL xs P k = L at *
          go_wp2_with fail
          go_loopw [6, 9] (fun u v wr3 => v = .int .i64 0 ∧ u = .slice A' (puts L).length c' ∧ Own encI 1 w2.heap.size wr3.heap.size wr3 A' (puts L) ∧ Below w2.heap.size w2 wr3) (fun _ v _ => 0)
          case atStart => exact ⟨rfl, rfl, ho, hb⟩
          case round =>
            obtain ⟨rfl, rfl, ho3, hb3⟩ := hrel
            clear ho hb
            obtain ⟨b, off, Ai, ci, rfl, hbs, d0, d1, d2, d3, hci, hri⟩ := ((hr.go hbg).below hb3).page hlt
            by_cases hlm : 0 < xs[k].items.length
            · have hm1 : (0 : Int) < (xs[k].items.length : Int) := by omega
              go_wp2_with fail
              refine (l1Has_c P _ _ _ _ (hP.go hb3) (by omega)).mono ?_
              rw [HD.out]
              rintro _ _ ⟨rfl, rfl⟩
              go_wp2_with fail
              go_roundw
              case rel => exact ⟨k + 1, c', A', by omega, by go_num, by rw [HS.out], by rw [HS.out]; exact hcl, by rw [HS.out]; exact ho3, hb3⟩
              case measure => simp [intOf]; omega
            · go_wp2_with fail
              go_roundw
              case rel => exact ⟨k + 1, c', A', by omega, by go_num, by rw [HS.out], by rw [HS.out]; exact hcl, by rw [HS.out]; exact ho3, hb3⟩
              case measure => simp [intOf]; omega
      · have hke : k = xs.length := by omega
        have HE2 := Lib.hid (show puts (iuL xs P k) = iuV xs xs[j].id by rw [hke]; exact HP.out.symm)
        go_wp2_with fail
        go_returns
        exact ⟨A', c', ret_list (by rw [HE2.out]) HB.out.symm, hbg.trans (hb.mono hbg.size), (ho.cast HE2.out).wide hbg.size (Nat.le_refl _) (Nat.le_refl _)⟩
  · rw [hi]
    have HB := Lib.hid hB
    have HP := Lib.hid (iuV_no hB)
    clear hi hv hB
    go_wp2_with fail
    go_returns
    exact ⟨_, _, ret_list (by rw [HP.out]; rfl) HB.out.symm, hbg, Own.none_ HP.out (Nat.le_refl _)⟩
end Go.Proofs.Ythhdajmnidjhjaa
namespace Go.Proofs.Ythhdajmnidjhjaa
set_option linter.unusedVariables false
set_option linter.unusedSimpArgs false
open Go.RowKit Go.Maps
attribute [local irreducible] wpQuiet
theorem wpList_appG {α : Type} {P : Program} {ops : Array Oper} {rest : List Oper} {o : Oper} {a : Act} {Q : Exit → Act → World → Prop} {w : World} (hgd : o.guard = none) (s x : Operand) (t : TypeId)
    (ho : o.op = .call { callee := .builtin .append, args := #[s, x], argTypes := #[t, t] }) (E : TypeId) (z : Value) (k bytes : Nat) (ht : P.underlying t = some (.slice E))
    (hi : (P.info? E).map (fun i => (i.zero, i.size, i.bytes)) = some (some z, k, bytes)) (hzs : z.cells.size = k) (hk : 0 < k)
    {enc : α → List Value} (hl : ∀ x, (enc x).length = k) (h1 : ∀ x, ∀ u ∈ enc x, u.oneCell' = true) {base B : Nat} {v : Value} {ys zs : List α} {A : Option Addr} {m c : Nat} (hs : a.eval s = v) (hx : a.eval x = .slice A m c) (hm : m = zs.length) (hown : OutR enc k E base v ys w) (hr : Rd enc k B w A zs)
    (hlen : (ys.length + m) * bytes ≤ 140737488355328) (hle : ys.length + m ≤ 9223372036854775807) (hbase : base ≤ w.heap.size)
    (h : ∀ v' w', OutR enc k E base v' (ys ++ zs) w' → Below base w w' → w.grownBy w' v.ownBlock → wpList P ops Q rest (a.put o.dst v') w') : wpList P ops Q (o :: rest) a w :=
  wpList_plain hgd fun _ hK => wp_app s x t ho E z k bytes ht hi hzs hk hl h1 hs hx hm hown hr hlen hle hbase fun v' w' h2 h3 h4 => hK _ _ (h v' w' h2 h3 h4)
theorem SetB.upd {w : World} {B n : Nat} {S : List Int} (h : SetB B n S w) (hn : n < maxLen) {key : Int} (hf : Fits key) :
    ∃ w', (Instr.mapUpdate 78 (.map (some B)) (.int .i64 key) (.bool true)).run Try.prog w = .ok () w' ∧ SetB B (n + 1) (key :: S) w' ∧ w.grownBy w' (some B) := by
  obtain ⟨D, h, h2⟩ := h
  obtain ⟨w', hrun, r1, r2⟩ := h.update lawI Try.underlying78 hn (keyOf_int_mk Try.underlying3 (wf_int hf)) (plainElem_bool Try.underlying4 true)
  refine ⟨w', hrun, ⟨_, r1, fun y => ?_⟩, r2⟩
  by_cases hy : y = key
  · subst hy
    rw [atKey_put_same h.isMap (show WideAt.IsKeyLit (.int .i64 y) from trivial)]
    simp
  · rw [atKey_put_other (by intro e; injection e with _ e; exact hy e), h2 y]
    simp [hy]
theorem OutR.kept {α : Type} {enc : α → List Value} {k : Nat} {E : TypeId} {base : Nat} {v : Value} {ys : List α} {w w' : World} {row : Option Nat} (h : OutR enc k E base v ys w) (hg : w.grownBy w' row) (hne : v.ownBlock = none ∨ v.ownBlock ≠ row) : OutR enc k E base v ys w' := World.ownsRow.kept h hg hne
theorem OutR.ne {α : Type} {enc : α → List Value} {k : Nat} {E : TypeId} {base B : Nat} {v : Value} {ys : List α} {w : World} (h : OutR enc k E base v ys w) (hB : B < base) : v.ownBlock = none ∨ v.ownBlock ≠ some B := by
  cases hv : v.ownBlock with
  | none => exact .inl rfl
  | some g => exact .inr fun e => by injection e with e; have := h.from_ g hv; omega
theorem fits_small {x : Int} (h0 : -100 ≤ x) (h1 : x ≤ 1000) : Fits x := by unfold Fits; omega
/-- The call returns a slice that reads as the pages ps. -/
def RetPgs (ps : List Page) (w : World) (e : Ending) (w' : World) : Prop := ∃ B c', e = .returned (.slice B ps.length c') ∧ Below w.heap.size w w' ∧ RdP w'.heap.size w' B ps
set_option maxRecDepth 100000 in
set_option maxHeartbeats 1600000 in
theorem partOf_c (xs : List Page) (A : Option Addr) (c : Nat) (j : Nat) (w : World) (hr : RdP w.heap.size w A xs) (hn : xs.length ≤ 1048576) (hg : goodA xs = true) (hj : j < xs.length) :
    Calls Try.prog 57 #[.slice A xs.length c, .int .i64 xs[j].id] w (RetPgs (partP xs xs[j].id xs.length) w) := by
  have HG := Lib.hid hg
  have hlen := goodA_len hg
  have HC := Lib.hid (fun (k : Nat) (hk : k < xs.length) => part_cond hg hj hk)
  obtain ⟨id, hid⟩ : ∃ id, xs[j].id = id := ⟨_, rfl⟩
  have hfid : Fits id := by have := good_base hg hj; rw [hid] at this; exact fits_small (by omega) (by omega)
  clear hg
  rw [hid] at HC ⊢
  clear hid
  have hS0 := SetB.made w
  have hB0 : Below w.heap.size w (w.alloc (.map #[] 0)) := ((Below.refl _ _).alloc (Nat.le_refl _) _)
  obtain ⟨w1, hrun, hS1, hg1⟩ := hS0.upd (by decide) hfid
  have hmm := @run_makeMap Try.prog
  have hb1 := below_put hB0 hg1 (Nat.le_refl _) hB0.size
  have hlt1 := hS1.lt
  have hmem0 : ∀ x, x ∈ [id] ↔ x ∈ id :: partK xs id 0 := fun x => by simp [partK]
  have ho0 := OutR.nil (enc := encPM) (k := 4) (E := 43) (base := w1.heap.size) w1
  clear hS0 hg1
  go_enter Try.func57, Try.ntmps57
  go_wp2_with fail
  clear hmm hrun
  obtain ⟨b0, hb0⟩ : ∃ b0, w1.heap.size = b0 := ⟨_, rfl⟩
  rw [hb0] at ho0 hlt1
  go_loopw [6, 14] (fun u i wr => ∃ (k n : Nat) (S : List Int) (ms : List PageM), k ≤ xs.length ∧ i = .int .i64 k ∧ SetB w.heap.size n S wr ∧ n ≤ k + 1 ∧ (∀ x, x ∈ S ↔ x ∈ id :: partK xs id k) ∧ OutR encPM 4 43 b0 u ms wr ∧ Mir w.heap.size wr ms (partP xs id k) ∧ Below w.heap.size w wr ∧ b0 ≤ wr.heap.size) (fun _ i _ => xs.length - (intOf i).toNat)
  case atStart => exact ⟨0, 1, [id], [], Nat.zero_le _, rfl, hS1, by omega, hmem0, ho0, Mir.nil, hb1, by omega⟩
  case round =>
    obtain ⟨k, n, S, ms, hk, rfl, hS, hnk, hmem, ho, hM, hb, hbs0⟩ := hrel
    clear ho0 hS1
    have hml := hM.1
    have hpl := partP_len (id := id) hk
    by_cases hlt : k < xs.length
    · obtain ⟨b, off, Ai, ci, rfl, hbs, d0, d1, d2, d3, hci, hri⟩ := (hr.below hb).page hlt
      have hgb := good_base HG.out hlt
      have hfi : Fits xs[k].id := fits_small (by omega) (by omega)
      have hfu : Fits xs[k].under := by
        have h1 := good_under HG.out hlt
        by_cases hu : xs[k].under = 0
        · rw [hu]; exact fits_small (by omega) (by omega)
        · obtain ⟨i', hi', e'⟩ := good_above HG.out hlt hu
          have h2 := (good_base HG.out (show i' < xs.length by omega)).1
          exact fits_small (by omega) (by omega)
      clear hgb
      have HMEM := Lib.hid hmem
      clear hmem
      have hcd := HC.out k hlt
      rw [← HMEM.out, ← HMEM.out] at hcd
      have HPM : Hid (PMI w.heap.size wr ⟨xs[k].id, xs[k].title, xs[k].under, Ai, xs[k].items.length, ci⟩ xs[k]) := Lib.hid ⟨rfl, rfl, rfl, rfl, hci, hri⟩
      have hne := ho.ne hlt1
      go_upto_region 6 with fail
      have hW := New.of wr [.int .i64 xs[k].id, .string xs[k].title, .int .i64 xs[k].under, .slice Ai xs[k].items.length ci] 43
      generalize wr.alloc (.cells #[.int .i64 xs[k].id, .string xs[k].title, .int .i64 xs[k].under, .slice Ai xs[k].items.length ci] 43) = W at *
      obtain ⟨hWb, hWl, hWc⟩ := hW
      have e0 := hWc 0 _ rfl
      have e1 := hWc 1 _ rfl
      have e2 := hWc 2 _ rfl
      have e3 := hWc 3 _ rfl
      clear hWc d0 d1 d2 d3 hri
      have hwb := hb.size
      have hbw := hb.trans (hWb.mono hb.size)
      have ho := ho.below hWb
      have hM := hM.keep (hWb.mono hb.size)
      have HPM := Lib.hid (HPM.out.keep (hWb.mono hb.size))
      have hSW := hS.go hWb
      have hSl := hS.lt
      have hWs := hWb.size
      generalize wr.heap.size = hp at *
      have hrun1 := hSW.run hfi
      have HRUN := Lib.hid (hSW.run hfu)
      by_cases hc : xs[k].id = id ∨ xs[k].under ∈ partK xs id k
      · have HS := Lib.hid (partP_yes hlt hc)
        have HT := Lib.hid (part_set (S := S) hlt HMEM.out hc)
        have hor := hcd.2 hc
        clear hcd hc
        by_cases h1 : xs[k].id ∈ S
        · rw [decide_eq_true h1] at hrun1
          clear h1 hor
          go_upto_region 7 with fail
          go_upto_region 8 with ((at_mapUpdate; refine wpList_put (by rfl) _ _ _ (by rfl) (by rfl) hSW (by unfold maxLen; omega) xs[k].id (by rfl) (by rfl) hfi ?_; intro w6 hS6 hg6))
          have ho6 := ho.kept hg6 hne
          have hM6 := hM.keep (below_put (Below.refl _ _) hg6 (Nat.le_refl _) hbw.size)
          have hb6 := below_put hbw hg6 (Nat.le_refl _) hbw.size
          have k0 := hg6.cell e0 (by simp; omega)
          have k1 := hg6.cell e1 (by simp; omega)
          have k2 := hg6.cell e2 (by simp; omega)
          have k3 := hg6.cell e3 (by simp; omega)
          clear e0 e1 e2 e3 hrun1 HRUN
          go_wp2_with (at_builtin; refine wpList_appG rfl _ _ _ rfl 43 (.agg #[.int .i64 0, .string ⟨#[]⟩, .int .i64 0, .slice none 0 0]) 4 56 Try.underlying24 infoPage rfl (by decide) encPM_len onePM (base := b0) (m := 1) (ys := ms) (zs := [(⟨xs[k].id, xs[k].title, xs[k].under, Ai, xs[k].items.length, ci⟩ : PageM)]) rfl rfl rfl (ho6.below ((Below.refl _ _).alloc (Nat.le_refl _) _)) (rd_new (x := (⟨xs[k].id, xs[k].title, xs[k].under, Ai, xs[k].items.length, ci⟩ : PageM)) (vs := [.int .i64 xs[k].id, .string xs[k].title, .int .i64 xs[k].under, .slice Ai xs[k].items.length ci]) rfl rfl) (by omega) (by omega) (by have := hg6.size; simp; omega) ?_; intro v7 w7 ho7 hb7 hg7)
          have hsz6 : hp < w6.heap.size := Nat.lt_of_lt_of_le hWl hg6.size
          have hbk : Below w.heap.size w6 w7 := ((Below.refl w.heap.size w6).alloc (by omega) _).trans (hb7.mono (by omega))
          have hb17 : Below w.heap.size W w7 := (below_put (Below.refl w.heap.size W) hg6 (Nat.le_refl _) hbw.size).trans hbk
          have hneS : some w.heap.size ≠ u6.ownBlock := fun e => hne.elim (fun h => by rw [h] at e; cases e) (fun h => h e.symm)
          have hS7 := (hS6.go ((Below.refl _ _).alloc (Nat.le_refl _) (.cells #[.int .i64 xs[k].id, .string xs[k].title, .int .i64 xs[k].under, .slice Ai xs[k].items.length ci] 43))).kept hg7 hneS
          have hM7 := (hM6.keep hbk).snoc (HPM.out.keep hb17)
          rw [← HS.out] at hM7
          have hs7 := hbk.size
          go_roundw
          case rel => exact ⟨k + 1, n + 1, xs[k].id :: S, _, by omega, by go_num, hS7, by omega, HT.out, ho7, hM7, hb6.trans hbk, by omega⟩
          case measure => simp [intOf]; omega
        · have h2 : xs[k].under ∈ S := hor.resolve_left h1
          rw [decide_eq_false h1] at hrun1
          have hrun2 := HRUN.out
          rw [decide_eq_true h2] at hrun2
          clear h1 h2 hor
          go_upto_region 7 with fail
          go_upto_region 8 with ((at_mapUpdate; refine wpList_put (by rfl) _ _ _ (by rfl) (by rfl) hSW (by unfold maxLen; omega) xs[k].id (by rfl) (by rfl) hfi ?_; intro w6 hS6 hg6))
          have ho6 := ho.kept hg6 hne
          have hM6 := hM.keep (below_put (Below.refl _ _) hg6 (Nat.le_refl _) hbw.size)
          have hb6 := below_put hbw hg6 (Nat.le_refl _) hbw.size
          have k0 := hg6.cell e0 (by simp; omega)
          have k1 := hg6.cell e1 (by simp; omega)
          have k2 := hg6.cell e2 (by simp; omega)
          have k3 := hg6.cell e3 (by simp; omega)
          clear e0 e1 e2 e3 hrun1 HRUN
          go_wp2_with (at_builtin; refine wpList_appG rfl _ _ _ rfl 43 (.agg #[.int .i64 0, .string ⟨#[]⟩, .int .i64 0, .slice none 0 0]) 4 56 Try.underlying24 infoPage rfl (by decide) encPM_len onePM (base := b0) (m := 1) (ys := ms) (zs := [(⟨xs[k].id, xs[k].title, xs[k].under, Ai, xs[k].items.length, ci⟩ : PageM)]) rfl rfl rfl (ho6.below ((Below.refl _ _).alloc (Nat.le_refl _) _)) (rd_new (x := (⟨xs[k].id, xs[k].title, xs[k].under, Ai, xs[k].items.length, ci⟩ : PageM)) (vs := [.int .i64 xs[k].id, .string xs[k].title, .int .i64 xs[k].under, .slice Ai xs[k].items.length ci]) rfl rfl) (by omega) (by omega) (by have := hg6.size; simp; omega) ?_; intro v7 w7 ho7 hb7 hg7)
          have hsz6 : hp < w6.heap.size := Nat.lt_of_lt_of_le hWl hg6.size
          have hbk : Below w.heap.size w6 w7 := ((Below.refl w.heap.size w6).alloc (by omega) _).trans (hb7.mono (by omega))
          have hb17 : Below w.heap.size W w7 := (below_put (Below.refl w.heap.size W) hg6 (Nat.le_refl _) hbw.size).trans hbk
          have hneS : some w.heap.size ≠ u6.ownBlock := fun e => hne.elim (fun h => by rw [h] at e; cases e) (fun h => h e.symm)
          have hS7 := (hS6.go ((Below.refl _ _).alloc (Nat.le_refl _) (.cells #[.int .i64 xs[k].id, .string xs[k].title, .int .i64 xs[k].under, .slice Ai xs[k].items.length ci] 43))).kept hg7 hneS
          have hM7 := (hM6.keep hbk).snoc (HPM.out.keep hb17)
          rw [← HS.out] at hM7
          have hs7 := hbk.size
          go_roundw
          case rel => exact ⟨k + 1, n + 1, xs[k].id :: S, _, by omega, by go_num, hS7, by omega, HT.out, ho7, hM7, hb6.trans hbk, by omega⟩
          case measure => simp [intOf]; omega
      · have HS := Lib.hid (partP_no hlt hc)
        have HT := Lib.hid (partK_no hlt hc)
        have h1 : ¬ xs[k].id ∈ S := fun h => hc (hcd.1 (.inl h))
        have h2 : ¬ xs[k].under ∈ S := fun h => hc (hcd.1 (.inr h))
        have hrun2 := HRUN.out
        rw [decide_eq_false h1] at hrun1
        rw [decide_eq_false h2] at hrun2
        clear hcd hc h1 h2
        go_wp2_with fail
        go_roundw
        case rel => exact ⟨k + 1, n, S, ms, by omega, by go_num, hSW, by omega, by rw [HT.out]; exact HMEM.out, ho, by rw [HS.out]; exact hM, hbw, by omega⟩
        case measure => simp [intOf]; omega
    · have hke : k = xs.length := by omega
      subst hke
      obtain ⟨A5, c5, rfl, ho5, hc5⟩ := ho.own encPM_len
      have hR := hM.rdP ho5.rd hb.size
      rw [hml]
      go_wp2_with fail
      go_returns
      exact ⟨_, _, ret_sl rfl, hb, hR⟩
end Go.Proofs.Ythhdajmnidjhjaa
namespace Go.Proofs.Ythhdajmnidjhjaa
set_option linter.unusedVariables false
set_option linter.unusedSimpArgs false
open Go.RowKit
attribute [local irreducible] wpQuiet
theorem paV_len (xs : List Page) (z : Int) : (paV xs z).length ≤ 2097152 := by
  cases h : lvB xs z with
  | false => rw [paV_no h]; simp
  | true =>
    have h1 := paV_le xs z
    have h2 : goodA xs = true := by unfold lvB at h; exact (Bool.and_eq_true _ _ ▸ h).1
    have := goodA_len h2
    omega
set_option maxRecDepth 100000 in
set_option maxHeartbeats 1600000 in
theorem implPartOf_c (xs : List Page) (A : Option Addr) (c : Nat) (z : Int) (w : World) (hr : RdP w.heap.size w A xs) (hcap : xs.length ≤ c) (hn : xs.length ≤ 1048576) (hs : sumI xs ≤ 1048576) (hw : ∀ x ∈ xs, x.title.size ≤ 9223372036854775807 ∧ x.items.length ≤ 9223372036854775807 ∧ ∀ z ∈ x.items, Fits z) (hz : -9223372036854775808 ≤ z ∧ z ≤ 9223372036854775807) :
    Calls Try.prog 19 #[.slice A xs.length c, .int .i64 z] w (RetL encI 1 (paV xs z) (lvB xs z) w) := by
  have HW := Lib.hid hw
  clear hw
  by_cases hF : goodA xs = false
  · go_enter Try.func19, Try.ntmps19
    have hbg := Below.refl w.heap.size w
    go_wp2_with fail
    refine (isAlbum_c xs _ _ _ (hr.go hbg) hcap hn hs HW.out).mono ?_
    rintro e wg0 ⟨rfl, hb0⟩
    have hbg := below_via hbg hb0
    go_wp2_with fail
    go_returns
    have HB : lvB xs z = false := by simp [lvB, hF]
    exact ⟨_, _, ret_list (by rw [paV_no HB]; rfl) HB.symm, hbg, Own.none_ (paV_no HB) (Nat.le_refl _)⟩
  have G0 : goodA xs = true := by simpa using hF
  clear hF
  go_enter Try.func19, Try.ntmps19
  have hbg := Below.refl w.heap.size w
  go_wp2_with fail
  refine (isAlbum_c xs _ _ _ (hr.go hbg) hcap hn hs HW.out).mono ?_
  rintro e wg0 ⟨rfl, hb0⟩
  have hbg := below_via hbg hb0
  have HG := Lib.hid G0
  have hlen := goodA_len G0
  go_wp2_with fail
  clear G0
  refine (pageAt_c xs _ _ _ _ (hr.go hbg) hn).mono ?_
  rintro _ w1 ⟨rfl, hb1⟩
  have hbg := below_via hbg hb1
  rcases lv_of xs z HG.out with ⟨j, hj, hi, he, hB, hv⟩ | ⟨hi, hB, hv⟩
  · subst he
    rw [hi]
    have HB := Lib.hid hB
    have HP := Lib.hid (paV_yes hB)
    clear hi hv hB
    have hj2 : ¬ (j : Int) < 0 := by omega
    go_wp2_with fail
    refine (partOf_c xs _ _ j _ (hr.go hbg) hn HG.out hj).mono ?_
    rintro _ w2 ⟨B2, c2, rfl, hb2, hrd⟩
    have hbW := below_via hbg hb2
    have hml := partP_len (id := xs[j].id) (Nat.le_refl xs.length)
    have HM := Lib.hid ((partP_map (id := xs[j].id) (Nat.le_refl xs.length)).trans HP.out.symm)
    generalize partP xs xs[j].id xs.length = ms at *
    go_wp2_with fail
    go_loopw [6, 22] (fun u i wr => ∃ k : Nat, k ≤ ms.length ∧ i = .int .i64 k ∧ Out (Value.int .i64) 3 w2.heap.size u ((ms.take k).map (·.id)) wr ∧ Below w2.heap.size w2 wr) (fun _ i _ => ms.length - (intOf i).toNat)
    case atStart => exact ⟨0, Nat.zero_le _, rfl, by simpa using Out.nil (α := Int) (V := Value.int .i64) (E := 3) (base := w2.heap.size) w2, Below.refl _ _⟩
    case round =>
      obtain ⟨k, hk, rfl, ho, hb⟩ := hrel
      by_cases hlt : k < ms.length
      · obtain ⟨b, off, Ai, ci, rfl, hbs, d0, d1, d2, d3, hci, hri⟩ := (hrd.below hb).page hlt
        have HS := Lib.hid (show (ms.take (k + 1)).map (·.id) = (ms.take k).map (·.id) ++ [ms[k].id] by rw [take_succ_get ms k hlt, List.map_append]; rfl)
        have hyl : ((ms.take k).map (·.id)).length ≤ 12 := by simp; omega
        generalize (ms.take k).map (·.id) = ys at *
        go_upto_region 7 with fail
        have hW := New.of wr [.int .i64 ms[k].id, .string ms[k].title, .int .i64 ms[k].under, .slice Ai ms[k].items.length ci] 43
        generalize wr.alloc (.cells #[.int .i64 ms[k].id, .string ms[k].title, .int .i64 ms[k].under, .slice Ai ms[k].items.length ci] 43) = W at *
        obtain ⟨hWb, hWl, hWc⟩ := hW
        have e0 := hWc 0 _ rfl
        clear hWc d0 d1 d2 d3 hri
        have hbw := hb.trans (hWb.mono hb.size)
        have ho := ho.below hWb
        have hWs := hbw.size
        generalize wr.heap.size = hp at *
        go_wp2_with (at_builtin; refine wpList_push rfl _ _ _ rfl 3 (.int .i64 0) 8 Try.underlying39 infoI rfl (ms[k].id) rfl ho _ rfl (by simp) rfl (by omega) (by omega) (by omega) ?_; intro v1 w3 hown1 hbel1)
        rw [← HS.out] at hown1
        go_roundw
        case rel => exact ⟨k + 1, by omega, by go_num, hown1, hbw.trans hbel1⟩
        case measure => simp [intOf]; omega
      · have hke : k = ms.length := by omega
        subst hke
        rw [List.take_length, HM.out] at ho
        obtain ⟨A5, c5, rfl, ho5⟩ := ho.own
        go_wp2_with fail
        go_returns
        exact ⟨_, _, ret_list rfl HB.out.symm, hbW.trans (hb.mono hbW.size), ho5.wide hbW.size (Nat.le_refl _) (Nat.le_refl _)⟩
  · rw [hi]
    have HB := Lib.hid hB
    have HP := Lib.hid (paV_no hB)
    clear hi hv hB
    go_wp2_with fail
    go_returns
    exact ⟨_, _, ret_list (by rw [HP.out]; rfl) HB.out.symm, hbg, Own.none_ HP.out (Nat.le_refl _)⟩
end Go.Proofs.Ythhdajmnidjhjaa
namespace Go.Proofs.Ythhdajmnidjhjaa
set_option linter.unusedVariables false
set_option linter.unusedSimpArgs false
open Go.RowKit
attribute [local irreducible] wpQuiet
theorem flat_take {ms : List Page} {k : Nat} (h : k < ms.length) : (ms.take (k + 1)).flatMap (·.items) = (ms.take k).flatMap (·.items) ++ ms[k].items := by
  rw [take_succ_get ms k h, List.flatMap_append]; simp
set_option maxRecDepth 100000 in
set_option maxHeartbeats 1600000 in
theorem implItemsUnder_c (xs : List Page) (A : Option Addr) (c : Nat) (z : Int) (w : World) (hr : RdP w.heap.size w A xs) (hcap : xs.length ≤ c) (hn : xs.length ≤ 1048576) (hs : sumI xs ≤ 1048576) (hw : ∀ x ∈ xs, x.title.size ≤ 9223372036854775807 ∧ x.items.length ≤ 9223372036854775807 ∧ ∀ z ∈ x.items, Fits z) (hz : -9223372036854775808 ≤ z ∧ z ≤ 9223372036854775807) :
    Calls Try.prog 20 #[.slice A xs.length c, .int .i64 z] w (RetL encI 1 (iuV xs z) (lvB xs z) w) := by
  have HW := Lib.hid hw
  clear hw
  by_cases hF : goodA xs = false
  · go_enter Try.func20, Try.ntmps20
    have hbg := Below.refl w.heap.size w
    go_wp2_with fail
    refine (isAlbum_c xs _ _ _ (hr.go hbg) hcap hn hs HW.out).mono ?_
    rintro e wg0 ⟨rfl, hb0⟩
    have hbg := below_via hbg hb0
    go_wp2_with fail
    go_returns
    have HB : lvB xs z = false := by simp [lvB, hF]
    exact ⟨_, _, ret_list (by rw [iuV_no HB]; rfl) HB.symm, hbg, Own.none_ (iuV_no HB) (Nat.le_refl _)⟩
  have G0 : goodA xs = true := by simpa using hF
  clear hF
  go_enter Try.func20, Try.ntmps20
  have hbg := Below.refl w.heap.size w
  go_wp2_with fail
  refine (isAlbum_c xs _ _ _ (hr.go hbg) hcap hn hs HW.out).mono ?_
  rintro e wg0 ⟨rfl, hb0⟩
  have hbg := below_via hbg hb0
  have HG := Lib.hid G0
  have hlen := goodA_len G0
  go_wp2_with fail
  clear G0
  refine (pageAt_c xs _ _ _ _ (hr.go hbg) hn).mono ?_
  rintro _ w1 ⟨rfl, hb1⟩
  have hbg := below_via hbg hb1
  rcases lv_of xs z HG.out with ⟨j, hj, hi, he, hB, hv⟩ | ⟨hi, hB, hv⟩
  · subst he
    rw [hi]
    have HB := Lib.hid hB
    have HP := Lib.hid (iuV_yes hB)
    clear hi hv hB
    have hj2 : ¬ (j : Int) < 0 := by omega
    go_wp2_with fail
    refine (partOf_c xs _ _ j _ (hr.go hbg) hn HG.out hj).mono ?_
    rintro _ w2 ⟨B2, c2, rfl, hb2, hrd⟩
    have hbW := below_via hbg hb2
    have hml := partP_len (id := xs[j].id) (Nat.le_refl xs.length)
    have HM := Lib.hid ((iu_law HG.out (id := xs[j].id)).trans HP.out.symm)
    have H8 := Lib.hid (fun p (hp : p ∈ partP xs xs[j].id xs.length) => good_len8 HG.out p (partP_mem p hp))
    generalize partP xs xs[j].id xs.length = ms at *
    go_wp2_with fail
    go_loopw [6, 22] (fun u i wr => ∃ k : Nat, k ≤ ms.length ∧ i = .int .i64 k ∧ OutR encI 1 3 w2.heap.size u ((ms.take k).flatMap (·.items)) wr ∧ Below w2.heap.size w2 wr) (fun _ i _ => ms.length - (intOf i).toNat)
    case atStart => exact ⟨0, Nat.zero_le _, rfl, by simpa using OutR.nil (enc := encI) (k := 1) (E := 3) (base := w2.heap.size) w2, Below.refl _ _⟩
    case round =>
      obtain ⟨k, hk, rfl, ho, hb⟩ := hrel
      have hf8 := flat_8 (ms.take k) (fun p hp => H8.out p (List.mem_of_mem_take hp))
      rw [List.length_take] at hf8
      by_cases hlt : k < ms.length
      · obtain ⟨b, off, Ai, ci, rfl, hbs, d0, d1, d2, d3, hci, hri⟩ := (hrd.below hb).page hlt
        have HS := Lib.hid (flat_take hlt)
        have h8 := H8.out _ (List.getElem_mem hlt)
        generalize (ms.take k).flatMap (·.items) = ys at *
        go_upto_region 7 with fail
        have hW := New.of wr [.int .i64 ms[k].id, .string ms[k].title, .int .i64 ms[k].under, .slice Ai ms[k].items.length ci] 43
        generalize wr.alloc (.cells #[.int .i64 ms[k].id, .string ms[k].title, .int .i64 ms[k].under, .slice Ai ms[k].items.length ci] 43) = W at *
        obtain ⟨hWb, hWl, hWc⟩ := hW
        have e3 := hWc 3 _ rfl
        have hri := (hri.more hb.size).go hWb
        clear hWc d0 d1 d2 d3
        have hbw := hb.trans (hWb.mono hb.size)
        have ho := ho.below hWb
        have hWs := hbw.size
        generalize wr.heap.size = hp at *
        go_wp2_with (at_builtin; refine wpList_app rfl _ _ _ rfl 3 (.int .i64 0) 1 8 Try.underlying39 infoI rfl (by decide) encI_len oneI (base := w2.heap.size) (ys := ys) (zs := ms[k].items) rfl rfl rfl ho hri (by omega) (by omega) (by omega) ?_; intro v1 w3 hown1 hbel1)
        rw [← HS.out] at hown1
        go_roundw
        case rel => exact ⟨k + 1, by omega, by go_num, hown1, hbw.trans hbel1⟩
        case measure => simp [intOf]; omega
      · have hke : k = ms.length := by omega
        subst hke
        rw [List.take_length] at ho hf8
        have ho := ho.toOut
        generalize ms.flatMap (·.items) = L at *
        go_wp2_with fail
        refine (sortOwn_c w2.heap.size _ L _ 3 ho hb.size (by omega)).mono ?_
        rintro _ w5 ⟨rfl, hb5, ho5⟩
        rw [HM.out] at ho5
        obtain ⟨A5, c5, rfl, hO5⟩ := ho5.own
        have hbl := hb.trans hb5
        go_wp2_with fail
        go_returns
        exact ⟨_, _, ret_list rfl HB.out.symm, hbW.trans (hbl.mono hbW.size), hO5.wide hbW.size (Nat.le_refl _) (Nat.le_refl _)⟩
  · rw [hi]
    have HB := Lib.hid hB
    have HP := Lib.hid (iuV_no hB)
    clear hi hv hB
    go_wp2_with fail
    go_returns
    exact ⟨_, _, ret_list (by rw [HP.out]; rfl) HB.out.symm, hbg, Own.none_ HP.out (Nat.le_refl _)⟩
end Go.Proofs.Ythhdajmnidjhjaa
