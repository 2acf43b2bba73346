/- Contract of slices.Delete of one record of the type AlbumPage. No condition but the sizes. -/
import Derived.Test.YthhdajmnidjhjaaAlCpy3
import Derived.Test.YthhdajmnidjhjaaCopyK
import Derived.Laws.IdiomCopy
import Derived.Deep.RegionLaw
namespace Go.Proofs.Ythhdajmnidjhjaa
set_option linter.unusedVariables false
set_option linter.unusedSimpArgs false
open Go.RowKit
attribute [local irreducible] wpQuiet
/-- The call returns the slice that it was given, with ys left; only its block has turned. -/
def RetGF {α : Type} (A : Option Addr) (enc : α → List Value) (k : Nat) (E : TypeId) (base : Nat) (ys : List α) (w : World) (e : Ending) (w' : World) : Prop := ∃ g c', A = some ⟨g, 0, none⟩ ∧ e = .returned (.slice (some ⟨g, 0, none⟩) ys.length c') ∧ OutR enc k E base (.slice (some ⟨g, 0, none⟩) ys.length c') ys w' ∧ Fr g (g + 1) w w'
theorem setCells_row (w : World) (g o : Nat) (cur : Array Value) (t : TypeId) (cs : List Value) (hg : w.heap[g]? = some (.cells cur t (0, 0))) (hfit : o + cs.length ≤ cur.size) (h1 : ∀ v ∈ cs, v.oneCell' = true) : w.setCells g o cs = w.setRow g (splice cur.toList o cs).toArray := by
  have a := run_storeCells_cells (P := Try.prog) g o cs 0 w (fun j hj => by
    simp only [World.cell?, hg, Nat.add_zero]
    rw [Array.getElem?_eq_getElem (by omega)]; rfl) (fun j hj => by simp [World.frozen?, hg]) h1
  have b := run_storeCells_at Try.prog g o t cs 0 cur w hg (by simpa using hfit) h1
  rw [a] at b
  injection b with _ b
  simpa [splice] using b
theorem run_clear1 (w : World) (t e ty : TypeId) (z : Value) (k : Nat) (ht : Try.prog.underlying t = some (.slice e)) (hv : ∀ w, (zeroValue e).run Try.prog w = .ok z w) (hk : z.cells.size = k) (h1 : ∀ v ∈ z.cells.toList, v.oneCell' = true) (g o c : Nat) (cur : Array Value) (te : TypeId) (hg : w.heap[g]? = some (.cells cur te (0, 0))) (hfit : o + k ≤ cur.size) :
    (Builtin.clear_ #[t] ty #[.slice (some ⟨g, o, none⟩) 1 c]).run Try.prog w = .ok (.tuple #[]) (w.setRow g (splice cur.toList o z.cells.toList).toArray) := by
  have hzc : (Builtin.zeroCells z.cells 1).toList = z.cells.toList := by
    apply List.ext_getElem
    · simp [Builtin.zeroCells]
    · intro i h1 h2
      simp [Builtin.zeroCells]
      have h2' : i < z.cells.size := by simpa using h2
      rw [Nat.mod_eq_of_lt h2']
      simp [h2']
  have hst := run_storeCells_at Try.prog g o te z.cells.toList 0 cur w hg (by simp; omega) h1
  simp only [Nat.add_zero] at hst
  simp [Builtin.clear_, run_underlying ht, hv, hzc, hst, splice]
theorem zeroPageM : ∀ w, (zeroValue 43).run Try.prog w = .ok (.agg #[.int .i64 0, .string ⟨#[]⟩, .int .i64 0, .slice none 0 0]) w := fun w => by kernel_rfl
set_option maxHeartbeats 1600000 in
set_option maxRecDepth 100000 in
theorem delPageM_c (ys : List PageM) (A : Option Addr) (cap : Nat) (i n lo : Nat) (w : World) (ho : OutR encPM 4 43 lo (.slice A (n + 1) cap) ys w) (hln : ys.length = n + 1) (hi : i < n + 1) (hn : n ≤ 1048576) (hlo : lo ≤ w.heap.size) :
    Calls Try.prog 41 #[.slice A (n + 1) cap, .int .i64 i, .int .i64 ((i : Int) + 1)] w (RetGF A encPM 4 43 lo (ys.take i ++ ys.drop (i + 1)) w) := by
  rcases ho.2 with ⟨hA, h0⟩ | ⟨g, cap', cur, hA, hlg, hg, hnc, hcm, hcs, htk⟩
  · omega
  injection hA with hA hA2 hA3
  subst hA hA3
  have hgw : g < w.heap.size := (Array.getElem?_eq_some_iff.1 hg).1
  have hlz : (ys.take i ++ ys.drop (i + 1)).length = n := by simp; omega
  obtain ⟨PRE, hPRE⟩ : ∃ P, P = (ys.take i).flatMap encPM := ⟨_, rfl⟩
  obtain ⟨POST, hPOST⟩ : ∃ P, P = (ys.drop (i + 1)).flatMap encPM := ⟨_, rfl⟩
  obtain ⟨ONE, hONE⟩ : ∃ P, P = encPM (ys[i]'(by omega)) := ⟨_, rfl⟩
  have hpl : PRE.length = i * 4 := by rw [hPRE, flat_len encPM_len, List.length_take]; congr 1; omega
  have hql : POST.length = (n - i) * 4 := by rw [hPOST, flat_len encPM_len, List.length_drop]; congr 1; omega
  have hol : ONE.length = 4 := by rw [hONE]; rfl
  have hysp : ys = ys.take i ++ ([ys[i]'(by omega)] ++ ys.drop (i + 1)) := by
    rw [List.singleton_append, ← List.drop_eq_getElem_cons (by omega), List.take_append_drop]
  have hcut : cur.toList.take ((n + 1) * 4) = PRE ++ (ONE ++ POST) := by
    rw [← hln, htk, hPRE, hPOST, hONE]
    conv => lhs; rw [hysp]
    rw [List.flatMap_append, List.flatMap_append]
    simp
  have hcl : cur.toList.length = cap * 4 := by simpa using hcs
  have hpre : cur.toList.take PRE.length = PRE := by
    have := congrArg (List.take PRE.length) hcut
    rwa [List.take_take, Nat.min_eq_left (by rw [hpl]; omega), List.take_left' rfl] at this
  have h1p : ∀ v ∈ POST, v.oneCell' = true := by
    rw [hPOST]
    intro u hu
    obtain ⟨x, _, hx⟩ := List.mem_flatMap.1 hu
    exact onePM x u hx
  have hall : (ys.take i ++ ys.drop (i + 1)).flatMap encPM = PRE ++ POST := by rw [List.flatMap_append, hPRE, hPOST]
  have hpost : ∀ j v, POST[j]? = some v → cur[(i + 1) * 4 + j]? = some v := fun j v hj => by
    have hjl := (List.getElem?_eq_some_iff.1 hj).1
    have h2 : (cur.toList.take ((n + 1) * 4))[(i + 1) * 4 + j]? = some v := by
      rw [hcut, List.getElem?_append_right (by omega), List.getElem?_append_right (by omega), hpl, hol]
      rw [show (i + 1) * 4 + j - i * 4 - 4 = j by omega]; exact hj
    rw [List.getElem?_take] at h2
    split at h2
    · simpa using h2
    · cases h2
  have mixed : Try.prog.follows .mixedOrders = true := by kernel_rfl
  obtain ⟨i0, hi0x, hz0, hzs, hzb⟩ := info_parts infoPage
  obtain ⟨ROW1, hR1⟩ : ∃ R : Array Value, R = (splice cur.toList (i * 4) POST).toArray := ⟨_, rfl⟩
  obtain ⟨ROW2, hR2⟩ : ∃ R : Array Value, R = (splice ROW1.toList (n * 4) (Value.cells (.agg #[.int .i64 0, .string ⟨#[]⟩, .int .i64 0, .slice none 0 0])).toList).toArray := ⟨_, rfl⟩
  have hl1 : ROW1.size = cap * 4 := by rw [hR1, List.size_toArray, splice_len (by omega), hcl]
  have hl1' : ROW1.toList.length = cap * 4 := by simpa using hl1
  have hl2 : ROW2.size = cap * 4 := by rw [hR2, List.size_toArray, splice_len (by simp [Value.cells]; omega), hl1']
  have hrow : ROW2.toList.take (n * 4) = PRE ++ POST := by
    rw [hR2]
    simp only []
    rw [splice_take_lo (Nat.le_refl _) (by omega), hR1]
    simp only []
    have := splice_take_hi (L := cur.toList) (cs := POST) (o := i * 4) (by omega)
    rw [show i * 4 + POST.length = n * 4 by rw [hql]; omega, ← hpl, hpre] at this
    rw [← hpl]; exact this
  have hgd : w.drew.heap[g]? = some (.cells cur 43 (0, 0)) := hg
  have hset : w.drew.setCells g (i * 4) POST = w.drew.setRow g ROW1 := by rw [hR1]; exact setCells_row w.drew g (i * 4) cur _ POST hgd (by omega) h1p
  have hg1 := setRow_heap w.drew g cur ROW1 43 (0, 0) hgd
  have hF1 := fr_setRow (Fr.of_below (Below.refl w.heap.size w).drew : Fr g (g + 1) w w.drew) (Nat.le_refl _) (Nat.lt_succ_self _) ROW1
  have hsrc : ∀ j u, POST[j]? = some u → w.drew.cell? ((⟨g, (i + 1) * 4, none⟩ : Addr).add j) = some u := fun j u hj => by
    rw [Addr.add_lit]; simp [World.cell?, hgd]; exact hpost j u hj
  have hspare : ∀ j, j < POST.length → (w.drew.cell? ⟨g, 0 + i * 4 + j, none⟩).isSome = true ∧ w.drew.frozen? ⟨g, 0 + i * 4 + j, none⟩ = false := fun j hj => by
    refine ⟨?_, by simp [World.frozen?, hgd]⟩
    simp only [World.cell?, hgd]
    rw [Array.getElem?_eq_getElem (by omega)]; rfl
  have hclr : ∀ ty c, (Builtin.clear_ #[24] ty #[.slice (some ⟨g, n * 4, none⟩) 1 c]).run Try.prog (w.drew.setRow g ROW1) = .ok (.tuple #[]) ((w.drew.setRow g ROW1).setRow g ROW2) := fun ty c => by
    rw [hR2]
    exact run_clear1 _ _ 43 ty (.agg #[.int .i64 0, .string ⟨#[]⟩, .int .i64 0, .slice none 0 0]) 4 Try.underlying24 zeroPageM rfl (by decide) g (n * 4) c ROW1 _ hg1 (by omega)
  have hg2 := setRow_heap (w.drew.setRow g ROW1) g ROW1 ROW2 43 (0, 0) hg1
  have hF2 := fr_setRow hF1 (Nat.le_refl _) (Nat.lt_succ_self _) ROW2
  have HX := Lib.hid (And.intro (row_to (k := 4) (base := lo) (n := (ys.take i ++ ys.drop (i + 1)).length) encPM_len rfl hlg (by omega) hcm hg2 hl2 (by rw [hlz, hrow, hall])) hF2)
  have HLZ := Lib.hid hlz
  have HS := Lib.hid hset
  have hne : ((i : Int) == (i : Int) + 1) = false := by simp; omega
  have a1 : (0 : Int) ≤ (i : Int) := by omega
  have a2 : (i : Int) ≤ (i : Int) + 1 := by omega
  have a3 : (i : Int) + 1 ≤ (n : Int) + 1 := by omega
  have a4 : (n : Int) + 1 ≤ (cap : Int) := by omega
  have a5 : i + (n - i) = n := by omega
  clear hrow hall hpost hcut hpre hR1 hR2 hPRE hPOST hONE hg2 hg1 hl1 hl1' hl2 hF1 hF2 htk hcl hpl hol hlz ho hg hset hysp hgd hA2
  have a6 : i ≤ cap := by omega
  have a8 : (0 : Int) ≤ (i : Int) + 1 := by omega
  have a7 : i + 1 ≤ cap := by omega
  by_cases hce : cap = i + 1
  · obtain rfl : n = i := by omega
    subst hce
    rw [Nat.sub_self] at hql
    have hsrc0 : ∀ j u, POST[j]? = some u → w.drew.cell? ((⟨g, 0, none⟩ : Addr).add j) = some u := fun j u hj => by
      have := (List.getElem?_eq_some_iff.1 hj).1
      omega
    go_enter Try.func41, Try.ntmps41
    go_wp2_with fail
    go_region_law_o (refine step_append_room rfl (.tmp 22) (.tmp 25) 24 rfl 43 i0 4 Try.underlying24 hi0x hzs g 0 n (n + 1) (by simp [Act.eval, Act.put]) ⟨g, 0, none⟩ 0 0 POST (by simp [Act.eval, Act.put]) hql hsrc0 h1p (by omega) hspare ?_)
    rw [HS.out]
    go_wp2_with fail
    go_returns
    exact ⟨g, n + 1, rfl, ret_sl (by have := HLZ.out; omega), HX.out.1, HX.out.2⟩
  · go_enter Try.func41, Try.ntmps41
    go_wp2_with fail
    go_region_law_o (refine step_append_room rfl (.tmp 22) (.tmp 25) 24 rfl 43 i0 4 Try.underlying24 hi0x hzs g 0 i cap (by simp [Act.eval, Act.put]) ⟨g, (i + 1) * 4, none⟩ (n - i) (cap - (i + 1)) POST (by simp [Act.eval, Act.put]) hql hsrc h1p (by omega) hspare ?_)
    rw [HS.out]
    go_wp2_with fail
    go_returns
    exact ⟨g, cap, rfl, ret_sl HLZ.out.symm, HX.out.1, HX.out.2⟩
end Go.Proofs.Ythhdajmnidjhjaa
