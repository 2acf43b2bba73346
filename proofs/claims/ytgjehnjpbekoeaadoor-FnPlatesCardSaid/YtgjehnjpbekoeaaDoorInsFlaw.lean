/- Contracts of slices.Clone and slices.Insert at records of the type Flaw. No condition but the sizes. -/
import Derived.Test.YtgjehnjpbekoeaaDoorCvFlaw
import Derived.Test.YtgjehnjpbekoeaaDoorCopyK
import Derived.Shelf.Spec.SlicesInsert
import Derived.Lib.AppendZerosOnto
namespace Go.Proofs.YtgjehnjpbekoeaaDoor
set_option linter.unusedVariables false
set_option linter.unusedSimpArgs false
open Go.RowKit
attribute [local irreducible] wpQuiet
theorem oneFlaw_ (x : Flaw) : ∀ u ∈ encFlaw x, u.oneCell' = true := by
  intro u hu
  simp [encFlaw] at hu
  rcases hu with rfl | rfl | rfl | rfl <;> rfl
theorem oneLFlaw_ (xs : List Flaw) : ∀ u ∈ xs.flatMap encFlaw, u.oneCell' = true := by
  intro u hu
  obtain ⟨x, _, hx⟩ := List.mem_flatMap.1 hu
  exact oneFlaw_ x u hx
theorem cloneFlaw_c (xs : List Flaw) (A : Option Addr) (c : Nat) (w : World) (hr : Rd encFlaw 4 w.heap.size w A xs) (hn : xs.length ≤ 1048576) :
    Calls Tryd.prog 54 #[.slice A xs.length c] w (RetG encFlaw 4 43 w.heap.size xs w) := by
  rcases A with _ | a
  · have hz : xs = [] := by
      cases xs with
      | nil => rfl
      | cons z zs => obtain ⟨b, off, hA, _⟩ := hr (by simp); cases hA
    subst hz
    have q := fun (w : World) (n' c' : Nat) => Lib.run_eql_slice_nil (P := Tryd.prog) w 24 _ none 0 c n' c' Tryd.underlying24
    go_enter Tryd.func54, Tryd.ntmps54
    go_wp2_with fail
    go_returns
    exact ⟨none, 0, rfl, OutR.nil _, Below.refl _ _⟩
  · have q := fun (w : World) (n' c' : Nat) => Lib.run_eql_slice_nil (P := Tryd.prog) w 24 _ (some a) xs.length c n' c' Tryd.underlying24
    go_enter Tryd.func54, Tryd.ntmps54
    go_wp2_with (at_builtin; refine wpList_app rfl (.tmp 5) (.tmp 6) _ rfl 43 (.agg #[.int .i64 0, .int .i64 0, .int .i64 0, .int .i64 0]) 4 32 Tryd.underlying24 infoFlaw rfl (by decide) encFlaw_len oneFlaw_ (base := w.heap.size) (m := xs.length) (ys := []) (zs := xs) rfl rfl rfl (OutR.empty w (Nat.le_refl _)) (hr.go ((Below.refl _ _).alloc (Nat.le_refl _) _)) (by simp; omega) (by simp; omega) (by simp) ?_; intro v1 w1 ho1 hb1)
    rw [List.nil_append] at ho1
    have hb1 := ((Below.refl w.heap.size w).alloc (Nat.le_refl _) (.cells #[] 43)).trans hb1
    obtain ⟨A', c', rfl, _⟩ := ho1.own encFlaw_len
    go_returns
    exact ⟨A', c', rfl, ho1, hb1⟩
theorem fits_insFlaw (n : Nat) (cap : Nat) (h : cap < n + 1) (hb : (n + 1) * 32 ≤ 140737488355328) : Builtin.nextslicecap (n + 1) cap * 32 ≤ 281474976710656 := growslice_fits h hb
set_option maxHeartbeats 4000000 in
set_option maxRecDepth 100000 in
theorem insFlaw_c (ys : List Flaw) (A : Option Addr) (cap : Nat) (x : Flaw) (i vb lo : Nat) (w : World) (ho : OutR encFlaw 4 43 lo (.slice A ys.length cap) ys w) (hi : i ≤ ys.length) (hv : w.heap[vb]? = some (.cells (encFlaw x).toArray 43 (0, 0))) (hne : ∀ g, (Value.slice A ys.length cap).ownBlock = some g → g ≠ vb) (hn : ys.length ≤ 1048576) (hlo : lo ≤ w.heap.size) :
    Calls Tryd.prog 53 #[.slice A ys.length cap, .int .i64 i, .slice (some ⟨vb, 0, none⟩) 1 1] w (RetG encFlaw 4 43 lo (ys.take i ++ [x] ++ ys.drop i) w) := by
  have hlz : (ys.take i ++ [x] ++ ys.drop i).length = ys.length + 1 := by simp; omega
  have hvw : vb < w.heap.size := (Array.getElem?_eq_some_iff.1 hv).1
  have hrx : Rd encFlaw 4 w.heap.size w (some ⟨vb, 0, none⟩) [x] := fun _ => ⟨vb, 0, rfl, hvw, fun j y hy q v hq => by
    have h0 : j = 0 := by have := (List.getElem?_eq_some_iff.1 hy).1; simp at this; omega
    subst h0
    obtain rfl : y = x := by simpa using hy.symm
    simpa [World.cell?, hv] using hq⟩
  by_cases hin : i = ys.length
  · subst hin
    have he : ys.take ys.length ++ [x] ++ ys.drop ys.length = ys ++ [x] := by rw [List.take_of_length_le (Nat.le_refl _), List.drop_of_length_le (Nat.le_refl _), List.append_nil]
    rw [he]
    have hz1 : ¬ (ys.length : Int) < 0 := by omega
    have key : Calls Tryd.prog 53 #[.slice A ys.length cap, .int .i64 ys.length, .slice (some ⟨vb, 0, none⟩) 1 1] w (RetG encFlaw 4 43 lo (ys ++ [x]) w) := by
      have hcap : ys.length ≤ cap := by
        rcases ho.2 with ⟨hA, h0⟩ | ⟨g, cap', cur, hA, hlg, hg, hnc, hcm, hcs, htk⟩
        · rw [h0]; exact Nat.zero_le _
        · injection hA with _ _ hA; subst hA; exact hnc
      rcases ho.2 with ⟨hA, h0⟩ | ⟨g, cap', cur, hA, hlg, hg, hnc, hcm, hcs, htk⟩
      · injection hA with hA hA2 hA3
        subst hA hA3
        have hy0 : ys = [] := List.eq_nil_of_length_eq_zero h0
        subst hy0
        go_enter Tryd.func53, Tryd.ntmps53
        go_wp2_with (at_builtin; refine wpList_app rfl (.tmp 23) (.tmp 24) _ rfl 43 (.agg #[.int .i64 0, .int .i64 0, .int .i64 0, .int .i64 0]) 4 32 Tryd.underlying24 infoFlaw rfl (by decide) encFlaw_len oneFlaw_ (base := lo) (m := 1) (ys := []) (zs := [x]) rfl rfl rfl ho hrx (by simp) (by simp) hlo ?_; intro v1 w1 ho1 hb1)
        obtain ⟨A', c', rfl, _⟩ := ho1.own encFlaw_len
        rw [List.nil_append] at *
        go_returns
        exact ⟨A', c', rfl, ho1, hb1⟩
      · injection hA with hA hA2 hA3
        subst hA hA3
        have HCUR := Lib.hid htk
        clear htk
        go_enter Tryd.func53, Tryd.ntmps53
        go_wp2_with (at_builtin; refine wpList_app rfl (.tmp 23) (.tmp 24) _ rfl 43 (.agg #[.int .i64 0, .int .i64 0, .int .i64 0, .int .i64 0]) 4 32 Tryd.underlying24 infoFlaw rfl (by decide) encFlaw_len oneFlaw_ (base := lo) (m := 1) (ys := ys) (zs := [x]) rfl rfl rfl ho hrx (by omega) (by omega) hlo ?_; intro v1 w1 ho1 hb1)
        all_goals
          obtain ⟨A', c', rfl, _⟩ := ho1.own encFlaw_len
          go_returns
          exact ⟨A', c', rfl, ho1, hb1⟩
    exact key
  · have hlt : i < ys.length := by omega
    rcases ho.2 with ⟨hA, h0⟩ | ⟨g, cap', cur, hA, hlg, hg, hnc, hcm, hcs, htk⟩
    · omega
    injection hA with hA hA2 hA3
    subst hA hA3
    have hgv : vb ≠ g := fun e => hne g rfl e.symm
    have hgw : g < w.heap.size := (Array.getElem?_eq_some_iff.1 hg).1
    -- the three pieces of cells
    obtain ⟨PRE, hPRE⟩ : ∃ P, P = (ys.take i).flatMap encFlaw := ⟨_, rfl⟩
    obtain ⟨POST, hPOST⟩ : ∃ P, P = (ys.drop i).flatMap encFlaw := ⟨_, rfl⟩
    obtain ⟨ONE, hONE⟩ : ∃ P, P = encFlaw x := ⟨_, rfl⟩
    have hpl : PRE.length = i * 4 := by rw [hPRE, flat_len encFlaw_len, List.length_take]; congr 1; omega
    have hql : POST.length = (ys.length - i) * 4 := by rw [hPOST, flat_len encFlaw_len, List.length_drop]
    have hol : ONE.length = 4 := by rw [hONE]; rfl
    have hcut : cur.toList.take (ys.length * 4) = PRE ++ POST := by rw [htk, hPRE, hPOST, ← List.flatMap_append, List.take_append_drop]
    have hnl : ys.length * 4 = PRE.length + POST.length := by rw [hpl, hql]; omega
    have hcl : cur.toList.length = cap * 4 := by simpa using hcs
    have hpre : cur.toList.take PRE.length = PRE := by
      have := congrArg (List.take PRE.length) hcut
      rwa [List.take_take, Nat.min_eq_left (by omega), List.take_left' rfl] at this
    have h1p : ∀ v ∈ POST, v.oneCell' = true := by rw [hPOST]; exact oneLFlaw_ _
    have h1o : ∀ v ∈ ONE, v.oneCell' = true := by rw [hONE]; exact oneFlaw_ _
    have hall : (ys.take i ++ [x] ++ ys.drop i).flatMap encFlaw = PRE ++ ONE ++ POST := by rw [List.flatMap_append, List.flatMap_append, hPRE, hPOST, hONE]; simp
    have hpost : ∀ j v, POST[j]? = some v → cur[i * 4 + j]? = some v := fun j v hj => by
      have hjl := (List.getElem?_eq_some_iff.1 hj).1
      have h2 : (cur.toList.take (ys.length * 4))[i * 4 + j]? = some v := by rw [hcut, List.getElem?_append_right (by omega), hpl]; rw [show i * 4 + j - i * 4 = j by omega]; exact hj
      rw [List.getElem?_take] at h2
      split at h2
      · simpa using h2
      · cases h2
    have hone : ∀ j v, ONE[j]? = some v → w.cell? ⟨vb, 0 + j, none⟩ = some v := fun j v hj => by
      rw [hONE] at hj
      simpa [World.cell?, hv] using hj
    have hall2 : PRE.length + ONE.length + POST.length = (ys.length + 1) * 4 := by rw [hpl, hql, hol]; omega
    have hz1 : ¬ ((i : Int) = (ys.length : Int)) := by omega
    have hsz : (Tryd.prog.info? 43).map (·.size) = some 4 := by
      obtain ⟨i0, hi0, _, hz, _⟩ := info_parts infoFlaw
      rw [hi0]; simp [hz]
    have hi0 : (0 : Int) ≤ (i : Int) := by omega
    have hin' : (i : Int) ≤ (ys.length : Int) := by omega
    by_cases hroom : ys.length + 1 ≤ cap
    · -- there is room
      have hgt : ¬ ((cap : Int) < (ys.length : Int) + 1) := by omega
      have hshg : w.shape? g = some (43, cap * 4) := by simp [World.shape?, hg, hcs]
      have hshv : w.shape? vb = some (43, 4) := by simp [World.shape?, hv]; rfl
      have hfv : ∀ o, w.frozen? ⟨vb, o, none⟩ = false := fun o => by simp [World.frozen?, hv]
      have hov : ∀ lb cb, (callFunc 69 #[.slice (some ⟨vb, 0, none⟩) 1 1, .slice (some ⟨g, (i + 1) * 4, none⟩) lb cb]).run Tryd.prog w = .ok (.value (.bool false)) w := fun lb cb => by
        rw [run_callFunc_extern Tryd.func69 (by kernel_rfl) (by kernel_rfl) (by kernel_rfl) (e := Extern.SlicesOverlaps.overlaps #[24, 24] #[4]) (by kernel_rfl),
          Lib.run_overlaps_apart w 24 4 43 Tryd.underlying24 4 (fun w => by
            obtain ⟨i0, hi0, _, hz, _⟩ := info_parts infoFlaw
            simp [sizeOf, typeInfo, hi0, hz]) ⟨vb, 0, none⟩ ⟨g, (i + 1) * 4, none⟩ 1 1 lb cb hgv 43 43 4 (cap * 4) hshv hshg (by omega) (hfv _) (hfv _)]
        rfl
      have hw1 : IntKind.i64.wrap ((i : Int) + 1) = (i : Int) + 1 := by rw [IntKind.wrap_i64]; omega
      have hb1 : (0 : Int) ≤ (i : Int) + 1 := by omega
      have htn : ((i : Int) + 1).toNat = i + 1 := by omega
      have hb2 : ¬ (cap = i + 1) := by omega
      have hb3 : (i : Int) ≤ (ys.length : Int) + 1 := by omega
      have hb4 : ¬ (cap = i) := by omega
      obtain ⟨ROW1, hR1⟩ : ∃ R : Array Value, R = (splice cur.toList ((i + 1) * 4) POST).toArray := ⟨_, rfl⟩
      obtain ⟨ROW2, hR2⟩ : ∃ R : Array Value, R = (splice ROW1.toList (i * 4) ONE).toArray := ⟨_, rfl⟩
      have hl1 : ROW1.size = cap * 4 := by rw [hR1, List.size_toArray, splice_len (by omega), hcl]
      have hl1' : ROW1.toList.length = cap * 4 := by simpa using hl1
      have hl2 : ROW2.size = cap * 4 := by rw [hR2, List.size_toArray, splice_len (by omega), hl1']
      have mixed : Tryd.prog.follows .mixedOrders = true := by kernel_rfl
      have hrow : ROW2.toList.take ((ys.length + 1) * 4) = PRE ++ ONE ++ POST := by
        have := splice_ins (L := cur.toList) (one := ONE) (post := POST) hpre (by omega)
        rw [hpl, hol] at this
        rw [hR2, hR1]
        simp only []
        rw [show (i + 1) * 4 = i * 4 + 4 by omega, show (ys.length + 1) * 4 = i * 4 + 4 + POST.length by omega]
        exact this
      have hgd : w.drew.heap[g]? = some (.cells cur 43 (0, 0)) := hg
      have hcp1 : ∀ ty dc sc, (Builtin.copy_ #[24, 24] ty #[.slice (some ⟨g, (i + 1) * 4, none⟩) (ys.length - i) dc, .slice (some ⟨g, i * 4, none⟩) (ys.length + 1 - i) sc]).run Tryd.prog w.drew = .ok (goInt ((ys.length - i : Nat) : Int)) (w.drew.setRow g ROW1) := fun ty dc sc => by
        rw [hR1]
        exact run_copy_rowK w.drew _ _ ty 43 4 g ((i + 1) * 4) (ys.length - i) dc ⟨g, i * 4, none⟩ (ys.length + 1 - i) sc cur 43 POST Tryd.underlying24 hsz hgd (ys.length - i) (by simp only [Nat.min_def]; split <;> omega) hql
          (fun j v hj => by rw [Addr.add_lit]; simp [World.cell?, hgd]; exact hpost j v hj) (by rw [hql, ← Array.length_toList, hcl]; omega) h1p
      have hg1 := setRow_heap w.drew g cur ROW1 43 (0, 0) hgd
      have hv1 : (w.drew.setRow g ROW1).heap[vb]? = some (.cells (encFlaw x).toArray 43 (0, 0)) := (setRow_other w.drew g vb ROW1 hgv).trans hv
      have hF1 := fr_setRow (Fr.of_below (Below.refl w.heap.size w).drew : Fr g (g + 1) w w.drew) (Nat.le_refl _) (Nat.lt_succ_self _) ROW1
      generalize w.drew.setRow g ROW1 = W1 at *
      have hcp2 : ∀ ty dc, (Builtin.copy_ #[24, 24] ty #[.slice (some ⟨g, i * 4, none⟩) (ys.length + 1 - i) dc, .slice (some ⟨vb, 0, none⟩) 1 1]).run Tryd.prog W1 = .ok (goInt 1) (W1.setRow g ROW2) := fun ty dc => by
        rw [hR2]
        exact run_copy_rowK W1 _ _ ty 43 4 g (i * 4) (ys.length + 1 - i) dc ⟨vb, 0, none⟩ 1 1 ROW1 43 ONE Tryd.underlying24 hsz hg1 1 (by simp only [Nat.min_def]; split <;> omega) (by omega)
          (fun j v hj => by rw [Addr.add_lit]; rw [hONE] at hj; simp [World.cell?, hv1]; simpa using hj) (by omega) h1o
      have hg2 := setRow_heap W1 g ROW1 ROW2 43 (0, 0) hg1
      have hF2 := fr_setRow hF1 (Nat.le_refl _) (Nat.lt_succ_self _) ROW2
      generalize W1.setRow g ROW2 = W2 at *
      have HX := Lib.hid (And.intro (row_to (k := 4) (base := lo) encFlaw_len rfl hlg (by rw [hlz]; exact hroom) hcm hg2 hl2 (by rw [hlz, hrow, hall])) (hF2.below hlg hlo))
      have HLZ := Lib.hid hlz
      clear hrow hall hpost hone hcut hnl hpre h1p h1o hR1 hR2 hPRE hPOST hONE hg2 hg1 hl1 hl1' hl2 hF1 hF2 htk hcl hpl hql hol hall2 hv1 hlz ho hrx hg hgd
      go_enter Tryd.func53, Tryd.ntmps53
      go_wp2_with (simp only [hov])
      go_region_law_o (refine step_copy_runI rfl _ _ 24 24 rfl _ _ (by simp [Act.eval, Act.put]) (by simp [Act.eval, Act.put]) (hcp1 _ _ _) ?_)
      go_wp2_with (at_builtin; refine wpList_copy_runI _ rfl _ _ 24 24 rfl _ _ rfl rfl (hcp2 _ _) ?_)
      go_returns
      exact ⟨some ⟨g, 0, none⟩, cap, ret_sl HLZ.out.symm, HX.out.1, HX.out.2⟩
    · -- a new row
      have hgt : (cap : Int) < (ys.length : Int) + 1 := by omega
      have hcn : cap < ys.length + 1 := by omega
      obtain ⟨i0, hi0x, hz0, hzs, hzb⟩ := info_parts infoFlaw
      have hw1 : IntKind.i64.wrap ((i : Int) + 1) = (i : Int) + 1 := by rw [IntKind.wrap_i64]; omega
      have hb1 : (0 : Int) ≤ (i : Int) + 1 := by omega
      have htn : ((i : Int) + 1).toNat = i + 1 := by omega
      have hkk : (ys.length : Int) + 1 - (i : Int) = ((ys.length + 1 - i : Nat) : Int) := by omega
      have hik : i + (ys.length + 1 - i) = ys.length + 1 := by omega
      have hb3 : (i : Int) ≤ (ys.length : Int) + 1 := by omega
      have hb4 : ¬ (cap = i) := by omega
      have hb5 : (i : Int) ≤ (cap : Int) := by omega
      have mixed : Tryd.prog.follows .mixedOrders = true := by kernel_rfl
      have hprec : ∀ j v, PRE[j]? = some v → cur[j]? = some v := fun j v hj => by
        rw [← hpre] at hj
        rw [List.getElem?_take] at hj
        split at hj
        · simpa using hj
        · cases hj
      have hold : (Builtin.firstCells i0.size i (.slice (some ⟨g, 0, none⟩) i cap)).run Tryd.prog w.drew = .ok PRE.toArray w.drew := by
        rw [hzs]
        exact run_firstCells_some w.drew 4 i ⟨g, 0, none⟩ i cap PRE hpl (fun j v hj => by
          rw [Addr.add_lit, Nat.zero_add]
          simp [World.cell?, show w.drew.heap[g]? = some (.cells cur 43 (0, 0)) from hg]
          exact hprec j v hj)
      obtain ⟨G, hG⟩ : ∃ G, G = grownCap w (ys.length + 1) cap 43 := ⟨_, rfl⟩
      have hGn : ys.length + 1 ≤ G := by rw [hG]; exact grownCap_ge w _ _ _
      have hGm : G ≤ maxLen := by rw [hG]; exact grownCap_le_maxLen w _ _ _ (by unfold maxLen; omega)
      have hG63 : G ≤ 9223372036854775807 := by unfold maxLen at hGm; omega
      obtain ⟨ROW, hROW⟩ : ∃ ROW : Array Value, ROW = PRE.toArray ++ Builtin.zeroCells (Value.cells (.agg #[.int .i64 0, .int .i64 0, .int .i64 0, .int .i64 0])) (ys.length + 1 - i) ++ Builtin.zeroCells (Value.cells (.agg #[.int .i64 0, .int .i64 0, .int .i64 0, .int .i64 0])) (G - (ys.length + 1)) := ⟨_, rfl⟩
      have hRl : ROW.size = G * 4 := by
        have e1 : ∀ n, (Builtin.zeroCells (Value.cells (.agg #[.int .i64 0, .int .i64 0, .int .i64 0, .int .i64 0])) n).size = n * 4 := fun n => by rw [size_zeroCells]; rfl
        rw [hROW, Array.size_append, Array.size_append, e1, e1, List.size_toArray, hpl]; omega
      have hRp : ROW.toList.take (i * 4) = PRE := by
        rw [hROW, Array.toList_append, Array.toList_append, List.append_assoc]
        exact List.take_left' hpl
      have hrz : ∀ ty, (Builtin.append_ #[24, 3] ty #[.slice (some ⟨g, 0, none⟩) i cap, .int .i64 ((ys.length : Int) + 1 - (i : Int))]).run Tryd.prog w =
          .ok (.slice (some ⟨w.heap.size, 0, none⟩) (ys.length + 1) G) (w.drew.alloc (.cells ROW 43)) := fun ty => by
        have h := Lib.run_append_grow_zeros w 24 3 ty 43 i0 _ .i64 .i64 Tryd.underlying24 Tryd.underlying3 hi0x hz0 (some ⟨g, 0, none⟩) i cap PRE hold (ys.length + 1 - i) (by omega) (by rw [hzs]; decide) (by omega) (by omega) (by rw [hzb]; omega) (by rw [hzb, hik]; exact growslice_fits hcn (by omega))
        rw [hik, ← hG, ← hROW] at h
        rw [hkk]
        exact h
      have hsm : w.drew.heap.size = w.heap.size := rfl
      have hW1 : (w.drew.alloc (.cells ROW 43)).heap[w.heap.size]? = some (.cells ROW 43 (0, 0)) := heap_alloc_new w.drew _
      have hB1 : Below w.heap.size w (w.drew.alloc (.cells ROW 43)) := (Below.refl w.heap.size w).drew.alloc (Nat.le_refl _) _
      have hg1 := (hB1.block g hgw).trans hg
      have hv1 := (hB1.block vb hvw).trans hv
      have hgN : g ≠ w.heap.size := by omega
      have hvN : vb ≠ w.heap.size := by omega
      obtain ⟨ROW1, hR1⟩ : ∃ R : Array Value, R = (splice ROW.toList (i * 4) ONE).toArray := ⟨_, rfl⟩
      obtain ⟨ROW2, hR2⟩ : ∃ R : Array Value, R = (splice ROW1.toList ((i + 1) * 4) POST).toArray := ⟨_, rfl⟩
      have hRl' : ROW.toList.length = G * 4 := by simpa using hRl
      have hl1 : ROW1.size = G * 4 := by rw [hR1, List.size_toArray, splice_len (by omega), hRl']
      have hl1' : ROW1.toList.length = G * 4 := by simpa using hl1
      have hl2 : ROW2.size = G * 4 := by rw [hR2, List.size_toArray, splice_len (by omega), hl1']
      have hrow : ROW2.toList.take ((ys.length + 1) * 4) = PRE ++ ONE ++ POST := by
        have := splice_grow (L := ROW.toList) (pre := PRE) (one := ONE) (post := POST) (by rw [hpl]; exact hRp) (by omega)
        rw [hpl, hol] at this
        rw [hR2, hR1]
        simp only []
        rw [show (i + 1) * 4 = i * 4 + 4 by omega, show (ys.length + 1) * 4 = i * 4 + 4 + POST.length by omega]
        exact this
      have hGi : ¬ (G = i) := by omega
      have hGim : ¬ (G = i + 1) := by omega
      have hGi2 : (i : Int) ≤ (ys.length : Int) + 1 := by omega
      generalize w.drew.alloc (.cells ROW 43) = W1 at *
      obtain ⟨N, hN⟩ : ∃ N, w.heap.size = N := ⟨_, rfl⟩
      rw [hN] at hW1 hB1 hgN hvN hlo hgw hvw
      simp only [hN] at hrz
      clear hN hsm
      have hcpA : ∀ ty dc, (Builtin.copy_ #[24, 24] ty #[.slice (some ⟨N, i * 4, none⟩) (ys.length + 1 - i) dc, .slice (some ⟨vb, 0, none⟩) 1 1]).run Tryd.prog W1 = .ok (goInt 1) (W1.setRow N ROW1) := fun ty dc => by
        rw [hR1]
        exact run_copy_rowK W1 _ _ ty 43 4 N (i * 4) (ys.length + 1 - i) dc ⟨vb, 0, none⟩ 1 1 ROW 43 ONE Tryd.underlying24 hsz hW1 1 (by simp only [Nat.min_def]; split <;> omega) (by omega)
          (fun j v hj => by rw [Addr.add_lit]; rw [hONE] at hj; simp [World.cell?, hv1]; simpa using hj) (by omega) h1o
      have hW2 := setRow_heap W1 N ROW ROW1 43 (0, 0) hW1
      have hg2 := (setRow_other W1 N g ROW1 hgN).trans hg1
      have hB2 : Below N w (W1.setRow N ROW1) := below_setRow hB1 (Nat.le_refl _) ROW1
      generalize W1.setRow N ROW1 = W2 at *
      have hW2d : W2.drew.heap[N]? = some (.cells ROW1 43 (0, 0)) := hW2
      have hg2d : W2.drew.heap[g]? = some (.cells cur 43 (0, 0)) := hg2
      have hcpB : ∀ ty dc sc, (Builtin.copy_ #[24, 24] ty #[.slice (some ⟨N, (i + 1) * 4, none⟩) (ys.length - i) dc, .slice (some ⟨g, i * 4, none⟩) (ys.length - i) sc]).run Tryd.prog W2.drew = .ok (goInt ((ys.length - i : Nat) : Int)) (W2.drew.setRow N ROW2) := fun ty dc sc => by
        rw [hR2]
        exact run_copy_rowK W2.drew _ _ ty 43 4 N ((i + 1) * 4) (ys.length - i) dc ⟨g, i * 4, none⟩ (ys.length - i) sc ROW1 43 POST Tryd.underlying24 hsz hW2d (ys.length - i) (by simp only [Nat.min_def]; split <;> omega) hql
          (fun j v hj => by rw [Addr.add_lit]; simp [World.cell?, hg2d]; exact hpost j v hj) (by omega) h1p
      have hW3 := setRow_heap W2.drew N ROW1 ROW2 43 (0, 0) hW2d
      have hB3 : Below N w (W2.drew.setRow N ROW2) := below_setRow hB2.drew (Nat.le_refl _) ROW2
      generalize W2.drew.setRow N ROW2 = W3 at *
      have HX := Lib.hid (And.intro (row_to (k := 4) (base := lo) encFlaw_len rfl hlo (by rw [hlz]; exact hGn) hGm hW3 hl2 (by rw [hlz, hrow, hall])) (hB3.mono hlo))
      have HLZ := Lib.hid hlz
      clear hrow hall hpost hone hcut hnl hpre h1p h1o hR1 hR2 hPRE hPOST hONE hg1 hg2 hg2d hW1 hW2 hW2d hW3 hl1 hl1' hl2 hB1 hB2 hB3 htk hcl hpl hql hol hall2 hv1 hlz ho hrx hg hv hRl hRl' hRp hROW hold hprec hi0x hz0 hzs hzb hG hkk hik
      go_enter Tryd.func53, Tryd.ntmps53
      go_wp2_with (at_builtin; first | (refine Lib.wpList_append_run _ rfl (.tmp 34) (.tmp 39) 24 3 rfl _ _ rfl rfl _ _ (hrz _) ?_) | (refine wpList_copy_runI _ rfl _ _ 24 24 rfl _ _ rfl rfl (hcpA _ _) ?_))
      go_region_law_o (refine step_copy_runI rfl _ _ 24 24 rfl _ _ (by simp [Act.eval, Act.put]) (by simp [Act.eval, Act.put]) (hcpB _ _ _) ?_)
      go_wp2_with fail
      go_returns
      exact ⟨some ⟨N, 0, none⟩, G, ret_sl HLZ.out.symm, HX.out.1, HX.out.2⟩
end Go.Proofs.YtgjehnjpbekoeaaDoor
