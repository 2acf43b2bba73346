/- The copies of an album that the program and the reference make. No condition but the sizes. -/
import Derived.Test.YtehoocnhooemoaaAlCpy
import Derived.Test.YtehoocnhooemoaaAlPlain
import Derived.Ground.NamesProg
import Derived.Ground.Names2Prog
import Derived.Shelf.Slices.Clone
namespace Go.Proofs.Ytehoocnhooemoaa
set_option linter.unusedVariables false
set_option linter.unusedSimpArgs false
open Go.RowKit Go.Shelf
attribute [local irreducible] wpQuiet
def laysClone_ren : Go.Shelf.Ren := ⟨fun | 15 => 58 | n => n, fun | 22 => 31 | 3 => 3 | 4 => 4 | n => n, fun | n => n⟩
theorem laysClone : Go.Proofs.Lays2.n15 Try.prog laysClone_ren := {
  mixed := by kernel_rfl
  f15 := Try.func58.trans (congrArg some (by kernel_rfl))
  t3 := Try.underlying3
  a3 := Try.isAgg3
  z3 := Try.sizeOf3
  v3 := Try.zeroValue3
  t4 := Try.underlying4
  a4 := Try.isAgg4
  z4 := Try.sizeOf4
  v4 := Try.zeroValue4
  t22 := Try.underlying31
  a22 := Try.isAgg31
  z22 := Try.sizeOf31
  v22 := Try.zeroValue31
  i3 := by kernel_rfl }
/-- The call returns a slice of numbers of its own that may grow. -/
def RetO (zs : List Int) (w : World) (e : Ending) (w' : World) : Prop := ∃ A' c', e = .returned (.slice A' zs.length c') ∧ Below w.heap.size w w' ∧ Out (Value.int .i64) 3 w.heap.size (.slice A' zs.length c') zs w'
theorem clone_c (zs : List Int) (A : Option Addr) (c : Nat) (w : World) (hr : Rd encI 1 w.heap.size w A zs) (hn : zs.length ≤ 2097152) :
    Calls Try.prog 58 #[.slice A zs.length c] w (RetO zs w) := by
  rcases A with _ | a
  · have hz : zs = [] := by
      cases zs with
      | nil => rfl
      | cons z zs => obtain ⟨b, off, hA, _⟩ := hr (by simp); cases hA
    subst hz
    refine (Any.slices_Clone_int_nil laysClone 0 c w).mono ?_
    rintro _ _ ⟨rfl, rfl⟩
    exact ⟨none, 0, rfl, Below.refl _ _, Out.nil _⟩
  · by_cases hz : zs = []
    · subst hz
      refine (Any.slices_Clone_int_zero laysClone a c w).mono ?_
      rintro _ w' ⟨v', rfl, ho, _, hb⟩
      have ho' : Out (Value.int .i64) 3 w.heap.size v' ([] : List Int) w' := ho
      obtain ⟨A', c', rfl, _⟩ := ho'.cap
      exact ⟨A', c', rfl, hb, ho'⟩
    · obtain ⟨b, off, hA, hb, hc⟩ := hr (List.length_pos_iff.2 hz)
      injection hA with hA
      subst hA
      refine (Any.slices_Clone_int laysClone b off zs.length c zs w (Nat.le_refl _) (by omega) (fun j hj => ?_)).mono ?_
      · have := hc j _ (List.getElem?_eq_getElem hj) 0 _ rfl
        simpa [List.getD, List.getElem?_eq_getElem hj] using this
      · rintro _ w' ⟨v', rfl, ho, _, hb⟩
        rw [List.take_length] at ho
        have ho' : Out (Value.int .i64) 3 w.heap.size v' zs w' := ho
        obtain ⟨A', c', rfl, _⟩ := ho'.cap
        exact ⟨A', c', rfl, hb, ho'⟩
theorem OutR.toOut_ {E : TypeId} {base : Nat} {v : Value} {ys : List Int} {w : World} (h : OutR encI 1 E base v ys w) : Out (Value.int .i64) E base v ys w := by
  unfold OutR at h
  unfold Out
  have : ys.flatMap encI = ys.map (Value.int .i64) := by
    clear h
    induction ys with
    | nil => rfl
    | cons y ys ih => rw [List.flatMap_cons, List.map_cons, ih]; rfl
  rw [this] at h
  exact h
theorem l1Own_c (zs : List Int) (A : Option Addr) (c : Nat) (w : World) (hr : Rd encI 1 w.heap.size w A zs) (hn : zs.length ≤ 2097152) :
    Calls Try.prog 50 #[.slice A zs.length c] w (RetO zs w) := by
  go_enter Try.func50, Try.ntmps50
  go_wp2_with (at_builtin; refine wpList_app rfl _ _ _ rfl 3 (.int .i64 0) 1 8 Try.underlying31 infoI rfl (by decide) encI_len oneI (base := w.heap.size) (ys := []) (zs := zs) rfl rfl rfl (OutR.empty w (Nat.le_refl _)) (hr.go (by go_grown)) (by simp; omega) (by simp; omega) (by simp) ?_; intro v1 w1 ho1 hb1)
  have ho1 := ho1.toOut_
  rw [List.nil_append] at ho1
  obtain ⟨A', c', rfl, _⟩ := ho1.cap
  go_returns
  exact ⟨A', c', rfl, Below.trans (by go_grown) hb1, ho1⟩
/-- The call returns a copy of the album in memory of its own. -/
def RetC (ps : List Page) (w : World) (e : Ending) (w' : World) : Prop := ∃ v ix ms, e = .returned v ∧ Below w.heap.size w w' ∧ Cpy w.heap.size ix v ms ps w'
set_option maxRecDepth 100000 in
set_option maxHeartbeats 1600000 in
theorem copyAlbum_c (xs : List Page) (A : Option Addr) (c : Nat) (w : World) (hr : RdP w.heap.size w A xs) (hn : xs.length ≤ 1048576) (hs : sumI xs ≤ 1048576) :
    Calls Try.prog 32 #[.slice A xs.length c] w (RetC xs w) := by
  go_enter Try.func32, Try.ntmps32
  go_wp2_with fail
  go_loopw [3, 8] (fun u i wr => ∃ (k : Nat) (ix : Nat → Nat) (ms : List PageM), k ≤ xs.length ∧ i = .int .i64 k ∧ Cpy w.heap.size ix u ms (xs.take k) wr ∧ Below w.heap.size w wr) (fun _ i _ => xs.length - (intOf i).toNat)
  case atStart => exact ⟨0, _, _, Nat.zero_le _, rfl, Cpy.nil w, Below.refl _ _⟩
  case round =>
    obtain ⟨k, ix, ms, hk, rfl, hC, hb⟩ := hrel
    have hml := hC.len
    rw [List.length_take] at hml
    by_cases hlt : k < xs.length
    · obtain ⟨b, off, Ai, ci, rfl, hbs, d0, d1, d2, d3, hci, hri⟩ := (hr.below hb).page hlt
      have hil : xs[k].items.length ≤ 1048576 := Nat.le_trans (sumI_mem (List.getElem_mem hlt)) hs
      go_upto_region 5 with fail
      have hW := New.of wr [.int .i64 xs[k].id, .string xs[k].title, .int .i64 xs[k].under, .slice Ai xs[k].items.length ci] 44
      have f3 := World.frozen?_alloc_new wr #[.int .i64 xs[k].id, .string xs[k].title, .int .i64 xs[k].under, .slice Ai xs[k].items.length ci] 44 3
      generalize wr.alloc (.cells #[.int .i64 xs[k].id, .string xs[k].title, .int .i64 xs[k].under, .slice Ai xs[k].items.length ci] 44) = W at *
      obtain ⟨hWb, hWl, hWc⟩ := hW
      have e0 := hWc 0 _ rfl
      have e1 := hWc 1 _ rfl
      have e2 := hWc 2 _ rfl
      have e3 := hWc 3 _ rfl
      have hri := (hri.more hb.size).go hWb
      have hbs2 := hb.size
      clear hWc d0 d1 d2 d3
      obtain ⟨hp, hhp⟩ : ∃ hp, wr.heap.size = hp := ⟨_, rfl⟩
      rw [hhp] at hWl e0 e1 e2 e3 f3 hWb hbs2 ⊢
      go_wp2_with fail
      refine (clone_c xs[k].items _ _ _ hri (by omega)).mono ?_
      rintro _ w3 ⟨A3, c3, rfl, hb3, ho3⟩
      have hs3 := hb3.size
      have f3 := (hb3.frozen (p := ⟨hp, 3, none⟩) hWl).trans f3
      have e0 := (hb3.cell (p := ⟨hp, 0, none⟩) hWl).trans e0
      have e1 := (hb3.cell (p := ⟨hp, 1, none⟩) hWl).trans e1
      have e2 := (hb3.cell (p := ⟨hp, 2, none⟩) hWl).trans e2
      have e3 := (hb3.cell (p := ⟨hp, 3, none⟩) hWl).trans e3
      have hbw := hWb.trans (hb3.mono (Nat.le_of_lt hWl))
      have ho3l := ho3.from_
      have ho3u := ho3.lt_
      have hn4 : (ms.length + 1) * 56 ≤ 140737488355328 := by omega
      clear hri hb3
      go_upto_region 6 with fail
      have k0 := (World.cell?_setCell_other w3 ⟨hp, 3, none⟩ ⟨hp, 0, none⟩ (.slice A3 xs[k].items.length c3) (by simp)).trans e0
      have k1 := (World.cell?_setCell_other w3 ⟨hp, 3, none⟩ ⟨hp, 1, none⟩ (.slice A3 xs[k].items.length c3) (by simp)).trans e1
      have k2 := (World.cell?_setCell_other w3 ⟨hp, 3, none⟩ ⟨hp, 2, none⟩ (.slice A3 xs[k].items.length c3) (by simp)).trans e2
      have k3 := World.cell?_setCell_same w3 ⟨hp, 3, none⟩ (.slice A3 xs[k].items.length c3) e3
      have hF := (Fr.refl hp (hp + 1) w3).setCell (p := ⟨hp, 3, none⟩) (Nat.le_refl _) (Nat.lt_succ_self _) (.slice A3 xs[k].items.length c3)
      have hbw4 := hbw.setCell (p := ⟨hp, 3, none⟩) (Nat.le_refl _) (.slice A3 xs[k].items.length c3)
      clear e0 e1 e2 e3 f3
      generalize w3.setCell ⟨hp, 3, none⟩ (.slice A3 xs[k].items.length c3) = w4 at *
      have ho4 := ho3.keep_ (w' := w4) (fun g hg => hF.block g (ho3u g hg) (by have := ho3l g hg; omega))
      have hs4 := hF.size
      have hws := hbw4.size
      have hb5 : Below wr.heap.size wr (w4.alloc (.cells #[.int .i64 xs[k].id, .string xs[k].title, .int .i64 xs[k].under, .slice A3 xs[k].items.length c3] 44)) := by rw [hhp]; exact hbw4.alloc (by omega) _
      have ho5 := ho4.below ((Below.refl _ _).alloc (Nat.le_refl _) (.cells #[.int .i64 xs[k].id, .string xs[k].title, .int .i64 xs[k].under, .slice A3 xs[k].items.length c3] 44))
      have hout := hC.out.below hb5
      have HH := Lib.hid hhp
      clear hhp
      go_wp2_with (at_builtin; refine wp_appH rfl _ _ _ rfl 44 (.agg #[.int .i64 0, .string ⟨#[]⟩, .int .i64 0, .slice none 0 0]) 4 56 Try.underlying24 infoPage rfl (by decide) encPM_len onePM (base := w.heap.size) (m := 1) (ys := ms) (zs := [(⟨xs[k].id, xs[k].title, xs[k].under, A3, xs[k].items.length, c3⟩ : PageM)]) rfl rfl rfl hout (rd_new (x := (⟨xs[k].id, xs[k].title, xs[k].under, A3, xs[k].items.length, c3⟩ : PageM)) (vs := [.int .i64 xs[k].id, .string xs[k].title, .int .i64 xs[k].under, .slice A3 xs[k].items.length c3]) rfl rfl) (by omega) (by omega) (by simp; omega) ?_; intro v7 w7 ho7 hg7 hv7)
      obtain ⟨ix', hC7⟩ := hC.push hb5 (by omega) ho5 (by rw [HH.out]; omega) ho7 hg7 hv7
      rw [← take_succ_get xs k hlt] at hC7
      have hbl := Below.grown (hb.trans (hb5.mono hb.size)) hg7 (by simp; omega) (fun g hg => hC.out.from_ g hg)
      go_roundw
      case rel => exact ⟨k + 1, ix', _, by omega, by go_num, hC7, hbl⟩
      case measure => simp [intOf]; omega
    · have hke : k = xs.length := by omega
      rw [hke, List.take_length] at hC
      go_wp2_with fail
      go_returns
      exact ⟨_, ix, ms, rfl, hb, hC⟩
set_option maxRecDepth 100000 in
set_option maxHeartbeats 1600000 in
theorem l18Own_c (xs : List Page) (A : Option Addr) (c : Nat) (w : World) (hr : RdP w.heap.size w A xs) (hn : xs.length ≤ 1048576) (hs : sumI xs ≤ 1048576) :
    Calls Try.prog 27 #[.slice A xs.length c] w (RetC xs w) := by
  go_enter Try.func27, Try.ntmps27
  go_wp2_with fail
  go_loopw [3, 4] (fun u i wr => ∃ (k : Nat) (ix : Nat → Nat) (ms : List PageM), k ≤ xs.length ∧ i = .int .i64 k ∧ Cpy w.heap.size ix u ms (xs.take k) wr ∧ Below w.heap.size w wr) (fun _ i _ => xs.length - (intOf i).toNat)
  case atStart => exact ⟨0, _, [], Nat.zero_le _, rfl, Cpy.empty (OutR.empty w (Nat.le_refl _)), by go_grown⟩
  case round =>
    obtain ⟨k, ix, ms, hk, rfl, hC, hb⟩ := hrel
    have hml := hC.len
    rw [List.length_take] at hml
    by_cases hlt : k < xs.length
    · have hk0 : (0 : Int) ≤ (k : Int) := by omega
      have hk1 : (k : Int) < (xs.length : Int) := by omega
      obtain ⟨b, off, Ai, ci, rfl, hbs, d0, d1, d2, d3, hci, hri⟩ := (hr.below hb).page hlt
      have hil : xs[k].items.length ≤ 1048576 := Nat.le_trans (sumI_mem (List.getElem_mem hlt)) hs
      go_upto_region 6 with fail
      have hW := New.of wr [.int .i64 xs[k].id, .string xs[k].title, .int .i64 xs[k].under, .slice Ai xs[k].items.length ci] 44
      have f3 := World.frozen?_alloc_new wr #[.int .i64 xs[k].id, .string xs[k].title, .int .i64 xs[k].under, .slice Ai xs[k].items.length ci] 44 3
      generalize wr.alloc (.cells #[.int .i64 xs[k].id, .string xs[k].title, .int .i64 xs[k].under, .slice Ai xs[k].items.length ci] 44) = W at *
      obtain ⟨hWb, hWl, hWc⟩ := hW
      have e0 := hWc 0 _ rfl
      have e1 := hWc 1 _ rfl
      have e2 := hWc 2 _ rfl
      have e3 := hWc 3 _ rfl
      have hri := (hri.more hb.size).go hWb
      have hbs2 := hb.size
      clear hWc d0 d1 d2 d3
      obtain ⟨hp, hhp⟩ : ∃ hp, wr.heap.size = hp := ⟨_, rfl⟩
      rw [hhp] at hWl e0 e1 e2 e3 f3 hWb hbs2 ⊢
      go_wp2_with fail
      refine (l1Own_c xs[k].items _ _ _ hri (by omega)).mono ?_
      rintro _ w3 ⟨A3, c3, rfl, hb3, ho3⟩
      have hs3 := hb3.size
      have f3 := (hb3.frozen (p := ⟨hp, 3, none⟩) hWl).trans f3
      have e0 := (hb3.cell (p := ⟨hp, 0, none⟩) hWl).trans e0
      have e1 := (hb3.cell (p := ⟨hp, 1, none⟩) hWl).trans e1
      have e2 := (hb3.cell (p := ⟨hp, 2, none⟩) hWl).trans e2
      have e3 := (hb3.cell (p := ⟨hp, 3, none⟩) hWl).trans e3
      have hbw := hWb.trans (hb3.mono (Nat.le_of_lt hWl))
      have ho3l := ho3.from_
      have ho3u := ho3.lt_
      have hn4 : (ms.length + 1) * 56 ≤ 140737488355328 := by omega
      clear hri hb3
      go_upto_region 7 with fail
      have k0 := (World.cell?_setCell_other w3 ⟨hp, 3, none⟩ ⟨hp, 0, none⟩ (.slice A3 xs[k].items.length c3) (by simp)).trans e0
      have k1 := (World.cell?_setCell_other w3 ⟨hp, 3, none⟩ ⟨hp, 1, none⟩ (.slice A3 xs[k].items.length c3) (by simp)).trans e1
      have k2 := (World.cell?_setCell_other w3 ⟨hp, 3, none⟩ ⟨hp, 2, none⟩ (.slice A3 xs[k].items.length c3) (by simp)).trans e2
      have k3 := World.cell?_setCell_same w3 ⟨hp, 3, none⟩ (.slice A3 xs[k].items.length c3) e3
      have hF := (Fr.refl hp (hp + 1) w3).setCell (p := ⟨hp, 3, none⟩) (Nat.le_refl _) (Nat.lt_succ_self _) (.slice A3 xs[k].items.length c3)
      have hbw4 := hbw.setCell (p := ⟨hp, 3, none⟩) (Nat.le_refl _) (.slice A3 xs[k].items.length c3)
      clear e0 e1 e2 e3 f3
      generalize w3.setCell ⟨hp, 3, none⟩ (.slice A3 xs[k].items.length c3) = w4 at *
      have ho4 := ho3.keep_ (w' := w4) (fun g hg => hF.block g (ho3u g hg) (by have := ho3l g hg; omega))
      have hs4 := hF.size
      have hws := hbw4.size
      have hb5 : Below wr.heap.size wr (w4.alloc (.cells #[.int .i64 xs[k].id, .string xs[k].title, .int .i64 xs[k].under, .slice A3 xs[k].items.length c3] 44)) := by rw [hhp]; exact hbw4.alloc (by omega) _
      have ho5 := ho4.below ((Below.refl _ _).alloc (Nat.le_refl _) (.cells #[.int .i64 xs[k].id, .string xs[k].title, .int .i64 xs[k].under, .slice A3 xs[k].items.length c3] 44))
      have hout := hC.out.below hb5
      have HH := Lib.hid hhp
      clear hhp
      go_wp2_with (at_builtin; refine wp_appH rfl _ _ _ rfl 44 (.agg #[.int .i64 0, .string ⟨#[]⟩, .int .i64 0, .slice none 0 0]) 4 56 Try.underlying24 infoPage rfl (by decide) encPM_len onePM (base := w.heap.size) (m := 1) (ys := ms) (zs := [(⟨xs[k].id, xs[k].title, xs[k].under, A3, xs[k].items.length, c3⟩ : PageM)]) rfl rfl rfl hout (rd_new (x := (⟨xs[k].id, xs[k].title, xs[k].under, A3, xs[k].items.length, c3⟩ : PageM)) (vs := [.int .i64 xs[k].id, .string xs[k].title, .int .i64 xs[k].under, .slice A3 xs[k].items.length c3]) rfl rfl) (by omega) (by omega) (by simp; omega) ?_; intro v7 w7 ho7 hg7 hv7)
      obtain ⟨ix', hC7⟩ := hC.push hb5 (by omega) ho5 (by rw [HH.out]; omega) ho7 hg7 hv7
      rw [← take_succ_get xs k hlt] at hC7
      have hbl := Below.grown (hb.trans (hb5.mono hb.size)) hg7 (by simp; omega) (fun g hg => hC.out.from_ g hg)
      go_roundw
      case rel => exact ⟨k + 1, ix', _, by omega, by go_num, hC7, hbl⟩
      case measure => simp [intOf]; omega
    · have hke : k = xs.length := by omega
      rw [hke, List.take_length] at hC
      go_wp2_with fail
      go_returns
      exact ⟨_, ix, ms, rfl, hb, hC⟩
end Go.Proofs.Ytehoocnhooemoaa
