/- Contract of the reference's AddFlaw: its result can be put to. No condition but the sizes. -/
import Derived.Test.YtgjehnjpbekoeaaDoorFlAdd
import Derived.Test.YtgjehnjpbekoeaaDoorAppH
namespace Go.Proofs.YtgjehnjpbekoeaaDoor
set_option linter.unusedVariables false
set_option linter.unusedSimpArgs false
open Go.RowKit
attribute [local irreducible] wpQuiet
theorem rd_grown {α : Type} {enc : α → List Value} {k q : Nat} {w w' : World} {b : Option Nat} {zs : List α} (h : Rd enc k w.heap.size w (some ⟨q, 0, none⟩) zs) (hg : w.grownBy w' b) (hne : b ≠ some q) : Rd enc k w'.heap.size w' (some ⟨q, 0, none⟩) zs := fun hn => by
  obtain ⟨b', off, hA, hb, hc⟩ := h hn
  injection hA with hA; injection hA with h1 h2
  subst h1 h2
  have hk := hg.block q hb (fun e => hne e.symm)
  exact ⟨q, 0, rfl, Nat.lt_of_lt_of_le hb hg.size, fun i x hx j v hv => (World.cell?_of_block (w := w) (a := ⟨q, _, none⟩) hk).trans (hc i x hx j v hv)⟩
/-- The call returns a slice of its own that more can be put to. -/
def RetO {α : Type} (enc : α → List Value) (k : Nat) (E : TypeId) (ys : List α) (b : Bool) (w : World) (e : Ending) (w' : World) : Prop := ∃ v, e = .returned (.tuple #[v, .bool b]) ∧ Below w.heap.size w w' ∧ OutR enc k E w.heap.size v ys w'
theorem ret_vb {v : Value} {b b' : Bool} (h : b = b') : Ending.returned (.tuple #[v, .bool b]) = .returned (.tuple #[v, .bool b']) := by rw [h]
theorem RetO.retL {α : Type} {enc : α → List Value} {k : Nat} {E : TypeId} {ys : List α} {b : Bool} {w w' : World} {e : Ending} (hl : ∀ x, (enc x).length = k) (h : RetO enc k E ys b w e w') : RetL enc k ys b w e w' := by
  obtain ⟨v, rfl, hb, ho⟩ := h
  obtain ⟨A, c, rfl, hw, _⟩ := ho.own hl
  exact ⟨A, c, rfl, hb, hw⟩
theorem take_no_len {xs : List Flaw} {p : Nat} (h : p ≤ xs.length) : p = (xs.take p).length := by rw [List.length_take]; omega
set_option maxRecDepth 100000 in
set_option maxHeartbeats 1600000 in
theorem specAddFlawO_c (xs : List Flaw) (A : Option Addr) (c : Nat) (x : Flaw) (w : World) (hr : Rd encFlaw 4 w.heap.size w A xs) (hcap : xs.length ≤ c) (hn : xs.length ≤ 1048576) :
    Calls Tryd.prog 20 #[.slice A xs.length c, .agg #[.int .i64 x.row, .int .i64 x.col, .int .i64 x.code, .int .i64 x.since]] w (RetO encFlaw 4 43 (afL xs x) (afB xs x) w) := by
  have hW := New.of w [.int .i64 x.row, .int .i64 x.col, .int .i64 x.code, .int .i64 x.since] 43
  by_cases hg0 : goodFl xs = false
  · have HT := Lib.hid (show afB xs x = false by simp [afB, hg0])
    have HL := Lib.hid (show afL xs x = [] by unfold afL; rw [HT.out]; rfl)
    go_enter Tryd.func20, Tryd.ntmps20
    go_wp2_with fail
    generalize w.alloc (.cells [.int .i64 x.row, .int .i64 x.col, .int .i64 x.code, .int .i64 x.since].toArray 43) = W at *
    obtain ⟨hWb, hWl, hWc⟩ := hW
    refine (l15Good_c xs _ _ _ (hr.go hWb) hn).mono ?_
    rw [hg0]
    rintro e w1 ⟨rfl, hb1⟩
    go_wp2_with fail
    go_returns
    exact ⟨_, ret_vb HT.out.symm, (below_via hWb hb1).alloc (below_via hWb hb1).size _, (OutR.emptyH _ _ rfl (below_via hWb hb1).size).castR HL.out.symm⟩
  have hg : goodFl xs = true := by simpa using hg0
  by_cases hx0 : x.ok = false
  · have HT := Lib.hid (show afB xs x = false by simp [afB, hx0])
    have HL := Lib.hid (show afL xs x = [] by unfold afL; rw [HT.out]; rfl)
    go_enter Tryd.func20, Tryd.ntmps20
    go_wp2_with fail
    generalize w.alloc (.cells [.int .i64 x.row, .int .i64 x.col, .int .i64 x.code, .int .i64 x.since].toArray 43) = W at *
    obtain ⟨hWb, hWl, hWc⟩ := hW
    refine (l15Good_c xs _ _ _ (hr.go hWb) hn).mono ?_
    rw [hg]
    rintro e w1 ⟨rfl, hb1⟩
    have e0 := (hb1.cell (p := ⟨w.heap.size, 0, none⟩) hWl).trans (hWc 0 _ rfl)
    have e1 := (hb1.cell (p := ⟨w.heap.size, 1, none⟩) hWl).trans (hWc 1 _ rfl)
    have e2 := (hb1.cell (p := ⟨w.heap.size, 2, none⟩) hWl).trans (hWc 2 _ rfl)
    have e3 := (hb1.cell (p := ⟨w.heap.size, 3, none⟩) hWl).trans (hWc 3 _ rfl)
    go_wp2_with fail
    refine (l15One_c x _).mono ?_
    rw [hx0]
    rintro e w2 ⟨rfl, hb2⟩
    have hbx := below_via (below_via hWb hb1) hb2
    go_wp2_with fail
    go_returns
    exact ⟨_, ret_vb HT.out.symm, hbx.alloc hbx.size _, (OutR.emptyH _ _ rfl hbx.size).castR HL.out.symm⟩
  have hx : x.ok = true := by simpa using hx0
  have HK := Lib.hid (show afB xs x = goodFl (insFl xs x) by simp [afB, hg, hx])
  have HG := Lib.hid hg
  have HX := Lib.hid hx
  have hlen := goodFl_len hg
  have HLD := Lib.hid (show afL xs x = if afB xs x = true then insFl xs x else [] from rfl)
  clear hg0 hx0 hg hx
  go_enter Tryd.func20, Tryd.ntmps20
  go_wp2_with fail
  generalize w.alloc (.cells [.int .i64 x.row, .int .i64 x.col, .int .i64 x.code, .int .i64 x.since].toArray 43) = W at *
  obtain ⟨hWb, hWl, hWc⟩ := hW
  refine (l15Good_c xs _ _ _ (hr.go hWb) hn).mono ?_
  rw [HG.out]
  rintro e w1 ⟨rfl, hb1⟩
  have e0 := (hb1.cell (p := ⟨w.heap.size, 0, none⟩) hWl).trans (hWc 0 _ rfl)
  have e1 := (hb1.cell (p := ⟨w.heap.size, 1, none⟩) hWl).trans (hWc 1 _ rfl)
  have e2 := (hb1.cell (p := ⟨w.heap.size, 2, none⟩) hWl).trans (hWc 2 _ rfl)
  have e3 := (hb1.cell (p := ⟨w.heap.size, 3, none⟩) hWl).trans (hWc 3 _ rfl)
  have hl1 := Nat.lt_of_lt_of_le hWl hb1.size
  have hbx := below_via hWb hb1
  clear hb1 hWb hWl hWc
  go_wp2_with fail
  refine (l15One_c x _).mono ?_
  rw [HX.out]
  rintro e w2 ⟨rfl, hb2⟩
  replace e0 := (hb2.cell (p := ⟨w.heap.size, 0, none⟩) hl1).trans e0
  replace e1 := (hb2.cell (p := ⟨w.heap.size, 1, none⟩) hl1).trans e1
  replace e2 := (hb2.cell (p := ⟨w.heap.size, 2, none⟩) hl1).trans e2
  replace e3 := (hb2.cell (p := ⟨w.heap.size, 3, none⟩) hl1).trans e3
  have hl2 := Nat.lt_of_lt_of_le hl1 hb2.size
  replace hbx := below_via hbx hb2
  clear hb2 hl1
  have hr2 := hr.go hbx
  go_wp2_with fail
  go_loopw [6] (fun i wr => ∃ k : Nat, k ≤ xs.length ∧ i = .int .i64 k ∧ (∀ m (hm : m < xs.length), m < k → xs[m].pre' x = true) ∧ Below w2.heap.size w2 wr) (fun i _ => xs.length - (intOf i).toNat)
  case atStart => exact ⟨0, Nat.zero_le _, rfl, fun m _ h => absurd h (by omega), Below.refl _ _⟩
  case round =>
    obtain ⟨k, hk, rfl, hlo, hb⟩ := hrel
    have HLO := Lib.hid hlo
    clear hlo
    have f0 := (hb.cell (p := ⟨w.heap.size, 0, none⟩) hl2).trans e0
    have f1 := (hb.cell (p := ⟨w.heap.size, 1, none⟩) hl2).trans e1
    have f2 := (hb.cell (p := ⟨w.heap.size, 2, none⟩) hl2).trans e2
    have f3 := (hb.cell (p := ⟨w.heap.size, 3, none⟩) hl2).trans e3
    have hl3 := Nat.lt_of_lt_of_le hl2 hb.size
    clear e0 e1 e2 e3
    by_cases hc : ∃ h : k < xs.length, xs[k].key < x.key
    · obtain ⟨hlt, hkey⟩ := hc
      obtain ⟨b, off, rfl, hbs, d0, d1, d2, d3⟩ := (hr2.below hb).atFlaw hlt
      have hbw : b < wr.heap.size := Nat.lt_of_lt_of_le hbs hb.size
      have hov := over_cell wr
      have HJ := Lib.hid (goodFl_ok HG.out hlt)
      have hd : decide (xs[k].key < x.key) = true := decide_eq_true hkey
      have hd1 : decide ((k : Int) < (xs.length : Int)) = true := decide_eq_true (by omega)
      have hd2 : decide (k < xs.length) = true := decide_eq_true hlt
      have HP := Lib.hid (show ∀ m (hm : m < xs.length), m < k + 1 → xs[m].pre' x = true from fun m hm h => by
        by_cases e : m = k
        · subst e; exact decide_eq_true hkey
        · exact HLO.out m hm (by omega))
      clear hkey
      go_upto_region 4 with fail
      refine wp_region_over (by kernel_rfl) (by kernel_rfl) ?_
      repeat (go_big_quiet_step (((go_at_call 56; exact Calls.over_of (l15Key_c _ _ (by first | exact HJ.out | exact HX.out))))))
      refine wpQuiet_nil ?_
      intro _ hwx1
      obtain ⟨x1, hwx1⟩ := hwx1
      subst hwx1
      go_wp2_with fail
      go_roundw
      case rel => exact ⟨k + 1, by omega, by go_num, HP.out, below_via hb (over_below wr x1)⟩
      case measure => simp [intOf]; omega
    · have hpos : posFl xs x = k := posFl_eq (takeF_mem (p := fun y => y.pre' x) HLO.out) hk (fun h => decide_eq_false (fun h2 => hc ⟨h, h2⟩))
      have HIN := Lib.hid (show insFl xs x = xs.take k ++ [x] ++ xs.drop k by unfold insFl; rw [hpos])
      clear hpos
      go_upto_region 4 with fail
      go_cut [30] (fun v wx => v = .bool false ∧ Below wr.heap.size wr wx)
      case first =>
        have hov := over_cell wr
        by_cases hlt : k < xs.length
        · obtain ⟨b, off, rfl, hbs, d0, d1, d2, d3⟩ := (hr2.below hb).atFlaw hlt
          have hbw : b < wr.heap.size := Nat.lt_of_lt_of_le hbs hb.size
          have HJ := Lib.hid (goodFl_ok HG.out hlt)
          have hd : decide (xs[k].key < x.key) = false := decide_eq_false (fun h2 => hc ⟨hlt, h2⟩)
          have hd1 : decide ((k : Int) < (xs.length : Int)) = true := decide_eq_true (by omega)
          have hd2 : decide (k < xs.length) = true := decide_eq_true hlt
          clear hc
          refine wp_region_over (by kernel_rfl) (by kernel_rfl) ?_
          repeat (go_big_quiet_step (((go_at_call 56; exact Calls.over_of (l15Key_c _ _ (by first | exact HJ.out | exact HX.out))))))
          refine wpQuiet_nil ?_
          intro _ hwx1
          obtain ⟨x1, hwx1⟩ := hwx1
          subst hwx1
          go_wp2_with fail
          go_meet
          exact ⟨rfl, over_below wr x1⟩
        · have hd1 : decide ((k : Int) < (xs.length : Int)) = false := decide_eq_false (by omega)
          have hd2 : decide (k < xs.length) = false := decide_eq_false hlt
          clear hc
          refine wp_region_over (by kernel_rfl) (by kernel_rfl) ?_
          repeat (go_big_quiet_step (fail))
          refine wpQuiet_nil ?_
          intro _ hwx1
          obtain ⟨x1, hwx1⟩ := hwx1
          subst hwx1
          go_wp2_with fail
          go_meet
          exact ⟨rfl, over_below wr x1⟩
      case rest =>
      obtain ⟨hcv, hbc⟩ := hcut
      subst hcv
      clear hc
      have hbb := hb.trans (hbc.mono hb.size)
      have hlW := Nat.lt_of_lt_of_le hl3 hbc.size
      have hrW := (hr2.below hbb).more hbb.size
      replace hbx := hbx.trans (hbb.mono hbx.size)
      replace f0 := (hbc.cell (p := ⟨w.heap.size, 0, none⟩) hl3).trans f0
      replace f1 := (hbc.cell (p := ⟨w.heap.size, 1, none⟩) hl3).trans f1
      replace f2 := (hbc.cell (p := ⟨w.heap.size, 2, none⟩) hl3).trans f2
      replace f3 := (hbc.cell (p := ⟨w.heap.size, 3, none⟩) hl3).trans f3
      obtain ⟨wm, hwm⟩ : ∃ wm, wc = wm := ⟨_, rfl⟩
      rw [hwm] at f0 f1 f2 f3 hbx hlW hrW ⊢
      clear hwm hbc hb hbb hr2 hl3
      go_upto_region 6 with fail
      have KE := Lib.hid (show ∀ W, Below wm.heap.size wm W → W.cell? ⟨w.heap.size, 0, none⟩ = some (.int .i64 x.row) ∧ W.cell? ⟨w.heap.size, 1, none⟩ = some (.int .i64 x.col) ∧ W.cell? ⟨w.heap.size, 2, none⟩ = some (.int .i64 x.code) ∧ W.cell? ⟨w.heap.size, 3, none⟩ = some (.int .i64 x.since) from fun W hW =>
        ⟨(hW.cell (p := ⟨w.heap.size, 0, none⟩) hlW).trans f0, (hW.cell (p := ⟨w.heap.size, 1, none⟩) hlW).trans f1, (hW.cell (p := ⟨w.heap.size, 2, none⟩) hlW).trans f2, (hW.cell (p := ⟨w.heap.size, 3, none⟩) hlW).trans f3⟩)
      clear f0 f1 f2 f3
      have hk' : (0 : Int) ≤ (k : Int) := by omega
      have hkl : (k : Int) ≤ (xs.length : Int) := by omega
      have hkc : (k : Int) ≤ (c : Int) := by omega
      have hkc2 : k ≤ c := by omega
      have hK0 := (Below.refl wm.heap.size wm).drew
      have hK1 := ((Below.refl wm.heap.size wm).alloc (Nat.le_refl _) (.cells #[] 43)).drew
      have hK2 := (((Below.refl wm.heap.size wm).alloc (Nat.le_refl _) (.cells #[] 43)).alloc (by simp) (.cells #[.int .i64 x.row, .int .i64 x.col, .int .i64 x.code, .int .i64 x.since] 43)).drew
      have hK3 := (((Below.refl wm.heap.size wm).alloc (Nat.le_refl _) (.cells #[.int .i64 x.row, .int .i64 x.col, .int .i64 x.code, .int .i64 x.since] 43)).alloc (by simp) (.cells #[] 43)).drew
      have hK4 := ((Below.refl wm.heap.size wm).alloc (Nat.le_refl _) (.cells #[.int .i64 x.row, .int .i64 x.col, .int .i64 x.code, .int .i64 x.since] 43)).drew
      have HE1 := Lib.hid (show OutR encFlaw 4 43 wm.heap.size (.slice (some ⟨wm.heap.size, 0, none⟩) 0 0) ([] : List Flaw) (wm.alloc (.cells #[] 43)).drew from OutR.emptyD wm (Nat.le_refl _))
      have HE2 := Lib.hid (show OutR encFlaw 4 43 wm.heap.size (.slice (some ⟨wm.heap.size, 0, none⟩) 0 0) ([] : List Flaw) ((wm.alloc (.cells #[] 43)).alloc (.cells #[.int .i64 x.row, .int .i64 x.col, .int .i64 x.code, .int .i64 x.since] 43)).drew from (OutR.empty wm (Nat.le_refl _)).below (((Below.refl _ _).alloc (Nat.le_refl _) (.cells #[.int .i64 x.row, .int .i64 x.col, .int .i64 x.code, .int .i64 x.since] 43)).drew))
      have HE3 := Lib.hid (show OutR encFlaw 4 43 wm.heap.size (.slice (some ⟨wm.heap.size + 1, 0, none⟩) 0 0) ([] : List Flaw) ((wm.alloc (.cells #[.int .i64 x.row, .int .i64 x.col, .int .i64 x.code, .int .i64 x.since] 43)).alloc (.cells #[] 43)).drew from OutR.emptyHD (wm.alloc (.cells #[.int .i64 x.row, .int .i64 x.col, .int .i64 x.code, .int .i64 x.since] 43)) (wm.heap.size + 1) (by simp) (by omega))
      have hX2 : Rd encFlaw 4 ((wm.alloc (.cells #[] 43)).alloc (.cells #[.int .i64 x.row, .int .i64 x.col, .int .i64 x.code, .int .i64 x.since] 43)).drew.heap.size ((wm.alloc (.cells #[] 43)).alloc (.cells #[.int .i64 x.row, .int .i64 x.col, .int .i64 x.code, .int .i64 x.since] 43)).drew (some ⟨wm.heap.size + 1, 0, none⟩) [x] := by
        have h := rd_new (enc := encFlaw) (k := 4) (w := wm.alloc (.cells #[] 43)) (x := x) (vs := [.int .i64 x.row, .int .i64 x.col, .int .i64 x.code, .int .i64 x.since]) (E := 43) rfl rfl
        have e : (wm.alloc (.cells #[] 43)).heap.size = wm.heap.size + 1 := by simp
        rw [e] at h
        exact h
      have hX3 : Rd encFlaw 4 ((wm.alloc (.cells #[.int .i64 x.row, .int .i64 x.col, .int .i64 x.code, .int .i64 x.since] 43)).alloc (.cells #[] 43)).drew.heap.size ((wm.alloc (.cells #[.int .i64 x.row, .int .i64 x.col, .int .i64 x.code, .int .i64 x.since] 43)).alloc (.cells #[] 43)).drew (some ⟨wm.heap.size, 0, none⟩) [x] :=
        (rd_new (enc := encFlaw) (k := 4) (w := wm) (x := x) (vs := [.int .i64 x.row, .int .i64 x.col, .int .i64 x.code, .int .i64 x.since]) (E := 43) rfl rfl).go (((Below.refl _ _).alloc (Nat.le_refl _) (.cells #[] 43)).drew)
      have hz1 : wm.heap.size ≤ (wm.alloc (.cells #[] 43)).drew.heap.size := hK1.size
      have hz2 : wm.heap.size ≤ ((wm.alloc (.cells #[] 43)).alloc (.cells #[.int .i64 x.row, .int .i64 x.col, .int .i64 x.code, .int .i64 x.since] 43)).drew.heap.size := hK2.size
      have hz3 : wm.heap.size ≤ ((wm.alloc (.cells #[.int .i64 x.row, .int .i64 x.col, .int .i64 x.code, .int .i64 x.since] 43)).alloc (.cells #[] 43)).drew.heap.size := hK3.size
      go_cut [7] (fun v wx => OutR encFlaw 4 43 wm.heap.size v (insFl xs x) wx ∧ Below wm.heap.size wm wx)
      case first =>
        by_cases hze : xs.length = 0
        · obtain rfl : xs = [] := List.eq_nil_of_length_eq_zero hze
          obtain rfl : k = 0 := by simpa using hk
          have HR1 := Lib.hid (fun (W : World) (_ : Below wm.heap.size wm W) => (show ∀ A', Rd encFlaw 4 W.heap.size W A' ([] : List Flaw) from fun _ => Rd.nil))
          have hc0 : (0 : Int) ≤ (c : Int) := by omega
          rcases A with _ | ⟨b, off, spot⟩
          · have HIY := Lib.hid (show [] ++ [x] ++ [] = insFl [] x from HIN.out.symm)
            obtain ⟨tok1, _⟩ : ∃ t : Nat, True := ⟨0, trivial⟩
            go_region_held3 (fun W => W.cell? ⟨w.heap.size, 0, none⟩ = some (.int .i64 x.row) ∧ W.cell? ⟨w.heap.size, 1, none⟩ = some (.int .i64 x.col) ∧ W.cell? ⟨w.heap.size, 2, none⟩ = some (.int .i64 x.code) ∧ W.cell? ⟨w.heap.size, 3, none⟩ = some (.int .i64 x.since)) (first | assumption | exact KE.out _ hK0 | exact KE.out _ hK1 | exact KE.out _ hK2 | exact KE.out _ hK3 | exact KE.out _ hK4 | exact KE.out _ hB1 | exact KE.out _ hB2 | exact KE.out _ hB3 | exact KE.out _ (hB1.alloc hB1.size _) | exact KE.out _ (by go_grown)) (first
              | (refine step_app (o := ⟨some 37, _, _, _, _, _⟩) (by rfl) (.tmp 33) (.tmp 36) _ (by rfl) 43 (.agg #[.int .i64 0, .int .i64 0, .int .i64 0, .int .i64 0]) 4 32 Tryd.underlying24 infoFlaw (by rfl) (by decide) encFlaw_len oneFlaw_ (base := wm.heap.size) (m := 0) (ys := []) (zs := []) (by rfl) (by rfl) rfl HE1.out (HR1.out _ hK1 _) (by first | omega | (simp; done) | (simp; omega)) (by first | omega | (simp; done) | (simp; omega)) hz1 ?_; intro v1 v1w ho1 hb1 hg1; clear tok1; have hB1 := hK1.trans hb1)
              | (refine step_app (o := ⟨some 37, _, _, _, _, _⟩) (by rfl) (.tmp 33) (.tmp 36) _ (by rfl) 43 (.agg #[.int .i64 0, .int .i64 0, .int .i64 0, .int .i64 0]) 4 32 Tryd.underlying24 infoFlaw (by rfl) (by decide) encFlaw_len oneFlaw_ (base := wm.heap.size) (m := 0) (ys := []) (zs := []) (by rfl) (by rfl) rfl HE2.out (HR1.out _ hK2 _) (by first | omega | (simp; done) | (simp; omega)) (by first | omega | (simp; done) | (simp; omega)) hz2 ?_; intro v1 v1w ho1 hb1 hg1; have hB1 := hK2.trans hb1; have hX := rd_grown hX2 hg1 (by simp [Value.ownBlock]))
              | (refine step_app (o := ⟨some 37, _, _, _, _, _⟩) (by rfl) (.tmp 33) (.tmp 36) _ (by rfl) 43 (.agg #[.int .i64 0, .int .i64 0, .int .i64 0, .int .i64 0]) 4 32 Tryd.underlying24 infoFlaw (by rfl) (by decide) encFlaw_len oneFlaw_ (base := wm.heap.size) (m := 0) (ys := []) (zs := []) (by rfl) (by rfl) rfl HE3.out (HR1.out _ hK3 _) (by first | omega | (simp; done) | (simp; omega)) (by first | omega | (simp; done) | (simp; omega)) hz3 ?_; intro v1 v1w ho1 hb1 hg1; have hB1 := hK3.trans hb1; have hX := rd_grown hX3 hg1 (by simp [Value.ownBlock]))
              | (clear tok1; refine step_app (o := ⟨some 40, _, _, _, _, _⟩) (by rfl) (.tmp 37) (.tmp 39) _ (by rfl) 43 (.agg #[.int .i64 0, .int .i64 0, .int .i64 0, .int .i64 0]) 4 32 Tryd.underlying24 infoFlaw (by rfl) (by decide) encFlaw_len oneFlaw_ (base := wm.heap.size) (m := 1) (ys := ([] ++ [])) (zs := [x]) (by rfl) (by rfl) rfl ho1 hX (by first | omega | (simp; done) | (simp; omega)) (by first | omega | (simp; done) | (simp; omega)) hB1.size ?_; intro v2 v2w ho2 hb2 hg2; have hB2 := hB1.trans hb2)
              | (refine step_app (o := ⟨some 40, _, _, _, _, _⟩) (by rfl) (.tmp 37) (.tmp 39) _ (by rfl) 43 (.agg #[.int .i64 0, .int .i64 0, .int .i64 0, .int .i64 0]) 4 32 Tryd.underlying24 infoFlaw (by rfl) (by decide) encFlaw_len oneFlaw_ (base := wm.heap.size) (m := 1) (ys := ([] ++ [])) (zs := [x]) (by rfl) (by rfl) rfl (ho1.below ((Below.refl _ _).alloc (Nat.le_refl _) _)) (rd_new (x := x) (vs := [.int .i64 x.row, .int .i64 x.col, .int .i64 x.code, .int .i64 x.since]) rfl rfl) (by first | omega | (simp; done) | (simp; omega)) (by first | omega | (simp; done) | (simp; omega)) (by have := hB1.size; simp; omega) ?_; intro v2 v2w ho2 hb2 hg2; have hB2 := (hB1.alloc hB1.size _).trans hb2)
              | (refine step_app (o := ⟨some 44, _, _, _, _, _⟩) (by rfl) (.tmp 40) (.tmp 43) _ (by rfl) 43 (.agg #[.int .i64 0, .int .i64 0, .int .i64 0, .int .i64 0]) 4 32 Tryd.underlying24 infoFlaw (by rfl) (by decide) encFlaw_len oneFlaw_ (base := wm.heap.size) (m := 0) (ys := ([] ++ [] ++ [x])) (zs := []) (by rfl) (by rfl) rfl ho2 (HR1.out _ hB2 _) (by first | omega | (simp; done) | (simp; omega)) (by first | omega | (simp; done) | (simp; omega)) hB2.size ?_; intro v3 v3w ho3 hb3 hg3; have hB3 := hB2.trans hb3))
            all_goals
              rw [List.nil_append, HIY.out] at ho3
              go_wp2_with fail
              go_meet
              exact ⟨ho3, hB3⟩
          · by_cases hcz : c = 0
            · subst hcz
              have HIY := Lib.hid (show [] ++ [x] ++ [] = insFl [] x from HIN.out.symm)
              obtain ⟨tok1, _⟩ : ∃ t : Nat, True := ⟨0, trivial⟩
              go_region_held3 (fun W => W.cell? ⟨w.heap.size, 0, none⟩ = some (.int .i64 x.row) ∧ W.cell? ⟨w.heap.size, 1, none⟩ = some (.int .i64 x.col) ∧ W.cell? ⟨w.heap.size, 2, none⟩ = some (.int .i64 x.code) ∧ W.cell? ⟨w.heap.size, 3, none⟩ = some (.int .i64 x.since)) (first | assumption | exact KE.out _ hK0 | exact KE.out _ hK1 | exact KE.out _ hK2 | exact KE.out _ hK3 | exact KE.out _ hK4 | exact KE.out _ hB1 | exact KE.out _ hB2 | exact KE.out _ hB3 | exact KE.out _ (hB1.alloc hB1.size _) | exact KE.out _ (by go_grown)) (first
                | (refine step_app (o := ⟨some 37, _, _, _, _, _⟩) (by rfl) (.tmp 33) (.tmp 36) _ (by rfl) 43 (.agg #[.int .i64 0, .int .i64 0, .int .i64 0, .int .i64 0]) 4 32 Tryd.underlying24 infoFlaw (by rfl) (by decide) encFlaw_len oneFlaw_ (base := wm.heap.size) (m := 0) (ys := []) (zs := []) (by rfl) (by rfl) rfl HE1.out (HR1.out _ hK1 _) (by first | omega | (simp; done) | (simp; omega)) (by first | omega | (simp; done) | (simp; omega)) hz1 ?_; intro v1 v1w ho1 hb1 hg1; clear tok1; have hB1 := hK1.trans hb1)
                | (refine step_app (o := ⟨some 37, _, _, _, _, _⟩) (by rfl) (.tmp 33) (.tmp 36) _ (by rfl) 43 (.agg #[.int .i64 0, .int .i64 0, .int .i64 0, .int .i64 0]) 4 32 Tryd.underlying24 infoFlaw (by rfl) (by decide) encFlaw_len oneFlaw_ (base := wm.heap.size) (m := 0) (ys := []) (zs := []) (by rfl) (by rfl) rfl HE2.out (HR1.out _ hK2 _) (by first | omega | (simp; done) | (simp; omega)) (by first | omega | (simp; done) | (simp; omega)) hz2 ?_; intro v1 v1w ho1 hb1 hg1; have hB1 := hK2.trans hb1; have hX := rd_grown hX2 hg1 (by simp [Value.ownBlock]))
                | (refine step_app (o := ⟨some 37, _, _, _, _, _⟩) (by rfl) (.tmp 33) (.tmp 36) _ (by rfl) 43 (.agg #[.int .i64 0, .int .i64 0, .int .i64 0, .int .i64 0]) 4 32 Tryd.underlying24 infoFlaw (by rfl) (by decide) encFlaw_len oneFlaw_ (base := wm.heap.size) (m := 0) (ys := []) (zs := []) (by rfl) (by rfl) rfl HE3.out (HR1.out _ hK3 _) (by first | omega | (simp; done) | (simp; omega)) (by first | omega | (simp; done) | (simp; omega)) hz3 ?_; intro v1 v1w ho1 hb1 hg1; have hB1 := hK3.trans hb1; have hX := rd_grown hX3 hg1 (by simp [Value.ownBlock]))
                | (clear tok1; refine step_app (o := ⟨some 40, _, _, _, _, _⟩) (by rfl) (.tmp 37) (.tmp 39) _ (by rfl) 43 (.agg #[.int .i64 0, .int .i64 0, .int .i64 0, .int .i64 0]) 4 32 Tryd.underlying24 infoFlaw (by rfl) (by decide) encFlaw_len oneFlaw_ (base := wm.heap.size) (m := 1) (ys := ([] ++ [])) (zs := [x]) (by rfl) (by rfl) rfl ho1 hX (by first | omega | (simp; done) | (simp; omega)) (by first | omega | (simp; done) | (simp; omega)) hB1.size ?_; intro v2 v2w ho2 hb2 hg2; have hB2 := hB1.trans hb2)
                | (refine step_app (o := ⟨some 40, _, _, _, _, _⟩) (by rfl) (.tmp 37) (.tmp 39) _ (by rfl) 43 (.agg #[.int .i64 0, .int .i64 0, .int .i64 0, .int .i64 0]) 4 32 Tryd.underlying24 infoFlaw (by rfl) (by decide) encFlaw_len oneFlaw_ (base := wm.heap.size) (m := 1) (ys := ([] ++ [])) (zs := [x]) (by rfl) (by rfl) rfl (ho1.below ((Below.refl _ _).alloc (Nat.le_refl _) _)) (rd_new (x := x) (vs := [.int .i64 x.row, .int .i64 x.col, .int .i64 x.code, .int .i64 x.since]) rfl rfl) (by first | omega | (simp; done) | (simp; omega)) (by first | omega | (simp; done) | (simp; omega)) (by have := hB1.size; simp; omega) ?_; intro v2 v2w ho2 hb2 hg2; have hB2 := (hB1.alloc hB1.size _).trans hb2)
                | (refine step_app (o := ⟨some 44, _, _, _, _, _⟩) (by rfl) (.tmp 40) (.tmp 43) _ (by rfl) 43 (.agg #[.int .i64 0, .int .i64 0, .int .i64 0, .int .i64 0]) 4 32 Tryd.underlying24 infoFlaw (by rfl) (by decide) encFlaw_len oneFlaw_ (base := wm.heap.size) (m := 0) (ys := ([] ++ [] ++ [x])) (zs := []) (by rfl) (by rfl) rfl ho2 (HR1.out _ hB2 _) (by first | omega | (simp; done) | (simp; omega)) (by first | omega | (simp; done) | (simp; omega)) hB2.size ?_; intro v3 v3w ho3 hb3 hg3; have hB3 := hB2.trans hb3))
              all_goals
                rw [List.nil_append, HIY.out] at ho3
                go_wp2_with fail
                go_meet
                exact ⟨ho3, hB3⟩
            · have HIY := Lib.hid (show [] ++ [x] ++ [] = insFl [] x from HIN.out.symm)
              obtain ⟨tok1, _⟩ : ∃ t : Nat, True := ⟨0, trivial⟩
              go_region_held3 (fun W => W.cell? ⟨w.heap.size, 0, none⟩ = some (.int .i64 x.row) ∧ W.cell? ⟨w.heap.size, 1, none⟩ = some (.int .i64 x.col) ∧ W.cell? ⟨w.heap.size, 2, none⟩ = some (.int .i64 x.code) ∧ W.cell? ⟨w.heap.size, 3, none⟩ = some (.int .i64 x.since)) (first | assumption | exact KE.out _ hK0 | exact KE.out _ hK1 | exact KE.out _ hK2 | exact KE.out _ hK3 | exact KE.out _ hK4 | exact KE.out _ hB1 | exact KE.out _ hB2 | exact KE.out _ hB3 | exact KE.out _ (hB1.alloc hB1.size _) | exact KE.out _ (by go_grown)) (first
                | (refine step_app (o := ⟨some 37, _, _, _, _, _⟩) (by rfl) (.tmp 33) (.tmp 36) _ (by rfl) 43 (.agg #[.int .i64 0, .int .i64 0, .int .i64 0, .int .i64 0]) 4 32 Tryd.underlying24 infoFlaw (by rfl) (by decide) encFlaw_len oneFlaw_ (base := wm.heap.size) (m := 0) (ys := []) (zs := []) (by rfl) (by rfl) rfl HE1.out (HR1.out _ hK1 _) (by first | omega | (simp; done) | (simp; omega)) (by first | omega | (simp; done) | (simp; omega)) hz1 ?_; intro v1 v1w ho1 hb1 hg1; clear tok1; have hB1 := hK1.trans hb1)
                | (refine step_app (o := ⟨some 37, _, _, _, _, _⟩) (by rfl) (.tmp 33) (.tmp 36) _ (by rfl) 43 (.agg #[.int .i64 0, .int .i64 0, .int .i64 0, .int .i64 0]) 4 32 Tryd.underlying24 infoFlaw (by rfl) (by decide) encFlaw_len oneFlaw_ (base := wm.heap.size) (m := 0) (ys := []) (zs := []) (by rfl) (by rfl) rfl HE2.out (HR1.out _ hK2 _) (by first | omega | (simp; done) | (simp; omega)) (by first | omega | (simp; done) | (simp; omega)) hz2 ?_; intro v1 v1w ho1 hb1 hg1; have hB1 := hK2.trans hb1; have hX := rd_grown hX2 hg1 (by simp [Value.ownBlock]))
                | (refine step_app (o := ⟨some 37, _, _, _, _, _⟩) (by rfl) (.tmp 33) (.tmp 36) _ (by rfl) 43 (.agg #[.int .i64 0, .int .i64 0, .int .i64 0, .int .i64 0]) 4 32 Tryd.underlying24 infoFlaw (by rfl) (by decide) encFlaw_len oneFlaw_ (base := wm.heap.size) (m := 0) (ys := []) (zs := []) (by rfl) (by rfl) rfl HE3.out (HR1.out _ hK3 _) (by first | omega | (simp; done) | (simp; omega)) (by first | omega | (simp; done) | (simp; omega)) hz3 ?_; intro v1 v1w ho1 hb1 hg1; have hB1 := hK3.trans hb1; have hX := rd_grown hX3 hg1 (by simp [Value.ownBlock]))
                | (clear tok1; refine step_app (o := ⟨some 40, _, _, _, _, _⟩) (by rfl) (.tmp 37) (.tmp 39) _ (by rfl) 43 (.agg #[.int .i64 0, .int .i64 0, .int .i64 0, .int .i64 0]) 4 32 Tryd.underlying24 infoFlaw (by rfl) (by decide) encFlaw_len oneFlaw_ (base := wm.heap.size) (m := 1) (ys := ([] ++ [])) (zs := [x]) (by rfl) (by rfl) rfl ho1 hX (by first | omega | (simp; done) | (simp; omega)) (by first | omega | (simp; done) | (simp; omega)) hB1.size ?_; intro v2 v2w ho2 hb2 hg2; have hB2 := hB1.trans hb2)
                | (refine step_app (o := ⟨some 40, _, _, _, _, _⟩) (by rfl) (.tmp 37) (.tmp 39) _ (by rfl) 43 (.agg #[.int .i64 0, .int .i64 0, .int .i64 0, .int .i64 0]) 4 32 Tryd.underlying24 infoFlaw (by rfl) (by decide) encFlaw_len oneFlaw_ (base := wm.heap.size) (m := 1) (ys := ([] ++ [])) (zs := [x]) (by rfl) (by rfl) rfl (ho1.below ((Below.refl _ _).alloc (Nat.le_refl _) _)) (rd_new (x := x) (vs := [.int .i64 x.row, .int .i64 x.col, .int .i64 x.code, .int .i64 x.since]) rfl rfl) (by first | omega | (simp; done) | (simp; omega)) (by first | omega | (simp; done) | (simp; omega)) (by have := hB1.size; simp; omega) ?_; intro v2 v2w ho2 hb2 hg2; have hB2 := (hB1.alloc hB1.size _).trans hb2)
                | (refine step_app (o := ⟨some 44, _, _, _, _, _⟩) (by rfl) (.tmp 40) (.tmp 43) _ (by rfl) 43 (.agg #[.int .i64 0, .int .i64 0, .int .i64 0, .int .i64 0]) 4 32 Tryd.underlying24 infoFlaw (by rfl) (by decide) encFlaw_len oneFlaw_ (base := wm.heap.size) (m := 0) (ys := ([] ++ [] ++ [x])) (zs := []) (by rfl) (by rfl) rfl ho2 (HR1.out _ hB2 _) (by first | omega | (simp; done) | (simp; omega)) (by first | omega | (simp; done) | (simp; omega)) hB2.size ?_; intro v3 v3w ho3 hb3 hg3; have hB3 := hB2.trans hb3))
              all_goals
                rw [List.nil_append, HIY.out] at ho3
                go_wp2_with fail
                go_meet
                exact ⟨ho3, hB3⟩
        · obtain ⟨b, off, rfl, _, _⟩ := hrW.at_ (i := 0) (by omega)
          have HRW := Lib.hid (fun (W : World) (h : Below wm.heap.size wm W) => hrW.go h)
          have HR1 := Lib.hid (fun (W : World) (h : Below wm.heap.size wm W) => (HRW.out W h).take k)
          have htl : k = (xs.take k).length := take_no_len hk
          have hdl : xs.length - k = (xs.drop k).length := by rw [List.length_drop]
          have HTL := Lib.hid htl
          have HDL := Lib.hid hdl
          clear htl hdl
          by_cases hck : c = k
          · have hdn : xs.drop k = [] := List.drop_of_length_le (by omega)
            obtain rfl : k = xs.length := by omega
            obtain rfl : c = xs.length := by omega
            have HR2 := Lib.hid (fun (W : World) (_ : Below wm.heap.size wm W) => (show ∀ A', Rd encFlaw 4 W.heap.size W A' (xs.drop xs.length) from fun _ => by rw [hdn]; exact Rd.nil))
            have HD0 := Lib.hid (show 0 = (xs.drop xs.length).length by rw [hdn]; rfl)
            clear hdn
            have HIY := Lib.hid (show xs.take xs.length ++ [x] ++ xs.drop xs.length = insFl xs x from HIN.out.symm)
            obtain ⟨tok1, _⟩ : ∃ t : Nat, True := ⟨0, trivial⟩
            go_region_held3 (fun W => W.cell? ⟨w.heap.size, 0, none⟩ = some (.int .i64 x.row) ∧ W.cell? ⟨w.heap.size, 1, none⟩ = some (.int .i64 x.col) ∧ W.cell? ⟨w.heap.size, 2, none⟩ = some (.int .i64 x.code) ∧ W.cell? ⟨w.heap.size, 3, none⟩ = some (.int .i64 x.since)) (first | assumption | exact KE.out _ hK0 | exact KE.out _ hK1 | exact KE.out _ hK2 | exact KE.out _ hK3 | exact KE.out _ hK4 | exact KE.out _ hB1 | exact KE.out _ hB2 | exact KE.out _ hB3 | exact KE.out _ (hB1.alloc hB1.size _) | exact KE.out _ (by go_grown)) (first
              | (refine step_app (o := ⟨some 37, _, _, _, _, _⟩) (by rfl) (.tmp 33) (.tmp 36) _ (by rfl) 43 (.agg #[.int .i64 0, .int .i64 0, .int .i64 0, .int .i64 0]) 4 32 Tryd.underlying24 infoFlaw (by rfl) (by decide) encFlaw_len oneFlaw_ (base := wm.heap.size) (m := xs.length) (ys := []) (zs := xs.take xs.length) (by rfl) (by rfl) HTL.out HE1.out (HR1.out _ hK1) (by first | omega | (simp; done) | (simp; omega)) (by first | omega | (simp; done) | (simp; omega)) hz1 ?_; intro v1 v1w ho1 hb1 hg1; clear tok1; have hB1 := hK1.trans hb1)
              | (refine step_app (o := ⟨some 37, _, _, _, _, _⟩) (by rfl) (.tmp 33) (.tmp 36) _ (by rfl) 43 (.agg #[.int .i64 0, .int .i64 0, .int .i64 0, .int .i64 0]) 4 32 Tryd.underlying24 infoFlaw (by rfl) (by decide) encFlaw_len oneFlaw_ (base := wm.heap.size) (m := xs.length) (ys := []) (zs := xs.take xs.length) (by rfl) (by rfl) HTL.out HE2.out (HR1.out _ hK2) (by first | omega | (simp; done) | (simp; omega)) (by first | omega | (simp; done) | (simp; omega)) hz2 ?_; intro v1 v1w ho1 hb1 hg1; have hB1 := hK2.trans hb1; have hX := rd_grown hX2 hg1 (by simp [Value.ownBlock]))
              | (refine step_app (o := ⟨some 37, _, _, _, _, _⟩) (by rfl) (.tmp 33) (.tmp 36) _ (by rfl) 43 (.agg #[.int .i64 0, .int .i64 0, .int .i64 0, .int .i64 0]) 4 32 Tryd.underlying24 infoFlaw (by rfl) (by decide) encFlaw_len oneFlaw_ (base := wm.heap.size) (m := xs.length) (ys := []) (zs := xs.take xs.length) (by rfl) (by rfl) HTL.out HE3.out (HR1.out _ hK3) (by first | omega | (simp; done) | (simp; omega)) (by first | omega | (simp; done) | (simp; omega)) hz3 ?_; intro v1 v1w ho1 hb1 hg1; have hB1 := hK3.trans hb1; have hX := rd_grown hX3 hg1 (by simp [Value.ownBlock]))
              | (clear tok1; refine step_app (o := ⟨some 40, _, _, _, _, _⟩) (by rfl) (.tmp 37) (.tmp 39) _ (by rfl) 43 (.agg #[.int .i64 0, .int .i64 0, .int .i64 0, .int .i64 0]) 4 32 Tryd.underlying24 infoFlaw (by rfl) (by decide) encFlaw_len oneFlaw_ (base := wm.heap.size) (m := 1) (ys := ([] ++ xs.take xs.length)) (zs := [x]) (by rfl) (by rfl) rfl ho1 hX (by first | omega | (simp; done) | (simp; omega)) (by first | omega | (simp; done) | (simp; omega)) hB1.size ?_; intro v2 v2w ho2 hb2 hg2; have hB2 := hB1.trans hb2)
              | (refine step_app (o := ⟨some 40, _, _, _, _, _⟩) (by rfl) (.tmp 37) (.tmp 39) _ (by rfl) 43 (.agg #[.int .i64 0, .int .i64 0, .int .i64 0, .int .i64 0]) 4 32 Tryd.underlying24 infoFlaw (by rfl) (by decide) encFlaw_len oneFlaw_ (base := wm.heap.size) (m := 1) (ys := ([] ++ xs.take xs.length)) (zs := [x]) (by rfl) (by rfl) rfl (ho1.below ((Below.refl _ _).alloc (Nat.le_refl _) _)) (rd_new (x := x) (vs := [.int .i64 x.row, .int .i64 x.col, .int .i64 x.code, .int .i64 x.since]) rfl rfl) (by first | omega | (simp; done) | (simp; omega)) (by first | omega | (simp; done) | (simp; omega)) (by have := hB1.size; simp; omega) ?_; intro v2 v2w ho2 hb2 hg2; have hB2 := (hB1.alloc hB1.size _).trans hb2)
              | (refine step_app (o := ⟨some 44, _, _, _, _, _⟩) (by rfl) (.tmp 40) (.tmp 43) _ (by rfl) 43 (.agg #[.int .i64 0, .int .i64 0, .int .i64 0, .int .i64 0]) 4 32 Tryd.underlying24 infoFlaw (by rfl) (by decide) encFlaw_len oneFlaw_ (base := wm.heap.size) (m := 0) (ys := ([] ++ xs.take xs.length ++ [x])) (zs := xs.drop xs.length) (by rfl) (by rfl) HD0.out ho2 (HR2.out _ hB2 _) (by first | omega | (simp; done) | (simp; omega)) (by first | omega | (simp; done) | (simp; omega)) hB2.size ?_; intro v3 v3w ho3 hb3 hg3; have hB3 := hB2.trans hb3))
            all_goals
              rw [List.nil_append, HIY.out] at ho3
              go_wp2_with fail
              go_meet
              exact ⟨ho3, hB3⟩
          · have HR2 := Lib.hid (fun (W : World) (h : Below wm.heap.size wm W) => (HRW.out W h).drop k)
            have HIY := Lib.hid (show xs.take k ++ [x] ++ xs.drop k = insFl xs x from HIN.out.symm)
            obtain ⟨tok1, _⟩ : ∃ t : Nat, True := ⟨0, trivial⟩
            go_region_held3 (fun W => W.cell? ⟨w.heap.size, 0, none⟩ = some (.int .i64 x.row) ∧ W.cell? ⟨w.heap.size, 1, none⟩ = some (.int .i64 x.col) ∧ W.cell? ⟨w.heap.size, 2, none⟩ = some (.int .i64 x.code) ∧ W.cell? ⟨w.heap.size, 3, none⟩ = some (.int .i64 x.since)) (first | assumption | exact KE.out _ hK0 | exact KE.out _ hK1 | exact KE.out _ hK2 | exact KE.out _ hK3 | exact KE.out _ hK4 | exact KE.out _ hB1 | exact KE.out _ hB2 | exact KE.out _ hB3 | exact KE.out _ (hB1.alloc hB1.size _) | exact KE.out _ (by go_grown)) (first
              | (refine step_app (o := ⟨some 37, _, _, _, _, _⟩) (by rfl) (.tmp 33) (.tmp 36) _ (by rfl) 43 (.agg #[.int .i64 0, .int .i64 0, .int .i64 0, .int .i64 0]) 4 32 Tryd.underlying24 infoFlaw (by rfl) (by decide) encFlaw_len oneFlaw_ (base := wm.heap.size) (m := k) (ys := []) (zs := xs.take k) (by rfl) (by rfl) HTL.out HE1.out (HR1.out _ hK1) (by first | omega | (simp; done) | (simp; omega)) (by first | omega | (simp; done) | (simp; omega)) hz1 ?_; intro v1 v1w ho1 hb1 hg1; clear tok1; have hB1 := hK1.trans hb1)
              | (refine step_app (o := ⟨some 37, _, _, _, _, _⟩) (by rfl) (.tmp 33) (.tmp 36) _ (by rfl) 43 (.agg #[.int .i64 0, .int .i64 0, .int .i64 0, .int .i64 0]) 4 32 Tryd.underlying24 infoFlaw (by rfl) (by decide) encFlaw_len oneFlaw_ (base := wm.heap.size) (m := k) (ys := []) (zs := xs.take k) (by rfl) (by rfl) HTL.out HE2.out (HR1.out _ hK2) (by first | omega | (simp; done) | (simp; omega)) (by first | omega | (simp; done) | (simp; omega)) hz2 ?_; intro v1 v1w ho1 hb1 hg1; have hB1 := hK2.trans hb1; have hX := rd_grown hX2 hg1 (by simp [Value.ownBlock]))
              | (refine step_app (o := ⟨some 37, _, _, _, _, _⟩) (by rfl) (.tmp 33) (.tmp 36) _ (by rfl) 43 (.agg #[.int .i64 0, .int .i64 0, .int .i64 0, .int .i64 0]) 4 32 Tryd.underlying24 infoFlaw (by rfl) (by decide) encFlaw_len oneFlaw_ (base := wm.heap.size) (m := k) (ys := []) (zs := xs.take k) (by rfl) (by rfl) HTL.out HE3.out (HR1.out _ hK3) (by first | omega | (simp; done) | (simp; omega)) (by first | omega | (simp; done) | (simp; omega)) hz3 ?_; intro v1 v1w ho1 hb1 hg1; have hB1 := hK3.trans hb1; have hX := rd_grown hX3 hg1 (by simp [Value.ownBlock]))
              | (clear tok1; refine step_app (o := ⟨some 40, _, _, _, _, _⟩) (by rfl) (.tmp 37) (.tmp 39) _ (by rfl) 43 (.agg #[.int .i64 0, .int .i64 0, .int .i64 0, .int .i64 0]) 4 32 Tryd.underlying24 infoFlaw (by rfl) (by decide) encFlaw_len oneFlaw_ (base := wm.heap.size) (m := 1) (ys := ([] ++ xs.take k)) (zs := [x]) (by rfl) (by rfl) rfl ho1 hX (by first | omega | (simp; done) | (simp; omega)) (by first | omega | (simp; done) | (simp; omega)) hB1.size ?_; intro v2 v2w ho2 hb2 hg2; have hB2 := hB1.trans hb2)
              | (refine step_app (o := ⟨some 40, _, _, _, _, _⟩) (by rfl) (.tmp 37) (.tmp 39) _ (by rfl) 43 (.agg #[.int .i64 0, .int .i64 0, .int .i64 0, .int .i64 0]) 4 32 Tryd.underlying24 infoFlaw (by rfl) (by decide) encFlaw_len oneFlaw_ (base := wm.heap.size) (m := 1) (ys := ([] ++ xs.take k)) (zs := [x]) (by rfl) (by rfl) rfl (ho1.below ((Below.refl _ _).alloc (Nat.le_refl _) _)) (rd_new (x := x) (vs := [.int .i64 x.row, .int .i64 x.col, .int .i64 x.code, .int .i64 x.since]) rfl rfl) (by first | omega | (simp; done) | (simp; omega)) (by first | omega | (simp; done) | (simp; omega)) (by have := hB1.size; simp; omega) ?_; intro v2 v2w ho2 hb2 hg2; have hB2 := (hB1.alloc hB1.size _).trans hb2)
              | (refine step_app (o := ⟨some 44, _, _, _, _, _⟩) (by rfl) (.tmp 40) (.tmp 43) _ (by rfl) 43 (.agg #[.int .i64 0, .int .i64 0, .int .i64 0, .int .i64 0]) 4 32 Tryd.underlying24 infoFlaw (by rfl) (by decide) encFlaw_len oneFlaw_ (base := wm.heap.size) (m := xs.length - k) (ys := ([] ++ xs.take k ++ [x])) (zs := xs.drop k) (by rfl) (by rfl) HDL.out ho2 (HR2.out _ hB2) (by first | omega | (simp; done) | (simp; omega)) (by first | omega | (simp; done) | (simp; omega)) hB2.size ?_; intro v3 v3w ho3 hb3 hg3; have hB3 := hB2.trans hb3))
            all_goals
              rw [List.nil_append, HIY.out] at ho3
              go_wp2_with fail
              go_meet
              exact ⟨ho3, hB3⟩
      case rest =>
      obtain ⟨hoc, hbc⟩ := hcut
      clear KE hX2 hX3 HE1 HE2 HE3 hK0 hK1 hK2 hK3 hK4 hz1 hz2 hz3
      have hyl : (insFl xs x).length ≤ 1000 := by rw [HIN.out]; simp; omega
      obtain ⟨A4, c4, rfl, hw4, _⟩ := hoc.own encFlaw_len
      have hbx := hbx.trans (hbc.mono hbx.size)
      have hsz := Lib.hid (show w.heap.size ≤ wm.heap.size by omega)
      generalize insFl xs x = YS at *
      clear hbc
      go_wp2_with fail
      refine (l15Good_c YS _ _ _ hw4.rd (by omega)).mono ?_
      rintro e w9 ⟨rfl, hb9⟩
      have hw9 := Lib.hid ((hoc.below hb9).freshR hsz.out)
      have hbx := hbx.trans (hb9.mono hbx.size)
      clear hw4 hoc hb9
      cases hG : goodFl YS
      · have HB : Hid (afB xs x = false) := Lib.hid (by rw [HK.out, hG])
        have HL := Lib.hid (show afL xs x = [] by rw [HLD.out, HB.out]; rfl)
        clear hG
        go_wp2_with fail
        go_returns
        exact ⟨_, ret_vb HB.out.symm, hbx.alloc hbx.size _, (OutR.emptyH _ _ rfl hbx.size).castR HL.out.symm⟩
      · have HB : Hid (afB xs x = true) := Lib.hid (by rw [HK.out, hG])
        have HL := Lib.hid (show afL xs x = YS by rw [HLD.out, HB.out]; rfl)
        clear hG
        go_wp2_with fail
        go_returns
        exact ⟨_, ret_vb HB.out.symm, hbx, hw9.out.castR HL.out.symm⟩
end Go.Proofs.YtgjehnjpbekoeaaDoor
