/- Contracts of AddFlaw: the program's and the reference's. No condition but the sizes. -/
import Derived.Test.YtgjehnjpbekoeaaDoorFlBin
import Derived.Test.YtgjehnjpbekoeaaDoorInsFlaw
import Derived.Test.YtgjehnjpbekoeaaDoorAppH
import Derived.Deep.DeepCutAuto
namespace Go.Proofs.YtgjehnjpbekoeaaDoor
set_option linter.unusedVariables false
set_option linter.unusedSimpArgs false
open Go.RowKit
attribute [local irreducible] wpQuiet
def afB (xs : List Flaw) (x : Flaw) : Bool := goodFl xs && x.ok && goodFl (insFl xs x)
def afL (xs : List Flaw) (x : Flaw) : List Flaw := if afB xs x = true then insFl xs x else []
theorem afL_len (xs : List Flaw) (x : Flaw) : (afL xs x).length ≤ 2097152 := by
  unfold afL; split
  · rename_i h
    simp only [afB, Bool.and_eq_true] at h
    have := goodFl_len h.2
    omega
  · simp
set_option maxRecDepth 100000 in
set_option maxHeartbeats 1600000 in
theorem implAddFlaw_c (xs : List Flaw) (A : Option Addr) (c : Nat) (x : Flaw) (w : World) (hr : Rd encFlaw 4 w.heap.size w A xs) (hcap : xs.length ≤ c) (hn : xs.length ≤ 1048576) :
    Calls Tryd.prog 19 #[.slice A xs.length c, .agg #[.int .i64 x.row, .int .i64 x.col, .int .i64 x.code, .int .i64 x.since]] w (RetL encFlaw 4 (afL xs x) (afB xs x) w) := by
  have hW := New.of w [.int .i64 x.row, .int .i64 x.col, .int .i64 x.code, .int .i64 x.since] 43
  by_cases hg0 : goodFl xs = false
  · have HT := Lib.hid (show afB xs x = false by simp [afB, hg0])
    have HL := Lib.hid (show afL xs x = [] by unfold afL; rw [HT.out]; rfl)
    go_enter Tryd.func19, Tryd.ntmps19
    go_wp2_with fail
    generalize w.alloc (.cells [.int .i64 x.row, .int .i64 x.col, .int .i64 x.code, .int .i64 x.since].toArray 43) = W at *
    obtain ⟨hWb, hWl, hWc⟩ := hW
    refine (areFlaws_c xs _ _ _ (hr.go hWb) hn).mono ?_
    rw [hg0]
    rintro e w1 ⟨rfl, hb1⟩
    go_wp2_with fail
    go_returns
    exact ⟨none, 0, ret_list (by rw [HL.out]; rfl) HT.out.symm, below_via hWb hb1, Own.none_ HL.out (Nat.le_refl _)⟩
  have hg : goodFl xs = true := by simpa using hg0
  by_cases hx0 : x.ok = false
  · have HT := Lib.hid (show afB xs x = false by simp [afB, hx0])
    have HL := Lib.hid (show afL xs x = [] by unfold afL; rw [HT.out]; rfl)
    go_enter Tryd.func19, Tryd.ntmps19
    go_wp2_with fail
    generalize w.alloc (.cells [.int .i64 x.row, .int .i64 x.col, .int .i64 x.code, .int .i64 x.since].toArray 43) = W at *
    obtain ⟨hWb, hWl, hWc⟩ := hW
    refine (areFlaws_c xs _ _ _ (hr.go hWb) hn).mono ?_
    rw [hg]
    rintro e w1 ⟨rfl, hb1⟩
    have e0 := (hb1.cell (p := ⟨w.heap.size, 0, none⟩) hWl).trans (hWc 0 _ rfl)
    have e1 := (hb1.cell (p := ⟨w.heap.size, 1, none⟩) hWl).trans (hWc 1 _ rfl)
    have e2 := (hb1.cell (p := ⟨w.heap.size, 2, none⟩) hWl).trans (hWc 2 _ rfl)
    have e3 := (hb1.cell (p := ⟨w.heap.size, 3, none⟩) hWl).trans (hWc 3 _ rfl)
    go_wp2_with fail
    refine (isFlaw_c x _).mono ?_
    rw [hx0]
    rintro e w2 ⟨rfl, hb2⟩
    go_wp2_with fail
    go_returns
    exact ⟨none, 0, ret_list (by rw [HL.out]; rfl) HT.out.symm, below_via (below_via hWb hb1) hb2, Own.none_ HL.out (Nat.le_refl _)⟩
  have hx : x.ok = true := by simpa using hx0
  have hig := ins_good hg hx
  have HK := Lib.hid (show afB xs x = (!hasFl xs x && !decide (xs.length = 20)) by rw [← hig]; simp [afB, hg, hx])
  have HG := Lib.hid hg
  have HX := Lib.hid hx
  have hlen := goodFl_len hg
  have hple := posFl_le xs x
  have HLD := Lib.hid (show afL xs x = if afB xs x = true then insFl xs x else [] from rfl)
  clear hig hg0 hx0 hg hx
  go_enter Tryd.func19, Tryd.ntmps19
  go_wp2_with fail
  generalize w.alloc (.cells [.int .i64 x.row, .int .i64 x.col, .int .i64 x.code, .int .i64 x.since].toArray 43) = W at *
  obtain ⟨hWb, hWl, hWc⟩ := hW
  refine (areFlaws_c xs _ _ _ (hr.go hWb) hn).mono ?_
  rw [HG.out]
  rintro e w1 ⟨rfl, hb1⟩
  have e0 := (hb1.cell (p := ⟨w.heap.size, 0, none⟩) hWl).trans (hWc 0 _ rfl)
  have e1 := (hb1.cell (p := ⟨w.heap.size, 1, none⟩) hWl).trans (hWc 1 _ rfl)
  have e2 := (hb1.cell (p := ⟨w.heap.size, 2, none⟩) hWl).trans (hWc 2 _ rfl)
  have e3 := (hb1.cell (p := ⟨w.heap.size, 3, none⟩) hWl).trans (hWc 3 _ rfl)
  have hl1 := Nat.lt_of_lt_of_le hWl hb1.size
  have hbx := below_via hWb hb1
  clear hb1 hWb hWl hWc
  go_wp2_with fail
  refine (isFlaw_c x _).mono ?_
  rw [HX.out]
  rintro e w2 ⟨rfl, hb2⟩
  have e0 := (hb2.cell (p := ⟨w.heap.size, 0, none⟩) hl1).trans e0
  have e1 := (hb2.cell (p := ⟨w.heap.size, 1, none⟩) hl1).trans e1
  have e2 := (hb2.cell (p := ⟨w.heap.size, 2, none⟩) hl1).trans e2
  have e3 := (hb2.cell (p := ⟨w.heap.size, 3, none⟩) hl1).trans e3
  have hl2 := Nat.lt_of_lt_of_le hl1 hb2.size
  have hbx := below_via hbx hb2
  clear hb2 hl1
  go_wp2_with fail
  refine (binFl_c xs _ _ x _ (hr.go hbx) HG.out HX.out (by omega)).mono ?_
  rintro e w3 ⟨rfl, hb3⟩
  have e0 := (hb3.cell (p := ⟨w.heap.size, 0, none⟩) hl2).trans e0
  have e1 := (hb3.cell (p := ⟨w.heap.size, 1, none⟩) hl2).trans e1
  have e2 := (hb3.cell (p := ⟨w.heap.size, 2, none⟩) hl2).trans e2
  have e3 := (hb3.cell (p := ⟨w.heap.size, 3, none⟩) hl2).trans e3
  have hl3 := Nat.lt_of_lt_of_le hl2 hb3.size
  have hbx := below_via hbx hb3
  clear hb3 hl2
  have HIN := Lib.hid (show insFl xs x = xs.take (posFl xs x) ++ [x] ++ xs.drop (posFl xs x) from rfl)
  generalize posFl xs x = p at *
  generalize hasFl xs x = H at *
  cases H
  · by_cases h20 : xs.length = 20
    · have hd : ((xs.length : Int) == 20) = true := by simp; omega
      have HB : Hid (afB xs x = false) := Lib.hid (by rw [HK.out]; simp [h20])
      have HL := Lib.hid (show afL xs x = [] by rw [HLD.out, HB.out]; rfl)
      clear h20
      go_wp2_with fail
      go_returns
      exact ⟨none, 0, ret_list (by rw [HL.out]; rfl) HB.out.symm, hbx, Own.none_ HL.out (Nat.le_refl _)⟩
    · have hd : ((xs.length : Int) == 20) = false := by simp; omega
      have HB : Hid (afB xs x = true) := Lib.hid (by rw [HK.out]; simp [h20])
      have HL := Lib.hid (show afL xs x = xs.take p ++ [x] ++ xs.drop p by rw [HLD.out, HB.out]; exact HIN.out)
      clear h20
      go_upto_region 6 with fail
      have KE := Lib.hid (show ∀ W, Below w3.heap.size w3 W → W.cell? ⟨w.heap.size, 0, none⟩ = some (.int .i64 x.row) ∧ W.cell? ⟨w.heap.size, 1, none⟩ = some (.int .i64 x.col) ∧ W.cell? ⟨w.heap.size, 2, none⟩ = some (.int .i64 x.code) ∧ W.cell? ⟨w.heap.size, 3, none⟩ = some (.int .i64 x.since) from fun W hW =>
        ⟨(hW.cell (p := ⟨w.heap.size, 0, none⟩) hl3).trans e0, (hW.cell (p := ⟨w.heap.size, 1, none⟩) hl3).trans e1, (hW.cell (p := ⟨w.heap.size, 2, none⟩) hl3).trans e2, (hW.cell (p := ⟨w.heap.size, 3, none⟩) hl3).trans e3⟩)
      have hrd := Lib.hid (show Rd encFlaw 4 w3.drew.heap.size w3.drew A xs from hr.go hbx.drew)
      have hrdA := Lib.hid (show Rd encFlaw 4 (w3.alloc (.cells #[.int .i64 x.row, .int .i64 x.col, .int .i64 x.code, .int .i64 x.since] 43)).drew.heap.size (w3.alloc (.cells #[.int .i64 x.row, .int .i64 x.col, .int .i64 x.code, .int .i64 x.since] 43)).drew A xs from (hr.go hbx).go (((Below.refl w3.heap.size w3).alloc (Nat.le_refl _) _).drew))
      have hb0 := (Below.refl w3.heap.size w3).drew
      have hbB := ((Below.refl w3.heap.size w3).alloc (Nat.le_refl _) (.cells #[.int .i64 x.row, .int .i64 x.col, .int .i64 x.code, .int .i64 x.since] 43)).drew
      have hvB : (w3.alloc (.cells #[.int .i64 x.row, .int .i64 x.col, .int .i64 x.code, .int .i64 x.since] 43)).drew.heap[w3.heap.size]? = some (.cells #[.int .i64 x.row, .int .i64 x.col, .int .i64 x.code, .int .i64 x.since] 43) := heap_alloc_new w3 _
      have hsB : w3.heap.size < (w3.alloc (.cells #[.int .i64 x.row, .int .i64 x.col, .int .i64 x.code, .int .i64 x.since] 43)).drew.heap.size := by show w3.heap.size < (w3.alloc (.cells #[.int .i64 x.row, .int .i64 x.col, .int .i64 x.code, .int .i64 x.since] 43)).heap.size; simp
      clear e0 e1 e2 e3
      obtain ⟨tokA, _⟩ : ∃ t : Nat, True := ⟨0, trivial⟩
      go_region_held3 (fun W => W.cell? ⟨w.heap.size, 0, none⟩ = some (.int .i64 x.row) ∧ W.cell? ⟨w.heap.size, 1, none⟩ = some (.int .i64 x.col) ∧ W.cell? ⟨w.heap.size, 2, none⟩ = some (.int .i64 x.code) ∧ W.cell? ⟨w.heap.size, 3, none⟩ = some (.int .i64 x.since)) (first | assumption | exact KE.out _ hb0 | exact KE.out _ hbA | exact KE.out _ (hbA.alloc hbA.size _) | exact KE.out _ hbB | exact KE.out _ hbI) (first
        | (go_at_call 54; first
            | (refine (cloneFlaw_c xs _ _ _ hrd.out (by omega)).mono ?_; rintro e v1 ⟨B1, c1, rfl, ho1, hbA⟩; have hlt1 := ho1.lt_; have hbA := hb0.trans hbA)
            | (refine (cloneFlaw_c xs _ _ _ hrdA.out (by omega)).mono ?_; clear tokA; rintro e v1 ⟨B1, c1, rfl, ho1, hbA⟩; have hv1 := (hbA.block _ hsB).trans hvB; have hfr1 := ho1.from_; have hsA := Nat.lt_of_lt_of_le hsB hbA.size; have hbA := hbB.trans (hbA.mono (Nat.le_of_lt hsB))))
        | (go_at_call 53; first
            | (clear tokA; refine (insFlaw_c xs B1 c1 x p v1.heap.size w3.heap.size _ ((ho1.freshR (lo := w3.heap.size) (Nat.le_refl _)).below ((Below.refl _ _).alloc (Nat.le_refl _) _)) hple (heap_alloc_new _ _) (fun g h => by have := hlt1 g h; omega) (by omega) (by have := hbA.size; simp; omega)).mono ?_; rw [← HL.out]; rintro e v2 ⟨B2, c2, rfl, ho2, hbI⟩; have hbI := (hbA.alloc hbA.size _).trans hbI)
            | (refine (insFlaw_c xs B1 c1 x p w3.heap.size w3.heap.size _ (ho1.freshR (lo := w3.heap.size) (Nat.le_of_lt hsB)) hple hv1 (fun g h => by have := hfr1 g h; omega) (by omega) hbA.size).mono ?_; rw [← HL.out]; rintro e v2 ⟨B2, c2, rfl, ho2, hbI⟩; have hbI := hbA.trans hbI)))
      all_goals
        obtain ⟨A6, c6, hv6, hw6, _⟩ := ho2.own encFlaw_len
        injection hv6 with hv6 _ hv7
        subst hv6 hv7
        have hw6 := Lib.hid (hw6.wide (lo' := w.heap.size) hbx.size (Nat.le_refl _) (Nat.le_refl _))
        have hbI := Lib.hid (hbx.trans (hbI.mono hbx.size))
        go_wp2_with fail
        go_returns
        exact ⟨_, _, ret_list rfl HB.out.symm, hbI.out, hw6.out⟩
  · have HB : Hid (afB xs x = false) := Lib.hid (by rw [HK.out]; rfl)
    have HL := Lib.hid (show afL xs x = [] by rw [HLD.out, HB.out]; rfl)
    go_wp2_with fail
    go_returns
    exact ⟨none, 0, ret_list (by rw [HL.out]; rfl) HB.out.symm, hbx, Own.none_ HL.out (Nat.le_refl _)⟩
end Go.Proofs.YtgjehnjpbekoeaaDoor
