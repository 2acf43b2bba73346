/- Contract of the reference's GiveOpinion. No condition but the sizes. -/
import Derived.Test.YtfkdefmdnkfpfaaOpGive
namespace Go.Proofs.Ytfkdefmdnkfpfaa
set_option linter.unusedVariables false
set_option linter.unusedSimpArgs false
open Go.RowKit
attribute [local irreducible] wpQuiet
set_option maxRecDepth 100000 in
set_option maxHeartbeats 2000000 in
theorem specGiveOpinion_c (xs : List Opinion) (A : Option Addr) (c : Nat) (z : Int) (e : ByteArray) (d s : Int) (w : World) (hr : Rd encOpinion 5 w.heap.size w A xs) (hn : xs.length ≤ 1048576) (hw : ∀ x ∈ xs, x.expert.size ≤ 9223372036854775807) (hz : -9223372036854775808 ≤ z ∧ z ≤ 9223372036854775807) (he : e.size ≤ 9223372036854775807) (hd : -9223372036854775808 ≤ d ∧ d ≤ 9223372036854775807) (hs : -9223372036854775808 ≤ s ∧ s ≤ 9223372036854775807) :
    Calls Try.prog 8 #[.slice A xs.length c, .int .i64 z, .string e, .int .i64 d, .int .i64 s] w (RetL encOpinion 5 (giveL xs z e d s) (giveB xs z e d s) w) := by
  have HW := Lib.hid hw
  clear hw
  have HX := Lib.hid (show ∀ o, ∀ y ∈ xs ++ [(⟨z, e, d, s, o⟩ : Opinion)], y.expert.size ≤ 9223372036854775807 from fun o y hy => by
    rcases List.mem_append.1 hy with h | h
    · exact HW.out y h
    · simp at h; subst h; exact he)
  by_cases hF : goodO xs = false
  · go_enter Try.func8, Try.ntmps8
    have hbg := Below.refl w.heap.size w
    go_wp2_with fail
    refine (l17Good_c xs _ _ _ (hr.go hbg) hn HW.out).mono ?_
    rintro e wg0 ⟨rfl, hb0⟩
    have hbg := below_via hbg hb0
    go_wp2_with fail
    go_returns
    have HB : giveB xs z e d s = false := by simp [giveB, hF]
    exact ⟨_, _, ret_list (by simp [giveL, HB]) HB.symm, below_via hbg (by go_grown), Own.none_ (by simp [giveL, HB]) (Nat.le_refl _)⟩
  have G0 : goodO xs = true := by simpa using hF
  clear hF
  go_enter Try.func8, Try.ntmps8
  have hbg := Below.refl w.heap.size w
  go_wp2_with fail
  refine (l17Good_c xs _ _ _ (hr.go hbg) hn HW.out).mono ?_
  rintro e wg0 ⟨rfl, hb0⟩
  have hbg := below_via hbg hb0
  have hlen := goodO_len G0
  have HG := Lib.hid G0
  have HB := Lib.hid (show giveB xs z e d s = goodO (xs ++ [⟨z, e, d, s, lastO xs z e d⟩]) by unfold giveB; rw [G0, Bool.true_and])
  have HL := Lib.hid (fun (h : giveB xs z e d s = true) => (show giveL xs z e d s = xs ++ [⟨z, e, d, s, lastO xs z e d⟩] by unfold giveL; rw [if_pos h]))
  have HN := Lib.hid (fun (h : giveB xs z e d s = false) => (show giveL xs z e d s = [] by unfold giveL; rw [if_neg (by rw [h]; exact Bool.false_ne_true)]))
  obtain ⟨q, hq⟩ : ∃ q, lastO xs z e d = q := ⟨_, rfl⟩
  go_wp2_with fail
  clear G0
  refine (l17Last_c xs _ _ z e d _ (hr.go hbg) (by omega) HG.out).mono ?_
  rw [hq]
  rw [hq] at HB HL
  clear hq
  rintro _ _ ⟨rfl, rfl⟩
  go_wp2_with fail
  have hW := New.of wg0 [.int .i64 z, .string e, .int .i64 d, .int .i64 s, .int .i64 q] 39
  generalize wg0.alloc (.cells #[.int .i64 z, .string e, .int .i64 d, .int .i64 s, .int .i64 q] 39) = V at *
  obtain ⟨hVb, hVl, hVc⟩ := hW
  have e0 := hVc 0 _ rfl
  have e1 := hVc 1 _ rfl
  have e2 := hVc 2 _ rfl
  have e3 := hVc 3 _ rfl
  have e4 := hVc 4 _ rfl
  clear hVc
  have hbV := below_via hbg hVb
  obtain ⟨hp, hhp⟩ : ∃ hp, wg0.heap.size = hp := ⟨_, rfl⟩
  rw [hhp] at hVl e0 e1 e2 e3 e4 ⊢
  clear hhp hVb hbg
  have hrV := hr.go hbV
  have KE := Lib.hid (show ∀ W, Below V.heap.size V W → W.cell? ⟨hp, 0, none⟩ = some (.int .i64 z) ∧ W.cell? ⟨hp, 1, none⟩ = some (.string e) ∧ W.cell? ⟨hp, 2, none⟩ = some (.int .i64 d) ∧ W.cell? ⟨hp, 3, none⟩ = some (.int .i64 s) ∧ W.cell? ⟨hp, 4, none⟩ = some (.int .i64 q) from fun W hb =>
    ⟨(hb.cell (p := ⟨hp, _, none⟩) hVl).trans e0, (hb.cell (p := ⟨hp, _, none⟩) hVl).trans e1, (hb.cell (p := ⟨hp, _, none⟩) hVl).trans e2, (hb.cell (p := ⟨hp, _, none⟩) hVl).trans e3, (hb.cell (p := ⟨hp, _, none⟩) hVl).trans e4⟩)
  clear e0 e1 e2 e3 e4
  go_region_held3 (fun W => W.cell? ⟨hp, 0, none⟩ = some (.int .i64 z) ∧ W.cell? ⟨hp, 1, none⟩ = some (.string e) ∧ W.cell? ⟨hp, 2, none⟩ = some (.int .i64 d) ∧ W.cell? ⟨hp, 3, none⟩ = some (.int .i64 s) ∧ W.cell? ⟨hp, 4, none⟩ = some (.int .i64 q)) (first | assumption | exact KE.out _ hB2 | exact KE.out _ hB1 | exact KE.out _ (hB1.alloc hB1.size _) | exact KE.out _ (by go_grown)) (first
    | ((refine step_app (o := ⟨some 30, _, _, _, _, _⟩) (by rfl) (.tmp 28) (.tmp 29) _ (by rfl) 39 (.agg #[.int .i64 0, .string ⟨#[]⟩, .int .i64 0, .int .i64 0, .int .i64 0]) 5 48 Try.underlying24 infoOpinion (by rfl) (by decide) encOpinion_len oneO (base := V.heap.size) (zs := xs) (by rfl) (by rfl) rfl (by first | exact OutR.emptyH _ _ (by simp) (by first | (simp; done) | (simp; omega)) | exact OutR.emptyHD _ _ (by simp) (by first | (simp; done) | (simp; omega)) | exact (OutR.emptyH V _ rfl (Nat.le_refl _)).below (by go_grown)) (hrV.go (by go_grown)) (by first | omega | (simp; omega)) (by first | omega | (simp; omega)) (by first | (simp; done) | (simp; omega)) ?_; intro v1 W1 ho1 hb1 hg1; have hB1 : Below V.heap.size V W1 := Below.trans (by go_grown) hb1))
    | ((refine step_app (o := ⟨some 33, _, _, _, _, _⟩) (by rfl) (.tmp 30) (.tmp 32) _ (by rfl) 39 (.agg #[.int .i64 0, .string ⟨#[]⟩, .int .i64 0, .int .i64 0, .int .i64 0]) 5 48 Try.underlying24 infoOpinion (by rfl) (by decide) encOpinion_len oneO (base := V.heap.size) (m := 1) (zs := [(⟨z, e, d, s, q⟩ : Opinion)]) (by rfl) (by rfl) rfl (by first | exact ho1 | exact ho1.below ((Below.refl _ _).alloc (Nat.le_refl _) _)) (by first | exact rd_new (x := (⟨z, e, d, s, q⟩ : Opinion)) (vs := [.int .i64 z, .string e, .int .i64 d, .int .i64 s, .int .i64 q]) rfl rfl | exact rd_oneO (hg1.cell (by simp) (by simp [Value.ownBlock, go_sem])) (hg1.cell (by simp) (by simp [Value.ownBlock, go_sem])) (hg1.cell (by simp) (by simp [Value.ownBlock, go_sem])) (hg1.cell (by simp) (by simp [Value.ownBlock, go_sem])) (hg1.cell (by simp) (by simp [Value.ownBlock, go_sem]))) (by first | omega | (simp; omega)) (by first | omega | (simp; omega)) (by have := hB1.size; simp; omega) ?_; intro v2 W2 ho2 hb2 hg2; have hB2 : Below V.heap.size V W2 := (by first | exact hB1.trans hb2 | exact (hB1.alloc hB1.size _).trans hb2))))
  all_goals
    have hbg3 := below_via hbV hB2
    have hyl : (xs ++ [(⟨z, e, d, s, q⟩ : Opinion)]).length ≤ 16 := by simp; omega
    have HX := Lib.hid (HX.out q)
    rw [List.nil_append] at ho2
    generalize xs ++ [(⟨z, e, d, s, q⟩ : Opinion)] = ys at ho2 HB HL HX hyl
    clear hb1 hB1 ho1
    obtain ⟨B3, c3, rfl, hO3, hc3⟩ := ho2.own encOpinion_len
    go_wp2_with fail
    refine (l17Good_c ys _ _ _ hO3.rd (by omega) HX.out).mono ?_
    rintro _ w4 ⟨rfl, hb4⟩
    have hbg4 := below_via hbg3 hb4
    cases hg : goodO ys with
    | false =>
      have HB := Lib.hid (show giveB xs z e d s = false by rw [HB.out, hg])
      go_wp2_with fail
      go_returns
      exact ⟨_, _, ret_list (by rw [HN.out HB.out]; rfl) HB.out.symm, below_via hbg4 (by go_grown), Own.none_ (HN.out HB.out) (Nat.le_refl _)⟩
    | true =>
      have HB := Lib.hid (show giveB xs z e d s = true by rw [HB.out, hg])
      have HL := Lib.hid (HL.out HB.out)
      go_wp2_with fail
      go_returns
      exact ⟨B3, c3, ret_list (by rw [HL.out]) HB.out.symm, hbg4, ((hO3.go hb4).wide hbV.size (by exact hb4.size) (Nat.le_refl _)).cast HL.out.symm⟩
end Go.Proofs.Ytfkdefmdnkfpfaa
