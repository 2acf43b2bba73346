/- l16Some: the reference's set of trials, its prices and odds. No condition but the sizes. -/
import Derived.Test.YtpfkmfejginojaaTrBt
namespace Go.Proofs.Ytpfkmfejginojaa
set_option linter.unusedVariables false
set_option linter.unusedSimpArgs false
open Go.RowKit
attribute [local irreducible] wpQuiet
/-- The call returns the trials of set number s, their prices and the odds after them. -/
def RetSome (xs : List Trial) (o : Odds) (s : Nat) (w : World) (e : Ending) (w' : World) : Prop := ∃ B c', e = .returned (.tuple #[.slice B (whichK s xs.length).length c', .int .i64 (priceL xs (whichK s xs.length)), .agg #[.int .i64 (oddsS xs o s xs.length).real, .int .i64 (oddsS xs o s xs.length).fake]]) ∧ Below w.heap.size w w' ∧ Own encI 1 w.heap.size w'.heap.size w' B (whichK s xs.length)
set_option maxRecDepth 100000 in
set_option maxHeartbeats 1600000 in
theorem l16Some_c (xs : List Trial) (A : Option Addr) (c : Nat) (o : Odds) (s : Nat) (w : World) (hr : Rd encTrial 3 w.heap.size w A xs) (hg : goodT xs = true) (ho : o.upto 0) (hs : s < 64) :
    Calls Try.prog 54 #[.slice A xs.length c, .agg #[.int .i64 o.real, .int .i64 o.fake], .int .i64 s] w (RetSome xs o s w) := by
  have hlen := good_len hg
  have HG := Lib.hid hg
  have HO := Lib.hid (oddsS_upto ho (fun i h => good_all hg h) s)
  have HP := Lib.hid (fun l => priceL_bd (fun i h => good_all hg h) l)
  have g0 : (((w.alloc (.cells #[.int .i64 o.real, .int .i64 o.fake] 31)).alloc (.cells #[.int .i64 0, .int .i64 0] 31)).alloc (.cells #[] 3)).cell? ⟨w.heap.size, 0, none⟩ = some (.int .i64 o.real) := by simp [go_sem]
  have g1 : (((w.alloc (.cells #[.int .i64 o.real, .int .i64 o.fake] 31)).alloc (.cells #[.int .i64 0, .int .i64 0] 31)).alloc (.cells #[] 3)).cell? ⟨w.heap.size, 1, none⟩ = some (.int .i64 o.fake) := by simp [go_sem]
  have g2 : (((w.alloc (.cells #[.int .i64 o.real, .int .i64 o.fake] 31)).alloc (.cells #[.int .i64 0, .int .i64 0] 31)).alloc (.cells #[] 3)).cell? ⟨w.heap.size + 1, 0, none⟩ = some (.int .i64 0) := by simp [go_sem]
  have g3 : (((w.alloc (.cells #[.int .i64 o.real, .int .i64 o.fake] 31)).alloc (.cells #[.int .i64 0, .int .i64 0] 31)).alloc (.cells #[] 3)).cell? ⟨w.heap.size + 1, 1, none⟩ = some (.int .i64 0) := by simp [go_sem]
  have y0 : ∀ o', (((w.alloc (.cells #[.int .i64 o.real, .int .i64 o.fake] 31)).alloc (.cells #[.int .i64 0, .int .i64 0] 31)).alloc (.cells #[] 3)).frozen? ⟨w.heap.size, o', none⟩ = false := fun o' => by simp [go_sem]
  have y1 : ∀ o', (((w.alloc (.cells #[.int .i64 o.real, .int .i64 o.fake] 31)).alloc (.cells #[.int .i64 0, .int .i64 0] 31)).alloc (.cells #[] 3)).frozen? ⟨w.heap.size + 1, o', none⟩ = false := fun o' => by simp [go_sem]
  have hbq : Below w.heap.size w (((w.alloc (.cells #[.int .i64 o.real, .int .i64 o.fake] 31)).alloc (.cells #[.int .i64 0, .int .i64 0] 31)).alloc (.cells #[] 3)) := by go_grown
  have hsz : w.heap.size + 2 ≤ (((w.alloc (.cells #[.int .i64 o.real, .int .i64 o.fake] 31)).alloc (.cells #[.int .i64 0, .int .i64 0] 31)).alloc (.cells #[] 3)).heap.size := by simp
  have hoS : Out (Value.int .i64) 3 (w.heap.size + 2) (.slice (some ⟨w.heap.size + 1 + 1, 0, none⟩) 0 0) (whichK s 0) (((w.alloc (.cells #[.int .i64 o.real, .int .i64 o.fake] 31)).alloc (.cells #[.int .i64 0, .int .i64 0] 31)).alloc (.cells #[] 3)) := by
    have := Out.empty (V := Value.int .i64) (E := 3) (α := Int) (base := w.heap.size + 2) ((w.alloc (.cells #[.int .i64 o.real, .int .i64 o.fake] 31)).alloc (.cells #[.int .i64 0, .int .i64 0] 31)) (by simp)
    have h0 : whichK s 0 = [] := rfl
    rw [h0]
    simpa using this
  clear hg
  go_enter Try.func54, Try.ntmps54
  go_wp2_with fail
  generalize ((w.alloc (.cells #[.int .i64 o.real, .int .i64 o.fake] 31)).alloc (.cells #[.int .i64 0, .int .i64 0] 31)).alloc (.cells #[] 3) = W at *
  go_loopw [9, 10, 11] (fun u v i wr => ∃ k : Nat, k ≤ xs.length ∧ i = .int .i64 k ∧ v = .int .i64 (priceL xs (whichK s k)) ∧ Out (Value.int .i64) 3 (w.heap.size + 2) u (whichK s k) wr ∧ wr.cell? ⟨w.heap.size, 0, none⟩ = some (.int .i64 (oddsS xs o s k).real) ∧ wr.cell? ⟨w.heap.size, 1, none⟩ = some (.int .i64 (oddsS xs o s k).fake) ∧
      wr.cell? ⟨w.heap.size + 1, 0, none⟩ = some (.int .i64 0) ∧ wr.cell? ⟨w.heap.size + 1, 1, none⟩ = some (.int .i64 0) ∧ (∀ o', wr.frozen? ⟨w.heap.size, o', none⟩ = false) ∧ (∀ o', wr.frozen? ⟨w.heap.size + 1, o', none⟩ = false) ∧ w.heap.size + 2 ≤ wr.heap.size ∧ Below w.heap.size w wr) (fun _ _ i _ => xs.length - (intOf i).toNat)
  case atStart => exact ⟨0, Nat.zero_le _, rfl, rfl, hoS, g0, g1, g2, g3, y0, y1, hsz, hbq⟩
  case round =>
    clear g0 g1 g2 g3 y0 y1 hsz hbq hoS
    obtain ⟨k, hk, rfl, rfl, hok, f0, f1, f2, f3, z0, z1, hsz, hb⟩ := hrel
    have hwl := whichK_len s k
    have hpb := HP.out (whichK s k)
    by_cases hlt : k < xs.length
    · obtain ⟨b, off, rfl, hbs, d0, d1, d2⟩ := (hr.below hb).atTrial hlt
      have hk0 : (0 : Int) ≤ (k : Int) := by omega
      have hk1 : (k : Int) < (xs.length : Int) := by omega
      have hbt := bit_at (s := s) (k := k) hs (by omega)
      cases hbit : s.testBit k with
      | false =>
        rw [hbit] at hbt
        have HS := Lib.hid (whichK_no hbit)
        have HQ := Lib.hid (oddsS_no (o := o) hlt hbit)
        clear hbit
        go_wp2_with fail
        go_roundw
        case rel => exact ⟨k + 1, by omega, by go_num, by rw [HS.out], by rw [HS.out]; exact hok, by rw [HQ.out]; exact f0, by rw [HQ.out]; exact f1, f2, f3, z0, z1, hsz, hb⟩
        case measure => simp [intOf]; omega
      | true =>
        rw [hbit] at hbt
        have HS := Lib.hid (whichK_yes hbit)
        have HQ := Lib.hid (oddsS_yes (o := o) hlt hbit)
        have HPS := Lib.hid (show priceL xs (whichK s (k + 1)) = priceL xs (whichK s k) + xs[k].price by rw [whichK_yes hbit, priceL_app, priceL_one hlt])
        clear hbit
        have hTk := good_all HG.out hlt
        have hup := HO.out k (by omega)
        have hub := upto_bd hup (by omega)
        have hp := ok_bd hTk
        have hp1 : 0 ≤ xs[k].price := hp.2.2.2.2.1
        have hp2 : xs[k].price ≤ 1000 := hp.2.2.2.2.2
        clear hp
        generalize priceL xs (whichK s k) = pr at *
        generalize whichK s k = ys at *
        generalize oddsS xs o s k = ok at *
        generalize hX : xs[k] = x at *
        have HX := Lib.hid hX
        clear hX
        go_upto_region 7 with (at_builtin; refine wpList_pushH rfl _ _ _ rfl 3 (.int .i64 0) 8 Try.underlying26 infoI rfl (k : Int) rfl hok _ rfl (by simp) rfl (by omega) (by omega) (by omega) ?_; intro v1 w4 hown1 hbel1 hg1)
        rw [← HS.out] at hown1
        have hs4 := hbel1.size
        have f0 := (hbel1.cell (p := ⟨w.heap.size, 0, none⟩) (by simp only; omega)).trans f0
        have f1 := (hbel1.cell (p := ⟨w.heap.size, 1, none⟩) (by simp only; omega)).trans f1
        have f2 := (hbel1.cell (p := ⟨w.heap.size + 1, 0, none⟩) (by simp only; omega)).trans f2
        have f3 := (hbel1.cell (p := ⟨w.heap.size + 1, 1, none⟩) (by simp only; omega)).trans f3
        have z0 := fun o' => (hbel1.frozen (p := ⟨w.heap.size, o', none⟩) (by simp only; omega)).trans (z0 o')
        have z1 := fun o' => (hbel1.frozen (p := ⟨w.heap.size + 1, o', none⟩) (by simp only; omega)).trans (z1 o')
        have hb4 := hb.trans (hbel1.mono (by omega))
        have d0 := (hbel1.cell (p := ⟨b, _, none⟩) (by simp only; omega)).trans d0
        have d1 := (hbel1.cell (p := ⟨b, _, none⟩) (by simp only; omega)).trans d1
        have d2 := (hbel1.cell (p := ⟨b, _, none⟩) (by simp only; omega)).trans d2
        clear hg1 hbel1 hok
        go_upto_region 8 with fail
        go_still_tail 5, (by kernel_rfl)
        change wpList _ _ _ _ _ w4.drew
        go_wp2_with fail
        refine (change_c ok x true k _ hup (by omega) hTk).mono ?_
        rintro _ w5 ⟨rfl, hb5⟩
        have hs5 : w4.heap.size ≤ w5.heap.size := hb5.size
        have r0 := (hb5.cell (p := ⟨w.heap.size, 0, none⟩) (show w.heap.size < w4.heap.size by omega)).trans f0
        have r1 := (hb5.cell (p := ⟨w.heap.size, 1, none⟩) (show w.heap.size < w4.heap.size by omega)).trans f1
        have r2 := (hb5.cell (p := ⟨w.heap.size + 1, 0, none⟩) (show w.heap.size + 1 < w4.heap.size by omega)).trans f2
        have r3 := (hb5.cell (p := ⟨w.heap.size + 1, 1, none⟩) (show w.heap.size + 1 < w4.heap.size by omega)).trans f3
        have q0 : ∀ o', w5.frozen? ⟨w.heap.size, o', none⟩ = false := fun o' => (hb5.frozen (p := ⟨w.heap.size, o', none⟩) (show w.heap.size < w4.heap.size by omega)).trans (z0 o')
        have q1 : ∀ o', w5.frozen? ⟨w.heap.size + 1, o', none⟩ = false := fun o' => (hb5.frozen (p := ⟨w.heap.size + 1, o', none⟩) (show w.heap.size + 1 < w4.heap.size by omega)).trans (z1 o')
        have hown5 := (hown1.below (Below.refl _ _).drew).below hb5
        have hb6 := hb4.drew.trans (hb5.mono hb4.drew.size)
        have HQ2 := Lib.hid (show oddsS xs o s (k + 1) = ok.after x true by rw [HQ.out])
        generalize ok.after x true = ok2 at *
        clear f0 f1 f2 f3 z0 z1 d0 d1 d2 hb5
        go_wp2_with fail
        obtain ⟨x0, x1⟩ := set2_cells (a := .int .i64 ok2.real) (b := .int .i64 ok2.fake) r0 r1
        have hF := ((Fr.refl w.heap.size (w.heap.size + 1) w5).setCell (p := ⟨w.heap.size, 0, none⟩) (Nat.le_refl _) (Nat.lt_succ_self _) (.int .i64 ok2.real)).setCell (p := ⟨w.heap.size, 1, none⟩) (Nat.le_refl _) (Nat.lt_succ_self _) (.int .i64 ok2.fake)
        have hbf := (hb6.setCell (p := ⟨w.heap.size, 0, none⟩) (Nat.le_refl _) (.int .i64 ok2.real)).setCell (p := ⟨w.heap.size, 1, none⟩) (Nat.le_refl _) (.int .i64 ok2.fake)
        have hown6 : Out (Value.int .i64) 3 (w.heap.size + 2) v1 (whichK s (k + 1)) ((w5.setCell ⟨w.heap.size, 0, none⟩ (.int .i64 ok2.real)).setCell ⟨w.heap.size, 1, none⟩ (.int .i64 ok2.fake)) :=
          World.ownsRow.kept hown5 (row := some w.heap.size) ⟨hF.os, hF.tape, hF.output, hF.size, fun k hk hne => hF.block k hk (by have : k ≠ w.heap.size := fun e => hne (by rw [e]); omega)⟩ (by
            cases hv : v1.ownBlock with
            | none => exact .inl rfl
            | some g => exact .inr (fun e => by injection e with e; have := hown5.from_ g hv; omega))
        have hsf := hF.size
        go_roundw
        case rel => exact ⟨k + 1, by omega, by go_num, by rw [HPS.out], hown6, by rw [HQ2.out]; exact x0, by rw [HQ2.out]; exact x1,
          (World.cell?_setCell_other _ _ _ _ (by simp)).trans ((World.cell?_setCell_other _ _ _ _ (by simp)).trans r2), (World.cell?_setCell_other _ _ _ _ (by simp)).trans ((World.cell?_setCell_other _ _ _ _ (by simp)).trans r3),
          fun o' => by rw [World.frozen?_setCell, World.frozen?_setCell]; exact q0 o', fun o' => by rw [World.frozen?_setCell, World.frozen?_setCell]; exact q1 o', by omega, hbf⟩
        case measure => simp [intOf]; omega
    · have hke : k = xs.length := by omega
      subst hke
      obtain ⟨B, c', rfl, hown⟩ := hok.own
      have HR : Hid (whichK s xs.length = whichK s xs.length) := Lib.hid rfl
      generalize hWK : whichK s xs.length = wk at *
      generalize hPR : priceL xs wk = pr at *
      generalize hOD : oddsS xs o s xs.length = od at *
      have HWK := Lib.hid hWK
      have HPR := Lib.hid hPR
      have HOD := Lib.hid hOD
      clear hWK hPR hOD
      go_upto_region 9 with fail
      go_still_tail 5, (by kernel_rfl)
      change wpList _ _ _ _ _ wr.drew
      have f0 : wr.drew.cell? ⟨w.heap.size, 0, none⟩ = some (.int .i64 od.real) := f0
      have f1 : wr.drew.cell? ⟨w.heap.size, 1, none⟩ = some (.int .i64 od.fake) := f1
      have f2 : wr.drew.cell? ⟨w.heap.size + 1, 0, none⟩ = some (.int .i64 0) := f2
      have f3 : wr.drew.cell? ⟨w.heap.size + 1, 1, none⟩ = some (.int .i64 0) := f3
      have z1 : ∀ o', wr.drew.frozen? ⟨w.heap.size + 1, o', none⟩ = false := z1
      have hbd := hb.drew
      have hownd := hown.go (Below.refl _ _).drew
      have hsd : w.heap.size + 2 ≤ wr.drew.heap.size := hsz
      have hrd : wr.heap.size ≤ wr.drew.heap.size := Nat.le_refl _
      generalize wr.drew = wd at *
      have hR := set2_cells (a := .int .i64 od.real) (b := .int .i64 od.fake) f2 f3
      go_wp2_with fail
      have hF := ((Fr.refl (w.heap.size + 1) (w.heap.size + 2) wd).setCell (p := ⟨w.heap.size + 1, 0, none⟩) (Nat.le_refl _) (Nat.lt_succ_self _) (.int .i64 od.real)).setCell (p := ⟨w.heap.size + 1, 1, none⟩) (Nat.le_refl _) (Nat.lt_succ_self _) (.int .i64 od.fake)
      refine bodyPost_ret (v := .tuple #[.slice B wk.length c', .int .i64 pr, .agg #[.int .i64 od.real, .int .i64 od.fake]]) (by simp [results, Try.results54, go_sem, hR.1, hR.2]) rfl ⟨B, c', ?_, ?_, ?_⟩
      · rw [HWK.out, HPR.out, HOD.out]
      · exact (hbd.setCell (p := ⟨w.heap.size + 1, 0, none⟩) (Nat.le_succ _) _).setCell (p := ⟨w.heap.size + 1, 1, none⟩) (Nat.le_succ _) _
      · rw [HWK.out]
        exact (hownd.fr hF (.inr (Nat.le_refl _))).wide (by omega) (Nat.le_trans hrd hF.size) (Nat.le_refl _)
end Go.Proofs.Ytpfkmfejginojaa
