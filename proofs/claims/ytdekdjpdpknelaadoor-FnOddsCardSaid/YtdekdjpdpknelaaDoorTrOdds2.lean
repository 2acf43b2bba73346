/- Contracts of OddsAfter, in the reference and in the program. No condition but the lists' sizes. -/
import Derived.Test.YtdekdjpdpknelaaDoorTrOdds
import Derived.Test.YtdekdjpdpknelaaDoorScal
namespace Go.Proofs.YtdekdjpdpknelaaDoor
set_option linter.unusedVariables false
set_option linter.unusedSimpArgs false
open Go.RowKit
/-- The odds after the first k trials. -/
def oddsF (xs : List Trial) (o : Odds) (bs : List Bool) (k : Nat) : Odds :=
  (List.range k).foldl (fun o i => match xs[i]?, bs[i]? with | some t, some b => o.after t b | _, _ => o) o
theorem oddsF_succ (xs : List Trial) (o : Odds) (bs : List Bool) {k : Nat} (h : k < xs.length) (h' : k < bs.length) : oddsF xs o bs (k + 1) = (oddsF xs o bs k).after xs[k] bs[k] := by
  unfold oddsF; rw [List.range_succ, List.foldl_append]; simp [h, h']
theorem oddsF_upto (xs : List Trial) (o : Odds) (bs : List Bool) (h0 : o.upto 0) (hg : ∀ (i : Nat) (h : i < xs.length), xs[i].ok = true) (hl : bs.length = xs.length) (k : Nat) (hk : k ≤ xs.length) : (oddsF xs o bs k).upto k := by
  induction k with
  | zero => exact h0
  | succ k ih =>
    rw [oddsF_succ xs o bs (by omega) (by omega)]
    exact after_upto (ih (by omega)) (hg k (by omega)) _
def oddsOk (xs : List Trial) (o : Odds) (bs : List Bool) : Bool := goodT xs && isOd o.real o.fake && decide (bs.length = xs.length)
def oddsR (xs : List Trial) (o : Odds) (bs : List Bool) : Odds := if oddsOk xs o bs then oddsF xs o bs xs.length else ⟨0, 0⟩
def oddsV (xs : List Trial) (o : Odds) (bs : List Bool) : Value := .tuple #[.agg #[.int .i64 (oddsR xs o bs).real, .int .i64 (oddsR xs o bs).fake], .bool (oddsOk xs o bs)]
theorem oddsV_no {xs : List Trial} {o : Odds} {bs : List Bool} (h : oddsOk xs o bs = false) : oddsV xs o bs = .tuple #[.agg #[.int .i64 0, .int .i64 0], .bool false] := by simp [oddsV, oddsR, h]
theorem oddsV_yes {xs : List Trial} {o : Odds} {bs : List Bool} (h : oddsOk xs o bs = true) : oddsV xs o bs = .tuple #[.agg #[.int .i64 (oddsF xs o bs xs.length).real, .int .i64 (oddsF xs o bs xs.length).fake], .bool true] := by simp [oddsV, oddsR, h]
theorem isOd_upto {a b : Int} (h : isOd a b = true) : Odds.upto ⟨a, b⟩ 0 := by
  obtain ⟨h1, h2, h3, h4⟩ := isOd_bd h
  exact ⟨h1, by simpa using h2, h3, by simpa using h4⟩
theorem oddsV_eq (xs : List Trial) (o : Odds) (bs : List Bool) : oddsV xs o bs = .tuple #[.agg #[.int .i64 (oddsR xs o bs).real, .int .i64 (oddsR xs o bs).fake], .bool (oddsOk xs o bs)] := rfl
/-- Odds in a variable of the call's own. -/
theorem box2_new (w : World) (o : Odds) (t : TypeId) : Own encOdds 2 w.heap.size (w.heap.size + 1) (w.alloc (.cells #[.int .i64 o.real, .int .i64 o.fake] t)) (some ⟨w.heap.size, 0, none⟩) [o] :=
  ⟨by simp, fun _ => ⟨w.heap.size, 0, rfl, Nat.le_refl _, by omega, fun i x hx j v hv => by
    match i, hx with
    | 0, hx =>
      simp at hx; subst hx
      match j, hv with
      | 0, hv => simp [encOdds] at hv; subst hv; simp
      | 1, hv => simp [encOdds] at hv; subst hv; simp,
    fun o' => World.frozen?_alloc_new w _ t o'⟩⟩
theorem box2 {w : World} {o : Odds} {lo hi b : Nat} (h : Own encOdds 2 lo hi w (some ⟨b, 0, none⟩) [o]) : w.cell? ⟨b, 0, none⟩ = some (.int .i64 o.real) ∧ w.cell? ⟨b, 1, none⟩ = some (.int .i64 o.fake) := by
  obtain ⟨b', off, hA, _, _, hc, _⟩ := h.2 (by simp)
  injection hA with hA; injection hA with h1 h2
  subst h1 h2
  exact ⟨by simpa using hc 0 o rfl 0 _ rfl, by simpa using hc 0 o rfl 1 _ rfl⟩
set_option maxRecDepth 100000 in
set_option maxHeartbeats 2000000 in
theorem specOddsAfter_c (xs : List Trial) (A : Option Addr) (c : Nat) (o : Odds) (bs : List Bool) (A2 : Option Addr) (c2 : Nat) (w : World) (hr : Rd encTrial 3 w.heap.size w A xs) (hn : xs.length ≤ 1048576) (hr2 : Rd encB 1 w.heap.size w A2 bs) (hn2 : bs.length ≤ 1048576) :
    Calls Tryd.prog 7 #[.slice A xs.length c, .agg #[.int .i64 o.real, .int .i64 o.fake], .slice A2 bs.length c2] w (Ret (oddsV xs o bs) w) := by
  by_cases hg : goodT xs = true
  · by_cases ho : isOd o.real o.fake = true
    · by_cases hl : bs.length = xs.length
      · have HV := Lib.hid (oddsV_yes (o := o) (show oddsOk xs o bs = true by simp [oddsOk, hg, ho, hl]))
        have HU := Lib.hid (oddsF_upto xs o bs (isOd_upto ho) (fun i h => good_all hg h) hl)
        have HG := Lib.hid (fun (i : Nat) (h : i < xs.length) => good_all hg h)
        have hlen := good_len hg
        have hl' : ((bs.length : Int) != (xs.length : Int)) = false := by rw [hl]; simp
        have hl1 : bs.length ≤ xs.length := by omega
        have hl2 : xs.length ≤ bs.length := by omega
        clear hl
        go_enter Tryd.func7, Tryd.ntmps7
        go_wp2_with fail
        refine (l16Good_c xs _ _ _ (hr.go (by go_grown)) hn).mono ?_
        rintro e w1 ⟨rfl, hb1⟩
        obtain ⟨hc, hf⟩ := bcell hb1
        go_wp2_with fail
        refine (l16Odds_c _ _ _).mono ?_
        rintro e w2 ⟨rfl, hb2⟩
        have hx := below_step hb1 hb2
        clear hc hf
        have hq := below_via (show Below w.heap.size w ((w.alloc (.cells #[.int .i64 o.real, .int .i64 o.fake] 26)).alloc (.cells #[.int .i64 0, .int .i64 0] 26)) by go_grown) hx
        have f0 : w2.cell? ⟨w.heap.size, 0, none⟩ = some (.int .i64 o.real) := by rw [hx.cell (p := ⟨w.heap.size, 0, none⟩) (by simp; omega)]; simp [go_sem]
        have f1 : w2.cell? ⟨w.heap.size, 1, none⟩ = some (.int .i64 o.fake) := by rw [hx.cell (p := ⟨w.heap.size, 1, none⟩) (by simp; omega)]; simp [go_sem]
        have f2 : w2.cell? ⟨w.heap.size + 1, 0, none⟩ = some (.int .i64 0) := by rw [hx.cell (p := ⟨w.heap.size + 1, 0, none⟩) (by simp)]; simp [go_sem]
        have f3 : w2.cell? ⟨w.heap.size + 1, 1, none⟩ = some (.int .i64 0) := by rw [hx.cell (p := ⟨w.heap.size + 1, 1, none⟩) (by simp)]; simp [go_sem]
        have z0 : ∀ o, w2.frozen? ⟨w.heap.size, o, none⟩ = false := fun o => by rw [hx.frozen (p := ⟨w.heap.size, o, none⟩) (by simp; omega)]; simp [go_sem]
        have z1 : ∀ o, w2.frozen? ⟨w.heap.size + 1, o, none⟩ = false := fun o => by rw [hx.frozen (p := ⟨w.heap.size + 1, o, none⟩) (by simp)]; simp [go_sem]
        have hsz : w.heap.size + 2 ≤ w2.heap.size := by have := hx.size; simp at this; omega
        clear hb1 hb2 hx
        go_wp2_with fail
        clear hg ho hl'
        go_loopw [8] (fun i wr => ∃ k : Nat, k ≤ xs.length ∧ i = .int .i64 k ∧ wr.cell? ⟨w.heap.size, 0, none⟩ = some (.int .i64 (oddsF xs o bs k).real) ∧ wr.cell? ⟨w.heap.size, 1, none⟩ = some (.int .i64 (oddsF xs o bs k).fake) ∧ wr.cell? ⟨w.heap.size + 1, 0, none⟩ = some (.int .i64 0) ∧ wr.cell? ⟨w.heap.size + 1, 1, none⟩ = some (.int .i64 0) ∧
            (∀ o, wr.frozen? ⟨w.heap.size, o, none⟩ = false) ∧ (∀ o, wr.frozen? ⟨w.heap.size + 1, o, none⟩ = false) ∧ w.heap.size + 2 ≤ wr.heap.size ∧ Below w.heap.size w wr) (fun i _ => xs.length - (intOf i).toNat)
        case atStart => exact ⟨0, Nat.zero_le _, rfl, f0, f1, f2, f3, z0, z1, hsz, hq⟩
        case round =>
          clear f0 f1 f2 f3 z0 z1 hsz hq
          obtain ⟨k, hk, rfl, f0, f1, f2, f3, z0, z1, hsz, hb⟩ := hrel
          by_cases hlt : k < xs.length
          · obtain ⟨b, off, rfl, hbs, d0, d1, d2⟩ := (hr.below hb).atTrial hlt
            have hbw : b < wr.heap.size := Nat.lt_of_lt_of_le hbs hb.size
            obtain ⟨b', off', rfl, hbs', g0⟩ := (hr2.below hb).bool (i := k) (by omega)
            have hbw' : b' < wr.heap.size := Nat.lt_of_lt_of_le hbs' hb.size
            have hwr : w.heap.size < wr.heap.size := by omega
            have hkb : k < bs.length := by omega
            have hsu := oddsF_succ xs o bs hlt (show k < bs.length by omega)
            have hup := HU.out k hk
            have hok := HG.out k hlt
            generalize oddsF xs o bs k = ok at *
            generalize bs[k] = bk at *
            have HS := Lib.hid hsu
            have HP := Lib.hid hup
            have HK := Lib.hid hok
            clear hsu hup hok
            go_wp2_with fail
            go_still_tail 9, (by kernel_rfl)
            change wpList _ _ _ _ _ wr.drew
            go_wp2_with fail
            refine (change_c ok xs[k] bk k _ HP.out (by omega) HK.out).mono ?_
            rintro e w3 ⟨rfl, hb3⟩
            have e0 : w3.cell? ⟨w.heap.size, 0, none⟩ = some (.int .i64 ok.real) := (hb3.cell (p := ⟨w.heap.size, 0, none⟩) (show w.heap.size < wr.heap.size by omega)).trans f0
            have e1 : w3.cell? ⟨w.heap.size, 1, none⟩ = some (.int .i64 ok.fake) := (hb3.cell (p := ⟨w.heap.size, 1, none⟩) (show w.heap.size < wr.heap.size by omega)).trans f1
            have e2 : w3.cell? ⟨w.heap.size + 1, 0, none⟩ = some (.int .i64 0) := (hb3.cell (p := ⟨w.heap.size + 1, 0, none⟩) (show w.heap.size + 1 < wr.heap.size by omega)).trans f2
            have e3 : w3.cell? ⟨w.heap.size + 1, 1, none⟩ = some (.int .i64 0) := (hb3.cell (p := ⟨w.heap.size + 1, 1, none⟩) (show w.heap.size + 1 < wr.heap.size by omega)).trans f3
            have y0 : ∀ o, w3.frozen? ⟨w.heap.size, o, none⟩ = false := fun o => (hb3.frozen (p := ⟨w.heap.size, o, none⟩) (show w.heap.size < wr.heap.size by omega)).trans (z0 o)
            have y1 : ∀ o, w3.frozen? ⟨w.heap.size + 1, o, none⟩ = false := fun o => (hb3.frozen (p := ⟨w.heap.size + 1, o, none⟩) (show w.heap.size + 1 < wr.heap.size by omega)).trans (z1 o)
            have hs3 : wr.heap.size ≤ w3.heap.size := Nat.le_trans (by show wr.heap.size ≤ wr.heap.size; omega) hb3.size
            have hbx := hb.drew.trans (hb3.mono hb.drew.size)
            have hR := Lib.hid (set2_cells (a := .int .i64 (ok.after xs[k] bk).real) (b := .int .i64 (ok.after xs[k] bk).fake) e0 e1)
            clear f0 f1 f2 f3 z0 z1 hb3 hb g0
            go_wp2_with fail
            go_roundw
            case rel => exact ⟨k + 1, by omega, by go_num, by rw [HS.out]; exact hR.out.1, by rw [HS.out]; exact hR.out.2,
              (World.cell?_setCell_other _ _ _ _ (by simp)).trans ((World.cell?_setCell_other _ _ _ _ (by simp)).trans e2), (World.cell?_setCell_other _ _ _ _ (by simp)).trans ((World.cell?_setCell_other _ _ _ _ (by simp)).trans e3),
              fun o => by rw [World.frozen?_setCell, World.frozen?_setCell]; exact y0 o, fun o => by rw [World.frozen?_setCell, World.frozen?_setCell]; exact y1 o, by simp [World.setCell]; omega,
              (hbx.setCell (p := ⟨w.heap.size, 0, none⟩) (Nat.le_refl _) _).setCell (p := ⟨w.heap.size, 1, none⟩) (Nat.le_refl _) _⟩
            case measure => simp [intOf]; omega
          · have hke : k = xs.length := by omega
            subst hke
            have hR := set2_cells (a := .int .i64 (oddsF xs o bs xs.length).real) (b := .int .i64 (oddsF xs o bs xs.length).fake) f2 f3
            go_wp2_with fail
            refine bodyPost_ret (v := .tuple #[.agg #[.int .i64 (oddsF xs o bs xs.length).real, .int .i64 (oddsF xs o bs xs.length).fake], .bool true]) (by simp [results, Tryd.results7, go_sem, hR.1, hR.2]) rfl ⟨by rw [HV.out], ?_⟩
            exact (hb.setCell (p := ⟨w.heap.size + 1, 0, none⟩) (by show w.heap.size ≤ w.heap.size + 1; omega) _).setCell (p := ⟨w.heap.size + 1, 1, none⟩) (by show w.heap.size ≤ w.heap.size + 1; omega) _
      · have HV := Lib.hid (oddsV_no (o := o) (show oddsOk xs o bs = false by simp [oddsOk, hl]))
        have hl' : ((bs.length : Int) != (xs.length : Int)) = true := by rw [bne_iff_ne]; omega
        clear hl
        go_enter Tryd.func7, Tryd.ntmps7
        go_wp2_with fail
        refine (l16Good_c xs _ _ _ (hr.go (by go_grown)) hn).mono ?_
        rintro e w1 ⟨rfl, hb1⟩
        obtain ⟨hc, hf⟩ := bcell hb1
        go_wp2_with fail
        refine (l16Odds_c _ _ _).mono ?_
        rintro e w2 ⟨rfl, hb2⟩
        have hx := below_step hb1 hb2
        clear hc hf
        have f2 : w2.cell? ⟨w.heap.size + 1, 0, none⟩ = some (.int .i64 0) := by rw [hx.cell (p := ⟨w.heap.size + 1, 0, none⟩) (by simp)]; simp [go_sem]
        have f3 : w2.cell? ⟨w.heap.size + 1, 1, none⟩ = some (.int .i64 0) := by rw [hx.cell (p := ⟨w.heap.size + 1, 1, none⟩) (by simp)]; simp [go_sem]
        have hq := below_via (show Below w.heap.size w ((w.alloc (.cells #[.int .i64 o.real, .int .i64 o.fake] 26)).alloc (.cells #[.int .i64 0, .int .i64 0] 26)) by go_grown) hx
        obtain ⟨hc, hf⟩ := bcell hx
        go_wp2_with fail
        have hR := set2_cells (a := .int .i64 0) (b := .int .i64 0) f2 f3
        refine bodyPost_ret (v := .tuple #[.agg #[.int .i64 0, .int .i64 0], .bool false]) (by simp [results, Tryd.results7, go_sem, hR.1, hR.2]) rfl ⟨by rw [HV.out], ?_⟩
        exact (hq.setCell (p := ⟨w.heap.size + 1, 0, none⟩) (by show w.heap.size ≤ w.heap.size + 1; omega) _).setCell (p := ⟨w.heap.size + 1, 1, none⟩) (by show w.heap.size ≤ w.heap.size + 1; omega) _
    · have ho' : isOd o.real o.fake = false := by simpa using ho
      have HV := Lib.hid (oddsV_no (bs := bs) (o := o) (show oddsOk xs o bs = false by simp [oddsOk, ho']))
      clear ho
      go_enter Tryd.func7, Tryd.ntmps7
      go_wp2_with fail
      refine (l16Good_c xs _ _ _ (hr.go (by go_grown)) hn).mono ?_
      rintro e w1 ⟨rfl, hb1⟩
      obtain ⟨hc, hf⟩ := bcell hb1
      go_wp2_with fail
      refine (l16Odds_c _ _ _).mono ?_
      rintro e w2 ⟨rfl, hb2⟩
      have hx := below_step hb1 hb2
      clear hc hf
      have f2 : w2.cell? ⟨w.heap.size + 1, 0, none⟩ = some (.int .i64 0) := by rw [hx.cell (p := ⟨w.heap.size + 1, 0, none⟩) (by simp)]; simp [go_sem]
      have f3 : w2.cell? ⟨w.heap.size + 1, 1, none⟩ = some (.int .i64 0) := by rw [hx.cell (p := ⟨w.heap.size + 1, 1, none⟩) (by simp)]; simp [go_sem]
      have hq := below_via (show Below w.heap.size w ((w.alloc (.cells #[.int .i64 o.real, .int .i64 o.fake] 26)).alloc (.cells #[.int .i64 0, .int .i64 0] 26)) by go_grown) hx
      obtain ⟨hc, hf⟩ := bcell hx
      go_wp2_with fail
      have hR := set2_cells (a := .int .i64 0) (b := .int .i64 0) f2 f3
      refine bodyPost_ret (v := .tuple #[.agg #[.int .i64 0, .int .i64 0], .bool false]) (by simp [results, Tryd.results7, go_sem, hR.1, hR.2]) rfl ⟨by rw [HV.out], ?_⟩
      exact (hq.setCell (p := ⟨w.heap.size + 1, 0, none⟩) (by show w.heap.size ≤ w.heap.size + 1; omega) _).setCell (p := ⟨w.heap.size + 1, 1, none⟩) (by show w.heap.size ≤ w.heap.size + 1; omega) _
  · have hg' : goodT xs = false := by simpa using hg
    have HV := Lib.hid (oddsV_no (bs := bs) (o := o) (show oddsOk xs o bs = false by simp [oddsOk, hg']))
    clear hg
    go_enter Tryd.func7, Tryd.ntmps7
    go_wp2_with fail
    refine (l16Good_c xs _ _ _ (hr.go (by go_grown)) hn).mono ?_
    rintro e w1 ⟨rfl, hb1⟩
    have f2 : w1.cell? ⟨w.heap.size + 1, 0, none⟩ = some (.int .i64 0) := by rw [hb1.cell (p := ⟨w.heap.size + 1, 0, none⟩) (by simp)]; simp [go_sem]
    have f3 : w1.cell? ⟨w.heap.size + 1, 1, none⟩ = some (.int .i64 0) := by rw [hb1.cell (p := ⟨w.heap.size + 1, 1, none⟩) (by simp)]; simp [go_sem]
    have hq := below_via (show Below w.heap.size w ((w.alloc (.cells #[.int .i64 o.real, .int .i64 o.fake] 26)).alloc (.cells #[.int .i64 0, .int .i64 0] 26)) by go_grown) hb1
    obtain ⟨hc, hf⟩ := bcell hb1
    go_wp2_with fail
    have hR := set2_cells (a := .int .i64 0) (b := .int .i64 0) f2 f3
    refine bodyPost_ret (v := .tuple #[.agg #[.int .i64 0, .int .i64 0], .bool false]) (by simp [results, Tryd.results7, go_sem, hR.1, hR.2]) rfl ⟨by rw [HV.out], ?_⟩
    exact (hq.setCell (p := ⟨w.heap.size + 1, 0, none⟩) (by show w.heap.size ≤ w.heap.size + 1; omega) _).setCell (p := ⟨w.heap.size + 1, 1, none⟩) (by show w.heap.size ≤ w.heap.size + 1; omega) _
set_option maxRecDepth 100000 in
set_option maxHeartbeats 2000000 in
theorem implOddsAfter_c (xs : List Trial) (A : Option Addr) (c : Nat) (o : Odds) (bs : List Bool) (A2 : Option Addr) (c2 : Nat) (w : World) (hr : Rd encTrial 3 w.heap.size w A xs) (hn : xs.length ≤ 1048576) (hr2 : Rd encB 1 w.heap.size w A2 bs) (hn2 : bs.length ≤ 1048576) :
    Calls Tryd.prog 6 #[.slice A xs.length c, .agg #[.int .i64 o.real, .int .i64 o.fake], .slice A2 bs.length c2] w (Ret (oddsV xs o bs) w) := by
  by_cases hg : goodT xs = true
  · by_cases ho : isOd o.real o.fake = true
    · by_cases hl : bs.length = xs.length
      · have HV := Lib.hid (oddsV_yes (o := o) (show oddsOk xs o bs = true by simp [oddsOk, hg, ho, hl]))
        have HU := Lib.hid (oddsF_upto xs o bs (isOd_upto ho) (fun i h => good_all hg h) hl)
        have HG := Lib.hid (fun (i : Nat) (h : i < xs.length) => good_all hg h)
        have hlen := good_len hg
        have hl' : ((bs.length : Int) != (xs.length : Int)) = false := by rw [hl]; simp
        have hl1 : bs.length ≤ xs.length := by omega
        have hl2 : xs.length ≤ bs.length := by omega
        clear hl
        go_enter Tryd.func6, Tryd.ntmps6
        go_wp2_with fail
        refine (areTrials_c xs _ _ _ (hr.go (by go_grown)) hn).mono ?_
        rintro e w1 ⟨rfl, hb1⟩
        obtain ⟨hc, hf⟩ := bcell hb1
        go_wp2_with fail
        refine (areOdds_c _ _ _).mono ?_
        rintro e w2 ⟨rfl, hb2⟩
        have hx := below_step hb1 hb2
        clear hc hf
        have hq := below_via (show Below w.heap.size w ((w.alloc (.cells #[.int .i64 o.real, .int .i64 o.fake] 26)).alloc (.cells #[.int .i64 0, .int .i64 0] 26)) by go_grown) hx
        have f0 : w2.cell? ⟨w.heap.size, 0, none⟩ = some (.int .i64 o.real) := by rw [hx.cell (p := ⟨w.heap.size, 0, none⟩) (by simp; omega)]; simp [go_sem]
        have f1 : w2.cell? ⟨w.heap.size, 1, none⟩ = some (.int .i64 o.fake) := by rw [hx.cell (p := ⟨w.heap.size, 1, none⟩) (by simp; omega)]; simp [go_sem]
        have f2 : w2.cell? ⟨w.heap.size + 1, 0, none⟩ = some (.int .i64 0) := by rw [hx.cell (p := ⟨w.heap.size + 1, 0, none⟩) (by simp)]; simp [go_sem]
        have f3 : w2.cell? ⟨w.heap.size + 1, 1, none⟩ = some (.int .i64 0) := by rw [hx.cell (p := ⟨w.heap.size + 1, 1, none⟩) (by simp)]; simp [go_sem]
        have z0 : ∀ o, w2.frozen? ⟨w.heap.size, o, none⟩ = false := fun o => by rw [hx.frozen (p := ⟨w.heap.size, o, none⟩) (by simp; omega)]; simp [go_sem]
        have z1 : ∀ o, w2.frozen? ⟨w.heap.size + 1, o, none⟩ = false := fun o => by rw [hx.frozen (p := ⟨w.heap.size + 1, o, none⟩) (by simp)]; simp [go_sem]
        have hsz : w.heap.size + 2 ≤ w2.heap.size := by have := hx.size; simp at this; omega
        clear hb1 hb2 hx
        go_wp2_with fail
        clear hg ho hl'
        go_loopw [28] (fun i wr => ∃ k : Nat, k ≤ xs.length ∧ i = .int .i64 k ∧ wr.cell? ⟨w.heap.size, 0, none⟩ = some (.int .i64 (oddsF xs o bs k).real) ∧ wr.cell? ⟨w.heap.size, 1, none⟩ = some (.int .i64 (oddsF xs o bs k).fake) ∧ wr.cell? ⟨w.heap.size + 1, 0, none⟩ = some (.int .i64 0) ∧ wr.cell? ⟨w.heap.size + 1, 1, none⟩ = some (.int .i64 0) ∧
            (∀ o, wr.frozen? ⟨w.heap.size, o, none⟩ = false) ∧ (∀ o, wr.frozen? ⟨w.heap.size + 1, o, none⟩ = false) ∧ w.heap.size + 2 ≤ wr.heap.size ∧ Below w.heap.size w wr) (fun i _ => xs.length - (intOf i).toNat)
        case atStart => exact ⟨0, Nat.zero_le _, rfl, f0, f1, f2, f3, z0, z1, hsz, hq⟩
        case round =>
          clear f0 f1 f2 f3 z0 z1 hsz hq
          obtain ⟨k, hk, rfl, f0, f1, f2, f3, z0, z1, hsz, hb⟩ := hrel
          by_cases hlt : k < xs.length
          · obtain ⟨b, off, rfl, hbs, d0, d1, d2⟩ := (hr.below hb).atTrial hlt
            have hbw : b < wr.heap.size := Nat.lt_of_lt_of_le hbs hb.size
            obtain ⟨b', off', rfl, hbs', g0⟩ := (hr2.below hb).bool (i := k) (by omega)
            have hbw' : b' < wr.heap.size := Nat.lt_of_lt_of_le hbs' hb.size
            have hwr : w.heap.size < wr.heap.size := by omega
            have hkb : k < bs.length := by omega
            have hsu := oddsF_succ xs o bs hlt (show k < bs.length by omega)
            have hup := HU.out k hk
            have hok := HG.out k hlt
            generalize oddsF xs o bs k = ok at *
            generalize bs[k] = bk at *
            have HS := Lib.hid hsu
            have HP := Lib.hid hup
            have HK := Lib.hid hok
            clear hsu hup hok
            have a0 : (wr.alloc (.cells #[.int .i64 xs[k].real, .int .i64 xs[k].fake, .int .i64 xs[k].price] 35)).cell? ⟨w.heap.size, 0, none⟩ = _ := (World.cell?_alloc_past _ _ _ (show w.heap.size < wr.heap.size by omega)).trans f0
            have a1 : (wr.alloc (.cells #[.int .i64 xs[k].real, .int .i64 xs[k].fake, .int .i64 xs[k].price] 35)).cell? ⟨w.heap.size, 1, none⟩ = _ := (World.cell?_alloc_past _ _ _ (show w.heap.size < wr.heap.size by omega)).trans f1
            have a2 : (wr.alloc (.cells #[.int .i64 xs[k].real, .int .i64 xs[k].fake, .int .i64 xs[k].price] 35)).cell? ⟨w.heap.size + 1, 0, none⟩ = _ := (World.cell?_alloc_past _ _ _ (show w.heap.size + 1 < wr.heap.size by omega)).trans f2
            have a3 : (wr.alloc (.cells #[.int .i64 xs[k].real, .int .i64 xs[k].fake, .int .i64 xs[k].price] 35)).cell? ⟨w.heap.size + 1, 1, none⟩ = _ := (World.cell?_alloc_past _ _ _ (show w.heap.size + 1 < wr.heap.size by omega)).trans f3
            have a4 : ∀ o, (wr.alloc (.cells #[.int .i64 xs[k].real, .int .i64 xs[k].fake, .int .i64 xs[k].price] 35)).frozen? ⟨w.heap.size, o, none⟩ = false := fun o => (World.frozen?_alloc_past _ _ _ (show w.heap.size < wr.heap.size by omega)).trans (z0 o)
            have a5 : ∀ o, (wr.alloc (.cells #[.int .i64 xs[k].real, .int .i64 xs[k].fake, .int .i64 xs[k].price] 35)).frozen? ⟨w.heap.size + 1, o, none⟩ = false := fun o => (World.frozen?_alloc_past _ _ _ (show w.heap.size + 1 < wr.heap.size by omega)).trans (z1 o)
            have a6 : (wr.alloc (.cells #[.int .i64 xs[k].real, .int .i64 xs[k].fake, .int .i64 xs[k].price] 35)).cell? ⟨b', off' + k, none⟩ = _ := (World.cell?_alloc_past _ _ _ hbw').trans g0
            have x0 : (wr.alloc (.cells #[.int .i64 xs[k].real, .int .i64 xs[k].fake, .int .i64 xs[k].price] 35)).cell? ⟨wr.heap.size, 0, none⟩ = some (.int .i64 xs[k].real) := World.cell?_alloc_new _ _ _ _
            have x1 : (wr.alloc (.cells #[.int .i64 xs[k].real, .int .i64 xs[k].fake, .int .i64 xs[k].price] 35)).cell? ⟨wr.heap.size, 1, none⟩ = some (.int .i64 xs[k].fake) := World.cell?_alloc_new _ _ _ _
            have x2 : (wr.alloc (.cells #[.int .i64 xs[k].real, .int .i64 xs[k].fake, .int .i64 xs[k].price] 35)).cell? ⟨wr.heap.size, 2, none⟩ = some (.int .i64 xs[k].price) := World.cell?_alloc_new _ _ _ _
            have a7 : wr.heap.size < (wr.alloc (.cells #[.int .i64 xs[k].real, .int .i64 xs[k].fake, .int .i64 xs[k].price] 35)).heap.size := by simp
            have a8 := hb.alloc (show w.heap.size ≤ wr.heap.size by omega) (.cells #[.int .i64 xs[k].real, .int .i64 xs[k].fake, .int .i64 xs[k].price] 35)
            go_wp2_with fail
            generalize (wr.alloc (.cells #[.int .i64 xs[k].real, .int .i64 xs[k].fake, .int .i64 xs[k].price] 35)) = wa at *
            clear f0 f1 f2 f3 z0 z1 g0 hb d0 d1 d2
            have f0 := a0; have f1 := a1; have f2 := a2; have f3 := a3; have z0 := a4; have z1 := a5; have g0 := a6; have hb := a8
            clear a0 a1 a2 a3 a4 a5 a6 a8
            go_still_tail 6, (by kernel_rfl)
            change wpList _ _ _ _ _ wa.drew
            go_wp2_with fail
            refine (after_c ok xs[k] bk k _ HP.out (by omega) HK.out).mono ?_
            rintro e w3 ⟨rfl, hb3⟩
            have e0 : w3.cell? ⟨w.heap.size, 0, none⟩ = some (.int .i64 ok.real) := (hb3.cell (p := ⟨w.heap.size, 0, none⟩) (show w.heap.size < wa.heap.size by omega)).trans f0
            have e1 : w3.cell? ⟨w.heap.size, 1, none⟩ = some (.int .i64 ok.fake) := (hb3.cell (p := ⟨w.heap.size, 1, none⟩) (show w.heap.size < wa.heap.size by omega)).trans f1
            have e2 : w3.cell? ⟨w.heap.size + 1, 0, none⟩ = some (.int .i64 0) := (hb3.cell (p := ⟨w.heap.size + 1, 0, none⟩) (show w.heap.size + 1 < wa.heap.size by omega)).trans f2
            have e3 : w3.cell? ⟨w.heap.size + 1, 1, none⟩ = some (.int .i64 0) := (hb3.cell (p := ⟨w.heap.size + 1, 1, none⟩) (show w.heap.size + 1 < wa.heap.size by omega)).trans f3
            have y0 : ∀ o, w3.frozen? ⟨w.heap.size, o, none⟩ = false := fun o => (hb3.frozen (p := ⟨w.heap.size, o, none⟩) (show w.heap.size < wa.heap.size by omega)).trans (z0 o)
            have y1 : ∀ o, w3.frozen? ⟨w.heap.size + 1, o, none⟩ = false := fun o => (hb3.frozen (p := ⟨w.heap.size + 1, o, none⟩) (show w.heap.size + 1 < wa.heap.size by omega)).trans (z1 o)
            have hs3 : wr.heap.size ≤ w3.heap.size := Nat.le_trans (by show wr.heap.size ≤ wa.heap.size; omega) hb3.size
            have hbx := hb.drew.trans (hb3.mono hb.drew.size)
            have hR := Lib.hid (set2_cells (a := .int .i64 (ok.after xs[k] bk).real) (b := .int .i64 (ok.after xs[k] bk).fake) e0 e1)
            clear f0 f1 f2 f3 z0 z1 hb3 hb g0
            go_wp2_with fail
            go_roundw
            case rel => exact ⟨k + 1, by omega, by go_num, by rw [HS.out]; exact hR.out.1, by rw [HS.out]; exact hR.out.2,
              (World.cell?_setCell_other _ _ _ _ (by simp)).trans ((World.cell?_setCell_other _ _ _ _ (by simp)).trans e2), (World.cell?_setCell_other _ _ _ _ (by simp)).trans ((World.cell?_setCell_other _ _ _ _ (by simp)).trans e3),
              fun o => by rw [World.frozen?_setCell, World.frozen?_setCell]; exact y0 o, fun o => by rw [World.frozen?_setCell, World.frozen?_setCell]; exact y1 o, by simp [World.setCell]; omega,
              (hbx.setCell (p := ⟨w.heap.size, 0, none⟩) (Nat.le_refl _) _).setCell (p := ⟨w.heap.size, 1, none⟩) (Nat.le_refl _) _⟩
            case measure => simp [intOf]; omega
          · have hke : k = xs.length := by omega
            subst hke
            have hR := set2_cells (a := .int .i64 (oddsF xs o bs xs.length).real) (b := .int .i64 (oddsF xs o bs xs.length).fake) f2 f3
            go_wp2_with fail
            refine bodyPost_ret (v := .tuple #[.agg #[.int .i64 (oddsF xs o bs xs.length).real, .int .i64 (oddsF xs o bs xs.length).fake], .bool true]) (by simp [results, Tryd.results6, go_sem, hR.1, hR.2]) rfl ⟨by rw [HV.out], ?_⟩
            exact (hb.setCell (p := ⟨w.heap.size + 1, 0, none⟩) (by show w.heap.size ≤ w.heap.size + 1; omega) _).setCell (p := ⟨w.heap.size + 1, 1, none⟩) (by show w.heap.size ≤ w.heap.size + 1; omega) _
      · have HV := Lib.hid (oddsV_no (o := o) (show oddsOk xs o bs = false by simp [oddsOk, hl]))
        have hl' : ((bs.length : Int) != (xs.length : Int)) = true := by rw [bne_iff_ne]; omega
        clear hl
        go_enter Tryd.func6, Tryd.ntmps6
        go_wp2_with fail
        refine (areTrials_c xs _ _ _ (hr.go (by go_grown)) hn).mono ?_
        rintro e w1 ⟨rfl, hb1⟩
        obtain ⟨hc, hf⟩ := bcell hb1
        go_wp2_with fail
        refine (areOdds_c _ _ _).mono ?_
        rintro e w2 ⟨rfl, hb2⟩
        have hx := below_step hb1 hb2
        clear hc hf
        have f2 : w2.cell? ⟨w.heap.size + 1, 0, none⟩ = some (.int .i64 0) := by rw [hx.cell (p := ⟨w.heap.size + 1, 0, none⟩) (by simp)]; simp [go_sem]
        have f3 : w2.cell? ⟨w.heap.size + 1, 1, none⟩ = some (.int .i64 0) := by rw [hx.cell (p := ⟨w.heap.size + 1, 1, none⟩) (by simp)]; simp [go_sem]
        have hq := below_via (show Below w.heap.size w ((w.alloc (.cells #[.int .i64 o.real, .int .i64 o.fake] 26)).alloc (.cells #[.int .i64 0, .int .i64 0] 26)) by go_grown) hx
        obtain ⟨hc, hf⟩ := bcell hx
        go_wp2_with fail
        have hR := set2_cells (a := .int .i64 0) (b := .int .i64 0) f2 f3
        refine bodyPost_ret (v := .tuple #[.agg #[.int .i64 0, .int .i64 0], .bool false]) (by simp [results, Tryd.results6, go_sem, hR.1, hR.2]) rfl ⟨by rw [HV.out], ?_⟩
        exact (hq.setCell (p := ⟨w.heap.size + 1, 0, none⟩) (by show w.heap.size ≤ w.heap.size + 1; omega) _).setCell (p := ⟨w.heap.size + 1, 1, none⟩) (by show w.heap.size ≤ w.heap.size + 1; omega) _
    · have ho' : isOd o.real o.fake = false := by simpa using ho
      have HV := Lib.hid (oddsV_no (bs := bs) (o := o) (show oddsOk xs o bs = false by simp [oddsOk, ho']))
      clear ho
      go_enter Tryd.func6, Tryd.ntmps6
      go_wp2_with fail
      refine (areTrials_c xs _ _ _ (hr.go (by go_grown)) hn).mono ?_
      rintro e w1 ⟨rfl, hb1⟩
      obtain ⟨hc, hf⟩ := bcell hb1
      go_wp2_with fail
      refine (areOdds_c _ _ _).mono ?_
      rintro e w2 ⟨rfl, hb2⟩
      have hx := below_step hb1 hb2
      clear hc hf
      have f2 : w2.cell? ⟨w.heap.size + 1, 0, none⟩ = some (.int .i64 0) := by rw [hx.cell (p := ⟨w.heap.size + 1, 0, none⟩) (by simp)]; simp [go_sem]
      have f3 : w2.cell? ⟨w.heap.size + 1, 1, none⟩ = some (.int .i64 0) := by rw [hx.cell (p := ⟨w.heap.size + 1, 1, none⟩) (by simp)]; simp [go_sem]
      have hq := below_via (show Below w.heap.size w ((w.alloc (.cells #[.int .i64 o.real, .int .i64 o.fake] 26)).alloc (.cells #[.int .i64 0, .int .i64 0] 26)) by go_grown) hx
      obtain ⟨hc, hf⟩ := bcell hx
      go_wp2_with fail
      have hR := set2_cells (a := .int .i64 0) (b := .int .i64 0) f2 f3
      refine bodyPost_ret (v := .tuple #[.agg #[.int .i64 0, .int .i64 0], .bool false]) (by simp [results, Tryd.results6, go_sem, hR.1, hR.2]) rfl ⟨by rw [HV.out], ?_⟩
      exact (hq.setCell (p := ⟨w.heap.size + 1, 0, none⟩) (by show w.heap.size ≤ w.heap.size + 1; omega) _).setCell (p := ⟨w.heap.size + 1, 1, none⟩) (by show w.heap.size ≤ w.heap.size + 1; omega) _
  · have hg' : goodT xs = false := by simpa using hg
    have HV := Lib.hid (oddsV_no (bs := bs) (o := o) (show oddsOk xs o bs = false by simp [oddsOk, hg']))
    clear hg
    go_enter Tryd.func6, Tryd.ntmps6
    go_wp2_with fail
    refine (areTrials_c xs _ _ _ (hr.go (by go_grown)) hn).mono ?_
    rintro e w1 ⟨rfl, hb1⟩
    have f2 : w1.cell? ⟨w.heap.size + 1, 0, none⟩ = some (.int .i64 0) := by rw [hb1.cell (p := ⟨w.heap.size + 1, 0, none⟩) (by simp)]; simp [go_sem]
    have f3 : w1.cell? ⟨w.heap.size + 1, 1, none⟩ = some (.int .i64 0) := by rw [hb1.cell (p := ⟨w.heap.size + 1, 1, none⟩) (by simp)]; simp [go_sem]
    have hq := below_via (show Below w.heap.size w ((w.alloc (.cells #[.int .i64 o.real, .int .i64 o.fake] 26)).alloc (.cells #[.int .i64 0, .int .i64 0] 26)) by go_grown) hb1
    obtain ⟨hc, hf⟩ := bcell hb1
    go_wp2_with fail
    have hR := set2_cells (a := .int .i64 0) (b := .int .i64 0) f2 f3
    refine bodyPost_ret (v := .tuple #[.agg #[.int .i64 0, .int .i64 0], .bool false]) (by simp [results, Tryd.results6, go_sem, hR.1, hR.2]) rfl ⟨by rw [HV.out], ?_⟩
    exact (hq.setCell (p := ⟨w.heap.size + 1, 0, none⟩) (by show w.heap.size ≤ w.heap.size + 1; omega) _).setCell (p := ⟨w.heap.size + 1, 1, none⟩) (by show w.heap.size ≤ w.heap.size + 1; omega) _
end Go.Proofs.YtdekdjpdpknelaaDoor
