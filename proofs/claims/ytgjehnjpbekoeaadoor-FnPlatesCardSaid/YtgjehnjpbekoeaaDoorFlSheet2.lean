/- Contracts of SheetState: the program's and the reference's. No condition but the sizes. -/
import Derived.Test.YtgjehnjpbekoeaaDoorFlSheet
import Derived.Deep.RegionHeld3
namespace Go.Proofs.YtgjehnjpbekoeaaDoor
set_option linter.unusedVariables false
set_option linter.unusedSimpArgs false
open Go.RowKit
attribute [local irreducible] wpQuiet
set_option maxRecDepth 100000 in
set_option maxHeartbeats 2000000 in
theorem implSheetState_c (xs : List Flaw) (A : Option Addr) (c : Nat) (ps : List Int) (A1 : Option Addr) (c1 : Nat) (cs : List (List Int)) (A2 : Option Addr) (c2 : Nat) (w : World) (hr0 : Rd encFlaw 4 w.heap.size w A xs) (hn0 : xs.length ≤ 1048576) (hr1 : Rd encI 1 w.heap.size w A1 ps) (hn1 : ps.length ≤ 1048576) (hr2 : RdSS w.heap.size w A2 cs) (hn2 : cs.length ≤ 1048576) (hs2 : sumS cs ≤ 1048576) :
    Calls Tryd.prog 16 #[.slice A xs.length c, .slice A1 ps.length c1, .slice A2 cs.length c2] w (Ret (.tuple #[.int .i64 (ssV1 xs ps cs), .int .i64 (ssV2 xs ps cs), .bool (ssO xs ps cs)]) w) := by
  have HI := Lib.hid (fun (k : Nat) (h : k < cs.length) => Nat.le_trans (sumS_mem (List.getElem_mem h)) hs2)
  go_enter Tryd.func16, Tryd.ntmps16
  go_wp2_with fail
  refine (areFlaws_c xs _ _ _ hr0 hn0).mono ?_
  rintro e w1 ⟨rfl, hb1⟩
  cases hG : goodFl xs
  · have HN := Lib.hid (show ssB xs ps cs = false by simp [ssB, hG])
    clear hG
    go_wp2_with fail
    go_returns
    exact ⟨ret_ss HN.out, hb1⟩
  have HG := Lib.hid hG
  by_cases h10 : ps.length ≤ 10
  rotate_left
  · have ha : (10 : Int) < (ps.length : Int) := by omega
    have HN := Lib.hid (show ssB xs ps cs = false by simp [ssB, ssA, h10])
    clear hG
    go_wp2_with fail
    go_returns
    exact ⟨ret_ss HN.out, hb1⟩
  have ha : ¬ (10 : Int) < (ps.length : Int) := by omega
  go_wp2_with fail
  refine (ascending_c ps _ _ _ (hr1.go hb1) (by omega)).mono ?_
  rintro e w2 ⟨rfl, hbn⟩
  replace hb1 := hb1.trans (hbn.mono hb1.size)
  clear hbn
  cases has : ascL ps
  · have HN := Lib.hid (show ssB xs ps cs = false by simp [ssB, ssA, risL, has])
    clear hG has
    go_wp2_with fail
    go_returns
    exact ⟨ret_ss HN.out, hb1⟩
  by_cases hl : ps.length = cs.length
  rotate_left
  · have hl' : ((cs.length : Int) != (ps.length : Int)) = true := by simp; omega
    have HN := Lib.hid (show ssB xs ps cs = false by simp [ssB, ssA, hl])
    clear hG has hl
    go_wp2_with fail
    go_returns
    exact ⟨ret_ss HN.out, hb1⟩
  have hl' : ((cs.length : Int) != (ps.length : Int)) = false := by rw [hl]; simp
  have HL := Lib.hid hl
  have HV := Lib.hid (show ssB xs ps cs = (ps.all (fun z => inR z 0 99) && cs.all shoB) by simp [ssB, ssA, risL, hG, h10, hl, has]; try omega)
  clear hl hG has
  go_wp2_with fail
  go_loopw [39] (fun i wr => ∃ k : Nat, k ≤ ps.length ∧ i = .int .i64 k ∧ (ps.take k).all (fun z => inR z 0 99) = true ∧ (cs.take k).all shoB = true ∧ Below w.heap.size w wr) (fun i _ => ps.length - (intOf i).toNat)
  case atStart => exact ⟨0, Nat.zero_le _, rfl, rfl, rfl, hb1⟩
  case round => as_aux_lemma =>
    obtain ⟨k, hk, rfl, hall1, hall2, hbr⟩ := hrel
    have HA1 := Lib.hid hall1
    have HA2 := Lib.hid hall2
    clear hall1 hall2 hb1
    by_cases hlt : k < ps.length
    · have hlc : k < cs.length := by have := HL.out; omega
      obtain ⟨bP, oP, rfl, hbP, d0⟩ := (hr1.below hbr).int hlt
      obtain ⟨b, off, Ai, ci, rfl, hbs, g0, hci, hri⟩ := (hr2.below hbr).at_ hlc
      have hil := HI.out k hlc
      have hk0 : (0 : Int) ≤ (k : Int) := by omega
      have hk1 : (k : Int) < (cs.length : Int) := by omega
      cases hz : inR ps[k] 0 99
      · have HN := Lib.hid (show ssB xs ps cs = false by rw [HV.out, all_no (p := fun z => inR z 0 99) hlt hz]; rfl)
        go_wp2_with (go_at_call 40; refine (isPosition_c _ _).mono ?_; rw [hz]; rintro e w' ⟨rfl, rfl⟩)
        go_returns
        exact ⟨ret_ss HN.out, hbr⟩
      · have HN1 := Lib.hid (take_all (p := fun z => inR z 0 99) hlt HA1.out hz)
        have HC := Lib.hid (fun (v : World) (h : Rd encI 1 v.heap.size v Ai cs[k]) => areCodes_c cs[k] Ai ci v h hil)
        go_wp2_with (go_at_call 40; refine (isPosition_c _ _).mono ?_; rw [hz]; rintro e w' ⟨rfl, rfl⟩)
        clear hz
        refine (HC.out _ (hri.more hbr.size)).mono ?_
        rintro e w2 ⟨rfl, hb2⟩
        have hbl := hbr.trans (hb2.mono hbr.size)
        cases hsh : shoB cs[k]
        · have HN := Lib.hid (show ssB xs ps cs = false by rw [HV.out, all_no hlc hsh, Bool.and_false])
          clear hsh
          go_wp2_with fail
          go_returns
          exact ⟨ret_ss HN.out, hbl⟩
        · have HN2 := Lib.hid (take_all hlc HA2.out hsh)
          clear hsh
          go_wp2_with fail
          go_roundw
          case rel => exact ⟨k + 1, by omega, by go_num, HN1.out, HN2.out, hbl⟩
          case measure => simp [intOf]; omega
    · have HB := Lib.hid (show ssB xs ps cs = true by
        have h1 := HA1.out
        have h2 := HA2.out
        rw [List.take_of_length_le (by omega)] at h1
        rw [List.take_of_length_le (by have := HL.out; omega)] at h2
        rw [HV.out, h1, h2]; rfl)
      clear HV HA1 HA2
      go_wp2_with fail
      go_loopw [11, 12, 13] (fun u v i wr => ∃ s : Nat, s ≤ 9 ∧ i = .int .i64 ((s : Int) + 1) ∧ u = .int .i64 (ssJ xs ps cs s).1 ∧ v = .int .i64 (ssJ xs ps cs s).2 ∧ Below w.heap.size w wr) (fun _ _ i _ => (10 - intOf i).toNat)
      case atStart => exact ⟨0, by omega, rfl, rfl, rfl, hbr⟩
      case round => as_aux_lemma =>
        obtain ⟨s, hs9, rfl, rfl, rfl, hb2⟩ := hrel
        by_cases hlt : s < 9
        · have hle : decide ((s : Int) + 1 ≤ 9) = true := decide_eq_true (by omega)
          have hle' : (s : Int) + 1 ≤ 9 := by omega
          have HJ := Lib.hid (show ssJ xs ps cs (s + 1) = if fitB xs ps cs ((s : Int) + 1) = true then (if (ssJ xs ps cs s).1 = 0 then (s : Int) + 1 else (ssJ xs ps cs s).1, (s : Int) + 1) else ssJ xs ps cs s from rfl)
          obtain ⟨J, hJ⟩ : ∃ J, ssJ xs ps cs s = J := ⟨_, rfl⟩
          rw [hJ] at HJ ⊢
          obtain ⟨j1, j2⟩ := J
          simp only at HJ
          clear hJ
          simp only
          go_wp2_with fail
          go_loopw [14, 62] (fun f i wx => ∃ k : Nat, k ≤ ps.length ∧ i = .int .i64 k ∧ f = .bool ((List.range k).all (fitP xs ps cs ((s : Int) + 1))) ∧ Below w.heap.size w wx) (fun _ i _ => ps.length - (intOf i).toNat)
          case atStart => exact ⟨0, Nat.zero_le _, rfl, rfl, hb2⟩
          case round => as_aux_lemma =>
            obtain ⟨k, hk, rfl, rfl, hb3⟩ := hrel
            clear hb2
            by_cases hkl : k < ps.length
            · have hkc : k < cs.length := by have := HL.out; omega
              have HS := Lib.hid (all_succ (p := fitP xs ps cs ((s : Int) + 1)) (k := k))
              rw [fitP_at hkl hkc] at HS
              obtain ⟨bP, oP, rfl, hbP, d0⟩ := (hr1.below hb3).int hkl
              obtain ⟨bC, oC, Ai, ci, rfl, hbC, g0, hci, hri⟩ := (hr2.below hb3).at_ hkc
              have hil := HI.out k hkc
              have hxr := hr0.go hb3
              replace hri := hri.more hb3.size
              obtain ⟨F, hF⟩ : ∃ F, (List.range k).all (fitP xs ps cs ((s : Int) + 1)) = F := ⟨_, rfl⟩
              rw [hF] at HS ⊢
              obtain ⟨P, hP⟩ : ∃ P, ps[k] = P := ⟨_, rfl⟩
              rw [hP] at HS d0
              obtain ⟨C, hC⟩ : ∃ C, cs[k] = C := ⟨_, rfl⟩
              rw [hC] at HS g0 hri hil hci
              clear hF hP hC HJ
              obtain ⟨WZ, hWZ⟩ := nameB hb3
              subst hWZ
              go_upto_region 17 with fail
              cases F
              · go_quiet (fail)
                go_wp2_with fail
                go_roundw
                case rel => exact ⟨k + 1, by omega, by go_num, by rw [HS.out]; rfl, below_drewN hb3 _⟩
                case measure => simp [intOf]; omega
              · have KE := Lib.hid (show ∀ W, Below WZ.heap.size WZ W → W.cell? ⟨bP, oP + k, none⟩ = some (.int .i64 P) ∧ W.cell? ⟨bC, oC + k, none⟩ = some (.slice Ai C.length ci) from fun W h => ⟨(h.cell (p := ⟨bP, _, none⟩) (Nat.lt_of_lt_of_le hbP hb3.size)).trans d0, (h.cell (p := ⟨bC, _, none⟩) (Nat.lt_of_lt_of_le hbC hb3.size)).trans g0⟩)
                have hG := HG.out
                have hcl := codesL_len xs P ((s : Int) + 1)
                have hxl := goodFl_len hG
                have HCX := Lib.hid (fun (v : World) (h : Rd encFlaw 4 v.heap.size v A xs) => codesAt_c xs A c P ((s : Int) + 1) v h hG)
                generalize codesL xs P ((s : Int) + 1) = CL at *
                go_region_held3 (fun W => W.cell? ⟨bP, oP + k, none⟩ = some (.int .i64 P) ∧ W.cell? ⟨bC, oC + k, none⟩ = some (.slice Ai C.length ci)) (first | exact KE.out _ (Below.refl _ _).drew | assumption | exact KE.out _ hbz | exact KE.out _ hby) (first
                  | (go_at_call 28; refine (HCX.out _ (hxr.go (Below.refl _ _).drew)).mono ?_; rintro e v2 ⟨Q, q, rfl, hbn, hqo⟩; have hqr := hqo.rd; have hby := (Below.refl WZ.heap.size WZ).drew.trans hbn)
                  | (go_at_call 31; refine (equalN_c CL C _ _ _ _ _ hqr (hri.go hby) (by omega) (by omega)).mono ?_; rintro e v3 ⟨rfl, hbn3⟩; have hbz := hby.trans (hbn3.mono hby.size)))
                all_goals
                  have hbc := hb3.trans (hbz.mono hb3.size)
                  clear hb3
                  go_wp2_with fail
                  go_roundw
                  case rel => exact ⟨k + 1, by omega, by go_num, by rw [HS.out]; rfl, hbc⟩
                  case measure => simp [intOf]; omega
            · obtain rfl : k = ps.length := by omega
              have HF := Lib.hid (show (List.range ps.length).all (fitP xs ps cs ((s : Int) + 1)) = fitB xs ps cs ((s : Int) + 1) from rfl)
              rw [HF.out]
              generalize fitB xs ps cs ((s : Int) + 1) = F at *
              cases F
              · have HJ2 := Lib.hid (show ssJ xs ps cs (s + 1) = (j1, j2) by rw [HJ.out]; rfl)
                clear HJ HF
                go_wp2_with fail
                go_roundw
                case rel => exact ⟨s + 1, by omega, vi (by omega), by rw [HJ2.out], by rw [HJ2.out], hb3⟩
                case measure => simp [intOf]; omega
              · by_cases hz : j1 = 0
                · subst hz
                  have HJ2 := Lib.hid (show ssJ xs ps cs (s + 1) = ((s : Int) + 1, (s : Int) + 1) by rw [HJ.out]; rfl)
                  clear HJ HF
                  go_wp2_with fail
                  go_roundw
                  case rel => exact ⟨s + 1, by omega, vi (by omega), by rw [HJ2.out], by rw [HJ2.out], hb3⟩
                  case measure => simp [intOf]; omega
                · have hz' : (j1 == 0) = false := by simpa using hz
                  have HJ2 := Lib.hid (show ssJ xs ps cs (s + 1) = (j1, (s : Int) + 1) by rw [HJ.out]; simp [hz])
                  clear HJ HF hz
                  go_wp2_with fail
                  go_roundw
                  case rel => exact ⟨s + 1, by omega, vi (by omega), by rw [HJ2.out], by rw [HJ2.out], hb3⟩
                  case measure => simp [intOf]; omega
        · obtain rfl : s = 9 := by omega
          have HR := Lib.hid (show ssV1 xs ps cs = (ssJ xs ps cs 9).1 ∧ ssV2 xs ps cs = (ssJ xs ps cs 9).2 ∧ ssO xs ps cs = decide (0 < (ssJ xs ps cs 9).1) by simp [ssV1, ssV2, ssO, HB.out])
          generalize ssJ xs ps cs 9 = J at *
          go_wp2_with fail
          go_returns
          exact ⟨ret_ss3 HR.out.1.symm HR.out.2.1.symm HR.out.2.2.symm, hb2⟩
end Go.Proofs.YtgjehnjpbekoeaaDoor
