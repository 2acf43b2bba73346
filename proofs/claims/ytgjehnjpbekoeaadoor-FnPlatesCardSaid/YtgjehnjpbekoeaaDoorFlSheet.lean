/- Contracts of SheetState: the program's and the reference's. No condition but the sizes. -/
import Derived.Test.YtgjehnjpbekoeaaDoorFlAsk
import Derived.Deep.RegionHeld3
namespace Go.Proofs.YtgjehnjpbekoeaaDoor
set_option linter.unusedVariables false
set_option linter.unusedSimpArgs false
open Go.RowKit
attribute [local irreducible] wpQuiet
def ssA (ps : List Int) (cs : List (List Int)) : Bool := decide (ps.length ≤ 10) && (decide (ps.length = cs.length) && (risL ps 0 99 && cs.all shoB))
def fitP (xs : List Flaw) (ps : List Int) (cs : List (List Int)) (st : Int) (i : Nat) : Bool := match ps[i]?, cs[i]? with
  | some p, some c => decide (codesL xs p st = c)
  | _, _ => true
def fitB (xs : List Flaw) (ps : List Int) (cs : List (List Int)) (st : Int) : Bool := (List.range ps.length).all (fitP xs ps cs st)
theorem fitP_at {xs : List Flaw} {ps : List Int} {cs : List (List Int)} {st : Int} {i : Nat} (h1 : i < ps.length) (h2 : i < cs.length) : fitP xs ps cs st i = decide (codesL xs ps[i] st = cs[i]) := by simp [fitP, h1, h2]
theorem all_succ {p : Nat → Bool} {k : Nat} : (List.range (k + 1)).all p = ((List.range k).all p && p k) := by rw [List.range_succ, List.all_append]; simp
def ssJ (xs : List Flaw) (ps : List Int) (cs : List (List Int)) : Nat → Int × Int
  | 0 => (0, 0)
  | s + 1 => if fitB xs ps cs ((s : Int) + 1) = true then (if (ssJ xs ps cs s).1 = 0 then (s : Int) + 1 else (ssJ xs ps cs s).1, (s : Int) + 1) else ssJ xs ps cs s
def ssB (xs : List Flaw) (ps : List Int) (cs : List (List Int)) : Bool := goodFl xs && ssA ps cs
def ssV1 (xs : List Flaw) (ps : List Int) (cs : List (List Int)) : Int := if ssB xs ps cs = true then (ssJ xs ps cs 9).1 else 0
def ssV2 (xs : List Flaw) (ps : List Int) (cs : List (List Int)) : Int := if ssB xs ps cs = true then (ssJ xs ps cs 9).2 else 0
def ssO (xs : List Flaw) (ps : List Int) (cs : List (List Int)) : Bool := ssB xs ps cs && decide (0 < (ssJ xs ps cs 9).1)
theorem ret_ss3 {a b a' b' : Int} {c c' : Bool} (h1 : a = a') (h2 : b = b') (h3 : c = c') : Ending.returned (.tuple #[.int .i64 a, .int .i64 b, .bool c]) = .returned (.tuple #[.int .i64 a', .int .i64 b', .bool c']) := by subst h1 h2 h3; rfl
theorem ss_no {xs : List Flaw} {ps : List Int} {cs : List (List Int)} (h : ssB xs ps cs = false) : ssV1 xs ps cs = 0 ∧ ssV2 xs ps cs = 0 ∧ ssO xs ps cs = false := by simp [ssV1, ssV2, ssO, h]
theorem ret_ss {xs : List Flaw} {ps : List Int} {cs : List (List Int)} (h : ssB xs ps cs = false) : Ending.returned (.tuple #[.int .i64 0, .int .i64 0, .bool false]) = .returned (.tuple #[.int .i64 (ssV1 xs ps cs), .int .i64 (ssV2 xs ps cs), .bool (ssO xs ps cs)]) := by
  obtain ⟨h1, h2, h3⟩ := ss_no h
  rw [h1, h2, h3]
set_option maxRecDepth 100000 in
set_option maxHeartbeats 1000000 in
theorem l15Asked_c (ps : List Int) (cs : List (List Int)) (A A' : Option Addr) (c c' : Nat) (w : World) (hr : Rd encI 1 w.heap.size w A ps) (hs : RdSS w.heap.size w A' cs) (hn : ps.length ≤ 1048576) (hm : cs.length ≤ 1048576) (hw : sumS cs ≤ 1048576) :
    Calls Tryd.prog 48 #[.slice A ps.length c, .slice A' cs.length c'] w (Ret (.bool (ssA ps cs)) w) := by
  have HI := Lib.hid (fun (k : Nat) (h : k < cs.length) => Nat.le_trans (sumS_mem (List.getElem_mem h)) hw)
  by_cases h10 : ps.length ≤ 10
  · have ha : ¬ (10 : Int) < (ps.length : Int) := by omega
    have hb : decide ((10 : Int) < (ps.length : Int)) = false := decide_eq_false ha
    by_cases hl : ps.length = cs.length
    · have hl' : ((ps.length : Int) != (cs.length : Int)) = false := by rw [hl]; simp
      have HL := Lib.hid hl
      clear hl
      go_enter Tryd.func48, Tryd.ntmps48
      go_wp2_with fail
      refine (l1Rising_c ps _ _ _ _ _ hr (by omega)).mono ?_
      rintro e w1 ⟨rfl, hb1⟩
      cases hris : risL ps 0 99
      · go_wp2_with fail
        go_returns
        exact ⟨ret_bool (by simp [ssA, hris]), hb1⟩
      · have HV := Lib.hid (show ssA ps cs = cs.all shoB by have h := HL.out; have h2 : cs.length ≤ 10 := (by omega); simp [ssA, hris, h, h2])
        clear hris
        go_wp2_with fail
        go_loopw [5] (fun i wr => ∃ k : Nat, k ≤ cs.length ∧ i = .int .i64 k ∧ (cs.take k).all shoB = true ∧ Below w.heap.size w wr) (fun i _ => cs.length - (intOf i).toNat)
        case atStart => exact ⟨0, Nat.zero_le _, rfl, rfl, hb1⟩
        case round =>
          obtain ⟨k, hk, rfl, hall, hbr⟩ := hrel
          have HA := Lib.hid hall
          clear hall
          by_cases hlt : k < cs.length
          · obtain ⟨b, off, Ai, ci, rfl, hbs, d0, hci, hri⟩ := (hs.below hbr).at_ hlt
            have hil := HI.out k hlt
            go_wp2_with fail
            refine (l15Shown_c cs[k] _ _ _ (hri.more hbr.size) hil).mono ?_
            rintro e w2 ⟨rfl, hb2⟩
            have hbl := hbr.trans (hb2.mono hbr.size)
            cases hsh : shoB cs[k]
            · have HN := Lib.hid (show ssA ps cs = false by rw [HV.out]; exact all_no hlt hsh)
              clear hsh
              go_wp2_with fail
              go_returns
              exact ⟨ret_bool HN.out.symm, hbl⟩
            · have HN := Lib.hid (take_all hlt HA.out hsh)
              clear hsh
              go_wp2_with fail
              go_roundw
              case rel => exact ⟨k + 1, by omega, by go_num, HN.out, hbl⟩
              case measure => simp [intOf]; omega
          · have HN := Lib.hid (show ssA ps cs = true by rw [HV.out]; have := HA.out; rwa [List.take_of_length_le (by omega)] at this)
            go_wp2_with fail
            go_returns
            exact ⟨ret_bool HN.out.symm, hbr⟩
    · have hl' : ((ps.length : Int) != (cs.length : Int)) = true := by simp; omega
      have HV := Lib.hid (show ssA ps cs = false by simp [ssA, hl])
      clear hl
      go_enter Tryd.func48, Tryd.ntmps48
      go_wp2_with fail
      go_returns
      exact ⟨ret_bool HV.out.symm, Below.refl _ _⟩
  · have ha : (10 : Int) < (ps.length : Int) := by omega
    have HV := Lib.hid (show ssA ps cs = false by simp [ssA, h10])
    go_enter Tryd.func48, Tryd.ntmps48
    go_wp2_with fail
    go_returns
    exact ⟨ret_bool HV.out.symm, Below.refl _ _⟩
theorem nameB {B : Nat} {a w : World} (_ : Below B a w) : ∃ W, W = w := ⟨w, rfl⟩
set_option maxRecDepth 100000 in
set_option maxHeartbeats 2000000 in
theorem specSheetState_c (xs : List Flaw) (A : Option Addr) (c : Nat) (ps : List Int) (A1 : Option Addr) (c1 : Nat) (cs : List (List Int)) (A2 : Option Addr) (c2 : Nat) (w : World) (hr0 : Rd encFlaw 4 w.heap.size w A xs) (hn0 : xs.length ≤ 1048576) (hr1 : Rd encI 1 w.heap.size w A1 ps) (hn1 : ps.length ≤ 1048576) (hr2 : RdSS w.heap.size w A2 cs) (hn2 : cs.length ≤ 1048576) (hs2 : sumS cs ≤ 1048576) :
    Calls Tryd.prog 17 #[.slice A xs.length c, .slice A1 ps.length c1, .slice A2 cs.length c2] w (Ret (.tuple #[.int .i64 (ssV1 xs ps cs), .int .i64 (ssV2 xs ps cs), .bool (ssO xs ps cs)]) w) := by
  have HI := Lib.hid (fun (k : Nat) (h : k < cs.length) => Nat.le_trans (sumS_mem (List.getElem_mem h)) hs2)
  go_enter Tryd.func17, Tryd.ntmps17
  go_wp2_with fail
  refine (l15Good_c xs _ _ _ hr0 hn0).mono ?_
  rintro e w1 ⟨rfl, hb1⟩
  cases hG : goodFl xs
  · have HN := Lib.hid (show ssB xs ps cs = false by simp [ssB, hG])
    clear hG
    go_wp2_with fail
    go_returns
    exact ⟨ret_ss HN.out, hb1⟩
  have HG := Lib.hid hG
  go_wp2_with fail
  refine (l15Asked_c ps cs _ _ _ _ _ (hr1.go hb1) (hr2.go hb1) hn1 hn2 hs2).mono ?_
  rintro e w2 ⟨rfl, hbn⟩
  have hb2 := hb1.trans (hbn.mono hb1.size)
  clear hb1 hbn
  cases hA : ssA ps cs
  · have HN := Lib.hid (show ssB xs ps cs = false by simp [ssB, hA])
    clear hA hG
    go_wp2_with fail
    go_returns
    exact ⟨ret_ss HN.out, hb2⟩
  have HB := Lib.hid (show ssB xs ps cs = true by simp [ssB, hG, hA])
  have HL := Lib.hid (show ps.length = cs.length by simp [ssA] at hA; omega)
  clear hG hA
  go_wp2_with fail
  go_loopw [9, 10, 11] (fun u v i wr => ∃ s : Nat, s ≤ 9 ∧ i = .int .i64 ((s : Int) + 1) ∧ u = .int .i64 (ssJ xs ps cs s).1 ∧ v = .int .i64 (ssJ xs ps cs s).2 ∧ Below w.heap.size w wr) (fun _ _ i _ => (10 - intOf i).toNat)
  case atStart => exact ⟨0, by omega, rfl, rfl, rfl, hb2⟩
  case round => as_aux_lemma =>
    obtain ⟨s, hs9, rfl, rfl, rfl, hb2⟩ := hrel
    by_cases hlt : s < 9
    · have hle : decide ((s : Int) + 1 ≤ 9) = true := decide_eq_true (by omega)
      have hle' : (s : Int) + 1 ≤ 9 := by omega
      have HJ := Lib.hid (show ssJ xs ps cs (s + 1) = if fitB xs ps cs ((s : Int) + 1) = true then (if (ssJ xs ps cs s).1 = 0 then (s : Int) + 1 else (ssJ xs ps cs s).1, (s : Int) + 1) else ssJ xs ps cs s from rfl)
      obtain ⟨J, hJ⟩ : ∃ J, ssJ xs ps cs s = J := ⟨_, rfl⟩
      rw [hJ] at HJ ⊢
      obtain ⟨j1, j2⟩ := J
      simp only at HJ
      clear hJ
      simp only
      go_wp2_with fail
      go_loopw [12, 13] (fun f i wx => ∃ k : Nat, k ≤ ps.length ∧ i = .int .i64 k ∧ f = .bool ((List.range k).all (fitP xs ps cs ((s : Int) + 1))) ∧ Below w.heap.size w wx) (fun _ i _ => ps.length - (intOf i).toNat)
      case atStart => exact ⟨0, Nat.zero_le _, rfl, rfl, hb2⟩
      case round => as_aux_lemma =>
        obtain ⟨k, hk, rfl, rfl, hb3⟩ := hrel
        clear hb2
        by_cases hkl : k < ps.length
        · have hkc : k < cs.length := by have := HL.out; omega
          have HS := Lib.hid (all_succ (p := fitP xs ps cs ((s : Int) + 1)) (k := k))
          rw [fitP_at hkl hkc] at HS
          obtain ⟨bP, oP, rfl, hbP, d0⟩ := (hr1.below hb3).int hkl
          obtain ⟨bC, oC, Ai, ci, rfl, hbC, g0, hci, hri⟩ := (hr2.below hb3).at_ hkc
          have hil := HI.out k hkc
          have hxr := hr0.go hb3
          replace hri := hri.more hb3.size
          obtain ⟨F, hF⟩ : ∃ F, (List.range k).all (fitP xs ps cs ((s : Int) + 1)) = F := ⟨_, rfl⟩
          rw [hF] at HS ⊢
          obtain ⟨P, hP⟩ : ∃ P, ps[k] = P := ⟨_, rfl⟩
          rw [hP] at HS d0
          obtain ⟨C, hC⟩ : ∃ C, cs[k] = C := ⟨_, rfl⟩
          rw [hC] at HS g0 hri hil hci
          clear hF hP hC HJ
          obtain ⟨WZ, hWZ⟩ := nameB hb3
          subst hWZ
          go_upto_region 11 with fail
          cases F
          · go_quiet (fail)
            go_wp2_with fail
            go_roundw
            case rel => exact ⟨k + 1, by omega, by go_num, by rw [HS.out]; rfl, below_drewN hb3 _⟩
            case measure => simp [intOf]; omega
          · have KE := Lib.hid (show ∀ W, Below WZ.heap.size WZ W → W.cell? ⟨bP, oP + k, none⟩ = some (.int .i64 P) ∧ W.cell? ⟨bC, oC + k, none⟩ = some (.slice Ai C.length ci) from fun W h => ⟨(h.cell (p := ⟨bP, _, none⟩) (Nat.lt_of_lt_of_le hbP hb3.size)).trans d0, (h.cell (p := ⟨bC, _, none⟩) (Nat.lt_of_lt_of_le hbC hb3.size)).trans g0⟩)
            have hG := HG.out
            have hcl := codesL_len xs P ((s : Int) + 1)
            have hxl := goodFl_len hG
            have HCX := Lib.hid (fun (v : World) (h : Rd encFlaw 4 v.heap.size v A xs) => l15Codes_c xs A c P ((s : Int) + 1) v h hG)
            generalize codesL xs P ((s : Int) + 1) = CL at *
            go_region_held3 (fun W => W.cell? ⟨bP, oP + k, none⟩ = some (.int .i64 P) ∧ W.cell? ⟨bC, oC + k, none⟩ = some (.slice Ai C.length ci)) (first | exact KE.out _ (Below.refl _ _).drew | assumption | exact KE.out _ hbz | exact KE.out _ hby) (first
              | (go_at_call 36; refine (HCX.out _ (hxr.go (Below.refl _ _).drew)).mono ?_; rintro e v2 ⟨Q, q, rfl, hbn, hqo⟩; have hqr := hqo.rd; have hby := (Below.refl WZ.heap.size WZ).drew.trans hbn)
              | (go_at_call 38; refine (l15Same_c CL C _ _ _ _ _ hqr (hri.go hby) (by omega) (by omega)).mono ?_; rintro e v3 ⟨rfl, hbn3⟩; have hbz := hby.trans (hbn3.mono hby.size)))
            all_goals
              have hbc := hb3.trans (hbz.mono hb3.size)
              clear hb3
              go_wp2_with fail
              go_roundw
              case rel => exact ⟨k + 1, by omega, by go_num, by rw [HS.out]; rfl, hbc⟩
              case measure => simp [intOf]; omega
        · obtain rfl : k = ps.length := by omega
          have HF := Lib.hid (show (List.range ps.length).all (fitP xs ps cs ((s : Int) + 1)) = fitB xs ps cs ((s : Int) + 1) from rfl)
          rw [HF.out]
          generalize fitB xs ps cs ((s : Int) + 1) = F at *
          cases F
          · have HJ2 := Lib.hid (show ssJ xs ps cs (s + 1) = (j1, j2) by rw [HJ.out]; rfl)
            clear HJ HF
            go_wp2_with fail
            go_roundw
            case rel => exact ⟨s + 1, by omega, vi (by omega), by rw [HJ2.out], by rw [HJ2.out], hb3⟩
            case measure => simp [intOf]; omega
          · by_cases hz : j1 = 0
            · subst hz
              have HJ2 := Lib.hid (show ssJ xs ps cs (s + 1) = ((s : Int) + 1, (s : Int) + 1) by rw [HJ.out]; rfl)
              clear HJ HF
              go_wp2_with fail
              go_roundw
              case rel => exact ⟨s + 1, by omega, vi (by omega), by rw [HJ2.out], by rw [HJ2.out], hb3⟩
              case measure => simp [intOf]; omega
            · have hz' : (j1 == 0) = false := by simpa using hz
              have HJ2 := Lib.hid (show ssJ xs ps cs (s + 1) = (j1, (s : Int) + 1) by rw [HJ.out]; simp [hz])
              clear HJ HF hz
              go_wp2_with fail
              go_roundw
              case rel => exact ⟨s + 1, by omega, vi (by omega), by rw [HJ2.out], by rw [HJ2.out], hb3⟩
              case measure => simp [intOf]; omega
    · obtain rfl : s = 9 := by omega
      have HR := Lib.hid (show ssV1 xs ps cs = (ssJ xs ps cs 9).1 ∧ ssV2 xs ps cs = (ssJ xs ps cs 9).2 ∧ ssO xs ps cs = decide (0 < (ssJ xs ps cs 9).1) by simp [ssV1, ssV2, ssO, HB.out])
      generalize ssJ xs ps cs 9 = J at *
      go_wp2_with fail
      go_returns
      exact ⟨ret_ss3 HR.out.1.symm HR.out.2.1.symm HR.out.2.2.symm, hb2⟩
end Go.Proofs.YtgjehnjpbekoeaaDoor
