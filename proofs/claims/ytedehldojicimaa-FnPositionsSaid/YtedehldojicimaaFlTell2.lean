/- Contract of TellPosition: the program's. No condition but the sizes. -/
import Derived.Test.YtedehldojicimaaFlTell
namespace Go.Proofs.Ytedehldojicimaa
set_option linter.unusedVariables false
set_option linter.unusedSimpArgs false
open Go.RowKit
attribute [local irreducible] wpQuiet
theorem tel_out {xs : List Flaw} {cs : List Int} {k : Nat} (hk : k ≤ 100) (h : 2 ≤ (telJ xs cs k).1) : telB xs cs = false := by
  have h2 := telJ_mono xs cs k (100 - k)
  rw [show k + (100 - k) = 100 by omega] at h2
  have h3 : ¬ (telJ xs cs 100).1 = 1 := by omega
  simp [telB, h3]
theorem telJ_at (xs : List Flaw) (cs : List Int) : ∀ k, 0 ≤ (telJ xs cs k).2.1
  | 0 => by simp [telJ]
  | k + 1 => by
    have h := telJ_at xs cs k
    by_cases he : telS xs cs k = []
    · rw [telJ_no he]; exact h
    · rw [telJ_yes he]; simp only; omega
set_option maxRecDepth 100000 in
set_option maxHeartbeats 2000000 in
theorem implTellPosition_c (xs : List Flaw) (A : Option Addr) (c : Nat) (cs : List Int) (A1 : Option Addr) (c1 : Nat) (w : World) (hr : Rd encFlaw 4 w.heap.size w A xs) (hn : xs.length ≤ 1048576) (hr1 : Rd encI 1 w.heap.size w A1 cs) (hn1 : cs.length ≤ 1048576) :
    Calls Try.prog 6 #[.slice A xs.length c, .slice A1 cs.length c1] w (Ret (.tuple #[.int .i64 (telA xs cs), .int .i64 (telF xs cs), .int .i64 (telL xs cs), .bool (telB xs cs)]) w) := by
  by_cases hF : goodFl xs = false
  · go_enter Try.func6, Try.ntmps6
    have hbg := Below.refl w.heap.size w
    go_wp2_with fail
    refine (areFlaws_c xs _ _ _ (hr.go hbg) hn).mono ?_
    rintro e wg0 ⟨rfl, hb0⟩
    have hbg := below_via hbg hb0
    go_wp2_with fail
    go_returns
    exact ⟨tel_no (by simp [telB, hF]), hbg⟩
  have G0 : goodFl xs = true := by simpa using hF
  clear hF
  by_cases hF : shoB cs = false
  · go_enter Try.func6, Try.ntmps6
    have hbg := Below.refl w.heap.size w
    go_wp2_with fail
    refine (areFlaws_c xs _ _ _ (hr.go hbg) hn).mono ?_
    rintro e wg0 ⟨rfl, hb0⟩
    have hbg := below_via hbg hb0
    go_wp2_with fail
    refine (areCodes_c cs _ _ _ (hr1.go hbg) hn1).mono ?_
    rintro e wg1 ⟨rfl, hb1⟩
    have hbg := below_via hbg hb1
    go_wp2_with fail
    go_returns
    exact ⟨tel_no (by simp [telB, hF]), hbg⟩
  have G1 : shoB cs = true := by simpa using hF
  clear hF
  go_enter Try.func6, Try.ntmps6
  have hbg := Below.refl w.heap.size w
  go_wp2_with fail
  refine (areFlaws_c xs _ _ _ (hr.go hbg) hn).mono ?_
  rintro e wg0 ⟨rfl, hb0⟩
  have hbg := below_via hbg hb0
  go_wp2_with fail
  refine (areCodes_c cs _ _ _ (hr1.go hbg) hn1).mono ?_
  rintro e wg1 ⟨rfl, hb1⟩
  have hbg := below_via hbg hb1
  have HB := Lib.hid (show telB xs cs = decide ((telJ xs cs 100).1 = 1) by simp [telB, G0, G1])
  have HC := Lib.hid (fun (k : Nat) (v : World) (h : Rd encFlaw 4 v.heap.size v A xs) (h1 : Rd encI 1 v.heap.size v A1 cs) => (show Calls Try.prog 25 #[.slice A xs.length c, .slice A1 cs.length c1, .int .i64 (k : Int)] v (RetS encI 1 (telS xs cs k) v) from statesFor_c xs A c cs A1 c1 (k : Int) v h G0 h1 hn1))
  go_wp2_with fail
  clear G0 G1
  go_loopw [8, 9, 10, 21] (fun a f l i wr => ∃ (k : Nat) (o : Int), k ≤ 100 ∧ i = .int .i64 k ∧ (telJ xs cs k).1 ≤ 1 ∧ a = .int .i64 o ∧ ((telJ xs cs k).1 = 0 ∧ o = -1 ∨ (telJ xs cs k).1 = 1 ∧ o = (telJ xs cs k).2.1) ∧ f = .int .i64 (telJ xs cs k).2.2.1 ∧ l = .int .i64 (telJ xs cs k).2.2.2 ∧ Below w.heap.size w wr) (fun _ _ _ i _ => 100 - (intOf i).toNat)
  case atStart => exact ⟨0, -1, by omega, rfl, Nat.zero_le _, rfl, .inl ⟨rfl, rfl⟩, rfl, rfl, hbg⟩
  case round =>
    obtain ⟨k, o, hk, rfl, hle, rfl, ho, rfl, rfl, hb⟩ := hrel
    clear hbg
    by_cases hlt : k < 100
    · have hat := telJ_at xs cs k
      have HY := Lib.hid (fun h : ¬ telS xs cs k = [] => telJ_yes h)
      have HN := Lib.hid (fun h : telS xs cs k = [] => telJ_no h)
      have HE := Lib.hid (fun h : ¬ telS xs cs k = [] => ends_of h)
      have HO := Lib.hid (fun h : 2 ≤ (telJ xs cs (k + 1)).1 => tel_out (by omega) h)
      have hsl : (telS xs cs k).length ≤ 9 := staL_len _ _ _ _
      have HCk := Lib.hid (HC.out k)
      clear HC HB
      generalize telS xs cs k = S at *
      obtain ⟨J, hJ⟩ : ∃ J, telJ xs cs k = J := ⟨_, rfl⟩
      rw [hJ] at HY HN hle hat ho ⊢
      obtain ⟨n, a, f, l⟩ := J
      clear hJ
      simp only at HY HN hle hat ho ⊢
      have HO2 := Lib.hid ho
      have hoo : o = -1 ∨ 0 ≤ o := by omega
      have HAT := Lib.hid hat
      clear ho hat
      go_wp2_with fail
      refine (HCk.out _ (hr.go hb) (hr1.go hb)).mono ?_
      rintro e w2 ⟨Q, q, rfl, hbn, hqo⟩
      have hqr := hqo.rd
      have hb2 := hb.trans (hbn.mono hb.size)
      clear hbn hqo hb HCk
      by_cases he : S = []
      · have hz : ((S.length : Int) == 0) = true := by rw [he]; rfl
        have HS := Lib.hid (HN.out he)
        clear he HY HN HE hqr HO
        go_wp2_with fail
        go_roundw
        case rel => exact ⟨k + 1, o, by omega, by go_num, by rw [HS.out]; exact hle, rfl, by rw [HS.out]; exact HO2.out, by rw [HS.out], by rw [HS.out], hb2⟩
        case measure => simp [intOf]; omega
      · obtain ⟨e1, e2, e3⟩ := HE.out he
        have hz : ((S.length : Int) == 0) = false := by simp; omega
        have HS := Lib.hid (HY.out he)
        rcases hoo with hoo | hoo
        · have hn0 : n = 0 := by have := HO2.out; have := HAT.out; omega
          obtain ⟨bS, oS, rfl, hbS, hcell⟩ := hqr e1
          have g0 : w2.cell? ⟨bS, oS, none⟩ = some (.int .i64 (S.headD 0)) := by simpa using hcell 0 _ e2 0 _ rfl
          have g1 : w2.cell? ⟨bS, oS + (S.length - 1), none⟩ = some (.int .i64 (S.getLastD 0)) := by simpa using hcell (S.length - 1) _ e3 0 _ rfl
          obtain ⟨m, hm⟩ : ∃ m, S.length = m + 1 := ⟨S.length - 1, by omega⟩
          rw [hm] at g1 hsl hz ⊢
          rw [Nat.add_sub_cancel] at g1
          generalize S.headD 0 = H0 at *
          generalize S.getLastD 0 = L0 at *
          subst hoo hn0
          clear he HY HN HE hcell hqr e1 e2 e3 hm HO HO2 HAT
          go_wp2_with fail
          go_quiet (fail)
          go_wp2_with fail
          go_roundw
          case rel => exact ⟨k + 1, (k : Int), by omega, by go_num, by rw [HS.out]; exact Nat.le_refl _, rfl, by rw [HS.out]; exact .inr ⟨rfl, rfl⟩, by rw [HS.out], by rw [HS.out], below_drewN hb2 _⟩
          case measure => simp [intOf]; omega
        · have hn1' : n = 1 := by have := HO2.out; omega
          have HX := Lib.hid (HO.out (by rw [HS.out]; simp only; omega))
          have hge : decide (0 ≤ o) = true := decide_eq_true hoo
          clear he HY HN HE hqr HO HO2 HAT e1 e2 e3
          go_wp2_with fail
          go_returns
          exact ⟨tel_no HX.out, hb2⟩
    · obtain rfl : k = 100 := by omega
      have HV := Lib.hid (show (telJ xs cs 100).1 = 1 → telA xs cs = (telJ xs cs 100).2.1 ∧ telF xs cs = (telJ xs cs 100).2.2.1 ∧ telL xs cs = (telJ xs cs 100).2.2.2 ∧ telB xs cs = true from fun h => by
        have hB : telB xs cs = true := by rw [HB.out]; exact decide_eq_true h
        exact ⟨by simp [telA, hB], by simp [telF, hB], by simp [telL, hB], hB⟩)
      have HW := Lib.hid (show ¬ (telJ xs cs 100).1 = 1 → telB xs cs = false from fun h => by rw [HB.out]; exact decide_eq_false h)
      have hat := telJ_at xs cs 100
      clear HB HC
      generalize telJ xs cs 100 = J at *
      obtain ⟨n, a, f, l⟩ := J
      simp only at HV HW hle hat ho ⊢
      rcases ho with ⟨h1, h2⟩ | ⟨h1, h2⟩
      · have HX := Lib.hid (HW.out (by omega))
        subst h2
        clear HV HW
        go_wp2_with fail
        go_returns
        exact ⟨tel_no HX.out, hb⟩
      · have HX := Lib.hid (HV.out h1)
        subst h2
        have hneg : ¬ o < 0 := by omega
        clear HV HW
        go_wp2_with fail
        go_returns
        exact ⟨by rw [HX.out.1, HX.out.2.1, HX.out.2.2.1, HX.out.2.2.2], hb⟩
end Go.Proofs.Ytedehldojicimaa
