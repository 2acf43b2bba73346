/- Contract of TellPosition: the reference's. No condition but the sizes. -/
import Derived.Test.YtedehldojicimaaFlPos
namespace Go.Proofs.Ytedehldojicimaa
set_option linter.unusedVariables false
set_option linter.unusedSimpArgs false
open Go.RowKit
attribute [local irreducible] wpQuiet
def telS (xs : List Flaw) (cs : List Int) (k : Nat) : List Int := staL xs cs (k : Int) 9
def telJ (xs : List Flaw) (cs : List Int) : Nat → Nat × Int × Int × Int
  | 0 => (0, 0, 0, 0)
  | k + 1 => if telS xs cs k = [] then telJ xs cs k else ((telJ xs cs k).1 + 1, (k : Int), (telS xs cs k).headD 0, (telS xs cs k).getLastD 0)
theorem telJ_le (xs : List Flaw) (cs : List Int) : ∀ k, (telJ xs cs k).1 ≤ k
  | 0 => Nat.le_refl _
  | k + 1 => by
    have h := telJ_le xs cs k
    unfold telJ
    split
    · omega
    · simp only; omega
theorem telJ_no {xs : List Flaw} {cs : List Int} {k : Nat} (h : telS xs cs k = []) : telJ xs cs (k + 1) = telJ xs cs k := by rw [telJ, if_pos h]
theorem telJ_yes {xs : List Flaw} {cs : List Int} {k : Nat} (h : ¬ telS xs cs k = []) : telJ xs cs (k + 1) = ((telJ xs cs k).1 + 1, (k : Int), (telS xs cs k).headD 0, (telS xs cs k).getLastD 0) := by rw [telJ, if_neg h]
theorem telJ_mono (xs : List Flaw) (cs : List Int) (k : Nat) : ∀ d, (telJ xs cs k).1 ≤ (telJ xs cs (k + d)).1
  | 0 => Nat.le_refl _
  | d + 1 => by
    have h := telJ_mono xs cs k d
    rw [show k + (d + 1) = (k + d) + 1 by omega]
    by_cases he : telS xs cs (k + d) = []
    · rw [telJ_no he]; exact h
    · rw [telJ_yes he]; simp only; omega
def telB (xs : List Flaw) (cs : List Int) : Bool := goodFl xs && shoB cs && decide ((telJ xs cs 100).1 = 1)
def telA (xs : List Flaw) (cs : List Int) : Int := if telB xs cs = true then (telJ xs cs 100).2.1 else 0
def telF (xs : List Flaw) (cs : List Int) : Int := if telB xs cs = true then (telJ xs cs 100).2.2.1 else 0
def telL (xs : List Flaw) (cs : List Int) : Int := if telB xs cs = true then (telJ xs cs 100).2.2.2 else 0
theorem tel_no {xs : List Flaw} {cs : List Int} (h : telB xs cs = false) : Ending.returned (.tuple #[.int .i64 0, .int .i64 0, .int .i64 0, .bool false]) = .returned (.tuple #[.int .i64 (telA xs cs), .int .i64 (telF xs cs), .int .i64 (telL xs cs), .bool (telB xs cs)]) := by simp [telA, telF, telL, h]
theorem ends_of {S : List Int} (h : ¬ S = []) : 0 < S.length ∧ S[0]? = some (S.headD 0) ∧ S[S.length - 1]? = some (S.getLastD 0) := by
  cases S with
  | nil => exact absurd rfl h
  | cons a t => exact ⟨by simp, by simp, by rw [← List.getLast?_eq_getElem?]; simp [List.getLast?_cons, List.getLastD_cons]⟩
set_option maxRecDepth 100000 in
set_option maxHeartbeats 2000000 in
theorem specTellPosition_c (xs : List Flaw) (A : Option Addr) (c : Nat) (cs : List Int) (A1 : Option Addr) (c1 : Nat) (w : World) (hr : Rd encFlaw 4 w.heap.size w A xs) (hn : xs.length ≤ 1048576) (hr1 : Rd encI 1 w.heap.size w A1 cs) (hn1 : cs.length ≤ 1048576) :
    Calls Try.prog 7 #[.slice A xs.length c, .slice A1 cs.length c1] w (Ret (.tuple #[.int .i64 (telA xs cs), .int .i64 (telF xs cs), .int .i64 (telL xs cs), .bool (telB xs cs)]) w) := by
  by_cases hF : goodFl xs = false
  · go_enter Try.func7, Try.ntmps7
    have hbg := Below.refl w.heap.size w
    go_wp2_with fail
    refine (l15Good_c xs _ _ _ (hr.go hbg) hn).mono ?_
    rintro e wg0 ⟨rfl, hb0⟩
    have hbg := below_via hbg hb0
    go_wp2_with fail
    go_returns
    exact ⟨tel_no (by simp [telB, hF]), hbg⟩
  have G0 : goodFl xs = true := by simpa using hF
  clear hF
  by_cases hF : shoB cs = false
  · go_enter Try.func7, Try.ntmps7
    have hbg := Below.refl w.heap.size w
    go_wp2_with fail
    refine (l15Good_c xs _ _ _ (hr.go hbg) hn).mono ?_
    rintro e wg0 ⟨rfl, hb0⟩
    have hbg := below_via hbg hb0
    go_wp2_with fail
    refine (l15Shown_c cs _ _ _ (hr1.go hbg) hn1).mono ?_
    rintro e wg1 ⟨rfl, hb1⟩
    have hbg := below_via hbg hb1
    go_wp2_with fail
    go_returns
    exact ⟨tel_no (by simp [telB, hF]), hbg⟩
  have G1 : shoB cs = true := by simpa using hF
  clear hF
  go_enter Try.func7, Try.ntmps7
  have hbg := Below.refl w.heap.size w
  go_wp2_with fail
  refine (l15Good_c xs _ _ _ (hr.go hbg) hn).mono ?_
  rintro e wg0 ⟨rfl, hb0⟩
  have hbg := below_via hbg hb0
  go_wp2_with fail
  refine (l15Shown_c cs _ _ _ (hr1.go hbg) hn1).mono ?_
  rintro e wg1 ⟨rfl, hb1⟩
  have hbg := below_via hbg hb1
  have HB := Lib.hid (show telB xs cs = decide ((telJ xs cs 100).1 = 1) by simp [telB, G0, G1])
  have HC := Lib.hid (fun (k : Nat) (v : World) (h : Rd encFlaw 4 v.heap.size v A xs) (h1 : Rd encI 1 v.heap.size v A1 cs) => (show Calls Try.prog 28 #[.slice A xs.length c, .slice A1 cs.length c1, .int .i64 (k : Int)] v (RetS encI 1 (telS xs cs k) v) from l15States_c xs A c cs A1 c1 (k : Int) v h G0 h1 hn1))
  go_wp2_with fail
  clear G0 G1
  go_loopw [8, 9, 10, 11, 12] (fun a f l n i wr => ∃ k : Nat, k ≤ 100 ∧ i = .int .i64 k ∧ a = .int .i64 (telJ xs cs k).2.1 ∧ f = .int .i64 (telJ xs cs k).2.2.1 ∧ l = .int .i64 (telJ xs cs k).2.2.2 ∧ n = .int .i64 ((telJ xs cs k).1 : Int) ∧ Below w.heap.size w wr) (fun _ _ _ _ i _ => 100 - (intOf i).toNat)
  case atStart => exact ⟨0, by omega, rfl, rfl, rfl, rfl, rfl, hbg⟩
  case round =>
    obtain ⟨k, hk, rfl, rfl, rfl, rfl, rfl, hb⟩ := hrel
    clear hbg
    by_cases hlt : k < 100
    · have hle := telJ_le xs cs k
      have HY := Lib.hid (fun h : ¬ telS xs cs k = [] => telJ_yes h)
      have HN := Lib.hid (fun h : telS xs cs k = [] => telJ_no h)
      have HE := Lib.hid (fun h : ¬ telS xs cs k = [] => ends_of h)
      have hsl : (telS xs cs k).length ≤ 9 := staL_len _ _ _ _
      have HCk := Lib.hid (HC.out k)
      clear HC HB
      generalize telS xs cs k = S at *
      obtain ⟨J, hJ⟩ : ∃ J, telJ xs cs k = J := ⟨_, rfl⟩
      rw [hJ] at HY HN hle ⊢
      obtain ⟨n, a, f, l⟩ := J
      clear hJ
      simp only at HY HN hle ⊢
      go_wp2_with fail
      refine (HCk.out _ (hr.go hb) (hr1.go hb)).mono ?_
      rintro e w2 ⟨Q, q, rfl, hbn, hqo⟩
      have hqr := hqo.rd
      have hb2 := hb.trans (hbn.mono hb.size)
      clear hbn hqo hb HCk
      by_cases he : S = []
      · have hz : ¬ (0 : Int) < (S.length : Int) := by rw [he]; simp
        have HS := Lib.hid (HN.out he)
        clear he HY HN HE hqr
        go_wp2_with fail
        go_roundw
        case rel => exact ⟨k + 1, by omega, by go_num, by rw [HS.out], by rw [HS.out], by rw [HS.out], by rw [HS.out], hb2⟩
        case measure => simp [intOf]; omega
      · obtain ⟨e1, e2, e3⟩ := HE.out he
        obtain ⟨bS, oS, rfl, hbS, hcell⟩ := hqr e1
        have g0 : w2.cell? ⟨bS, oS, none⟩ = some (.int .i64 (S.headD 0)) := by simpa using hcell 0 _ e2 0 _ rfl
        have g1 : w2.cell? ⟨bS, oS + (S.length - 1), none⟩ = some (.int .i64 (S.getLastD 0)) := by simpa using hcell (S.length - 1) _ e3 0 _ rfl
        have HS := Lib.hid (HY.out he)
        obtain ⟨m, hm⟩ : ∃ m, S.length = m + 1 := ⟨S.length - 1, by omega⟩
        rw [hm] at g1 hsl ⊢
        rw [Nat.add_sub_cancel] at g1
        generalize S.headD 0 = H0 at *
        generalize S.getLastD 0 = L0 at *
        clear he HY HN HE hcell hqr e1 e2 e3 hm
        go_wp2_with fail
        go_roundw
        case rel => exact ⟨k + 1, by omega, by go_num, by rw [HS.out], by rw [HS.out], by rw [HS.out], by rw [HS.out]; go_num, hb2⟩
        case measure => simp [intOf]; omega
    · obtain rfl : k = 100 := by omega
      have HV := Lib.hid (show (telJ xs cs 100).1 = 1 → telA xs cs = (telJ xs cs 100).2.1 ∧ telF xs cs = (telJ xs cs 100).2.2.1 ∧ telL xs cs = (telJ xs cs 100).2.2.2 ∧ telB xs cs = true from fun h => by
        have hB : telB xs cs = true := by rw [HB.out]; exact decide_eq_true h
        exact ⟨by simp [telA, hB], by simp [telF, hB], by simp [telL, hB], hB⟩)
      have HW := Lib.hid (show ¬ (telJ xs cs 100).1 = 1 → telB xs cs = false from fun h => by rw [HB.out]; exact decide_eq_false h)
      have hle := telJ_le xs cs 100
      clear HB HC
      generalize telJ xs cs 100 = J at *
      obtain ⟨n, a, f, l⟩ := J
      simp only at HV HW hle ⊢
      by_cases h1 : n = 1
      · subst h1
        have HX := Lib.hid (HV.out rfl)
        clear HV HW
        go_wp2_with fail
        go_returns
        exact ⟨by rw [HX.out.1, HX.out.2.1, HX.out.2.2.1, HX.out.2.2.2], hb⟩
      · have h1' : ((n : Int) != 1) = true := by simp; omega
        have HX := Lib.hid (HW.out h1)
        clear HV HW
        go_wp2_with fail
        go_returns
        exact ⟨tel_no HX.out, hb⟩
end Go.Proofs.Ytedehldojicimaa
