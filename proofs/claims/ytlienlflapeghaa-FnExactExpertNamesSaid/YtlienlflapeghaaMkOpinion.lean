/- Contracts of the functions by which the laws mark records of the type Opinion, and ask whether the marks are held. -/
import Derived.Test.YtlienlflapeghaaCvOpinion
import Derived.Test.YtlienlflapeghaaMarkText
namespace Go.Proofs.Ytlienlflapeghaa
set_option linter.unusedVariables false
set_option linter.unusedSimpArgs false
open Go.RowKit
def mkOpinion (kk : Int) : Opinion := ⟨kk, mtext (kk + 1), kk + 1 + 1, kk + 1 + 1 + 1, kk + 1 + 1 + 1 + 1⟩
def marksOpinion (k : Int) (n : Nat) : List Opinion := (List.range n).map fun i : Nat => mkOpinion (k + 5 * (i : Int))
theorem marksOpinion_len (k : Int) (n : Nat) : (marksOpinion k n).length = n := by simp [marksOpinion]
theorem marksOpinion_get (k : Int) (n i : Nat) (h : i < (marksOpinion k n).length) : (marksOpinion k n)[i] = mkOpinion (k + 5 * (i : Int)) := by simp [marksOpinion]
set_option maxRecDepth 100000 in
set_option maxHeartbeats 1000000 in
theorem markOpinionS_c (xs : List Opinion) (A : Option Addr) (c : Nat) (k0 : Int) (w : World) (lo hi : Nat) (o : Own encOpinion 5 lo hi w A xs) (hn : xs.length ≤ 2097152) (h0 : 0 ≤ k0) (h1 : k0 ≤ 1099511627776) :
    Calls Try.prog 10 #[.slice A xs.length c, .int .i64 k0] w fun e w' => e = .returned (.int .i64 (k0 + 5 * xs.length)) ∧ Fr lo hi w w' ∧ Own encOpinion 5 lo hi w' A (marksOpinion k0 xs.length) := by
  by_cases hz : xs.length = 0
  · have hz' : (xs.length : Int) ≤ 0 := by omega
    go_enter Try.func10, Try.ntmps10
    go_wp2_with fail
    refine wp_loop_rounds 1 ?_
    rw [rounds_succ]
    go_wp2_with fail
    go_returns
    exact ⟨ret_int (by omega), Fr.refl _ _ _, by rw [hz]; exact Own.nil o.1⟩
  · obtain ⟨b, off, rfl, hlo, hhi, hM⟩ := Mk.begin_ (f := fun i : Nat => mkOpinion (k0 + 5 * (i : Int))) o (by omega) encOpinion_len
    have hsz := o.1
    clear o
    go_enter Try.func10, Try.ntmps10
    go_wp2_with fail
    go_loopw [1, 5] (fun u v wr => ∃ (i : Nat) (kk : Int), i ≤ xs.length ∧ Hid (kk = k0 + 5 * (i : Int)) ∧ k0 ≤ kk ∧ kk ≤ 1109511627776 ∧ u = .int .i64 kk ∧ v = .int .i64 i ∧ Mk encOpinion (fun i : Nat => mkOpinion (k0 + 5 * (i : Int))) 5 b off xs.length i [] wr ∧ Fr lo hi w wr) (fun _ v _ => xs.length - (intOf v).toNat)
    case atStart => exact ⟨0, k0, Nat.zero_le _, Lib.hid (by simp), by omega, by omega, rfl, rfl, hM, Fr.refl _ _ _⟩
    case round =>
      obtain ⟨i, kk, hi', hkk, hk0, hk1, rfl, rfl, hm, hfr⟩ := hrel
      clear hM
      by_cases hlt : i < xs.length
      · have hff := hm.free
        obtain ⟨v00, e00⟩ := hm.at_ hlt (j := 0) (by decide)
        obtain ⟨v01, e01⟩ := hm.at_ hlt (j := 1) (by decide)
        obtain ⟨v02, e02⟩ := hm.at_ hlt (j := 2) (by decide)
        obtain ⟨v03, e03⟩ := hm.at_ hlt (j := 3) (by decide)
        obtain ⟨v04, e04⟩ := hm.at_ hlt (j := 4) (by decide)
        simp only [Nat.add_zero] at e00
        have hs0 := hm.set_ hlt (by simp) encOpinion_len (.int .i64 (kk))
        have hq0 := hfr.setCell (p := ⟨b, off + i * 5 + 0, none⟩) hlo hhi (.int .i64 (kk))
        go_wp2_with fail
        refine (markText_c _ _ (by omega) (by omega)).mono ?_
        rintro e wt1 ⟨rfl, hbt1⟩
        have hm_1 := hs0.below hbt1
        have hfr_1 := hq0.then_ hbt1
        have hff_1 := hm_1.free
        obtain ⟨v10, e10⟩ := hm_1.at_ hlt (j := 0) (by decide)
        obtain ⟨v11, e11⟩ := hm_1.at_ hlt (j := 1) (by decide)
        obtain ⟨v12, e12⟩ := hm_1.at_ hlt (j := 2) (by decide)
        obtain ⟨v13, e13⟩ := hm_1.at_ hlt (j := 3) (by decide)
        obtain ⟨v14, e14⟩ := hm_1.at_ hlt (j := 4) (by decide)
        simp only [Nat.add_zero] at e10
        have hs1 := hm_1.set_ hlt (by simp) encOpinion_len (.string (mtext (kk + 1)))
        have hq1 := hfr_1.setCell (p := ⟨b, off + i * 5 + 1, none⟩) hlo hhi (.string (mtext (kk + 1)))
        have hs2 := hs1.set_ hlt (by simp) encOpinion_len (.int .i64 (kk + 1 + 1))
        have hq2 := hq1.setCell (p := ⟨b, off + i * 5 + 2, none⟩) hlo hhi (.int .i64 (kk + 1 + 1))
        have hs3 := hs2.set_ hlt (by simp) encOpinion_len (.int .i64 (kk + 1 + 1 + 1))
        have hq3 := hq2.setCell (p := ⟨b, off + i * 5 + 3, none⟩) hlo hhi (.int .i64 (kk + 1 + 1 + 1))
        have hs4 := hs3.set_ hlt (by simp) encOpinion_len (.int .i64 (kk + 1 + 1 + 1 + 1))
        have hq4 := hq3.setCell (p := ⟨b, off + i * 5 + 4, none⟩) hlo hhi (.int .i64 (kk + 1 + 1 + 1 + 1))
        have hd := (Mk.cast hs4 (by rw [hkk.out]; rfl)).done
        go_wp2_with fail
        go_roundw
        case rel => exact ⟨i + 1, kk + 5, by omega, Lib.hid (by have := hkk.out; omega), by omega, by have := hkk.out; omega, vi (by omega), by go_num, hd, hq4⟩
        case measure => simp [intOf]; omega
      · have hie : i = xs.length := by omega
        subst hie
        go_wp2_with fail
        go_returns
        exact ⟨ret_int (by have := hkk.out; omega), hfr, hm.own hlo hhi (Nat.le_trans hsz hfr.size)⟩
end Go.Proofs.Ytlienlflapeghaa
