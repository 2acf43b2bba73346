/- Contracts of the functions by which the laws mark records of the type Flaw, and ask whether the marks are held. -/
import Derived.Test.YtnedkgiahkjnnaaCvFlaw
namespace Go.Proofs.Ytnedkgiahkjnnaa
set_option linter.unusedVariables false
set_option linter.unusedSimpArgs false
open Go.RowKit
def mkFlaw (kk : Int) : Flaw := ⟨kk, kk + 1, kk + 1 + 1, kk + 1 + 1 + 1⟩
def marksFlaw (k : Int) (n : Nat) : List Flaw := (List.range n).map fun i : Nat => mkFlaw (k + 4 * (i : Int))
theorem marksFlaw_len (k : Int) (n : Nat) : (marksFlaw k n).length = n := by simp [marksFlaw]
theorem marksFlaw_get (k : Int) (n i : Nat) (h : i < (marksFlaw k n).length) : (marksFlaw k n)[i] = mkFlaw (k + 4 * (i : Int)) := by simp [marksFlaw]
set_option maxRecDepth 100000 in
set_option maxHeartbeats 1000000 in
theorem markFlawS_c (xs : List Flaw) (A : Option Addr) (c : Nat) (k0 : Int) (w : World) (lo hi : Nat) (o : Own encFlaw 4 lo hi w A xs) (hn : xs.length ≤ 2097152) (h0 : 0 ≤ k0) (h1 : k0 ≤ 1099511627776) :
    Calls Try.prog 19 #[.slice A xs.length c, .int .i64 k0] w fun e w' => e = .returned (.int .i64 (k0 + 4 * xs.length)) ∧ Fr lo hi w w' ∧ Own encFlaw 4 lo hi w' A (marksFlaw k0 xs.length) := by
  by_cases hz : xs.length = 0
  · have hz' : (xs.length : Int) ≤ 0 := by omega
    go_enter Try.func19, Try.ntmps19
    go_wp2_with fail
    refine wp_loop_rounds 1 ?_
    rw [rounds_succ]
    go_wp2_with fail
    go_returns
    exact ⟨ret_int (by omega), Fr.refl _ _ _, by rw [hz]; exact Own.nil o.1⟩
  · obtain ⟨b, off, rfl, hlo, hhi, hM⟩ := Mk.begin_ (f := fun i : Nat => mkFlaw (k0 + 4 * (i : Int))) o (by omega) encFlaw_len
    have hsz := o.1
    clear o
    go_enter Try.func19, Try.ntmps19
    go_wp2_with fail
    go_loopw [1, 5] (fun u v wr => ∃ (i : Nat) (kk : Int), i ≤ xs.length ∧ Hid (kk = k0 + 4 * (i : Int)) ∧ k0 ≤ kk ∧ kk ≤ 1109511627776 ∧ u = .int .i64 kk ∧ v = .int .i64 i ∧ Mk encFlaw (fun i : Nat => mkFlaw (k0 + 4 * (i : Int))) 4 b off xs.length i [] wr ∧ Fr lo hi w wr) (fun _ v _ => xs.length - (intOf v).toNat)
    case atStart => exact ⟨0, k0, Nat.zero_le _, Lib.hid (by simp), by omega, by omega, rfl, rfl, hM, Fr.refl _ _ _⟩
    case round =>
      obtain ⟨i, kk, hi', hkk, hk0, hk1, rfl, rfl, hm, hfr⟩ := hrel
      clear hM
      by_cases hlt : i < xs.length
      · have hff := hm.free
        obtain ⟨v00, e00⟩ := hm.at_ hlt (j := 0) (by decide)
        obtain ⟨v01, e01⟩ := hm.at_ hlt (j := 1) (by decide)
        obtain ⟨v02, e02⟩ := hm.at_ hlt (j := 2) (by decide)
        obtain ⟨v03, e03⟩ := hm.at_ hlt (j := 3) (by decide)
        simp only [Nat.add_zero] at e00
        have hs0 := hm.set_ hlt (by simp) encFlaw_len (.int .i64 (kk))
        have hq0 := hfr.setCell (p := ⟨b, off + i * 4 + 0, none⟩) hlo hhi (.int .i64 (kk))
        have hs1 := hs0.set_ hlt (by simp) encFlaw_len (.int .i64 (kk + 1))
        have hq1 := hq0.setCell (p := ⟨b, off + i * 4 + 1, none⟩) hlo hhi (.int .i64 (kk + 1))
        have hs2 := hs1.set_ hlt (by simp) encFlaw_len (.int .i64 (kk + 1 + 1))
        have hq2 := hq1.setCell (p := ⟨b, off + i * 4 + 2, none⟩) hlo hhi (.int .i64 (kk + 1 + 1))
        have hs3 := hs2.set_ hlt (by simp) encFlaw_len (.int .i64 (kk + 1 + 1 + 1))
        have hq3 := hq2.setCell (p := ⟨b, off + i * 4 + 3, none⟩) hlo hhi (.int .i64 (kk + 1 + 1 + 1))
        have hd := (Mk.cast hs3 (by rw [hkk.out]; rfl)).done
        go_wp2_with fail
        go_roundw
        case rel => exact ⟨i + 1, kk + 4, by omega, Lib.hid (by have := hkk.out; omega), by omega, by have := hkk.out; omega, vi (by omega), by go_num, hd, hq3⟩
        case measure => simp [intOf]; omega
      · have hie : i = xs.length := by omega
        subst hie
        go_wp2_with fail
        go_returns
        exact ⟨ret_int (by have := hkk.out; omega), hfr, hm.own hlo hhi (Nat.le_trans hsz hfr.size)⟩
set_option maxRecDepth 100000 in
set_option maxHeartbeats 4000000 in
theorem heldFlawS_c (n : Nat) (A : Option Addr) (c : Nat) (k0 : Int) (w : World) (hr : Rd encFlaw 4 w.heap.size w A (marksFlaw k0 n)) (hn : n ≤ 2097152) (h0 : 0 ≤ k0) (h1 : k0 ≤ 1099511627776) :
    Calls Try.prog 20 #[.slice A n c, .int .i64 k0] w (Ret (.int .i64 (k0 + 4 * n)) w) := by
  go_enter Try.func20, Try.ntmps20
  go_wp2_with fail
  go_loopw [1, 5] (fun u v wr => ∃ (i : Nat) (kk : Int), i ≤ n ∧ Hid (kk = k0 + 4 * (i : Int)) ∧ k0 ≤ kk ∧ kk ≤ 1109511627776 ∧ u = .int .i64 kk ∧ v = .int .i64 i ∧ Below w.heap.size w wr) (fun _ v _ => n - (intOf v).toNat)
  case atStart => exact ⟨0, k0, Nat.zero_le _, Lib.hid (by simp), by omega, by omega, rfl, rfl, Below.refl _ _⟩
  case round =>
    obtain ⟨i, kk, hi', hkk, hk0, hk1, rfl, rfl, hb⟩ := hrel
    by_cases hlt : i < n
    · obtain ⟨b, off, rfl, hbs, d0, d1, d2, d3⟩ := (hr.below hb).atFlaw (i := i) (by rw [marksFlaw_len]; exact hlt)
      rw [marksFlaw_get, ← hkk.out] at d0 d1 d2 d3
      unfold mkFlaw at d0 d1 d2 d3
      simp only at d0 d1 d2 d3
      go_wp2_with fail
      go_roundw
      case rel => exact ⟨i + 1, kk + 4, by omega, Lib.hid (by have := hkk.out; omega), by omega, by have := hkk.out; omega, vi (by omega), by go_num, hb⟩
      case measure => simp [intOf]; omega
    · have hie : i = n := by omega
      subst hie
      go_wp2_with fail
      go_returns
      exact ⟨ret_int (by have := hkk.out; omega), hb⟩
end Go.Proofs.Ytnedkgiahkjnnaa
