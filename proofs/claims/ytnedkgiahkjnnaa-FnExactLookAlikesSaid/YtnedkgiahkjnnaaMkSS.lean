/- Contracts of the functions by which the laws mark lists of lists of numbers, and ask whether the marks are held. No condition but the sizes. -/
import Derived.Test.YtnedkgiahkjnnaaOwnSS
namespace Go.Proofs.Ytnedkgiahkjnnaa
set_option linter.unusedVariables false
set_option linter.unusedSimpArgs false
open Go.RowKit
attribute [local irreducible] wpQuiet
/-- The first mark of list number j. -/
def kAtS (k0 : Int) (xs : List (List Int)) (j : Nat) : Int := k0 + (sumS (xs.take j) : Int)
def mixS (k0 : Int) (xs : List (List Int)) (i : Nat) : List (List Int) := xs.mapIdx fun j p => if j < i then marks (kAtS k0 xs j) p.length else p
def marksS (k0 : Int) (xs : List (List Int)) : List (List Int) := mixS k0 xs xs.length
section
variable {k0 : Int} {xs : List (List Int)} {i : Nat}
theorem mixS_len : (mixS k0 xs i).length = xs.length := by simp [mixS]
theorem mixS_0 : mixS k0 xs 0 = xs := by
  refine List.ext_getElem (by simp [mixS]) fun j h1 h2 => ?_
  simp [mixS]
theorem mixS_at (h : i < (mixS k0 xs i).length) : (mixS k0 xs i)[i] = xs[i]'(by rw [mixS_len] at h; exact h) := by simp [mixS]
theorem mixS_set (h : i < xs.length) : (mixS k0 xs i).set i (marks (kAtS k0 xs i) xs[i].length) = mixS k0 xs (i + 1) := by
  refine List.ext_getElem (by simp [mixS]) fun j h1 h2 => ?_
  rw [List.getElem_set]
  split
  · rename_i e; subst e; simp [mixS]
  · rename_i e
    simp only [mixS, List.getElem_mapIdx]
    by_cases hj : j < i
    · rw [if_pos hj, if_pos (by omega)]
    · rw [if_neg hj, if_neg (by omega)]
theorem kAtS_0 : kAtS k0 xs 0 = k0 := by simp [kAtS, sumS]
theorem kAtS_s (h : i < xs.length) : kAtS k0 xs (i + 1) = kAtS k0 xs i + (xs[i].length : Int) := by
  unfold kAtS; rw [sumS_take_succ h]; omega
theorem sumS_take_le (xs : List (List Int)) (i : Nat) : sumS (xs.take i) ≤ sumS xs := by
  have h := sumS_append (xs.take i) (xs.drop i)
  rw [List.take_append_drop] at h
  omega
theorem kAtS_le : kAtS k0 xs i ≤ k0 + (sumS xs : Int) := by
  have := sumS_take_le xs i
  unfold kAtS; omega
theorem kAtS_ge : k0 ≤ kAtS k0 xs i := by unfold kAtS; omega
theorem marksS_len : (marksS k0 xs).length = xs.length := mixS_len
theorem marksS_at (h : i < xs.length) : (marksS k0 xs)[i]'(by rw [marksS_len]; exact h) = marks (kAtS k0 xs i) xs[i].length := by
  simp only [marksS, mixS, List.getElem_mapIdx]
  rw [if_pos h]
end
theorem addr_eq3 {b off b' off' : Nat} (h : (some ⟨b, off, none⟩ : Option Addr) = some ⟨b', off', none⟩) : b = b' ∧ off = off' := by injection h with h; injection h with h1 h2; exact ⟨h1, h2⟩
theorem Fr.then_3 {lo hi l r : Nat} {a w w' : World} (h : Fr lo hi a w) (k : Fr l r w w') (h1 : lo ≤ l) (h2 : r ≤ hi) : Fr lo hi a w' :=
  ⟨k.os.trans h.os, k.tape.trans h.tape, k.output.trans h.output, Nat.le_trans h.size k.size, fun i hi' hn => (k.block i (Nat.lt_of_lt_of_le hi' h.size) (by omega)).trans (h.block i hi' hn)⟩
set_option maxRecDepth 100000 in
set_option maxHeartbeats 2000000 in
theorem markIntSS_c (xs : List (List Int)) (A : Option Addr) (c : Nat) (k0 : Int) (w : World) (lo hi : Nat) (o : OwnSS lo hi w A xs) (hn : xs.length ≤ 2097152) (hs : sumS xs ≤ 2097152) (h0 : 0 ≤ k0) (h1 : k0 ≤ 1000000000000) :
    Calls Try.prog 23 #[.slice A xs.length c, .int .i64 k0] w fun e w' => e = .returned (.int .i64 (k0 + sumS xs)) ∧ Fr lo hi w w' ∧ OwnSS lo hi w' A (marksS k0 xs) := by
  go_enter Try.func23, Try.ntmps23
  go_wp2_with fail
  go_loopw [1, 5] (fun u v wr => ∃ (i : Nat) (kk : Int), i ≤ xs.length ∧ Hid (kk = kAtS k0 xs i) ∧ k0 ≤ kk ∧ kk ≤ 1000010000000 ∧ u = .int .i64 kk ∧ v = .int .i64 i ∧ OwnSS lo hi wr A (mixS k0 xs i) ∧ Fr lo hi w wr) (fun _ v _ => xs.length - (intOf v).toNat)
  case atStart => exact ⟨0, k0, Nat.zero_le _, Lib.hid kAtS_0.symm, by omega, by omega, rfl, rfl, o.cast mixS_0.symm, Fr.refl _ _ _⟩
  case round =>
    obtain ⟨i, kk, hi', hkk, hk0, hk1, rfl, rfl, hm, hfr⟩ := hrel
    by_cases hlt : i < xs.length
    · have hil : i < (mixS k0 xs i).length := by rw [mixS_len]; exact hlt
      have hitm : (mixS k0 xs i)[i] = xs[i] := mixS_at hil
      have hin : xs[i].length ≤ 2097152 := Nat.le_trans (sumS_mem (List.getElem_mem hlt)) hs
      have HB := Lib.hid (kAtS_le (k0 := k0) (xs := xs) (i := i))
      obtain ⟨b, off, Ai, ci, l, r, rfl, hlo, hhi, d0, hOw, hl, hrr, hcont⟩ := hm.list_ hil
      rw [hitm] at d0 hOw hcont
      have hlx : (i : Int) < (xs.length : Int) := by omega
      have hlx0 : (0 : Int) ≤ (i : Int) := by omega
      go_wp2_with fail
      refine (markIntS_c xs[i] _ _ kk _ l r hOw hin (by omega) (by omega)).mono ?_
      rintro e w4 ⟨rfl, hfr4, hown4⟩
      have hm4 := hcont w4 (marks kk xs[i].length) (by rw [marks_len]) hfr4 hown4
      have hfr5 := hfr.then_3 hfr4 hl hrr
      have hend : OwnSS lo hi w4 (some ⟨b, off, none⟩) (mixS k0 xs (i + 1)) := hm4.cast (by rw [← mixS_set hlt, ← hkk.out])
      have hks := kAtS_s (k0 := k0) hlt
      have hkl := kAtS_le (k0 := k0) (xs := xs) (i := i + 1)
      go_wp2_with fail
      go_roundw
      case rel => exact ⟨i + 1, kk + xs[i].length, by omega, Lib.hid (by rw [hks, ← hkk.out]), by omega, by have := hkk.out; omega, rfl, by go_num, hend, hfr5⟩
      case measure => simp [intOf]; omega
    · have hie : i = xs.length := by omega
      have hkv : kk = k0 + (sumS xs : Int) := by
        rw [hkk.out, hie]; unfold kAtS; rw [List.take_length]
      have HK := Lib.hid hkv
      have hmx := hm.cast (show mixS k0 xs i = marksS k0 xs by rw [hie]; rfl)
      clear hkv
      go_wp2_with fail
      go_returns
      exact ⟨ret_int HK.out, hfr, hmx⟩
set_option maxRecDepth 100000 in
set_option maxHeartbeats 2000000 in
theorem heldIntSS_c (xs : List (List Int)) (A : Option Addr) (c : Nat) (k0 : Int) (w : World) (hr : RdSS w.heap.size w A (marksS k0 xs)) (hn : xs.length ≤ 2097152) (hs : sumS xs ≤ 2097152) (h0 : 0 ≤ k0) (h1 : k0 ≤ 1000000000000) :
    Calls Try.prog 24 #[.slice A xs.length c, .int .i64 k0] w (Ret (.int .i64 (k0 + sumS xs)) w) := by
  go_enter Try.func24, Try.ntmps24
  go_wp2_with fail
  go_loopw [1, 5] (fun u v wr => ∃ (i : Nat) (kk : Int), i ≤ xs.length ∧ Hid (kk = kAtS k0 xs i) ∧ k0 ≤ kk ∧ kk ≤ 1000010000000 ∧ u = .int .i64 kk ∧ v = .int .i64 i ∧ Below w.heap.size w wr) (fun _ v _ => xs.length - (intOf v).toNat)
  case atStart => exact ⟨0, k0, Nat.zero_le _, Lib.hid kAtS_0.symm, by omega, by omega, rfl, rfl, Below.refl _ _⟩
  case round =>
    obtain ⟨i, kk, hi', hkk, hk0, hk1, rfl, rfl, hb⟩ := hrel
    by_cases hlt : i < xs.length
    · have hin : xs[i].length ≤ 2097152 := Nat.le_trans (sumS_mem (List.getElem_mem hlt)) hs
      obtain ⟨b, off, Ai, ci, rfl, hbs, d0, hci, hri⟩ := (hr.below hb).at_ (i := i) (by rw [marksS_len]; exact hlt)
      rw [marksS_at hlt, ← hkk.out] at d0 hci hri
      simp only [marks_len] at d0 hci hri
      have hlx : (i : Int) < (xs.length : Int) := by omega
      have hlx0 : (0 : Int) ≤ (i : Int) := by omega
      have hks := kAtS_s (k0 := k0) hlt
      have hkl := kAtS_le (k0 := k0) (xs := xs) (i := i + 1)
      have HKS := Lib.hid hks
      clear hks
      have hri := hri.more hb.size
      go_wp2_with fail
      refine (heldIntS_c xs[i].length _ _ kk _ hri hin (by omega) (by omega)).mono ?_
      rintro e w4 ⟨rfl, hb4⟩
      have hbl := below_via hb hb4
      have hpos : ¬ kk + (xs[i].length : Int) < 0 := by omega
      go_wp2_with fail
      go_roundw
      case rel => exact ⟨i + 1, kk + xs[i].length, by omega, Lib.hid (by rw [HKS.out, ← hkk.out]), by omega, by have := hkk.out; have := HKS.out; omega, rfl, by go_num, hbl⟩
      case measure => simp [intOf]; omega
    · have hie : i = xs.length := by omega
      have HK := Lib.hid (show kk = k0 + (sumS xs : Int) by
        rw [hkk.out, hie]; unfold kAtS; rw [List.take_length])
      go_wp2_with fail
      go_returns
      exact ⟨ret_int HK.out, hb⟩
end Go.Proofs.Ytnedkgiahkjnnaa
