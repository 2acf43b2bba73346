/- Contracts of the functions by which the laws mark albums, and ask whether the marks are held. No condition but the sizes. -/
import Derived.Test.YthhdajmnidjhjaaCvPage2
import Derived.Test.YthhdajmnidjhjaaMarkText
import Derived.Test.YthhdajmnidjhjaaCmpS
import Derived.Test.YthhdajmnidjhjaaOver
namespace Go.Proofs.Ythhdajmnidjhjaa
set_option linter.unusedVariables false
set_option linter.unusedSimpArgs false
open Go.RowKit
attribute [local irreducible] wpQuiet
/-- The first mark of page number j. -/
def kAt (k0 : Int) (xs : List Page) (j : Nat) : Int := k0 + 3 * (j : Int) + (sumI (xs.take j) : Int)
def mkPg (kk : Int) (n : Nat) : Page := ⟨kk, mtext (kk + 1), kk + 1 + 1, marks (kk + 1 + 1 + 1) n⟩
def mixP (k0 : Int) (xs : List Page) (i : Nat) : List Page := xs.mapIdx fun j p => if j < i then mkPg (kAt k0 xs j) p.items.length else p
def marksP (k0 : Int) (xs : List Page) : List Page := mixP k0 xs xs.length
section
variable {k0 : Int} {xs : List Page} {i : Nat}
theorem mixP_len : (mixP k0 xs i).length = xs.length := by simp [mixP]
theorem mixP_0 : mixP k0 xs 0 = xs := by
  refine List.ext_getElem (by simp [mixP]) fun j h1 h2 => ?_
  simp [mixP]
theorem mixP_at (h : i < (mixP k0 xs i).length) : (mixP k0 xs i)[i] = xs[i]'(by rw [mixP_len] at h; exact h) := by simp [mixP]
theorem mixP_set (h : i < xs.length) : (mixP k0 xs i).set i (mkPg (kAt k0 xs i) xs[i].items.length) = mixP k0 xs (i + 1) := by
  refine List.ext_getElem (by simp [mixP]) fun j h1 h2 => ?_
  rw [List.getElem_set]
  split
  · rename_i e; subst e; simp [mixP]
  · rename_i e
    simp only [mixP, List.getElem_mapIdx]
    by_cases hj : j < i
    · rw [if_pos hj, if_pos (by omega)]
    · rw [if_neg hj, if_neg (by omega)]
theorem kAt_0 : kAt k0 xs 0 = k0 := by simp [kAt, sumI]
theorem kAt_s (h : i < xs.length) : kAt k0 xs (i + 1) = kAt k0 xs i + 3 + (xs[i].items.length : Int) := by
  unfold kAt; rw [sumI_take_succ h]; omega
theorem kAt_le (h : i ≤ xs.length) : kAt k0 xs i ≤ k0 + 3 * (xs.length : Int) + (sumI xs : Int) := by
  have := sumI_take_le xs i
  unfold kAt; omega
theorem kAt_ge : k0 ≤ kAt k0 xs i := by unfold kAt; omega
theorem marksP_len : (marksP k0 xs).length = xs.length := mixP_len
theorem marksP_at (h : i < xs.length) : (marksP k0 xs)[i]'(by rw [marksP_len]; exact h) = mkPg (kAt k0 xs i) xs[i].items.length := by
  simp only [marksP, mixP, List.getElem_mapIdx]
  rw [if_pos h]
end
theorem addr_eq2 {b off b' off' : Nat} (h : (some ⟨b, off, none⟩ : Option Addr) = some ⟨b', off', none⟩) : b = b' ∧ off = off' := by injection h with h; injection h with h1 h2; exact ⟨h1, h2⟩
theorem Fr.then_2 {lo hi l r : Nat} {a w w' : World} (h : Fr lo hi a w) (k : Fr l r w w') (h1 : lo ≤ l) (h2 : r ≤ hi) : Fr lo hi a w' :=
  ⟨k.os.trans h.os, k.tape.trans h.tape, k.output.trans h.output, Nat.le_trans h.size k.size, fun i hi' hn => (k.block i (Nat.lt_of_lt_of_le hi' h.size) (by omega)).trans (h.block i hi' hn)⟩
set_option maxRecDepth 100000 in
set_option maxHeartbeats 2000000 in
theorem markAlbumPageS_c (xs : List Page) (A : Option Addr) (c : Nat) (k0 : Int) (w : World) (lo hi : Nat) (o : OwnP lo hi w A xs) (hn : xs.length ≤ 2097152) (hs : sumI xs ≤ 2097152) (h0 : 0 ≤ k0) (h1 : k0 ≤ 1000000000000) :
    Calls Try.prog 10 #[.slice A xs.length c, .int .i64 k0] w fun e w' => e = .returned (.int .i64 (k0 + 3 * xs.length + sumI xs)) ∧ Fr lo hi w w' ∧ OwnP lo hi w' A (marksP k0 xs) := by
  go_enter Try.func10, Try.ntmps10
  go_wp2_with fail
  go_loopw [1, 5] (fun u v wr => ∃ (i : Nat) (kk : Int), i ≤ xs.length ∧ Hid (kk = kAt k0 xs i) ∧ k0 ≤ kk ∧ kk ≤ 1000010000000 ∧ u = .int .i64 kk ∧ v = .int .i64 i ∧ OwnP lo hi wr A (mixP k0 xs i) ∧ Fr lo hi w wr) (fun _ v _ => xs.length - (intOf v).toNat)
  case atStart => exact ⟨0, k0, Nat.zero_le _, Lib.hid kAt_0.symm, by omega, by omega, rfl, rfl, o.cast mixP_0.symm, Fr.refl _ _ _⟩
  case round =>
    obtain ⟨i, kk, hi', hkk, hk0, hk1, rfl, rfl, hm, hfr⟩ := hrel
    by_cases hlt : i < xs.length
    · have hil : i < (mixP k0 xs i).length := by rw [mixP_len]; exact hlt
      have hitm : (mixP k0 xs i)[i] = xs[i] := mixP_at hil
      have hin : xs[i].items.length ≤ 2097152 := Nat.le_trans (sumI_mem (List.getElem_mem hlt)) hs
      have HB := Lib.hid (kAt_le (k0 := k0) (xs := xs) hi')
      obtain ⟨b, off, Ai, ci, l, r, rfl, hlo, hhi, hff, d0, d1, d2, d3, _, _, _, _⟩ := hm.page hil
      have hlx : (i : Int) < (xs.length : Int) := by omega
      have hlx0 : (0 : Int) ≤ (i : Int) := by omega
      have hm1 := hm.setId hil kk
      rw [hitm] at hm1 d0 d1 d2 d3
      have hfr1 := hfr.setCell (p := ⟨b, off + i * 4, none⟩) hlo hhi (.int .i64 kk)
      go_wp2_with fail
      refine (markText_c _ _ (by omega) (by omega)).mono ?_
      rintro e wt ⟨rfl, hbt⟩
      have hm1 := hm1.go hbt
      have hfr1 := hfr1.then_ hbt
      have hsz : i < ((mixP k0 xs i).set i ⟨kk, xs[i].title, xs[i].under, xs[i].items⟩).length := by simp; rw [mixP_len]; exact hlt
      have hg1 : ((mixP k0 xs i).set i ⟨kk, xs[i].title, xs[i].under, xs[i].items⟩)[i] = ⟨kk, xs[i].title, xs[i].under, xs[i].items⟩ := by simp
      obtain ⟨b', off', Ai, ci, _, _, hA, _, _, hff1, _, e1, e2, e3, _, _, _, _⟩ := hm1.page hsz
      obtain ⟨rfl, rfl⟩ := addr_eq2 hA
      rw [hg1] at e1 e2 e3
      have hm2 := hm1.setTitle hsz (mtext (kk + 1))
      rw [hg1, List.set_set] at hm2
      have hsz2 : i < ((mixP k0 xs i).set i ⟨kk, mtext (kk + 1), xs[i].under, xs[i].items⟩).length := by simp; rw [mixP_len]; exact hlt
      have hg2 : ((mixP k0 xs i).set i ⟨kk, mtext (kk + 1), xs[i].under, xs[i].items⟩)[i] = ⟨kk, mtext (kk + 1), xs[i].under, xs[i].items⟩ := by simp
      have hm3 := hm2.setUnder hsz2 (kk + 1 + 1)
      rw [hg2, List.set_set] at hm3
      have hsz3 : i < ((mixP k0 xs i).set i ⟨kk, mtext (kk + 1), kk + 1 + 1, xs[i].items⟩).length := by simp; rw [mixP_len]; exact hlt
      have hg3 : ((mixP k0 xs i).set i ⟨kk, mtext (kk + 1), kk + 1 + 1, xs[i].items⟩)[i] = ⟨kk, mtext (kk + 1), kk + 1 + 1, xs[i].items⟩ := by simp
      obtain ⟨b', off', Aj, cj, l, r, hA, _, _, _, _, _, _, f3, hOw, hl, hrr, hcont⟩ := hm3.page hsz3
      obtain ⟨rfl, rfl⟩ := addr_eq2 hA
      have hne : ((wt.setCell ⟨b, off + i * 4 + 1, none⟩ (.string (mtext (kk + 1)))).setCell ⟨b, off + i * 4 + 2, none⟩ (.int .i64 (kk + 1 + 1))).cell? ⟨b, off + i * 4 + 3, none⟩ = some (.slice Ai xs[i].items.length ci) := by
        rw [World.cell?_setCell_other _ _ _ _ (by simp), World.cell?_setCell_other _ _ _ _ (by simp)]; exact e3
      rw [hne, hg3] at f3
      simp only [Option.some.injEq, Value.slice.injEq, true_and] at f3
      obtain ⟨rfl, rfl⟩ := f3
      rw [hg3] at hOw hcont
      have hfr3 := (hfr1.setCell (p := ⟨b, off + i * 4 + 1, none⟩) hlo hhi (.string (mtext (kk + 1)))).setCell (p := ⟨b, off + i * 4 + 2, none⟩) hlo hhi (.int .i64 (kk + 1 + 1))
      clear hm hm1 hm2 hm3 hne
      go_wp2_with fail
      refine (markIntS_c xs[i].items _ _ (kk + 1 + 1 + 1) _ l r hOw hin (by omega) (by omega)).mono ?_
      rintro e w4 ⟨rfl, hfr4, hown4⟩
      have hm4 := hcont w4 (marks (kk + 1 + 1 + 1) xs[i].items.length) (by rw [marks_len]) hfr4 hown4
      have hfr5 := hfr3.then_2 hfr4 hl hrr
      have hend : OwnP lo hi w4 (some ⟨b, off, none⟩) (mixP k0 xs (i + 1)) := hm4.cast (by rw [List.set_set, ← mixP_set hlt, ← hkk.out]; rfl)
      have hks := kAt_s (k0 := k0) hlt
      have hkl := kAt_le (k0 := k0) (xs := xs) (i := i + 1) (by omega)
      go_wp2_with fail
      go_roundw
      case rel => exact ⟨i + 1, kk + 1 + 1 + 1 + xs[i].items.length, by omega, Lib.hid (by rw [hks, ← hkk.out]; omega), by omega, by have := hkk.out; omega, rfl, by go_num, hend, hfr5⟩
      case measure => simp [intOf]; omega
    · have hie : i = xs.length := by omega
      have hkv : kk = k0 + 3 * (xs.length : Int) + (sumI xs : Int) := by
        rw [hkk.out, hie]; unfold kAt; rw [List.take_length]
      have HK := Lib.hid hkv
      have hmx := hm.cast (show mixP k0 xs i = marksP k0 xs by rw [hie]; rfl)
      clear hkv
      go_wp2_with fail
      go_returns
      exact ⟨ret_int HK.out, hfr, hmx⟩
set_option maxRecDepth 100000 in
set_option maxHeartbeats 2000000 in
theorem heldAlbumPageS_c (xs : List Page) (A : Option Addr) (c : Nat) (k0 : Int) (w : World) (hr : RdP w.heap.size w A (marksP k0 xs)) (hn : xs.length ≤ 2097152) (hs : sumI xs ≤ 2097152) (h0 : 0 ≤ k0) (h1 : k0 ≤ 1000000000000) :
    Calls Try.prog 11 #[.slice A xs.length c, .int .i64 k0] w (Ret (.int .i64 (k0 + 3 * xs.length + sumI xs)) w) := by
  go_enter Try.func11, Try.ntmps11
  go_wp2_with fail
  go_loopw [1, 5] (fun u v wr => ∃ (i : Nat) (kk : Int), i ≤ xs.length ∧ Hid (kk = kAt k0 xs i) ∧ k0 ≤ kk ∧ kk ≤ 1000010000000 ∧ u = .int .i64 kk ∧ v = .int .i64 i ∧ Below w.heap.size w wr) (fun _ v _ => xs.length - (intOf v).toNat)
  case atStart => exact ⟨0, k0, Nat.zero_le _, Lib.hid kAt_0.symm, by omega, by omega, rfl, rfl, Below.refl _ _⟩
  case round =>
    obtain ⟨i, kk, hi', hkk, hk0, hk1, rfl, rfl, hb⟩ := hrel
    by_cases hlt : i < xs.length
    · have hin : xs[i].items.length ≤ 2097152 := Nat.le_trans (sumI_mem (List.getElem_mem hlt)) hs
      obtain ⟨b, off, Ai, ci, rfl, hbs, d0, d1, d2, d3, hci, hri⟩ := (hr.below hb).page (i := i) (by rw [marksP_len]; exact hlt)
      rw [marksP_at hlt, ← hkk.out] at d0 d1 d2 d3 hci hri
      unfold mkPg at d0 d1 d2 d3 hci hri
      simp only [marks_len] at d0 d1 d2 d3 hci hri
      have hbw : b < wr.heap.size := Nat.lt_of_lt_of_le hbs hb.size
      have hov := over_cell wr
      have hlx : (i : Int) < (xs.length : Int) := by omega
      have hlx0 : (0 : Int) ≤ (i : Int) := by omega
      have hks := kAt_s (k0 := k0) hlt
      have hkl := kAt_le (k0 := k0) (xs := xs) (i := i + 1) (by omega)
      have HKS := Lib.hid hks
      clear hks
      have HC : Hid (∀ x : World, Calls Try.prog 43 #[.int .i64 (kk + 1)] (over wr x) (Ret (.string (mtext (kk + 1))) (over wr x))) := Lib.hid (fun x => markText_c _ _ (by omega) (by omega))
      go_wp2_with fail
      refine wp_region_over (by kernel_rfl) (by kernel_rfl) ?_
      repeat (go_big_quiet_step (((go_at_call 43; exact Calls.over_of (HC.out _)))))
      refine wpQuiet_nil ?_
      intro _ hwx1
      obtain ⟨x1, hwx1⟩ := hwx1
      subst hwx1
      obtain ⟨W1, hW1⟩ : ∃ W1, over wr x1 = W1 := ⟨_, rfl⟩
      have hbW := over_below wr x1
      rw [hW1] at hbW ⊢
      clear hW1 hov
      have d2 := (hbW.cell (p := ⟨b, _, none⟩) hbw).trans d2
      have d3 := (hbW.cell (p := ⟨b, _, none⟩) hbw).trans d3
      have hri := (hri.more hb.size).go hbW
      go_wp2_with fail
      refine (heldIntS_c xs[i].items.length _ _ (kk + 1 + 1 + 1) _ hri hin (by omega) (by omega)).mono ?_
      rintro e w4 ⟨rfl, hb4⟩
      have hbl := below_via (below_via hb hbW) hb4
      have hpos : ¬ kk + 1 + 1 + 1 + (xs[i].items.length : Int) < 0 := by omega
      go_wp2_with fail
      go_roundw
      case rel => exact ⟨i + 1, kk + 1 + 1 + 1 + xs[i].items.length, by omega, Lib.hid (by rw [HKS.out, ← hkk.out]; omega), by omega, by have := hkk.out; have := HKS.out; omega, rfl, by go_num, hbl⟩
      case measure => simp [intOf]; omega
    · have hie : i = xs.length := by omega
      have HK := Lib.hid (show kk = k0 + 3 * (xs.length : Int) + (sumI xs : Int) by
        rw [hkk.out, hie]; unfold kAt; rw [List.take_length])
      go_wp2_with fail
      go_returns
      exact ⟨ret_int HK.out, hb⟩
end Go.Proofs.Ythhdajmnidjhjaa
