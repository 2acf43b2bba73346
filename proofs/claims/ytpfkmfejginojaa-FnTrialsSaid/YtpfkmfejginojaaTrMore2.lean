/- Contract of the program's BestTrial. No condition but the list's size. -/
import Derived.Test.YtpfkmfejginojaaTrMore
import Derived.Test.YtpfkmfejginojaaCmp
import Derived.Deep.RegionHeld3
namespace Go.Proofs.Ytpfkmfejginojaa
set_option linter.unusedVariables false
set_option linter.unusedSimpArgs false
open Go.RowKit
def bestN (xs : List Trial) : Int := if goodT xs && !xs.isEmpty then (bestT xs xs.length : Int) else 0
def bestB (xs : List Trial) : Bool := goodT xs && !xs.isEmpty
theorem bestV_eq (xs : List Trial) : bestV xs = .tuple #[.int .i64 (bestN xs), .bool (bestB xs)] := by
  unfold bestV bestN bestB
  by_cases h : (goodT xs && !xs.isEmpty) = true
  · rw [if_pos h, if_pos h, h]
  · rw [if_neg h, if_neg h]
    simp only [Bool.not_eq_true] at h
    rw [h]
theorem orBest (p q pp pq : Int) : (orI [cmpI q p, cmpI pp pq] < 0) = (q < p ∨ (p = q ∧ pp < pq)) := by
  simp only [orI, cmpI]
  apply propext
  split <;> split <;> (try split) <;> (try split) <;> omega
structure BestS (b off m : Nat) (x y : Trial) (W0 W : World) : Prop where
  below : Below W0.heap.size W0 W
  b0 : W.cell? ⟨b, off + m * 3, none⟩ = some (.int .i64 y.real)
  b1 : W.cell? ⟨b, off + m * 3 + 1, none⟩ = some (.int .i64 y.fake)
  b2 : W.cell? ⟨b, off + m * 3 + 2, none⟩ = some (.int .i64 y.price)
theorem keep7 {W0 W1 W2 : World} {p0 p1 p2 q0 q1 q2 : Addr} {a0 a1 a2 c0 c1 c2 : Value} (hb : Below W1.heap.size W1 W2)
    (h : Below W0.heap.size W0 W1 ∧ W1.cell? p0 = some a0 ∧ W1.cell? p1 = some a1 ∧ W1.cell? p2 = some a2 ∧ W1.cell? q0 = some c0 ∧ W1.cell? q1 = some c1 ∧ W1.cell? q2 = some c2) :
    Below W0.heap.size W0 W2 ∧ W2.cell? p0 = some a0 ∧ W2.cell? p1 = some a1 ∧ W2.cell? p2 = some a2 ∧ W2.cell? q0 = some c0 ∧ W2.cell? q1 = some c1 ∧ W2.cell? q2 = some c2 := by
  have lt : ∀ {a : Addr} {v : Value}, W1.cell? a = some v → W2.cell? a = some v := fun {a v} h => by
    have hl : a.block < W1.heap.size := by
      rcases Nat.lt_or_ge a.block W1.heap.size with h1 | h1
      · exact h1
      · unfold World.cell? at h
        rw [Array.getElem?_eq_none h1] at h
        simp at h
    rw [hb.cell hl, h]
  obtain ⟨h0, h1, h2, h3, h4, h5, h6⟩ := h
  exact ⟨below_via h0 hb, lt h1, lt h2, lt h3, lt h4, lt h5, lt h6⟩
set_option maxRecDepth 100000 in
set_option maxHeartbeats 2000000 in
theorem implBestTrial_c (xs : List Trial) (A : Option Addr) (c : Nat) (w : World) (hr : Rd encTrial 3 w.heap.size w A xs) (hn : xs.length ≤ 1048576) :
    Calls Try.prog 23 #[.slice A xs.length c] w (Ret (bestV xs) w) := by
  have Hbad := @bestV_bad xs
  by_cases hg : goodT xs = true
  · by_cases h0 : xs.length = 0
    · have HV := Lib.hid (bestV_nil h0)
      have h0' : ((xs.length : Int) == 0) = true := by rw [beq_iff_eq]; omega
      clear h0 Hbad
      go_enter Try.func23, Try.ntmps23
      go_wp2_with fail
      refine (areTrials_c xs _ _ _ hr hn).mono ?_
      rintro e w1 ⟨rfl, hb1⟩
      go_wp2_with fail
      go_returns
      exact ⟨by rw [HV.out]; rfl, hb1⟩
    · have HV := Lib.hid (bestV_yes hg h0)
      have h0' : ((xs.length : Int) == 0) = false := by rw [beq_eq_false_iff_ne]; omega
      have hlen := good_len hg
      have hpos : 1 ≤ xs.length := by omega
      have HG := Lib.hid (fun (i : Nat) (h : i < xs.length) => good_all hg h)
      clear h0 Hbad
      go_enter Try.func23, Try.ntmps23
      go_wp2_with fail
      refine (areTrials_c xs _ _ _ hr hn).mono ?_
      rintro e w1 ⟨rfl, hb1⟩
      go_wp2_with fail
      clear hg h0'
      go_loopw [4, 17] (fun u v wr => ∃ k : Nat, k ≤ xs.length ∧ v = .int .i64 k ∧ u = .int .i64 (bestT xs k) ∧ Below w.heap.size w wr) (fun _ v _ => xs.length - (intOf v).toNat)
      case atStart => exact ⟨0, by omega, rfl, rfl, hb1⟩
      case round =>
        obtain ⟨k, hk, rfl, rfl, hb⟩ := hrel
        by_cases hlt : k < xs.length
        · obtain ⟨b, off, rfl, hbs, d0, d1, d2⟩ := (hr.below hb).atTrial hlt
          have hbt := bestT_lt xs k hk (by omega)
          obtain ⟨b', off', hA, hbs', g0, g1, g2⟩ := (hr.below hb).atTrial hbt
          have hst := bestT_succ xs k
          generalize bestT xs k = m at *
          injection hA with hA; injection hA with hA1 hA2
          subst hA1 hA2
          have hbw : b < wr.heap.size := Nat.lt_of_lt_of_le hbs hb.size
          have HS := Lib.hid hst
          clear hst hbs'
          go_wp2_with fail
          have hS0 : Below (wr.alloc (.cells #[.int .i64 xs[k].real, .int .i64 xs[k].fake, .int .i64 xs[k].price] 46)).heap.size (wr.alloc (.cells #[.int .i64 xs[k].real, .int .i64 xs[k].fake, .int .i64 xs[k].price] 46)) (wr.alloc (.cells #[.int .i64 xs[k].real, .int .i64 xs[k].fake, .int .i64 xs[k].price] 46)).drew ∧ (wr.alloc (.cells #[.int .i64 xs[k].real, .int .i64 xs[k].fake, .int .i64 xs[k].price] 46)).drew.cell? ⟨b, off + m * 3, none⟩ = some (.int .i64 xs[m].real) ∧ (wr.alloc (.cells #[.int .i64 xs[k].real, .int .i64 xs[k].fake, .int .i64 xs[k].price] 46)).drew.cell? ⟨b, off + m * 3 + 1, none⟩ = some (.int .i64 xs[m].fake) ∧ (wr.alloc (.cells #[.int .i64 xs[k].real, .int .i64 xs[k].fake, .int .i64 xs[k].price] 46)).drew.cell? ⟨b, off + m * 3 + 2, none⟩ = some (.int .i64 xs[m].price) ∧ (wr.alloc (.cells #[.int .i64 xs[k].real, .int .i64 xs[k].fake, .int .i64 xs[k].price] 46)).drew.cell? ⟨wr.heap.size, 0, none⟩ = some (.int .i64 xs[k].real) ∧ (wr.alloc (.cells #[.int .i64 xs[k].real, .int .i64 xs[k].fake, .int .i64 xs[k].price] 46)).drew.cell? ⟨wr.heap.size, 1, none⟩ = some (.int .i64 xs[k].fake) ∧ (wr.alloc (.cells #[.int .i64 xs[k].real, .int .i64 xs[k].fake, .int .i64 xs[k].price] 46)).drew.cell? ⟨wr.heap.size, 2, none⟩ = some (.int .i64 xs[k].price) :=
            ⟨(Below.refl _ _).drew, (World.cell?_alloc_past _ _ _ hbw).trans g0, (World.cell?_alloc_past _ _ _ hbw).trans g1, (World.cell?_alloc_past _ _ _ hbw).trans g2, World.cell?_alloc_new _ _ _ _, World.cell?_alloc_new _ _ _ _, World.cell?_alloc_new _ _ _ _⟩
          have hS1 := Lib.hid hS0
          clear hS0
          go_region_held3 (fun W => Below (wr.alloc (.cells #[.int .i64 xs[k].real, .int .i64 xs[k].fake, .int .i64 xs[k].price] 46)).heap.size (wr.alloc (.cells #[.int .i64 xs[k].real, .int .i64 xs[k].fake, .int .i64 xs[k].price] 46)) W ∧ W.cell? ⟨b, off + m * 3, none⟩ = some (.int .i64 xs[m].real) ∧ W.cell? ⟨b, off + m * 3 + 1, none⟩ = some (.int .i64 xs[m].fake) ∧ W.cell? ⟨b, off + m * 3 + 2, none⟩ = some (.int .i64 xs[m].price) ∧ W.cell? ⟨wr.heap.size, 0, none⟩ = some (.int .i64 xs[k].real) ∧ W.cell? ⟨wr.heap.size, 1, none⟩ = some (.int .i64 xs[k].fake) ∧ W.cell? ⟨wr.heap.size, 2, none⟩ = some (.int .i64 xs[k].price)) (first | exact hS1.out | assumption | (refine keep7 hb2 ?_; assumption) | (refine keep7 (Below.alloc (Below.refl _ _) (Nat.le_refl _) _) ?_; assumption)) (first | (go_at_call 46; refine (difference_c _ _ (HG.out _ _)).mono ?_; rintro e w2 ⟨rfl, hb2⟩) | (go_at_call 37; refine (compare_c _ _ _).mono ?_; rintro e w2 ⟨rfl, rfl⟩) | (go_at_call 36; refine (or2_c _ _ _ _ _ (World.cell?_alloc_new _ _ _ _) (World.cell?_alloc_new _ _ _ _)).mono ?_; rintro e w2 ⟨rfl, rfl⟩))
          rename_i hH
          have hbx := below_via hb (below_via ((Below.refl _ _).alloc (Nat.le_refl _) _) (show Below (wr.alloc (.cells #[.int .i64 xs[k].real, .int .i64 xs[k].fake, .int .i64 xs[k].price] 46)).heap.size (wr.alloc (.cells #[.int .i64 xs[k].real, .int .i64 xs[k].fake, .int .i64 xs[k].price] 46)) _ from hH.1))
          have hst := HS.out
          rw [bestStep_eq xs hbt hlt] at hst
          have HT := Lib.hid hst
          clear hst hH
          by_cases hlt2 : orI [cmpI xs[m].apart xs[k].apart, cmpI xs[k].price xs[m].price] < 0
          · have HB := Lib.hid ((orBest _ _ _ _).mp hlt2)
            go_wp2_with fail
            go_roundw
            case rel => exact ⟨k + 1, by omega, by go_num, vi (by rw [HT.out, if_pos HB.out]), hbx⟩
            case measure => simp [intOf]; omega
          · have HB := Lib.hid (fun h => hlt2 ((orBest _ _ _ _).mpr h))
            go_wp2_with fail
            go_roundw
            case rel => exact ⟨k + 1, by omega, by go_num, vi (by rw [HT.out, if_neg HB.out]), hbx⟩
            case measure => simp [intOf]; omega
        · have hke : k = xs.length := by omega
          subst hke
          go_wp2_with fail
          go_returns
          exact ⟨by rw [HV.out]; rfl, hb⟩
  · have hg' : goodT xs = false := by simpa using hg
    have HV := Lib.hid (Hbad hg')
    clear hg Hbad
    go_enter Try.func23, Try.ntmps23
    go_wp2_with fail
    refine (areTrials_c xs _ _ _ hr hn).mono ?_
    rintro e w1 ⟨rfl, hb1⟩
    go_wp2_with fail
    go_returns
    exact ⟨by rw [HV.out]; rfl, hb1⟩
end Go.Proofs.Ytpfkmfejginojaa
