/- TakeItem: the reference's contract. No condition but the sizes. -/
import Derived.Test.YthhdajmnidjhjaaAlTak
namespace Go.Proofs.Ythhdajmnidjhjaa
set_option linter.unusedVariables false
set_option linter.unusedSimpArgs false
open Go.RowKit
attribute [local irreducible] wpQuiet
/-- New memory since then is page i's. -/
theorem Cpy.grown {lo : Nat} {ix : Nat → Nat} {v : Value} {ms : List PageM} {ps : List Page} {w w' : World} (h : Cpy lo ix v ms ps w) (hb : Below w.heap.size w w') (i : Nat) : Cpy lo (fun b => if b < w.heap.size then ix b else if b < w'.heap.size then i + 1 else 0) v ms ps w' :=
  ⟨h.out.below hb, h.len, fun j p hp => by
    obtain ⟨m, h1, h2⟩ := h.it j p hp
    exact ⟨m, h1, h2.keep (fun g hg => hb.block g (h2.2.2.2.2.1.lt_ g hg)) (fun g hg => if_pos (h2.2.2.2.2.1.lt_ g hg))⟩, fun b hb' => by have := hb.size; rw [if_neg (by omega), if_neg (by omega)], fun g hg => (if_pos (h.out.lt_ g hg)).trans (h.own g hg)⟩
set_option maxRecDepth 100000 in
set_option maxHeartbeats 1600000 in
theorem specTakeItem_c (xs : List Page) (A : Option Addr) (c : Nat) (z : Int) (w : World) (hr : RdP w.heap.size w A xs) (hcap : xs.length ≤ c) (hn : xs.length ≤ 1048576) (hs : sumI xs ≤ 1048576) (hw : ∀ x ∈ xs, x.title.size ≤ 9223372036854775807 ∧ x.items.length ≤ 9223372036854775807 ∧ ∀ z ∈ x.items, Fits z) (hz : -9223372036854775808 ≤ z ∧ z ≤ 9223372036854775807) :
    Calls Try.prog 23 #[.slice A xs.length c, .int .i64 z] w (RetA3 (tkV xs z) (tkN xs z) (tkB xs z) w) := by
  have HW := Lib.hid hw
  clear hw
  go_enter Try.func23, Try.ntmps23
  go_wp2_with fail
  refine (l18With_c xs _ _ _ _ hr hn (by omega)).mono ?_
  rintro _ w1 ⟨rfl, hb1⟩
  go_wp2_with fail
  refine (l18Good_c xs _ _ _ (hr.go hb1) hcap hn hs HW.out).mono ?_
  rintro _ w2 ⟨rfl, hb2⟩
  have hbg := below_via hb1 hb2
  cases hG : goodA xs with
  | false =>
    have HB := Lib.hid (tkB_bad (z := z) hG)
    clear hG
    go_wp2_with fail
    go_returns
    exact ⟨_, _, ret_a3 (by rw [tkV_no HB.out]; rfl) (tkN_no HB.out).symm HB.out.symm, below_via hbg (by go_grown), OwnP.none_ (tkV_no HB.out) (Nat.le_refl _)⟩
  | true =>
    have HG := Lib.hid hG
    rcases tk_of xs z hG with ⟨j, hj, hi, hzm, hB, hL, hN⟩ | ⟨hi, hB⟩
    · have HQ := Lib.hid hL
      have HB := Lib.hid hB
      have HN := Lib.hid hN
      have HZ := Lib.hid hzm
      rw [hi]
      clear hi hB hG hL hN
      have hj2 : ¬ (j : Int) < 0 := by omega
      have hj3 : (0 : Int) ≤ (j : Int) := by omega
      have hj4 : (j : Int) < (xs.length : Int) := by omega
      go_wp2_with fail
      refine (l18Own_c xs _ _ _ (hr.go hbg) hn hs).mono ?_
      rintro _ w3 ⟨v, ix, ms, rfl, hb3, hC⟩
      obtain ⟨g, c', m, rfl, hcc, hlo, hlt, hg0, hfz, hm, hit, d0, d1, d2, d3⟩ := hC.at_ hj
      have hil : xs[j].items.length ≤ 8 := (good_base HG.out hj).2.2.2.1
      have hri : Rd encI 1 w3.heap.size w3 m.A xs[j].items := by
        obtain ⟨A', c2, hv, hOw⟩ := hit.2.2.2.2.1.own
        injection hv with hv _ _
        rw [hv]
        exact hOw.rd
      clear hzm
      go_upto_region 6 with fail
      have hW := New.of w3 [.int .i64 xs[j].id, .string xs[j].title, .int .i64 xs[j].under, .slice m.A xs[j].items.length m.c] 43
      have f3 := World.frozen?_alloc_new w3 #[.int .i64 xs[j].id, .string xs[j].title, .int .i64 xs[j].under, .slice m.A xs[j].items.length m.c] 43 3
      generalize w3.alloc (.cells #[.int .i64 xs[j].id, .string xs[j].title, .int .i64 xs[j].under, .slice m.A xs[j].items.length m.c] 43) = W at *
      obtain ⟨hWb, hWl, hWc⟩ := hW
      have e0 := hWc 0 _ rfl
      have e1 := hWc 1 _ rfl
      have e2 := hWc 2 _ rfl
      have e3 := hWc 3 _ rfl
      clear hWc
      have hriW := hri.go hWb
      have hb3' := below_via hbg hb3
      obtain ⟨hp, hhp⟩ : ∃ hp, w3.heap.size = hp := ⟨_, rfl⟩
      have hlt' := hlt
      have hs3 := hb3'.size
      have HH := Lib.hid hhp
      rw [hhp] at hWl e0 e1 e2 e3 f3 hlt' hs3 ⊢
      clear hhp
      have hoS : Out (Value.int .i64) 3 W.heap.size (.slice (some ⟨W.heap.size, 0, none⟩) 0 0) (delI (xs[j].items.take 0) z) (W.alloc (.cells #[] 3)) := Out.empty W (Nat.le_refl _)
      have hbS : Below W.heap.size W (W.alloc (.cells #[] 3)) := (Below.refl _ _).alloc (Nat.le_refl _) _
      clear hri
      go_wp2_with fail
      go_loopw [10, 11] (fun u i wr => ∃ k : Nat, k ≤ xs[j].items.length ∧ i = .int .i64 k ∧ Out (Value.int .i64) 3 W.heap.size u (delI (xs[j].items.take k) z) wr ∧ Below W.heap.size W wr) (fun _ i _ => xs[j].items.length - (intOf i).toNat)
      case atStart => exact ⟨0, Nat.zero_le _, rfl, hoS, hbS⟩
      case round =>
        obtain ⟨k, hk, rfl, hok, hbk⟩ := hrel
        clear hoS hbS
        have r3 := (hbk.cell (p := ⟨hp, 3, none⟩) hWl).trans e3
        have hdl := delI_len (xs[j].items.take k) z
        rw [List.length_take] at hdl
        by_cases hlk : k < xs[j].items.length
        · obtain ⟨bi, oi, hAi, hbi, i0⟩ := (hriW.below hbk).int hlk
          rw [hAi] at r3
          clear hAi
          have hk0 : (0 : Int) ≤ (k : Int) := by omega
          have hk1 : (k : Int) < (xs[j].items.length : Int) := by omega
          by_cases hx : xs[j].items[k] = z
          · have hx' : (xs[j].items[k] != z) = false := by simp [hx]
            have HS := Lib.hid (show delI (xs[j].items.take (k + 1)) z = delI (xs[j].items.take k) z by unfold delI; rw [take_succ_get _ k hlk, List.filter_append]; simp [hx])
            clear hx
            go_wp2_with fail
            go_roundw
            case rel => exact ⟨k + 1, by omega, by go_num, by rw [HS.out]; exact hok, hbk⟩
            case measure => simp [intOf]; omega
          · have hx' : (xs[j].items[k] != z) = true := by simp [hx]
            have HS := Lib.hid (show delI (xs[j].items.take (k + 1)) z = delI (xs[j].items.take k) z ++ [xs[j].items[k]] by unfold delI; rw [take_succ_get _ k hlk, List.filter_append]; simp [hx])
            clear hx
            generalize delI (xs[j].items.take k) z = ys at *
            generalize xs[j].items[k] = q at *
            go_wp2_with (at_builtin; refine wpList_push rfl _ _ _ rfl 3 (.int .i64 0) 8 Try.underlying39 infoI rfl q rfl hok _ rfl (by simp) rfl (by omega) (by omega) hbk.size ?_; intro v1 w6 hown1 hbel1)
            rw [← HS.out] at hown1
            go_roundw
            case rel => exact ⟨k + 1, by omega, by go_num, hown1, hbk.trans hbel1⟩
            case measure => simp [intOf]; omega
        · have hke : k = xs[j].items.length := by omega
          subst hke
          rw [List.take_length] at hok hdl
          obtain ⟨Au, cu, rfl, _⟩ := hok.cap
          have r0 := (hbk.cell (p := ⟨hp, 0, none⟩) hWl).trans e0
          have r1 := (hbk.cell (p := ⟨hp, 1, none⟩) hWl).trans e1
          have r2 := (hbk.cell (p := ⟨hp, 2, none⟩) hWl).trans e2
          have rf3 := (hbk.frozen (p := ⟨hp, 3, none⟩) hWl).trans f3
          generalize hD : delI xs[j].items z = D at *
          have HD := Lib.hid hD
          clear hD
          go_upto_region 13 with fail
          have hws : w3.heap.size ≤ W.heap.size := hWb.size
          have hB3 := (hWb.trans (hbk.mono hws)).setCell (p := ⟨hp, 3, none⟩) (by rw [HH.out]; exact Nat.le_refl _) (.slice Au D.length cu)
          have hbS2 := (hb3'.trans ((hWb.mono hb3'.size).trans (hbk.mono (Nat.le_trans hb3'.size hws)))).setCell (p := ⟨hp, 3, none⟩) hs3 (.slice Au D.length cu)
          have hoD := hok.keep_ (w' := wr.setCell ⟨hp, 3, none⟩ (.slice Au D.length cu)) (fun b hb => far_set wr _ (fun e => by have := hok.from_ b hb; omega))
          have k0 := (World.cell?_setCell_other wr ⟨hp, 3, none⟩ ⟨hp, 0, none⟩ (.slice Au D.length cu) (by simp)).trans r0
          have k1 := (World.cell?_setCell_other wr ⟨hp, 3, none⟩ ⟨hp, 1, none⟩ (.slice Au D.length cu) (by simp)).trans r1
          have k2 := (World.cell?_setCell_other wr ⟨hp, 3, none⟩ ⟨hp, 2, none⟩ (.slice Au D.length cu) (by simp)).trans r2
          have k3 := World.cell?_setCell_same wr ⟨hp, 3, none⟩ (.slice Au D.length cu) r3
          clear r0 r1 r2 r3 rf3 e0 e1 e2 e3 f3 hok
          generalize wr.setCell ⟨hp, 3, none⟩ (.slice Au D.length cu) = W2 at *
          have d0 := (hB3.cell (p := ⟨g, _, none⟩) hlt).trans d0
          have d1 := (hB3.cell (p := ⟨g, _, none⟩) hlt).trans d1
          have d2 := (hB3.cell (p := ⟨g, _, none⟩) hlt).trans d2
          have d3 := (hB3.cell (p := ⟨g, _, none⟩) hlt).trans d3
          have hfz : ∀ o, W2.frozen? ⟨g, o, none⟩ = false := fun o => (hB3.frozen (p := ⟨g, o, none⟩) hlt).trans (hfz o)
          have hC3 := (hC.grown hB3 j).page hj ⟨xs[j].id, xs[j].title, xs[j].under, D⟩ (hoD.low (by have := hb3.size; omega)) (fun b hb => by
            have h1 := hoD.from_ b hb
            have h2 := hoD.lt_ b hb
            rw [if_neg (by omega), if_pos h2])
          have hQ : xs.set j ⟨xs[j].id, xs[j].title, xs[j].under, D⟩ = tkL xs z := by rw [HQ.out, ← HD.out]; rfl
          have hQl : (tkL xs z).length = xs.length := by rw [HQ.out, List.length_set]
          have HQL := Lib.hid hQl
          rw [hQ] at hC3
          have hlw := hbg.size
          have hb4 := below_setCells (Nat.le_trans hlw hlo) [.int .i64 xs[j].id, .string xs[j].title, .int .i64 xs[j].under, .slice Au D.length cu] (j * 4) _ hbS2
          have hb4' : Below w.heap.size w ((((W2.setCell ⟨g, j * 4, none⟩ (.int .i64 xs[j].id)).setCell ⟨g, j * 4 + 1, none⟩ (.string xs[j].title)).setCell ⟨g, j * 4 + 2, none⟩ (.int .i64 xs[j].under)).setCell ⟨g, j * 4 + 3, none⟩ (.slice Au D.length cu)) := hb4
          have hF4 : Fr g (g + 1) W2 ((((W2.setCell ⟨g, j * 4, none⟩ (.int .i64 xs[j].id)).setCell ⟨g, j * 4 + 1, none⟩ (.string xs[j].title)).setCell ⟨g, j * 4 + 2, none⟩ (.int .i64 xs[j].under)).setCell ⟨g, j * 4 + 3, none⟩ (.slice Au D.length cu)) := Fr.setCells (Nat.le_refl g) (Nat.lt_succ_self g) [.int .i64 xs[j].id, .string xs[j].title, .int .i64 xs[j].under, .slice Au D.length cu] (j * 4) _ (Fr.refl _ _ _)
          obtain ⟨A4, c4, hv4, _, hOw⟩ := hC3.shape
          injection hv4 with e1 e2 e3
          subst e1
          change OwnP w2.heap.size ((((W2.setCell ⟨g, j * 4, none⟩ (.int .i64 xs[j].id)).setCell ⟨g, j * 4 + 1, none⟩ (.string xs[j].title)).setCell ⟨g, j * 4 + 2, none⟩ (.int .i64 xs[j].under)).setCell ⟨g, j * 4 + 3, none⟩ (.slice Au D.length cu)).heap.size ((((W2.setCell ⟨g, j * 4, none⟩ (.int .i64 xs[j].id)).setCell ⟨g, j * 4 + 1, none⟩ (.string xs[j].title)).setCell ⟨g, j * 4 + 2, none⟩ (.int .i64 xs[j].under)).setCell ⟨g, j * 4 + 3, none⟩ (.slice Au D.length cu)) (some ⟨g, 0, none⟩) (tkL xs z) at hOw
          have hhpw : hp < W2.heap.size := by have := hB3.size; have := cell_lt k0; omega
          clear hC hC3 hit hm e2 e3 hoD hQ hQl hb4
          go_upto_region 14 with fail
          generalize (((W2.setCell ⟨g, j * 4, none⟩ (.int .i64 xs[j].id)).setCell ⟨g, j * 4 + 1, none⟩ (.string xs[j].title)).setCell ⟨g, j * 4 + 2, none⟩ (.int .i64 xs[j].under)).setCell ⟨g, j * 4 + 3, none⟩ (.slice Au D.length cu) = w5 at *
          have k0 := (World.cell?_of_block (w := W2) (a := ⟨hp, 0, none⟩) (hF4.block hp hhpw (by omega))).trans k0
          generalize xs[j].id = q at *
          clear d0 d1 d2 d3 k1 k2 k3
          go_wp2_with fail
          go_quiet (fail)
          go_wp2_with fail
          go_returns
          exact ⟨_, _, ret_a3 (by rw [tkV_yes HB.out, HQL.out]) HN.out.symm HB.out.symm, below_drewN hb4' _, ((hOw.go (below_drewN (Below.refl _ _) _)).wide hlw (Nat.le_refl _) (Nat.le_refl _)).cast (by rw [tkV_yes HB.out])⟩
    · have HB := Lib.hid hB
      rw [hi]
      clear hi hB hG
      go_wp2_with fail
      go_returns
      exact ⟨_, _, ret_a3 (by rw [tkV_no HB.out]; rfl) (tkN_no HB.out).symm HB.out.symm, below_via hbg (by go_grown), OwnP.none_ (tkV_no HB.out) (Nat.le_refl _)⟩
end Go.Proofs.Ythhdajmnidjhjaa
