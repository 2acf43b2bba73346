/- MergePages of the program: the album that it returns has room for its pages. No condition but the sizes. -/
import Derived.Test.YtpjnlcppjcnlgaaGreatDoorCopyK
namespace Go.Proofs.YtpjnlcppjcnlgaaGreatDoor
set_option linter.unusedVariables false
set_option linter.unusedSimpArgs false
open Go.RowKit
attribute [local irreducible] wpQuiet
/-- The call returns an album of its own with room for its pages, and b. -/
def RetAC (ps : List Page) (b : Bool) (w : World) (e : Ending) (w' : World) : Prop := ∃ B c', e = .returned (.tuple #[.slice B ps.length c', .bool b]) ∧ Below w.heap.size w w' ∧ OwnP w.heap.size w'.heap.size w' B ps ∧ ps.length ≤ c'
set_option maxRecDepth 100000 in
set_option maxHeartbeats 8000000 in
theorem implMergePagesC_c (xs : List Page) (A : Option Addr) (c : Nat) (id other : Int) (w : World) (hr : RdP w.heap.size w A xs) (hcap : xs.length ≤ c) (hn : xs.length ≤ 1048576) (hs : sumI xs ≤ 1048576) (hw : ∀ x ∈ xs, x.title.size ≤ 9223372036854775807 ∧ x.items.length ≤ 9223372036854775807 ∧ ∀ z ∈ x.items, Fits z) (hid : -9223372036854775808 ≤ id ∧ id ≤ 9223372036854775807) (hot : -9223372036854775808 ≤ other ∧ other ≤ 9223372036854775807) :
    Calls Tryz.prog 11 #[.slice A xs.length c, .int .i64 id, .int .i64 other] w (RetAC (mgV xs id other) (mgB xs id other) w) := by
  have HW := Lib.hid hw
  clear hw
  go_enter Tryz.func11, Tryz.ntmps11
  go_wp2_with fail
  refine (pageAt_c xs _ _ _ _ hr hn).mono ?_
  rintro _ w1 ⟨rfl, hb1⟩
  go_wp2_with fail
  refine (pageAt_c xs _ _ _ _ (hr.go hb1) hn).mono ?_
  rintro _ w2 ⟨rfl, hb2⟩
  have hbg := below_via hb1 hb2
  clear hb1 hb2
  go_wp2_with fail
  refine (isAlbum_c xs _ _ _ (hr.go hbg) hcap hn hs HW.out).mono ?_
  rintro _ w3 ⟨rfl, hb3⟩
  replace hbg := below_via hbg hb3
  clear hb3
  cases hG : goodA xs with
  | false =>
    have HB := Lib.hid (mgB_bad (id := id) (other := other) hG)
    clear hG
    go_wp2_with fail
    go_returns
    exact ⟨_, _, ret_list (by rw [mgV_no HB.out]; rfl) HB.out.symm, hbg, OwnP.none_ (mgV_no HB.out) (Nat.le_refl _), by rw [mgV_no HB.out]; exact Nat.zero_le _⟩
  | true =>
    have HG := Lib.hid hG
    rcases lv_of xs id hG with ⟨i, hi, ei, exi, hB1, _⟩ | ⟨ei, hB1, _⟩
    · rcases lv_of xs other hG with ⟨k, hk, ek, exk, hB2, _⟩ | ⟨ek, hB2, _⟩
      · by_cases hio : id = other
        · have hik : i = k := good_inj hG hi hk (by rw [← exi, ← exk, hio])
          have HB := Lib.hid (mgB_eq (xs := xs) hio)
          rw [ei, ek]
          subst hik
          clear hG ei ek exi exk hB1 hB2 hio
          have hi0 : ¬ (i : Int) < 0 := by omega
          go_wp2_with fail
          go_returns
          exact ⟨_, _, ret_list (by rw [mgV_no HB.out]; rfl) HB.out.symm, hbg, OwnP.none_ (mgV_no HB.out) (Nat.le_refl _), by rw [mgV_no HB.out]; exact Nat.zero_le _⟩
        · have hik : i ≠ k := fun e => hio (by rw [exi, exk]; subst e; rfl)
          have HB := Lib.hid (mgB_at hB1 hB2 hio)
          have HQ := Lib.hid (mgL_at (id := id) (other := other) ei ek)
          have HS := Lib.hid (merge_items hG hi hk hik)
          rw [ei, ek]
          clear hG ei ek exi exk hB1 hB2 hio
          have hi0 : ¬ (i : Int) < 0 := by omega
          have hk0 : ¬ (k : Int) < 0 := by omega
          have hik0 : ((i : Int) == (k : Int)) = false := by simp only [beq_eq_false_iff_ne, ne_eq]; omega
          have hi1 : (0 : Int) ≤ (i : Int) := by omega
          have hk1 : (0 : Int) ≤ (k : Int) := by omega
          have hi2 : (i : Int) < (xs.length : Int) := by omega
          have hk2 : (k : Int) < (xs.length : Int) := by omega
          go_wp2_with fail
          refine (copyAlbum_c xs _ _ _ (hr.go hbg) hn hs).mono ?_
          rintro _ w4 ⟨v, ix, ms, rfl, hb4, hC⟩
          obtain ⟨g, c', m, rfl, hcc, hlo, hlt, hg0, hfz, hm, hit, _, _, _, d3⟩ := hC.at_ hi
          obtain ⟨g2, c2, m2, hv2, _, _, _, _, _, hm2, hit2, _, _, _, e3⟩ := hC.at_ hk
          injection hv2 with hA2 _ hc2
          injection hA2 with hA2
          injection hA2 with hA2
          subst hA2 hc2
          have hil : xs[i].items.length ≤ 8 := (good_base HG.out hi).2.2.2.1
          have hkl : xs[k].items.length ≤ 8 := (good_base HG.out hk).2.2.2.1
          have hlen := goodA_len HG.out
          have hO := hit.2.2.2.2.1
          have hxI := hit.2.2.2.2.2
          have hO2 := hit2.2.2.2.2.1
          rw [hit.2.2.2.1] at hO hxI
          rw [hit2.2.2.2.1] at hO2
          have hri : Rd encI 1 w4.heap.size w4 m2.A xs[k].items := by
            obtain ⟨A', c3, hv, hOw⟩ := hO2.own
            injection hv with hv _ _
            rw [hv]
            exact hOw.rd
          have HOR := Lib.hid (show OutR encI 1 3 w3.heap.size (.slice m.A xs[i].items.length m.c) xs[i].items w4.drew from hO.toR)
          have HRI := Lib.hid (show Rd encI 1 w4.drew.heap.size w4.drew m2.A xs[k].items from hri)
          have hgne : ∀ b, (Value.slice m.A xs[i].items.length m.c).ownBlock = some b → b ≠ g := fun b hb e => by have := hxI b hb; rw [e, hg0] at this; omega
          have HNE := Lib.hid hgne
          have HFZ := Lib.hid hfz
          have HC := Lib.hid hC
          have hbw := hb4.size
          clear hit hit2 hO hO2 hri hgne hm hm2 hC hfz
          have hbQ := below_via hbg hb4
          have hlw := hbg.size
          go_upto_region 5 with fail
          go_cut [] (fun wx => ∃ ix ms, Cpy w3.heap.size ix (.slice (some ⟨g, 0, none⟩) xs.length c') ms (xs.set i ⟨xs[i].id, xs[i].title, xs[i].under, xs[i].items ++ xs[k].items⟩) wx ∧ Below w.heap.size w wx)
          case first =>
            go_region_law (refine step_appW (o := ⟨some 48, _, _, _, _, _⟩) (by rfl) (.tmp 42) (.tmp 47) _ (by rfl) 3 (.int .i64 0) 1 8 Tryz.underlying36 infoI (by rfl) (by decide) encI_len oneIM_ (base := w3.heap.size) (m := xs[k].items.length) (ys := xs[i].items) (zs := xs[k].items) (by rfl) (by rfl) rfl HOR.out HRI.out (by omega) (by omega) hbw ?_; intro v6 w6 ho6 hg6 hd6; obtain ⟨A6, c6, hv6, hle6, _⟩ := ho6.ownC encI_len; subst hv6; have d6 := hg6.cell (a := ⟨g, i * 4 + 3, none⟩) d3 (fun e => HNE.out g e.symm rfl); have f6 : ∀ o, w6.frozen? ⟨g, o, none⟩ = false := fun o => (World.frozen?_of_block (w := w4) (a := ⟨g, o, none⟩) (hg6.block g hlt (fun e => HNE.out g e.symm rfl))).trans (HFZ.out o))
            all_goals
              have hs6 : w4.heap.size ≤ w6.heap.size := hg6.size
              obtain ⟨ix', ms', hC6⟩ := HC.out.items (w' := w6) hi (fun b hb hbx => hg6.block b hb (fun e => hbx (hxI b e.symm))) hs6 ho6.toOut (fun b hb => hd6.elim (fun e => .inl (hxI b (e ▸ hb))) (fun e => .inr (by rw [e] at hb; injection hb with hb; exact Nat.le_of_eq hb)))
              have hb6 := (Below.grown hbQ (show w4.grownBy w6 (Value.slice m.A xs[i].items.length m.c).ownBlock from ⟨hg6.os, hg6.tape, hg6.output, hg6.size, hg6.block⟩) hbQ.size (fun b hb => Nat.le_trans hlw (HOR.out.from_ b hb))).setCell (p := ⟨g, i * 4 + 3, none⟩) (Nat.le_trans hlw hlo) (.slice A6 (xs[i].items ++ xs[k].items).length c6)
              rw [List.length_append] at hC6 hb6
              go_wp2_with fail
              go_meet
              exact ⟨ix', ms', hC6, hb6⟩
          case rest =>
            obtain ⟨ix5, ms5, hC5, hb5⟩ := hcut
            clear HC HOR HRI HNE HFZ hxI d3 e3 hbQ hb4 hg0 hlt
            obtain ⟨xs1, hxs1⟩ : ∃ X, X = xs.set i ⟨xs[i].id, xs[i].title, xs[i].under, xs[i].items ++ xs[k].items⟩ := ⟨_, rfl⟩
            have hl1 : xs1.length = xs.length := by rw [hxs1, List.length_set]
            have hi5 : i < xs1.length := by omega
            have hp5 : xs1[i] = ⟨xs[i].id, xs[i].title, xs[i].under, xs[i].items ++ xs[k].items⟩ := by subst hxs1; simp
            rw [← hxs1] at hC5
            obtain ⟨g3, c3, m5, hv3, _, _, hlt5, hg05, hfz5, hm5, hit5, _, _, _, d5⟩ := hC5.at_ hi5
            injection hv3 with hA3 hnn3 hc3
            injection hA3 with hA3
            injection hA3 with hA3
            subst hA3 hc3
            have hO5 := hit5.2.2.2.2.1
            have hmn := hit5.2.2.2.1
            rw [hp5] at d5 hO5 hmn
            simp only at d5 hO5 hmn
            have hX1 : xs1.set i ⟨xs1[i].id, xs1[i].title, xs1[i].under, xs[k].items.foldl putI xs[i].items⟩ = xs.set i (mgI xs[k].items xs[i]) := by rw [hp5, hxs1, List.set_set]; rfl
            have hfl : (xs[k].items.foldl putI xs[i].items).length = (xs[i].items ++ xs[k].items).length := by rw [← HS.out, List.length_mergeSort]
            have hsrt := sortOwnG_c w3.heap.size (.slice m5.A m5.n m5.c) (xs[i].items ++ xs[k].items) wc 3 hO5 (by rw [List.length_append]; omega)
            rw [HS.out, hmn] at hsrt
            rw [List.length_append] at hsrt d5
            have HC5 := Lib.hid hC5
            have HSR := Lib.hid hsrt
            have hb5s := hb5.size
            clear hC5 hit5 hO5 hsrt hnn3 hp5 hxs1 hl1 HS
            go_wp2_with fail
            refine HSR.out.mono ?_
            rintro _ w7 ⟨rfl, hg7, hO7⟩
            have hC7 := HC5.out.turn (w' := w7) (zs := xs[k].items.foldl putI xs[i].items) hi5 hm5 (by rw [hmn, List.length_append]; exact hg7) (by rw [hmn, List.length_append]; exact hO7) (by rw [hmn, hfl])
            rw [hX1] at hC7
            have hb7 := Below.grown hb5 hg7 hb5s (fun b hb => Nat.le_trans hlw (hO7.from_ b hb))
            clear HC5 HSR hg7 hO7 hm5 hmn d5 hX1 hfl hfz5 hlt5 hg05
            obtain ⟨X, hX⟩ : ∃ X, X = xs.set i (mgI xs[k].items xs[i]) := ⟨_, rfl⟩
            have hXl : X.length = xs.length := by rw [hX, List.length_set]
            rw [← hX] at hC7
            have HX := Lib.hid hX
            have HXL := Lib.hid hXl
            clear hX hXl
            go_wp2_with fail
            go_loopw [59] (fun i wr => ∃ (j : Nat) (ix : Nat → Nat) (ms : List PageM), j ≤ xs.length ∧ i = .int .i64 j ∧ Cpy w3.heap.size ix (.slice (some ⟨g, 0, none⟩) xs.length c') ms (mixU id other X j) wr ∧ Below w.heap.size w wr) (fun i _ => xs.length - (intOf i).toNat)
            case atStart => exact ⟨0, ix5, ms5, Nat.zero_le _, rfl, by rw [mixU_0]; exact hC7, hb7⟩
            case round =>
              obtain ⟨j, ix8, ms8, hj, rfl, hC8, hb8⟩ := hrel
              clear hC7 hb7
              by_cases hjl : j < xs.length
              · have hjX : j < X.length := by rw [HXL.out]; exact hjl
                have hjM : j < (mixU id other X j).length := by rw [mixU_len]; exact hjX
                have hpj := mixU_at hjX hjM
                obtain ⟨g3, c3, m8, hv3, _, hlo8, hlt8, _, hfz8, hm8, hit8, _, _, d8, _⟩ := hC8.at_ hjM
                injection hv3 with hA3 hnn3 hc3
                injection hA3 with hA3
                injection hA3 with hA3
                subst hA3 hc3
                clear hnn3
                rw [hpj] at d8 hit8
                have hj0 : (0 : Int) ≤ (j : Int) := by omega
                have hj1 : (j : Int) < (xs.length : Int) := by omega
                by_cases hu : X[j].under = other
                · have hF := hC8.field (u := .int .i64 id) (j := 2) (m' := ⟨m8.id, m8.title, id, m8.A, m8.n, m8.c⟩) (p' := ⟨X[j].id, X[j].title, id, X[j].items⟩) hjM hm8 (by omega) rfl ⟨hit8.1, hit8.2.1, rfl, hit8.2.2.2⟩
                  have hmg : mgU id other X[j] = ⟨X[j].id, X[j].title, id, X[j].items⟩ := by unfold mgU; rw [if_pos hu]
                  rw [← hmg, mixU_set hjX] at hF
                  have HF := Lib.hid hF
                  have hu' : (X[j].under == other) = true := by simpa using hu
                  have hb9 := hb8.setCell (p := ⟨g, j * 4 + 2, none⟩) (Nat.le_trans hlw hlo8) (.int .i64 id)
                  clear hC8 hit8 hF hmg hu hm8 hpj
                  go_wp2_with fail
                  go_roundw
                  case rel => exact ⟨j + 1, _, _, by omega, by go_num, HF.out, hb9⟩
                  case measure => simp [intOf]; omega
                · have HE := Lib.hid (mixU_same (id := id) hjX hu)
                  have hu' : (X[j].under == other) = false := by simpa using hu
                  have HC8 := Lib.hid hC8
                  clear hC8 hit8 hu hm8 hpj
                  go_wp2_with fail
                  go_roundw
                  case rel => exact ⟨j + 1, ix8, ms8, by omega, by go_num, by rw [← HE.out]; exact HC8.out, hb8⟩
                  case measure => simp [intOf]; omega
              · obtain rfl : j = xs.length := by omega
                have hY : mixU id other X xs.length = mgX xs i k id other := by rw [← HXL.out, mixU_all, HX.out, mgX_at hi hk]
                rw [hY] at hC8
                obtain ⟨n, hn1⟩ : ∃ n, xs.length = n + 1 := ⟨xs.length - 1, by omega⟩
                have hml : ms8.length = n + 1 := by rw [hC8.len, mgX_len hi hk]; exact hn1
                have hDel := delPageM_c ms8 (some ⟨g, 0, none⟩) c' k n w3.heap.size wr (by rw [← hn1]; exact hC8.out) hml (by omega) (by omega) (by have h1 := hC8.out.lt_ g rfl; have h2 := hC8.out.from_ g rfl; omega)
                rw [← hn1] at hDel
                have HDEL := Lib.hid hDel
                have HC8 := Lib.hid hC8
                have HHW := Lib.hid (mgW_hw (id := id) (other := other) HG.out hi hk HW.out)
                have HWL := Lib.hid (mgW_len (id := id) (other := other) hi hk)
                clear hDel hC8 hY hml HX HXL hjl hn1
                go_wp2_with fail
                refine HDEL.out.mono ?_
                rintro _ w8 ⟨g4, c4, hA4, rfl, ho8, hf8⟩
                injection hA4 with hA4
                injection hA4 with hA4
                subst hA4
                obtain ⟨ix9, hC9⟩ := HC8.out.del (k := k) hf8 ho8
                change Cpy _ _ _ _ (mgW xs i k id other) _ at hC9
                have hb9 := hb8.trans (hf8.below (Nat.le_trans hlw hlo) hb8.size)
                obtain ⟨A5, c5, hv5, hcap5, hOw⟩ := hC9.shape
                have hll := hC9.len
                obtain ⟨Q, hQ⟩ : ∃ Q, mgW xs i k id other = Q := ⟨_, rfl⟩
                have HPQ := Lib.hid (HQ.out.trans hQ)
                rw [hQ] at HHW HWL hcap5 hOw hv5 hll
                injection hv5 with e5 e6 e7
                subst e5 e7
                rw [e6]
                have hQl : Q.length ≤ 12 := by have := HWL.out; omega
                have hsQ : sumI Q ≤ 1048576 := by
                  have h1 := sumI_bd Q 16 HHW.out.2
                  have h2 : Q.length * 16 ≤ 12 * 16 := Nat.mul_le_mul_right 16 hQl
                  omega
                clear hC9 ho8 hf8 HC8 HDEL hQ e6 hll
                go_wp2_with fail
                refine (albumResult_c Q _ c4 w8 hOw.rd hcap5 (by omega) hsQ HHW.out.1).mono ?_
                rintro _ w9 ⟨hb10, hcs⟩
                replace hOw := hOw.go hb10
                have hbl := below_via hb9 hb10
                rcases hcs with ⟨hgd, rfl⟩ | ⟨hgd, rfl⟩
                · have HB := Lib.hid (HB.out.trans ((congrArg goodA HPQ.out).trans hgd))
                  go_wp2_with fail
                  go_returns
                  exact ⟨_, _, ret_list (by rw [mgV_yes HB.out, HPQ.out]) HB.out.symm, hbl, (hOw.wide hlw hb10.size (Nat.le_refl _)).cast (by rw [mgV_yes HB.out, HPQ.out]), by rw [mgV_yes HB.out, HPQ.out]; exact hcap5⟩
                · have HB := Lib.hid (HB.out.trans ((congrArg goodA HPQ.out).trans hgd))
                  go_wp2_with fail
                  go_returns
                  exact ⟨_, _, ret_list (by rw [mgV_no HB.out]; rfl) HB.out.symm, hbl, OwnP.none_ (mgV_no HB.out) (Nat.le_refl _), by rw [mgV_no HB.out]; exact Nat.zero_le _⟩
      · have HB := Lib.hid (mgB_lv2 (id := id) hB2)
        rw [ei, ek]
        clear hG ei ek exi hB1 hB2
        have hi0 : ¬ (i : Int) < 0 := by omega
        go_wp2_with fail
        go_returns
        exact ⟨_, _, ret_list (by rw [mgV_no HB.out]; rfl) HB.out.symm, hbg, OwnP.none_ (mgV_no HB.out) (Nat.le_refl _), by rw [mgV_no HB.out]; exact Nat.zero_le _⟩
    · have HB := Lib.hid (mgB_lv1 (other := other) hB1)
      rw [ei]
      clear hG ei hB1
      go_wp2_with fail
      go_returns
      exact ⟨_, _, ret_list (by rw [mgV_no HB.out]; rfl) HB.out.symm, hbg, OwnP.none_ (mgV_no HB.out) (Nat.le_refl _), by rw [mgV_no HB.out]; exact Nat.zero_le _⟩
end Go.Proofs.YtpjnlcppjcnlgaaGreatDoor
