/- Contract of the program's LookAlikes. No condition but the size. -/
import Derived.Test.YtgjehnjpbekoeaaDoorLaDel
namespace Go.Proofs.YtgjehnjpbekoeaaDoor
set_option linter.unusedVariables false
set_option linter.unusedSimpArgs false
open Go.RowKit
attribute [local irreducible] wpQuiet
theorem outI_one {base : Nat} (w : World) (z : Int) (hb : base ≤ w.heap.size) : OutR encI 1 3 base (.slice (some ⟨w.heap.size, 0, none⟩) 1 1) [z] (w.alloc (.cells #[.int .i64 z] 3)) :=
  ⟨by simp [encI], .inr ⟨w.heap.size, 1, #[.int .i64 z], rfl, hb, heap_alloc_new w _, Nat.le_refl _, by unfold maxLen; omega, rfl, by simp [encI]⟩⟩
theorem la_no {xs : List Flaw} {st : Int} (h : laB xs st = false) : laV xs st = [] := by unfold laV; rw [h]; rfl
set_option maxRecDepth 100000 in
set_option maxHeartbeats 1600000 in
theorem implLookAlikes_c (xs : List Flaw) (A : Option Addr) (c : Nat) (st : Int) (w : World) (hr : Rd encFlaw 4 w.heap.size w A xs) (hn : xs.length ≤ 1048576) (hz : -9223372036854775808 ≤ st ∧ st ≤ 9223372036854775807) :
    Calls Tryd.prog 6 #[.slice A xs.length c, .int .i64 st] w (RetSS (laV xs st) (laB xs st) w) := by
  have hb1 := (Below.refl w.heap.size w).alloc (Nat.le_refl _) (.cells #[.slice A xs.length c] 24)
  have hb2 := hb1.alloc (by simp) (.cells #[.int .i64 st] 3)
  have hsz : ((w.alloc (.cells #[.slice A xs.length c] 24)).alloc (.cells #[.int .i64 st] 3)).heap.size = w.heap.size + 2 := by simp
  have d0 : ((w.alloc (.cells #[.slice A xs.length c] 24)).alloc (.cells #[.int .i64 st] 3)).cell? ⟨w.heap.size, 0, none⟩ = some (.slice A xs.length c) := by
    rw [((Below.refl _ _).alloc (Nat.le_refl _) _).cell (p := ⟨w.heap.size, 0, none⟩) (by simp)]; simp
  have d1 : ((w.alloc (.cells #[.slice A xs.length c] 24)).alloc (.cells #[.int .i64 st] 3)).cell? ⟨w.heap.size + 1, 0, none⟩ = some (.int .i64 st) := by
    simp
  go_enter Tryd.func6, Tryd.ntmps6
  go_wp2_with fail
  generalize (w.alloc (.cells #[.slice A xs.length c] 24)).alloc (.cells #[.int .i64 st] 3) = W at *
  clear hb1
  have hrW := hr.go hb2
  by_cases hg0 : goodFl xs = false
  · have HB := Lib.hid (show laB xs st = false by simp [laB, hg0])
    have HL := Lib.hid (la_no HB.out)
    refine (areFlaws_c xs A c _ hrW hn).mono ?_
    rw [hg0]
    rintro e w1 ⟨rfl, hb⟩
    have hbx := below_via hb2 hb
    go_wp2_with fail
    go_returns
    exact ⟨none, 0, ret_list (by rw [HL.out]; rfl) HB.out.symm, hbx, OwnSS.none_ HL.out (Nat.le_refl _)⟩
  have hg : goodFl xs = true := by simpa using hg0
  have HG := Lib.hid hg
  have hxl := goodFl_len hg
  clear hg0 hg
  by_cases hs0 : inR st 1 9 = false
  · have HB := Lib.hid (show laB xs st = false by simp [laB, hs0])
    have HL := Lib.hid (la_no HB.out)
    refine (areFlaws_c xs A c _ hrW hn).mono ?_
    rw [HG.out]
    rintro e w1 ⟨rfl, hb⟩
    have e1 := (hb.cell (p := ⟨w.heap.size + 1, 0, none⟩) (by simp only; omega)).trans d1
    have hbx := below_via hb2 hb
    go_wp2_with fail
    refine (isState_c st _).mono ?_
    rw [hs0]
    rintro e w2 ⟨rfl, rfl⟩
    go_wp2_with fail
    go_returns
    exact ⟨none, 0, ret_list (by rw [HL.out]; rfl) HB.out.symm, hbx, OwnSS.none_ HL.out (Nat.le_refl _)⟩
  have hs : inR st 1 9 = true := by simpa using hs0
  have HB := Lib.hid (show laB xs st = true by simp [laB, HG.out, hs])
  have HV := Lib.hid (show laV xs st = (grp xs st 100).filter twoP by unfold laV; rw [HB.out, if_pos rfl, grpS_grp])
  clear hs0
  refine (areFlaws_c xs A c _ hrW hn).mono ?_
  rw [HG.out]
  rintro e w1 ⟨rfl, hb⟩
  replace d0 := (hb.cell (p := ⟨w.heap.size, 0, none⟩) (by simp only; omega)).trans d0
  replace d1 := (hb.cell (p := ⟨w.heap.size + 1, 0, none⟩) (by simp only; omega)).trans d1
  replace hrW := hrW.go hb
  have hsz1 : w.heap.size + 2 ≤ w1.heap.size := by have := hb.size; omega
  replace hb2 := below_via hb2 hb
  clear hb hsz
  go_wp2_with fail
  refine (isState_c st _).mono ?_
  rw [hs]
  rintro e w2 ⟨rfl, hww⟩
  subst hww
  go_wp2_with fail
  go_loopw [6, 18] (fun v i wr => ∃ (k : Nat) (ms : List SlM), k ≤ 100 ∧ i = .int .i64 k ∧ OwnG w1.heap.size v ms (grp xs st k) wr ∧ Below w1.heap.size w1 wr) (fun _ i _ => 100 - (intOf i).toNat)
  case atStart => exact ⟨0, [], Nat.zero_le _, rfl, OwnG.nil _, Below.refl _ _⟩
  case round =>
    obtain ⟨k, ms, hk, rfl, hG, hbr⟩ := hrel
    have hrR := hrW.go hbr
    have f0 := (hbr.cell (p := ⟨w.heap.size, 0, none⟩) (by simp only; omega)).trans d0
    have f1 := (hbr.cell (p := ⟨w.heap.size + 1, 0, none⟩) (by simp only; omega)).trans d1
    have hszr := hbr.size
    clear d0 d1 hrW
    by_cases hlt : k < 100
    · go_wp2_with fail
      refine (codesAt_c xs A c k st _ hrR HG.out).mono ?_
      rintro e v1 ⟨C, cc, rfl, hv1, hown⟩
      have hcl := codesL_len xs (k : Int) st
      obtain ⟨cs, hcs⟩ : ∃ cs, codesL xs (k : Int) st = cs := ⟨_, rfl⟩
      rw [hcs] at hown hcl ⊢
      have HCS := Lib.hid (show cdN xs st k = cs from hcs)
      clear hcs
      replace f0 := (hv1.cell (p := ⟨w.heap.size, 0, none⟩) (by simp only; omega)).trans f0
      replace f1 := (hv1.cell (p := ⟨w.heap.size + 1, 0, none⟩) (by simp only; omega)).trans f1
      replace hrR := hrR.go hv1
      replace hG := hG.below hv1
      replace hbr := below_step hbr hv1
      have hszv := hv1.size
      have hrC := hown.rd
      have hal := (Below.refl v1.heap.size v1).alloc (Nat.le_refl _) (.cells #[.slice C cs.length cc] 31)
      have f2 : (v1.alloc (.cells #[.slice C cs.length cc] 31)).cell? ⟨v1.heap.size, 0, none⟩ = some (.slice C cs.length cc) := by simp
      replace f0 := (hal.cell (p := ⟨w.heap.size, 0, none⟩) (by simp only; omega)).trans f0
      replace f1 := (hal.cell (p := ⟨w.heap.size + 1, 0, none⟩) (by simp only; omega)).trans f1
      replace hrR := hrR.go hal
      replace hrC := hrC.go hal
      replace hG := hG.below hal
      replace hbr := below_step hbr hal
      have hszn : (v1.alloc (.cells #[.slice C cs.length cc] 31)).heap.size = v1.heap.size + 1 := by simp
      clear hv1 hown hal
      by_cases hce : cs.length = 0
      · have hce' : ((cs.length : Int) == 0) = true := by simp [hce]
        have HS := Lib.hid (show grp xs st k = grp xs st (k + 1) from (grp_skip (by rw [HCS.out]; exact List.eq_nil_of_length_eq_zero hce)).symm)
        clear hce
        go_wp2_with fail
        go_roundw
        case rel => exact ⟨k + 1, ms, by omega, by go_num, hG.castP HS.out, hbr⟩
        case measure => simp [intOf]; omega
      · have hce' : ((cs.length : Int) == 0) = false := by simp only [beq_eq_false_iff_ne, ne_eq]; omega
        have HNE := Lib.hid (show cdN xs st k ≠ [] by rw [HCS.out]; intro e; rw [e] at hce; exact hce rfl)
        go_wp2_with fail
        generalize v1.alloc (.cells #[.slice C cs.length cc] 31) = V at *
        obtain ⟨Ag, cg, hv, hrd⟩ := hG.rd
        subst hv
        have hgl := grp_len (xs := xs) (st := st) (k := k)
        refine (indexS3_c (grp xs st k) Ag cg _ _ _ _ _ (hitP xs st cs) hrd (by omega) (fun args W => enters Tryd.func30 rfl rfl args W) (fun x Ai ci U hU hx hri => by
          obtain ⟨a, _, _, t, rfl⟩ := grp_ne hx
          exact alikes1_c xs A c st cs C cc w.heap.size (w.heap.size + 1) v1.heap.size a t Ai ci U ((hU.cell (p := ⟨w.heap.size, 0, none⟩) (by simp only; omega)).trans f0) ((hU.cell (p := ⟨w.heap.size + 1, 0, none⟩) (by simp only; omega)).trans f1) ((hU.cell (p := ⟨v1.heap.size, 0, none⟩) (by simp only; omega)).trans f2) (hrR.go hU) HG.out (hrC.go hU) (by omega) hri)).mono ?_
        rintro e v3 ⟨rfl, hb3⟩
        replace hG := hG.below hb3
        replace hbr := below_step hbr hb3
        have hsz3 := hbr.size
        have hml := hG.len
        clear f0 f1 f2 hrR hrC hrd hb3
        rcases idxI_cases (hitP xs st cs) (grp xs st k) with ⟨i, hi, he, hp, _⟩ | ⟨he, hall⟩
        · rw [he]
          have HP := Lib.hid (show (grp xs st k).set i ((grp xs st k)[i] ++ [(k : Int)]) = grp xs st (k + 1) from (grp_old HNE.out hi (by rw [HCS.out]; exact hp)).symm)
          have him : i < ms.length := by omega
          obtain ⟨q, c', hv, hcc, hbq, hql, hqf, hcell⟩ := hG.1.openedR encM_len (by omega)
          injection hv with hA hnn hc
          subst hA hc
          clear hnn
          have dq := hcell i ms[i] (List.getElem?_eq_getElem him) 0 _ rfl
          rw [Nat.mul_one, Nat.add_zero] at dq
          have hIn := hG.2.2.1 i ms[i] _ (List.getElem?_eq_getElem him) (List.getElem?_eq_getElem hi)
          have hel := grp_elen (List.getElem_mem hi)
          have HGG := Lib.hid hG
          have hi0 : (0 : Int) ≤ (i : Int) := by omega
          have hi1 : (i : Int) < ((grp xs st k).length : Int) := by omega
          have hal4 := (Below.refl v3.heap.size v3).alloc (Nat.le_refl _) (.cells #[.int .i64 k] 3)
          have hno : ∀ g, ms[i].val.ownBlock = some g → q ≠ g := fun g hg' e => by
            obtain ⟨ix, h4⟩ := hG.2.2.2
            exact (h4 i _ g (List.getElem?_eq_getElem him) hg').2 (by rw [e]; rfl)
          clear hcell HCS hp he hG hml
          go_wp2_with (at_builtin; refine wp_appW rfl _ _ _ rfl 3 (.int .i64 0) 1 8 Tryd.underlying31 infoI rfl (by decide) encI_len oneI_ (base := w1.heap.size) (m := 1) (ys := (grp xs st k)[i]) (zs := [(k : Int)]) rfl rfl rfl (hIn.below hal4) (rd_new (x := (k : Int)) (vs := [.int .i64 k]) rfl rfl) (by first | omega | (simp; omega)) (by first | omega | (simp; omega)) (by simp; omega) ?_; intro v6 w6 ho6 hg6 hd6; obtain ⟨A6, c6, hv6, _, _⟩ := ho6.ownC encI_len; subst hv6; have hq6 : w6.cell? ⟨q, i, none⟩ = some (.slice ms[i].A ms[i].n ms[i].c) := hg6.cell (a := ⟨q, i, none⟩) ((hal4.cell (p := ⟨q, i, none⟩) hql).trans dq) (fun e => hno q e.symm rfl); have hf6 : ∀ o, w6.frozen? ⟨q, o, none⟩ = false := fun o => (World.frozen?_of_block (w := v3) (a := ⟨q, o, none⟩) ((hg6.block q (Nat.lt_of_lt_of_le hql hal4.size) (fun e => hno q e.symm rfl)).trans (hal4.block q hql))).trans (hqf o))
          have hG6 := HGG.out.mod (m' := ⟨A6, ((grp xs st k)[i] ++ [(k : Int)]).length, c6⟩) (p' := (grp xs st k)[i] ++ [(k : Int)]) him hal4 ho6 hg6 hd6
          have hb6 := (below_grown (hbr.trans (hal4.mono hsz3)) (Nat.le_refl _) hg6 (fun g hg' => hIn.from_ g hg')).setCell (p := ⟨q, i, none⟩) hbq (.slice A6 ((grp xs st k)[i] ++ [(k : Int)]).length c6)
          rw [show ((grp xs st k)[i] ++ [(k : Int)]).length = (grp xs st k)[i].length + 1 by simp] at hG6 hb6
          go_roundw
          case rel => exact ⟨k + 1, _, by omega, by go_num, hG6.castP HP.out, hb6⟩
          case measure => simp [intOf]; omega
        · rw [he]
          have HP := Lib.hid (show grp xs st k ++ [[(k : Int)]] = grp xs st (k + 1) from (grp_new HNE.out (by rw [HCS.out]; exact hall)).symm)
          have hal4 := (Below.refl v3.heap.size v3).alloc (Nat.le_refl _) (.cells #[.int .i64 k] 3)
          have hal5 := hal4.alloc (by simp) (.cells #[.slice (some ⟨v3.heap.size, 0, none⟩) 1 1] 31)
          have hrn : Rd encM 1 ((v3.alloc (.cells #[.int .i64 k] 3)).alloc (.cells #[.slice (some ⟨v3.heap.size, 0, none⟩) 1 1] 31)).heap.size ((v3.alloc (.cells #[.int .i64 k] 3)).alloc (.cells #[.slice (some ⟨v3.heap.size, 0, none⟩) 1 1] 31)) (some ⟨v3.heap.size + 1, 0, none⟩) [(⟨some ⟨v3.heap.size, 0, none⟩, 1, 1⟩ : SlM)] := by
            have e := rd_new (enc := encM) (k := 1) (w := v3.alloc (.cells #[.int .i64 k] 3)) (x := (⟨some ⟨v3.heap.size, 0, none⟩, 1, 1⟩ : SlM)) (vs := [.slice (some ⟨v3.heap.size, 0, none⟩) 1 1]) (E := 31) rfl rfl
            rw [show (v3.alloc (.cells #[.int .i64 k] 3)).heap.size = v3.heap.size + 1 by simp] at e
            exact e
          have hone := (outI_one (base := w1.heap.size) v3 (k : Int) hsz3).below ((Below.refl _ _).alloc (Nat.le_refl _) (.cells #[.slice (some ⟨v3.heap.size, 0, none⟩) 1 1] 31))
          have HONE := Lib.hid hone
          have HGG := Lib.hid hG
          clear hall HCS he hone
          go_wp2_with (at_builtin; refine wp_appW rfl _ _ _ rfl 31 (.slice none 0 0) 1 24 Tryd.underlying27 infoSS rfl (by decide) encM_len oneM_ (base := w1.heap.size) (m := 1) (ys := ms) (zs := [(⟨some ⟨v3.heap.size, 0, none⟩, 1, 1⟩ : SlM)]) rfl rfl rfl (hG.1.below hal5) hrn (by first | omega | (simp; omega)) (by first | omega | (simp; omega)) (by simp; omega) ?_; intro v6 w6 ho6 hg6 hd6)
          have hG6 := HGG.out.push (m := ⟨some ⟨v3.heap.size, 0, none⟩, 1, 1⟩) (p := [(k : Int)]) hal5 HONE.out (fun g hg' => by injection hg' with e; simp at e; omega) ho6 hg6 hd6
          have hb6 := below_grown (hbr.trans (hal5.mono hsz3)) (Nat.le_refl _) hg6 (fun g hg' => HGG.out.1.from_ g hg')
          go_roundw
          case rel => exact ⟨k + 1, _, by omega, by go_num, hG6.castP HP.out, hb6⟩
          case measure => simp [intOf]; omega
    · obtain rfl : k = 100 := by omega
      have hgl := grp_len (xs := xs) (st := st) (k := 100)
      go_wp2_with fail
      refine (delSS_c w1.heap.size _ ms (grp xs st 100) _ hG (by omega) (fun p hp => by have := grp_elen hp; omega) hszr).mono ?_
      rintro e v4 ⟨A4, c4, rfl, hb4, hss4⟩
      have hbx := below_via hb2 (hbr.trans hb4)
      have hwle := hb2.size
      go_wp2_with fail
      go_returns
      exact ⟨A4, c4, ret_list (by rw [HV.out]) HB.out.symm, hbx, by rw [HV.out]; exact hss4.wide hwle (Nat.le_refl _) (Nat.le_refl _)⟩
end Go.Proofs.YtgjehnjpbekoeaaDoor
