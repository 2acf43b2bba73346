/- Contract of the draw of a list of opinions: some opinions within bounds. -/
import Derived.Test.YtpnkeaeikcobfaaGreatDoorOpDraw
import Derived.Deep.DeepCutAuto
import Derived.Deep.CutBlock
import Derived.Test.YtpnkeaeikcobfaaGreatDoorOpPlain
import Derived.WalkSpells
import Derived.Deep.RegionHeld3
namespace Go.Proofs.YtpnkeaeikcobfaaGreatDoor
set_option linter.unusedVariables false
set_option linter.unusedSimpArgs false
open Go.RowKit
attribute [local irreducible] wpQuiet
theorem infoOpD : (Tryz.prog.info? 35).map (fun i => (i.zero, i.size, i.bytes)) = some (some (.agg #[.int .i64 0, .string ⟨#[]⟩, .int .i64 0, .int .i64 0, .int .i64 0]), 5, 48) := by kernel_rfl
set_option maxRecDepth 100000 in
set_option maxHeartbeats 1600000 in
theorem opinions17_c (g m : Nat) (w : World) (h : Cur g m w) (hm : m ≤ 1099500000000) :
    Calls Tryz.prog 39 #[.pointer (some ⟨g, 0, none⟩)] w fun e w' => ∃ (A : Option Addr) (c : Nat) (xs : List Opinion), e = .returned (.slice A xs.length c) ∧ xs.length ≤ 100 ∧ (∀ x ∈ xs, OkO x) ∧ Own encOpinion 5 w.heap.size w'.heap.size w' A xs ∧ Fr g (g + 1) w w' ∧ Cur g (m + 1000) w' := by
  have hg := h.1
  go_enter Tryz.func39, Tryz.ntmps39
  go_wp2_with fail
  have hO0 := OutR.empty (enc := encOpinion) (k := 5) (E := 35) w (Nat.le_refl _)
  refine (among_c g m [0, 100, 3990] _ _ _ ((h.alloc _).alloc _) (by omega) (rd_litP _ _ _ _ (by simp)) (new_neP (by omega)) (by decide) (by decide)).mono ?_
  rintro e w1 ⟨D0, rfl, hD0, hf1, hc1⟩
  have hD0 : 0 ≤ D0 ∧ D0 ≤ 3990 := by simp at hD0; omega
  have hO1 := (hO0.below ((Below.refl _ _).alloc (Nat.le_refl _) _)).fr hf1 hg
  have hf1 := (fr_alloc (fr_alloc (Fr.refl g (g + 1) w) _) _).trans hf1
  clear hO0
  go_wp2_with fail
  refine (pick_c g (m + 2) 10 _ hc1 (by omega) (by decide)).mono ?_
  rintro e w2 ⟨N0, rfl, hN0, _, hN1, _, hf2, hc2⟩
  have hN1 := hN1 (by decide)
  obtain ⟨N, rfl⟩ := Int.eq_ofNat_of_zero_le hN0
  have hO2 := hO1.fr hf2 hg
  have hf2 := hf1.trans hf2
  clear hO1 hf1 hc1
  go_wp2_with fail
  go_loopw [3, 4, 5] (fun u d n wr => ∃ (xs : List Opinion) (D : Int) (k : Nat), OutR encOpinion 5 35 w.heap.size u xs wr ∧ d = .int .i64 D ∧ n = .int .i64 k ∧ k ≤ 9 ∧ xs.length + k ≤ 9 ∧ -10 + (k : Int) ≤ D ∧ D + 31 * k ≤ 5000 ∧ (∀ x ∈ xs, OkO x) ∧ Fr g (g + 1) w wr ∧ Cur g (m + 400 - 30 * k) wr) (fun _ _ n _ => (intOf n).toNat)
  case atStart => exact ⟨[], D0, N, hO2, rfl, rfl, by omega, by simp; omega, by omega, by omega, by simp, hf2, hc2.more (by omega)⟩
  case round =>
    obtain ⟨xs, D, k, hO, rfl, rfl, hk, hl, hD1, hD2, hok, hf, hc⟩ := hrel
    clear hO2 hf2 hc2 hD0
    have HK := Lib.hid hok
    clear hok
    by_cases hk0 : (0 : Int) < (k : Int)
    · have hgr : g < wr.heap.size := hc.1
      go_wp2_with fail
      refine (among_c g _ [1, 1, 2, 999] _ 4 _ (hc.alloc _) (by omega) (rd_litI _ _ _) (new_ne hgr) (by decide) (by decide)).mono ?_
      rintro e w3 ⟨I, rfl, hI, hf3, hc3⟩
      have hI : 1 ≤ I ∧ I ≤ 999 := by simp at hI; omega
      have hO3 := (hO.below ((Below.refl _ _).alloc (Nat.le_refl _) _)).fr hf3 hg
      have hf3 := (fr_alloc hf _).trans hf3
      clear hO hf hc
      go_wp2_with fail
      refine (expert17_c g _ _ hc3 (by omega)).mono ?_
      rintro e w4 ⟨X, rfl, hX, hf4, hc4⟩
      have hO4 := hO3.fr hf4 hg
      have hf4 := hf3.trans hf4
      clear hO3 hf3 hc3
      go_wp2_with fail
      refine (pick_c g _ 4 _ hc4 (by omega) (by decide)).mono ?_
      rintro e w5 ⟨S, rfl, hS0, _, hS1, _, hf5, hc5⟩
      have hS1 := hS1 (by decide)
      have hO5 := hO4.fr hf5 hg
      have hf5 := hf4.trans hf5
      clear hO4 hf4 hc4
      go_upto_region 7 with fail
      have hO6 := hO5.below ((Below.refl _ _).alloc (Nat.le_refl _) (.cells #[.int .i64 I, .string X, .int .i64 D, .int .i64 (1 + S), .int .i64 (-1)] 35))
      have hB := box_new g w5 ⟨I, X, D, 1 + S, -1⟩ 35 hc5.1
      have hc6 := hc5.alloc (.cells #[.int .i64 I, .string X, .int .i64 D, .int .i64 (1 + S), .int .i64 (-1)] 35)
      have hf6 := fr_alloc hf5 (.cells #[.int .i64 I, .string X, .int .i64 D, .int .i64 (1 + S), .int .i64 (-1)] 35)
      have hk6 : OkO ⟨I, X, D, 1 + S, -1⟩ := ⟨hX, by simp only; omega, by simp only; omega, by simp only; omega, by simp only; omega, by simp only; omega, by simp only; omega, by simp only; omega, by simp only; omega⟩
      have hp6 : w.heap.size ≤ w5.heap.size := hf5.size
      have hq6 := hO5.blk
      generalize w5.alloc (.cells #[.int .i64 I, .string X, .int .i64 D, .int .i64 (1 + S), .int .i64 (-1)] 35) = V at *
      generalize w5.heap.size = p at *
      generalize (⟨I, X, D, 1 + S, -1⟩ : Opinion) = x0 at *
      clear hO5 hc5 hf5 hS1 hS0 hI hX
      go_cut [35] (fun v wx => ∃ b : Bool, v = .bool b ∧ (b = true → goodO xs = true) ∧ OutR encOpinion 5 35 w.heap.size u3 xs wx ∧ Box g p x0 wx ∧ Fr g (g + 1) w wx ∧ Cur g (m + 400 - 30 * k + 8) wx)
      case first =>
        obtain ⟨A, c, rfl, hown, _⟩ := hO6.own encOpinion_len
        go_wp2_with fail
        refine (l17Good_c xs _ _ _ hown.rd (by omega) (fun x hx => by have := (HK.out x hx).1; omega)).mono ?_
        rintro _ w6 ⟨rfl, hb6⟩
        have hO7 := hO6.below hb6
        have hB7 := hB.below hb6
        have hc7 := hc6.below hb6
        have hf7 := hf6.trans (Fr.of_below hb6)
        clear hO6 hB hc6 hf6 hb6
        cases hgd : goodO xs
        · go_wp2_with fail
          go_meet
          exact ⟨_, rfl, fun h => (by cases h), hO7, hB7, hf7, hc7.more (by omega)⟩
        · go_wp2_with fail
          refine (one_c g _ 4 _ hc7 (by omega) (by decide)).mono ?_
          rintro e w7 ⟨b, rfl, hf8, hc8⟩
          go_wp2_with fail
          go_meet
          exact ⟨_, rfl, fun _ => hgd, hO7.fr hf8 hg, hB7.fr hf8, hf7.trans hf8, hc8.more (by omega)⟩
      case rest =>
        obtain ⟨b, rfl, hgd, hO7, hB7, hf7, hc7⟩ := hcut
        clear hO6 hB hc6 hf6
        go_upto_if 35 with fail
        go_cut [] (fun wx => ∃ x : Opinion, OkO x ∧ OutR encOpinion 5 35 w.heap.size u3 xs wx ∧ Box g p x wx ∧ Fr g (g + 1) w wx ∧ Cur g (m + 400 - 30 * k + 8) wx)
        case first =>
          cases b
          · go_wp2_with fail
            go_meet
            exact ⟨x0, hk6, hO7, hB7, hf7, hc7⟩
          · have hgood := hgd rfl
            clear hgd
            obtain ⟨hbl, hbf, b0, b1, b2, b3, b4⟩ := hB7.cells
            have hlo := lastO_lt xs x0.item x0.expert D
            have hS := hO7.set_ (j := 4) (u := .int .i64 (lastO xs x0.item x0.expert D)) hq6
            obtain ⟨A, c, rfl, hown, _⟩ := hO7.own encOpinion_len
            go_wp2_with fail
            refine (l17Last_c xs _ _ _ _ _ _ hown.rd (by omega) hgood).mono ?_
            rintro _ _ ⟨rfl, rfl⟩
            go_wp2_with fail
            go_meet
            obtain ⟨k0, k1, k2, k3, k4, k5, k6, k7, k8⟩ := hk6
            exact ⟨⟨x0.item, x0.expert, x0.day, x0.says, lastO xs x0.item x0.expert D⟩, ⟨k0, k1, k2, k3, k4, k5, k6, by simp only; omega, by simp only; omega⟩, hS, hB7.setOver _, fr_set hf7 hp6, cur_set hc7 (by omega)⟩
        case rest =>
          obtain ⟨x1, hk8, hO8, hB8, hf8, hc8⟩ := hcut
          clear hO7 hB7 hf7 hc7 hk6 hgd
          go_wp2_with fail
          refine (pick_c g _ 100 _ hc8 (by omega) (by decide)).mono ?_
          rintro e w9 ⟨R, rfl, hR0, _, _, _, hf9, hc9⟩
          have hO9 := hO8.fr hf9 hg
          have hB9 := hB8.fr hf9
          have hf9 := hf8.trans hf9
          clear hO8 hB8 hf8 hc8
          go_upto_block 2 with fail
          go_cut [] (fun wx => ∃ x : Opinion, OkO x ∧ OutR encOpinion 5 35 w.heap.size u3 xs wx ∧ Box g p x wx ∧ Fr g (g + 1) w wx ∧ Cur g (m + 400 - 30 * k + 14) wx)
          case first =>
            by_cases e0 : R = 0
            · subst e0
              go_wp2_with fail
              refine (among_c g _ [0, 1000] _ _ _ (hc9.alloc _) (by omega) (rd_litI _ _ _) (new_ne hc9.1) (by decide) (by decide)).mono ?_
              rintro e w10 ⟨v, rfl, hv, hfa, hca⟩
              have hv : 0 ≤ v ∧ v ≤ 1000 := by simp at hv; omega
              have hBa := (hB9.below ((Below.refl _ _).alloc (Nat.le_refl _) _)).fr hfa
              obtain ⟨hbl, hbf, b0, b1, b2, b3, b4⟩ := hBa.cells
              have hOa := (hO9.below ((Below.refl _ _).alloc (Nat.le_refl _) _)).fr hfa hg
              have hfb := (fr_alloc hf9 _).trans hfa
              clear hO9 hB9 hf9 hc9 hfa
              go_wp2_with fail
              go_meet
              obtain ⟨k0, k1, k2, k3, k4, k5, k6, k7, k8⟩ := hk8
              exact ⟨⟨v, x1.expert, x1.day, x1.says, x1.over⟩, ⟨k0, (by simp only; omega), (by simp only; omega), k3, k4, k5, k6, k7, k8⟩, hOa.set_ hq6, hBa.setItem v, fr_set hfb hp6, cur_set (hca.more (by omega)) (by omega)⟩
            by_cases e1 : R = 1
            · subst e1
              go_wp2_with fail
              refine (of_c g _ [⟨#[]⟩, ⟨#[66, 111]⟩] _ _ _ (hc9.alloc _) (by omega) (rd_litS _ _ _) (new_ne hc9.1) (by decide) (by decide)).mono ?_
              rintro e w10 ⟨v, rfl, hv, hfa, hca⟩
              have hv : v.size ≤ 10 := by exact (show ∀ x ∈ ([⟨#[]⟩, ⟨#[66, 111]⟩] : List ByteArray), x.size ≤ 10 by decide) v hv
              have hBa := (hB9.below ((Below.refl _ _).alloc (Nat.le_refl _) _)).fr hfa
              obtain ⟨hbl, hbf, b0, b1, b2, b3, b4⟩ := hBa.cells
              have hOa := (hO9.below ((Below.refl _ _).alloc (Nat.le_refl _) _)).fr hfa hg
              have hfb := (fr_alloc hf9 _).trans hfa
              clear hO9 hB9 hf9 hc9 hfa
              go_wp2_with fail
              go_meet
              obtain ⟨k0, k1, k2, k3, k4, k5, k6, k7, k8⟩ := hk8
              exact ⟨⟨x1.item, v, x1.day, x1.says, x1.over⟩, ⟨hv, k1, k2, k3, k4, k5, k6, k7, k8⟩, hOa.set_ hq6, hBa.setExpert v, fr_set hfb hp6, cur_set (hca.more (by omega)) (by omega)⟩
            by_cases e2 : R = 2
            · subst e2
              go_wp2_with fail
              refine (among_c g _ [0, 5] _ _ _ (hc9.alloc _) (by omega) (rd_litI _ _ _) (new_ne hc9.1) (by decide) (by decide)).mono ?_
              rintro e w10 ⟨v, rfl, hv, hfa, hca⟩
              have hv : 0 ≤ v ∧ v ≤ 1000 := by simp at hv; omega
              have hBa := (hB9.below ((Below.refl _ _).alloc (Nat.le_refl _) _)).fr hfa
              obtain ⟨hbl, hbf, b0, b1, b2, b3, b4⟩ := hBa.cells
              have hOa := (hO9.below ((Below.refl _ _).alloc (Nat.le_refl _) _)).fr hfa hg
              have hfb := (fr_alloc hf9 _).trans hfa
              clear hO9 hB9 hf9 hc9 hfa
              go_wp2_with fail
              go_meet
              obtain ⟨k0, k1, k2, k3, k4, k5, k6, k7, k8⟩ := hk8
              exact ⟨⟨x1.item, x1.expert, x1.day, v, x1.over⟩, ⟨k0, k1, k2, k3, k4, (by simp only; omega), (by simp only; omega), k7, k8⟩, hOa.set_ hq6, hBa.setSays v, fr_set hfb hp6, cur_set (hca.more (by omega)) (by omega)⟩
            by_cases e3 : R = 3
            · subst e3
              obtain ⟨A, c, rfl, hown, _⟩ := hO9.own encOpinion_len
              go_wp2_with fail
              refine (among_c g _ [-2, (xs.length : Int), 0] _ _ _ (hc9.alloc _) (by omega) (rd_litI _ _ _) (new_ne hc9.1) (by simp) (by simp)).mono ?_
              rintro e w10 ⟨v, rfl, hv, hfa, hca⟩
              have hv : -2 ≤ v ∧ v ≤ 1000 := by simp at hv; omega
              have hBa := (hB9.below ((Below.refl _ _).alloc (Nat.le_refl _) _)).fr hfa
              obtain ⟨hbl, hbf, b0, b1, b2, b3, b4⟩ := hBa.cells
              have hOa := (hO9.below ((Below.refl _ _).alloc (Nat.le_refl _) _)).fr hfa hg
              have hfb := (fr_alloc hf9 _).trans hfa
              clear hO9 hB9 hf9 hc9 hfa
              go_wp2_with fail
              go_meet
              obtain ⟨k0, k1, k2, k3, k4, k5, k6, k7, k8⟩ := hk8
              exact ⟨⟨x1.item, x1.expert, x1.day, x1.says, v⟩, ⟨k0, k1, k2, k3, k4, k5, k6, (by simp only; omega), (by simp only; omega)⟩, hOa.set_ hq6, hBa.setOver v, fr_set hfb hp6, cur_set (hca.more (by omega)) (by omega)⟩
            have c0 : (R == 0) = false := by simpa using e0
            have c1 : (R == 1) = false := by simpa using e1
            have c2 : (R == 2) = false := by simpa using e2
            have c3 : (R == 3) = false := by simpa using e3
            go_wp2_with fail
            go_meet
            exact ⟨x1, hk8, hO9, hB9, hf9, hc9.more (by omega)⟩
          case rest =>
            obtain ⟨x2, hk10, hO10, hB10, hf10, hc10⟩ := hcut
            clear hO9 hB9 hf9 hc9
            obtain ⟨z, e, d, s, q⟩ := x2
            obtain ⟨hbl, hbf, b0, b1, b2, b3, b4⟩ := hB10.cells
            simp only at b0 b1 b2 b3 b4
            have hVg := hc10.1
            have hVb := hf10.size
            obtain ⟨A, c, rfl, hown, _⟩ := hO10.own encOpinion_len
            have hrV := hown.rd
            go_upto_region 18 with fail
            have KE := Lib.hid (show ∀ W, Below wc.heap.size wc W → W.cell? ⟨p, 0, none⟩ = some (.int .i64 z) ∧ W.cell? ⟨p, 1, none⟩ = some (.string e) ∧ W.cell? ⟨p, 2, none⟩ = some (.int .i64 d) ∧ W.cell? ⟨p, 3, none⟩ = some (.int .i64 s) ∧ W.cell? ⟨p, 4, none⟩ = some (.int .i64 q) from fun W hb =>
              ⟨(hb.cell (p := ⟨p, _, none⟩) hbl).trans b0, (hb.cell (p := ⟨p, _, none⟩) hbl).trans b1, (hb.cell (p := ⟨p, _, none⟩) hbl).trans b2, (hb.cell (p := ⟨p, _, none⟩) hbl).trans b3, (hb.cell (p := ⟨p, _, none⟩) hbl).trans b4⟩)
            clear b0 b1 b2 b3 b4
            go_region_held3 (fun W => W.cell? ⟨p, 0, none⟩ = some (.int .i64 z) ∧ W.cell? ⟨p, 1, none⟩ = some (.string e) ∧ W.cell? ⟨p, 2, none⟩ = some (.int .i64 d) ∧ W.cell? ⟨p, 3, none⟩ = some (.int .i64 s) ∧ W.cell? ⟨p, 4, none⟩ = some (.int .i64 q)) (first | assumption | exact KE.out _ hB2 | exact KE.out _ hB1 | exact KE.out _ (hB1.alloc hB1.size _) | exact KE.out _ (by go_grown)) (first
              | ((refine step_app (o := ⟨some 74, _, _, _, _, _⟩) (by rfl) (.tmp 72) (.tmp 73) _ (by rfl) 35 (.agg #[.int .i64 0, .string ⟨#[]⟩, .int .i64 0, .int .i64 0, .int .i64 0]) 5 48 Tryz.underlying24 infoOpD (by rfl) (by decide) encOpinion_len oneO (base := wc.heap.size) (zs := xs) (by rfl) (by rfl) rfl (by first | exact OutR.emptyH _ _ (by simp) (by first | (simp; done) | (simp; omega)) | exact OutR.emptyHD _ _ (by simp) (by first | (simp; done) | (simp; omega)) | exact (OutR.emptyH wc _ rfl (Nat.le_refl _)).below (by go_grown)) (hrV.go (by go_grown)) (by first | omega | (simp; omega)) (by first | omega | (simp; omega)) (by first | (simp; done) | (simp; omega)) ?_; intro v1 W1 ho1 hb1 hg1; have hB1 : Below wc.heap.size wc W1 := Below.trans (by go_grown) hb1))
              | ((refine step_app (o := ⟨some 77, _, _, _, _, _⟩) (by rfl) (.tmp 74) (.tmp 76) _ (by rfl) 35 (.agg #[.int .i64 0, .string ⟨#[]⟩, .int .i64 0, .int .i64 0, .int .i64 0]) 5 48 Tryz.underlying24 infoOpD (by rfl) (by decide) encOpinion_len oneO (base := wc.heap.size) (m := 1) (zs := [(⟨z, e, d, s, q⟩ : Opinion)]) (by rfl) (by rfl) rfl (by first | exact ho1 | exact ho1.below ((Below.refl _ _).alloc (Nat.le_refl _) _)) (by first | exact rd_new (x := (⟨z, e, d, s, q⟩ : Opinion)) (vs := [.int .i64 z, .string e, .int .i64 d, .int .i64 s, .int .i64 q]) rfl rfl | exact rd_oneO (hg1.cell (by simp) (by simp [Value.ownBlock, go_sem])) (hg1.cell (by simp) (by simp [Value.ownBlock, go_sem])) (hg1.cell (by simp) (by simp [Value.ownBlock, go_sem])) (hg1.cell (by simp) (by simp [Value.ownBlock, go_sem])) (hg1.cell (by simp) (by simp [Value.ownBlock, go_sem]))) (by first | omega | (simp; omega)) (by first | omega | (simp; omega)) (by have := hB1.size; simp; omega) ?_; intro v2 W2 ho2 hb2 hg2; have hB2 : Below wc.heap.size wc W2 := (by first | exact hB1.trans hb2 | exact (hB1.alloc hB1.size _).trans hb2))))
            all_goals
              have hOx := hO10.below hB2
              have hcx := hc10.below hB2
              have hfx := hf10.trans (Fr.of_below hB2)
              rw [List.nil_append] at ho2
              have ho2 := ho2.fresh hVb
              have HKY := Lib.hid (show ∀ y ∈ xs ++ [(⟨z, e, d, s, q⟩ : Opinion)], OkO y from fun y hy => by
                rcases List.mem_append.1 hy with h | h
                · exact HK.out y h
                · simp at h; subst h; exact hk10)
              have hyl : (xs ++ [(⟨z, e, d, s, q⟩ : Opinion)]).length ≤ xs.length + 1 := by simp
              generalize xs ++ [(⟨z, e, d, s, q⟩ : Opinion)] = ys at ho2 HKY hyl
              clear hb1 hB1 ho1 hB2 hB10 hO10 hc10 hf10 KE
              obtain ⟨B3, c3, rfl, hO3, hc3⟩ := ho2.own encOpinion_len
              go_wp2_with fail
              refine (l17Good_c ys _ _ _ hO3.rd (by omega) (fun x hx => by have := (HKY.out x hx).1; omega)).mono ?_
              rintro _ w11 ⟨rfl, hb11⟩
              have hOx := hOx.below hb11
              have hoy := ho2.below hb11
              have hcx := hcx.below hb11
              have hfx := hfx.trans (Fr.of_below hb11)
              clear ho2 hO3 hb11
              cases hgy : goodO ys
              · go_wp2_with fail
                refine (one_c g _ 40 _ hcx (by omega) (by decide)).mono ?_
                rintro e w12 ⟨b, rfl, hf12, hc12⟩
                have hOx := hOx.fr hf12 hg
                have hoy := hoy.fr hf12 hg
                have hfx := hfx.trans hf12
                clear hcx hf12
                cases b
                · go_wp2_with fail
                  refine (among_c g _ [0, 1, 5, 30] _ 4 _ (hc12.alloc _) (by omega) (rd_litI _ _ _) (new_ne hc12.1) (by decide) (by decide)).mono ?_
                  rintro e w14 ⟨v, rfl, hv, hf14, hc14⟩
                  have hv : 0 ≤ v ∧ v ≤ 30 := by simp at hv; omega
                  go_wp2_with fail
                  refine (pick_c g _ 150 _ hc14 (by omega) (by decide)).mono ?_
                  rintro e w15 ⟨r, rfl, hr0, _, hr1, _, hf15, hc15⟩
                  have hr1 := hr1 (by decide)
                  have hq0 : 0 ≤ r / 149 := by omega
                  have hq1 : r / 149 ≤ 1 := by omega
                  have hOn := ((hOx.below ((Below.refl _ _).alloc (Nat.le_refl _) _)).fr hf14 hg).fr hf15 hg
                  have hfn := ((fr_alloc hfx _).trans hf14).trans hf15
                  clear hf14 hc14
                  go_wp2_with fail
                  go_roundw
                  case rel => exact ⟨xs, D + v - r / 149, k - 1, hOn, rfl, vi (by omega), by omega, by omega, by omega, by omega, HK.out, hfn, hc15.more (by omega)⟩
                  case measure => simp [intOf]; omega
                · go_wp2_with fail
                  refine (among_c g _ [0, 1, 5, 30] _ 4 _ (hc12.alloc _) (by omega) (rd_litI _ _ _) (new_ne hc12.1) (by decide) (by decide)).mono ?_
                  rintro e w14 ⟨v, rfl, hv, hf14, hc14⟩
                  have hv : 0 ≤ v ∧ v ≤ 30 := by simp at hv; omega
                  go_wp2_with fail
                  refine (pick_c g _ 150 _ hc14 (by omega) (by decide)).mono ?_
                  rintro e w15 ⟨r, rfl, hr0, _, hr1, _, hf15, hc15⟩
                  have hr1 := hr1 (by decide)
                  have hq0 : 0 ≤ r / 149 := by omega
                  have hq1 : r / 149 ≤ 1 := by omega
                  have hOn := ((hoy.below ((Below.refl _ _).alloc (Nat.le_refl _) _)).fr hf14 hg).fr hf15 hg
                  have hfn := ((fr_alloc hfx _).trans hf14).trans hf15
                  clear hf14 hc14
                  go_wp2_with fail
                  go_roundw
                  case rel => exact ⟨ys, D + v - r / 149, k - 1, hOn, rfl, vi (by omega), by omega, by omega, by omega, by omega, HKY.out, hfn, hc15.more (by omega)⟩
                  case measure => simp [intOf]; omega
              · go_wp2_with fail
                refine (among_c g _ [0, 1, 5, 30] _ 4 _ (hcx.alloc _) (by omega) (rd_litI _ _ _) (new_ne hcx.1) (by decide) (by decide)).mono ?_
                rintro e w14 ⟨v, rfl, hv, hf14, hc14⟩
                have hv : 0 ≤ v ∧ v ≤ 30 := by simp at hv; omega
                go_wp2_with fail
                refine (pick_c g _ 150 _ hc14 (by omega) (by decide)).mono ?_
                rintro e w15 ⟨r, rfl, hr0, _, hr1, _, hf15, hc15⟩
                have hr1 := hr1 (by decide)
                have hq0 : 0 ≤ r / 149 := by omega
                have hq1 : r / 149 ≤ 1 := by omega
                have hOn := ((hoy.below ((Below.refl _ _).alloc (Nat.le_refl _) _)).fr hf14 hg).fr hf15 hg
                have hfn := ((fr_alloc hfx _).trans hf14).trans hf15
                clear hf14 hc14
                go_wp2_with fail
                go_roundw
                case rel => exact ⟨ys, D + v - r / 149, k - 1, hOn, rfl, vi (by omega), by omega, by omega, by omega, by omega, HKY.out, hfn, hc15.more (by omega)⟩
                case measure => simp [intOf]; omega
    · have hkz : k = 0 := by omega
      subst hkz
      go_wp2_with fail
      refine (one_c g _ 24 _ hc (by omega) (by decide)).mono ?_
      rintro e w3 ⟨b, rfl, hf3, hc3⟩
      have hO3 := hO.fr hf3 hg
      have hf3 := hf.trans hf3
      clear hO hf hc
      cases b
      · obtain ⟨A, c, rfl, hown, _⟩ := hO3.own encOpinion_len
        go_wp2_with fail
        go_returns
        exact ⟨A, c, xs, rfl, by omega, HK.out, hown, hf3, hc3.more (by omega)⟩
      · have hO4 := OutR.emptyH (enc := encOpinion) (k := 5) (E := 35) (base := w.heap.size) w3 _ rfl hf3.size
        have hc4 := hc3.alloc (.cells #[] 35)
        have hf4 := fr_alloc hf3 (.cells #[] 35)
        go_wp2_with fail
        clear hO3 hf3 hc3
        go_loopw [3, 8] (fun u n wr => ∃ (ys : List Opinion) (j : Nat), OutR encOpinion 5 35 w.heap.size u ys wr ∧ n = .int .i64 j ∧ j ≤ 16 ∧ ys.length = j ∧ (∀ x ∈ ys, OkO x) ∧ Fr g (g + 1) w wr ∧ Cur g (m + 500 + 4 * j) wr) (fun _ n _ => 17 - (intOf n).toNat)
        case atStart => exact ⟨[], 0, hO4, rfl, by omega, rfl, by simp, hf4, hc4.more (by omega)⟩
        case round =>
          obtain ⟨ys, j, hO, rfl, hj, hyl, hok, hf, hc⟩ := hrel
          have HY := Lib.hid hok
          clear hok hO4 hf4 hc4
          go_wp2_with fail
          refine (pick_c g _ 2 _ hc (by omega) (by decide)).mono ?_
          rintro e w5 ⟨r, rfl, hr0, _, hr1, _, hf5, hc5⟩
          have hr1 := hr1 (by decide)
          have hO5 := hO.fr hf5 hg
          have hf5 := hf.trans hf5
          clear hO hf hc
          by_cases hlt : (j : Int) < 15 + r
          · have hm0 : 0 ≤ (j : Int) % 3 := by omega
            have hm1 : (j : Int) % 3 < 3 := by omega
            go_wp2_with (at_builtin; refine wpList_app rfl _ _ _ rfl 35 (.agg #[.int .i64 0, .string ⟨#[]⟩, .int .i64 0, .int .i64 0, .int .i64 0]) 5 48 Tryz.underlying24 infoOpD rfl (by decide) encOpinion_len oneO (base := w.heap.size) (m := 1) (ys := ys) (zs := [(⟨1, ⟨#[98, 111]⟩, (j : Int), 1 + (j : Int) % 3, (j : Int) - 1⟩ : Opinion)]) rfl rfl rfl (hO5.below ((Below.refl _ _).alloc (Nat.le_refl _) _)) (rd_new (x := (⟨1, ⟨#[98, 111]⟩, (j : Int), 1 + (j : Int) % 3, (j : Int) - 1⟩ : Opinion)) (vs := [.int .i64 1, .string ⟨#[98, 111]⟩, .int .i64 (j : Int), .int .i64 (1 + (j : Int) % 3), .int .i64 ((j : Int) - 1)]) rfl rfl) (by first | omega | (simp; omega)) (by first | omega | (simp; omega)) (by have := hf5.size; simp; omega) ?_; intro v6 w6 ho6 hb6)
            have hKn := Lib.hid (show ∀ y ∈ ys ++ [(⟨1, ⟨#[98, 111]⟩, (j : Int), 1 + (j : Int) % 3, (j : Int) - 1⟩ : Opinion)], OkO y from fun y hy => by
              rcases List.mem_append.1 hy with h | h
              · exact HY.out y h
              · simp at h; subst h; exact ⟨(show (2 : Nat) ≤ 10 by decide), (show (-1000000 : Int) ≤ 1 by decide), (show (1 : Int) ≤ 1000000 by decide), by simp only; omega, by simp only; omega, by simp only; omega, by simp only; omega, by simp only; omega, by simp only; omega⟩)
            have hln : (ys ++ [(⟨1, ⟨#[98, 111]⟩, (j : Int), 1 + (j : Int) % 3, (j : Int) - 1⟩ : Opinion)]).length = j + 1 := by simp; omega
            generalize ys ++ [(⟨1, ⟨#[98, 111]⟩, (j : Int), 1 + (j : Int) % 3, (j : Int) - 1⟩ : Opinion)] = zs at *
            have hbA : Below w.heap.size w5 (w5.alloc (.cells #[.int .i64 1, .string ⟨#[98, 111]⟩, .int .i64 (j : Int), .int .i64 (1 + (j : Int) % 3), .int .i64 ((j : Int) - 1)] 35)) := (Below.refl _ _).alloc hf5.size _
            have hcn : Cur g (m + 500 + 4 * j + 2) w6 := hc5.keep (Nat.le_trans (by simp) hb6.size) fun b hb => (hb6.block b (by omega)).trans (hbA.block b (by omega))
            have hfn : Fr g (g + 1) w w6 := ⟨hb6.os.trans (hbA.os.trans hf5.os), hb6.tape.trans (hbA.tape.trans hf5.tape), hb6.output.trans (hbA.output.trans hf5.output), Nat.le_trans hf5.size (Nat.le_trans (by simp) hb6.size), fun b hb hn => (hb6.block b hb).trans ((hbA.block b hb).trans (hf5.block b hb hn))⟩
            clear hb6 hbA hO5 hc5 hf5
            go_roundw
            case rel => exact ⟨zs, j + 1, ho6, by go_num, by omega, hln, hKn.out, hfn, hcn.more (by omega)⟩
            case measure => simp [intOf]; omega
          · obtain ⟨A, c, rfl, hown, _⟩ := hO5.own encOpinion_len
            go_wp2_with fail
            go_returns
            exact ⟨A, c, ys, ret_sl hyl.symm, by omega, HY.out, hown, hf5, hc5.more (by omega)⟩
end Go.Proofs.YtpnkeaeikcobfaaGreatDoor
