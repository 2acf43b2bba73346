/- Contract of the draw of an album: pages within bounds; only the reader's own block is turned. No condition. -/
import Derived.Test.YtpjnlcppjcnlgaaGreatDoorDrawK
import Derived.Test.YtpjnlcppjcnlgaaGreatDoorAlGs
import Derived.Test.YtpjnlcppjcnlgaaGreatDoorPut
import Derived.Test.YtpjnlcppjcnlgaaGreatDoorPutPlain
import Derived.Test.YtpjnlcppjcnlgaaGreatDoorCvPage2
namespace Go.Proofs.YtpjnlcppjcnlgaaGreatDoor
set_option linter.unusedVariables false
set_option linter.unusedSimpArgs false
open Go.RowKit
attribute [local irreducible] wpQuiet
set_option maxRecDepth 100000 in
set_option maxHeartbeats 12800000 in
theorem album18_c (g m : Nat) (w : World) (h : Cur g m w) (hm : m ≤ 1099500000000) :
    Calls Tryz.prog 27 #[.pointer (some ⟨g, 0, none⟩)] w fun e w' => ∃ (v : Value) (ms : List PageM) (xs : List Page), e = .returned v ∧ DrP w.heap.size v ms xs w' ∧ xs.length ≤ 20 ∧ (∀ x ∈ xs, OkP x) ∧ Fr g (g + 1) w w' ∧ Cur g (m + 1000) w' := by
  have hg := h.1
  go_enter Tryz.func27, Tryz.ntmps27
  go_wp2_with fail
  have hD0 := DrP.nil (lo := w.heap.size) w (Nat.le_refl _)
  have hf0 := fr_alloc (Fr.refl g (g + 1) w) (.cells #[] 56)
  have hc0 := h.alloc (.cells #[] 56)
  refine (pick_c g _ 8 _ hc0 (by omega) (by decide)).mono ?_
  rintro e w1 ⟨N0, rfl, hN0, _, hN1, _, hf1, hc1⟩
  have hN1 := hN1 (by decide)
  obtain ⟨N, rfl⟩ := Int.eq_ofNat_of_zero_le hN0
  have hD1 := hD0.fr_ hf1 hg
  have hf1 := hf0.trans hf1
  clear hD0 hf0 hc0
  go_wp2_with fail
  go_loopw [3, 4, 5] (fun u a n wr => ∃ (ms : List PageM) (xs : List Page) (z : Int) (j : Nat), DrP w.heap.size u ms xs wr ∧ a = .int .i64 z ∧ n = .int .i64 j ∧ j ≤ 7 ∧ 0 ≤ z ∧ z + 2 * j ≤ 14 ∧ xs.length + j ≤ 7 ∧ (∀ x ∈ xs, OkP x) ∧ Fr g (g + 1) w wr ∧ Cur g (m + 300 - 40 * j) wr) (fun _ _ n _ => (intOf n).toNat)
  case atStart => exact ⟨[], [], 0, N, hD1, rfl, rfl, by omega, by omega, by omega, by simp; omega, by simp, hf1, hc1.more (by omega)⟩
  case round =>
    obtain ⟨ms, xs, z, j, hD, rfl, rfl, hj, hz0, hz1, hxl, hok, hf, hc⟩ := hrel
    clear hD1 hf1 hc1
    have HY := Lib.hid hok
    clear hok
    by_cases hj0 : (0 : Int) < (j : Int)
    · go_wp2_with fail
      refine (pick_c g _ 2 _ hc (by omega) (by decide)).mono ?_
      rintro e w2 ⟨r, rfl, hr0, _, hr1, _, hf2, hc2⟩
      have hr1 := hr1 (by decide)
      have hD2 := hD.fr_ hf2 hg
      have hf2 := hf.trans hf2
      have hi0 : 0 ≤ z + 1 + r := by omega
      have hi1 : z + 1 + r ≤ 16 := by omega
      have hi2 : z + 1 + r + 2 * j ≤ 16 := by omega
      clear hD hf hc
      go_upto_region 7 with fail
      generalize z + 1 + r = pid at *
      clear hr0 hr1
      go_wp2_with fail
      refine (of_c g _ [⟨#[98, 101, 114, 110]⟩, ⟨#[99, 111, 105, 108, 115]⟩, ⟨#[107, 105, 110, 103, 115]⟩, ⟨#[112, 108, 97, 110, 101, 115]⟩, ⟨#[115, 104, 105, 112, 115]⟩] _ _ _ (hc2.alloc _) (by omega) (rd_litS _ _ _) (new_ne hc2.1) (by decide) (by decide)).mono ?_
      rintro e w3 ⟨tl, rfl, htl, hf3, hc3⟩
      have htl : tl.size ≤ 10 := by exact (show ∀ x ∈ ([⟨#[98, 101, 114, 110]⟩, ⟨#[99, 111, 105, 108, 115]⟩, ⟨#[107, 105, 110, 103, 115]⟩, ⟨#[112, 108, 97, 110, 101, 115]⟩, ⟨#[115, 104, 105, 112, 115]⟩] : List ByteArray), x.size ≤ 10 by decide) tl htl
      have hD3 := (hD2.below_ ((Below.refl _ _).alloc (Nat.le_refl _) _)).fr_ hf3 hg
      have hf3 := (fr_alloc hf2 _).trans hf3
      clear hD2 hf2 hc2
      go_upto_region 8 with fail
      have hbx := boxV_new g w3 [.int .i64 pid, .string tl, .int .i64 0, .slice none 0 0] 56 hc3.1
      have hc4 := hc3.alloc (.cells #[.int .i64 pid, .string tl, .int .i64 0, .slice none 0 0] 56)
      have hf4 := Fr.of_below (lo := g) (hi := g + 1) ((Below.refl w3.heap.size w3).alloc (Nat.le_refl _) (.cells #[.int .i64 pid, .string tl, .int .i64 0, .slice none 0 0] 56))
      have hsz4 : (w3.alloc (.cells #[.int .i64 pid, .string tl, .int .i64 0, .slice none 0 0] 56)).heap.size = w3.heap.size + 1 := by simp
      simp only [List.toArray] at hbx
      generalize w3.alloc (.cells #[.int .i64 pid, .string tl, .int .i64 0, .slice none 0 0] 56) = W at *
      obtain ⟨A, c, hue, hcap, hrp⟩ := hD3.shape
      subst hue
      have HD3 := Lib.hid hD3
      clear hD3 hc3
      generalize hbp : w3.heap.size = bp at *
      have hgb : g < bp := by rw [← hbp]; have := hf3.size; omega
      go_upto_region 9 with fail
      go_cut [38] (fun v wx => ∃ t : Bool, v = .bool t ∧ (t = true → 0 < xs.length) ∧ BoxV g bp [.int .i64 pid, .string tl, .int .i64 0, .slice none 0 0] wx ∧ Fr g (g + 1) w3 wx ∧ Cur g (m + 300 - 40 * j + 6) wx)
      case first =>
        by_cases h0 : 0 < xs.length
        · have h0' : (0 : Int) < (xs.length : Int) := by omega
          go_wp2_with fail
          refine (one_c g _ 4 _ hc4 (by omega) (by decide)).mono ?_
          rintro e w5 ⟨t, rfl, hf5, hc5⟩
          go_wp2_with fail
          go_meet
          exact ⟨_, rfl, fun _ => h0, hbx.fr hf5, hf4.trans hf5, hc5.more (by omega)⟩
        · have h0' : ¬ (0 : Int) < (xs.length : Int) := by omega
          go_wp2_with fail
          go_meet
          exact ⟨false, rfl, (by simp), hbx, hf4, hc4.more (by omega)⟩
      case rest =>
      obtain ⟨t, rfl, ht, hbx, hf5, hc5⟩ := hcut
      have HT := Lib.hid ht
      clear ht hc4 hf4 hsz4
      go_upto_if 38 with fail
      go_cut [] (fun wx => ∃ un : Int, (-1 ≤ un ∧ un ≤ 100) ∧ BoxV g bp [.int .i64 pid, .string tl, .int .i64 un, .slice none 0 0] wx ∧ Fr g (g + 1) w3 wx ∧ Cur g (m + 300 - 40 * j + 8) wx)
      case first =>
        cases t
        · go_wp2_with fail
          go_meet
          exact ⟨0, by omega, hbx, hf5, hc5.more (by omega)⟩
        · have hpos := HT.out rfl
          go_wp2_with fail
          refine (pick_c g _ xs.length _ hc5 (by omega) (by omega)).mono ?_
          rintro e w6 ⟨q, rfl, hq0, _, hq1, hq2, hf6, hc6⟩
          obtain ⟨q, hq, rfl⟩ := pick_nat hq0 hq1 hq2 hpos
          obtain ⟨A', c', hv, _, hr6⟩ := (HD3.out.fr_ (hf5.trans hf6) hg).shape
          injection hv with hA hnn hcc
          subst hA hcc
          obtain ⟨b, off, Ai, ci, rfl, hbs, d0, _, _, _, _, _⟩ := hr6.page hq
          have hokk := HY.out xs[q] (List.getElem_mem hq)
          have hk0 : (0 : Int) ≤ (q : Int) := by omega
          have hk1 : (q : Int) < (xs.length : Int) := by omega
          have hz' := hokk.1
          have hb6 := hbx.fr hf6
          obtain ⟨_, _, _, hbc⟩ := hb6
          have e2 := hbc 2 _ rfl
          have hbn := (hbx.fr hf6).set 2 (by simp) (.int .i64 xs[q].id)
          have hfn := fr_set (p := bp) (j := 2) (u := .int .i64 xs[q].id) (hf5.trans hf6) (by omega)
          have hcn := cur_set (p := bp) (j := 2) (u := .int .i64 xs[q].id) hc6 hgb
          generalize xs[q].id = y at *
          clear hnn hq0 hq1 hq2 hr6 hokk hbc
          go_wp2_with fail
          go_meet
          exact ⟨y, by omega, hbn, hfn, hcn.more (by omega)⟩
      case rest =>
      obtain ⟨un, hun, hbx, hf6, hc6⟩ := hcut
      clear hf5 hc5 HT
      go_wp2_with fail
      refine (pick_c g _ 4 _ hc6 (by omega) (by decide)).mono ?_
      rintro e w7 ⟨q, rfl, hq0, _, hq1, _, hf7, hc7⟩
      have hq1 := hq1 (by decide)
      obtain ⟨q, rfl⟩ := Int.eq_ofNat_of_zero_le hq0
      have hbx7 := hbx.fr hf7
      have hf7 := hf6.trans hf7
      have ho7 : Own encI 1 (bp + 1) w7.heap.size w7 none [] := Own.nil (Nat.le_refl _)
      clear hbx hf6 hc6
      go_wp2_with fail
      go_loopw [8] (fun n wr => ∃ (k : Nat) (ys : List Int) (Ai : Option Addr) (ci : Nat), n = .int .i64 k ∧ k ≤ 3 ∧ ys.length + k ≤ 3 ∧ ys.length ≤ ci ∧ (∀ z ∈ ys, 0 ≤ z ∧ z ≤ 1000) ∧ Own encI 1 (bp + 1) wr.heap.size wr Ai ys ∧ BoxV g bp [.int .i64 pid, .string tl, .int .i64 un, .slice Ai ys.length ci] wr ∧ Fr g (g + 1) w3 wr ∧ Cur g (m + 300 - 40 * j + 20 - 2 * k) wr) (fun n _ => (intOf n).toNat)
      case atStart => exact ⟨q, [], none, 0, rfl, by omega, by simp; omega, by simp, by simp, ho7, hbx7, hf7, hc7.more (by omega)⟩
      case round =>
        obtain ⟨k, ys, Ai, ci, rfl, hk, hyl, hyc, hyz, hOw, hbx, hf, hc⟩ := hrel
        have HZ := Lib.hid hyz
        clear hyz hbx7 hf7 hc7 ho7
        by_cases hk0 : (0 : Int) < (k : Int)
        · go_upto_region 14 with fail
          obtain ⟨hx1, hx2, hx3, hx4⟩ := hbx
          have e3 := hx4 3 _ rfl
          have HB := Lib.hid (show BoxV g bp [.int .i64 pid, .string tl, .int .i64 un, .slice Ai ys.length ci] wr from ⟨hx1, hx2, hx3, hx4⟩)
          have HO := Lib.hid hOw
          clear hx1 hx2 hx3 hx4 hOw
          go_region_law (first
            | (go_simp; go_at_call 52; refine (pick_c g _ 30 _ (show Cur g _ wr.drew from hc) (by omega) (by decide)).mono ?_; rintro e w8 ⟨r, rfl, hr0, _, hr1, _, hf8, hc8⟩; have hr1 := hr1 (by decide); have hwr : IntKind.i64.wrap (1 + r) = 1 + r := (by rw [IntKind.wrap_i64]; omega); have hB8 := (show BoxV g bp [.int .i64 pid, .string tl, .int .i64 un, .slice Ai ys.length ci] wr.drew from HB.out).fr hf8; have e38 := hB8.2.2.2 3 _ rfl; have hO8 := (show Own encI 1 (bp + 1) wr.drew.heap.size wr.drew Ai ys from HO.out).fr hf8 (.inr (by omega)); have hs8 : bp + 1 ≤ w8.heap.size := (by have := hB8.2.1; omega))
            | (go_simp; go_at_call 42; refine (l1Put_c ys Ai ci (1 + r) w8 (bp + 1) _ hO8 hs8 hyc (by omega)).mono ?_; rintro e w9 ⟨B, c', rfl, hb9, hO9, hc9⟩; have hB9 := hB8.below hb9; have e39 := hB9.2.2.2 3 _ rfl; have f39 := hB9.2.2.1 3))
          all_goals
            have hBn := hB9.set 3 (by simp) (.slice B (putI ys (1 + r)).length c')
            have hfn := fr_set (p := bp) (j := 3) (u := .slice B (putI ys (1 + r)).length c') (((fr_drew hf).trans hf8).trans (Fr.of_below hb9)) (by omega)
            have hcn := cur_set (p := bp) (j := 3) (u := .slice B (putI ys (1 + r)).length c') (hc8.below hb9) hgb
            have hOn := (hO9.fr ((Fr.refl bp (bp + 1) w9).setCell (p := ⟨bp, 3, none⟩) (Nat.le_refl _) (Nat.lt_succ_self _) (.slice B (putI ys (1 + r)).length c')) (.inr (Nat.le_refl _))).wide (Nat.le_refl _) (show w9.heap.size ≤ (w9.setCell ⟨bp, 3, none⟩ (.slice B (putI ys (1 + r)).length c')).heap.size by simp [World.setCell]) (Nat.le_refl _)
            have hpl := putI_len ys (1 + r)
            have hpz := Lib.hid (show ∀ y ∈ putI ys (1 + r), 0 ≤ y ∧ y ≤ 1000 from fun y hy => by
              rcases (putI_mem ys (1 + r) y).1 hy with h1 | h1
              · exact HZ.out y h1
              · omega)
            generalize putI ys (1 + r) = ys2 at *
            clear hO9 hO8 hB8 hB9 e38 hf8 hc8 hb9 hwr
            go_wp2_with fail
            go_roundw
            case rel => exact ⟨k - 1, ys2, B, c', vi (by omega), by omega, by omega, hc9, hpz.out, hOn, hBn, hfn, hcn.more (by omega)⟩
            case measure => simp [intOf]; omega
        · have hkz : k = 0 := by omega
          subst hkz
          obtain ⟨hx1, hx2, hx3, hx4⟩ := hbx
          have e0 := hx4 0 _ rfl
          have e1 := hx4 1 _ rfl
          have e2 := hx4 2 _ rfl
          have e3 := hx4 3 _ rfl
          have hws : w.heap.size ≤ wr.heap.size := by have := hf3.size; have := hf.size; omega
          have hD := HD3.out.fr_ hf hg
          have hrM := hD.rdm
          have HML := Lib.hid hD.2.1
          have hmsl : ms.length ≤ 7 := by rw [hD.2.1]; omega
          have HPG := Lib.hid (pgIn_own (lo := w.heap.size) (z := pid) (t := tl) (u := un) hOw (by have := hf3.size; omega) hyc)
          have HD := Lib.hid hD
          have KE := Lib.hid (show ∀ W, Below wr.heap.size wr W → W.cell? ⟨bp, 0, none⟩ = some (.int .i64 pid) ∧ W.cell? ⟨bp, 1, none⟩ = some (.string tl) ∧ W.cell? ⟨bp, 2, none⟩ = some (.int .i64 un) ∧ W.cell? ⟨bp, 3, none⟩ = some (.slice Ai ys.length ci) from fun W hb =>
            ⟨(hb.cell (p := ⟨bp, _, none⟩) hx2).trans e0, (hb.cell (p := ⟨bp, _, none⟩) hx2).trans e1, (hb.cell (p := ⟨bp, _, none⟩) hx2).trans e2, (hb.cell (p := ⟨bp, _, none⟩) hx2).trans e3⟩)
          have hokn := Lib.hid (okP_snoc (y := ⟨pid, tl, un, ys⟩) HY.out ⟨⟨hi0, show pid ≤ 100 by omega⟩, htl, hun, show ys.length ≤ 8 by omega, HZ.out⟩)
          clear hx3 hx4 hD hOw
          go_upto_region 15 with fail
          go_cut [9] (fun v wx => ∃ ms' : List PageM, DrP w.heap.size v ms' (xs ++ [(⟨pid, tl, un, ys⟩ : Page)]) wx ∧ DrP w.heap.size (.slice A xs.length c) ms xs wx ∧ Fr g (g + 1) w3 wx ∧ Cur g (m + 300 - 40 * j + 20) wx)
          case first =>
            clear e0 e1 e2 e3
            go_region_held3 (fun W => W.cell? ⟨bp, 0, none⟩ = some (.int .i64 pid) ∧ W.cell? ⟨bp, 1, none⟩ = some (.string tl) ∧ W.cell? ⟨bp, 2, none⟩ = some (.int .i64 un) ∧ W.cell? ⟨bp, 3, none⟩ = some (.slice Ai ys.length ci)) (first | assumption | exact KE.out _ hB2 | exact KE.out _ hB1 | exact KE.out _ (hB1.alloc hB1.size _) | exact KE.out _ (by go_grown)) (first
              | ((refine step_app (o := ⟨some 62, _, _, _, _, _⟩) (by rfl) (.tmp 60) (.tmp 61) _ (by rfl) 56 (.agg #[.int .i64 0, .string ⟨#[]⟩, .int .i64 0, .slice none 0 0]) 4 56 Tryz.underlying24 infoPage (by rfl) (by decide) encPM_len onePM (base := wr.heap.size) (zs := ms) (by rfl) (by rfl) HML.out.symm (by first | exact OutR.emptyH _ _ (by simp) (by first | (simp; done) | (simp; omega)) | exact OutR.emptyHD _ _ (by simp) (by first | (simp; done) | (simp; omega)) | exact (OutR.emptyH wr _ rfl (Nat.le_refl _)).below (by go_grown)) (hrM.go (by go_grown)) (by first | omega | (simp; omega)) (by first | omega | (simp; omega)) (by first | (simp; done) | (simp; omega)) ?_; intro v1 W1 ho1 hb1 hg1; have hB1 : Below wr.heap.size wr W1 := Below.trans (by go_grown) hb1))
              | ((refine step_app (o := ⟨some 65, _, _, _, _, _⟩) (by rfl) (.tmp 62) (.tmp 64) _ (by rfl) 56 (.agg #[.int .i64 0, .string ⟨#[]⟩, .int .i64 0, .slice none 0 0]) 4 56 Tryz.underlying24 infoPage (by rfl) (by decide) encPM_len onePM (base := wr.heap.size) (m := 1) (zs := [(⟨pid, tl, un, Ai, ys.length, ci⟩ : PageM)]) (by rfl) (by rfl) rfl (by first | exact ho1 | exact ho1.below ((Below.refl _ _).alloc (Nat.le_refl _) _)) (by first | exact rd_new (x := (⟨pid, tl, un, Ai, ys.length, ci⟩ : PageM)) (vs := [.int .i64 pid, .string tl, .int .i64 un, .slice Ai ys.length ci]) rfl rfl | exact rd_onePM (hg1.cell (by simp) (by simp [Value.ownBlock, go_sem])) (hg1.cell (by simp) (by simp [Value.ownBlock, go_sem])) (hg1.cell (by simp) (by simp [Value.ownBlock, go_sem])) (hg1.cell (by simp) (by simp [Value.ownBlock, go_sem]))) (by first | omega | (simp; omega)) (by first | omega | (simp; omega)) (by have := hB1.size; simp; omega) ?_; intro v2 W2 ho2 hb2 hg2; have hB2 : Below wr.heap.size wr W2 := (by first | exact hB1.trans hb2 | exact (hB1.alloc hB1.size _).trans hb2))))
            all_goals
              rw [List.nil_append] at ho2
              have hDn := HD.out.next hws HPG.out hB2 ho2
              have hDo := HD.out.below_ hB2
              have hfx := hf.trans (Fr.of_below hB2)
              have hcx := hc.below hB2
              clear hb1 hB1 ho1 hB2 ho2 hb2 hg1 hg2 HD HPG KE hrM
              go_wp2_with fail
              go_meet
              exact ⟨_, hDn, hDo, hfx, hcx.more (by omega)⟩
          case rest =>
            obtain ⟨ms', hDn, hDo, hfc, hcc⟩ := hcut
            have hzl : (xs ++ [(⟨pid, tl, un, ys⟩ : Page)]).length ≤ xs.length + 1 := by simp
            clear e0 e1 e2 e3 HD HPG KE hrM hf hc HML hyc
            generalize xs ++ [(⟨pid, tl, un, ys⟩ : Page)] = zs at hDn hokn hzl
            obtain ⟨A9, c9, rfl, hcap9, hr9⟩ := hDn.shape
            have hsum9 : sumI zs ≤ 1048576 := by have := sum_okP hokn.out; omega
            have HDN := Lib.hid hDn
            have HDO := Lib.hid hDo
            clear hDn hDo
            go_wp2_with fail
            refine (l18Good_c zs _ _ _ hr9 hcap9 (by omega) hsum9 (hw_okP hokn.out)).mono ?_
            rintro _ w11 ⟨rfl, hb11⟩
            have hf11 := (hf3.trans hfc).trans (Fr.of_below hb11)
            have hc11 := hcc.below hb11
            clear hr9 hfc hcc
            cases hgz : goodA zs
            · go_wp2_with fail
              refine (one_c g _ 60 _ hc11 (by omega) (by decide)).mono ?_
              rintro e w12 ⟨b, rfl, hf12, hc12⟩
              cases b
              · have hDm := (HDO.out.below_ hb11).fr_ hf12 hg
                go_wp2_with fail
                go_roundw
                case rel => exact ⟨ms, xs, pid, j - 1, hDm, rfl, vi (by omega), by omega, by omega, by omega, by omega, HY.out, hf11.trans hf12, hc12.more (by omega)⟩
                case measure => simp [intOf]; omega
              · have hDm := (HDN.out.below_ hb11).fr_ hf12 hg
                go_wp2_with fail
                go_roundw
                case rel => exact ⟨ms', zs, pid, j - 1, hDm, rfl, vi (by omega), by omega, by omega, by omega, by omega, hokn.out, hf11.trans hf12, hc12.more (by omega)⟩
                case measure => simp [intOf]; omega
            · have hDm := HDN.out.below_ hb11
              go_wp2_with fail
              go_roundw
              case rel => exact ⟨ms', zs, pid, j - 1, hDm, rfl, vi (by omega), by omega, by omega, by omega, by omega, hokn.out, hf11, hc11.more (by omega)⟩
              case measure => simp [intOf]; omega
    · have hjz : j = 0 := by omega
      subst hjz
      obtain ⟨A, c, rfl, hcap, hrp⟩ := hD.shape
      have HD := Lib.hid hD
      clear hD hrp
      go_upto_region 19 with fail
      go_cut [80] (fun v wx => ∃ t : Bool, v = .bool t ∧ (t = true → 0 < xs.length) ∧ Fr g (g + 1) wr wx ∧ Cur g (m + 310) wx)
      case first =>
        by_cases h0 : 0 < xs.length
        · have h0' : (0 : Int) < (xs.length : Int) := by omega
          go_wp2_with fail
          refine (one_c g _ 16 _ hc (by omega) (by decide)).mono ?_
          rintro e w5 ⟨t, rfl, hf5, hc5⟩
          go_wp2_with fail
          go_meet
          exact ⟨_, rfl, fun _ => h0, hf5, hc5.more (by omega)⟩
        · have h0' : ¬ (0 : Int) < (xs.length : Int) := by omega
          go_wp2_with fail
          go_meet
          exact ⟨false, rfl, (by simp), Fr.refl _ _ _, hc.more (by omega)⟩
      case rest =>
      obtain ⟨t, rfl, ht, hf8, hc8⟩ := hcut
      have HT := Lib.hid ht
      have hfw := hf.trans hf8
      have hD8 := HD.out.fr_ hf8 hg
      clear ht hc hf8 hf HD
      go_upto_if 80 with fail
      go_cut [3, 10, 11] (fun v3 _ _ wx => ∃ (ms' : List PageM) (ys : List Page), v3 = .slice A xs.length c ∧ ys.length = xs.length ∧ (∀ x ∈ ys, OkP x) ∧ DrP w.heap.size (.slice A xs.length c) ms' ys wx ∧ Fr g (g + 1) w wx ∧ Cur g (m + 330) wx)
      case first =>
        cases t
        · go_wp2_with fail
          go_meet
          exact ⟨ms, xs, rfl, rfl, HY.out, hD8, hfw, hc8.more (by omega)⟩
        · have hpos := HT.out rfl
          obtain ⟨n, hn⟩ : ∃ n, xs.length = n + 1 := ⟨xs.length - 1, by omega⟩
          have hnl : n < xs.length := by omega
          have hml : n < ms.length := by rw [hD8.2.1]; exact hnl
          obtain ⟨q, c', hv, hcc, hbq, hql, hqf, _⟩ := hD8.1.openedR encPM_len (by rw [hD8.2.1]; exact hpos)
          injection hv with hA _ hc2
          subst hA hc2
          obtain ⟨_, _, _, d0, d1, d2, d3⟩ := hD8.at4 hml
          obtain ⟨hpg, hpq⟩ := hD8.2.2 n ms[n] xs[n] (List.getElem?_eq_getElem hml) (List.getElem?_eq_getElem hnl)
          have hok := HY.out xs[n] (List.getElem_mem hnl)
          generalize ms[n] = mm at *
          generalize xs[n] = pp at *
          obtain ⟨i1, t1, u1, A1, n1, c1⟩ := mm
          obtain ⟨i2, t2, u2, IT⟩ := pp
          obtain ⟨r1, r2, r3, r4, _⟩ := id hpg
          simp only at r1 r2 r3 r4 d0 d1 d2 d3 hpq
          subst r1 r2 r3 r4
          have HPG := Lib.hid hpg
          have HPQ := Lib.hid (show 0 < IT.length → ∀ b off, A1 = some ⟨b, off, none⟩ → b ≠ q from fun h b off e e2 => hpq h b off e (by rw [e2]; rfl))
          have HD8 := Lib.hid hD8
          have HL := Lib.hid hn
          have HF := Lib.hid hqf
          obtain ⟨k1, k2, k3, k4, k5⟩ := id hok
          have HK5 := Lib.hid k5
          simp only at k1 k2 k3 k4
          clear hpg hpq hD8 hqf hok k5
          rw [hn]
          have hn0 : (0 : Int) ≤ (n : Int) := by omega
          go_wp2_with fail
          have hbx := boxV_new g wc [.int .i64 i1, .string t1, .int .i64 u1, .slice A1 IT.length c1] 56 hc8.1
          have hc9 := hc8.alloc (.cells #[.int .i64 i1, .string t1, .int .i64 u1, .slice A1 IT.length c1] 56)
          have hf9 := fr_alloc (Fr.refl g (g + 1) wc) (.cells #[.int .i64 i1, .string t1, .int .i64 u1, .slice A1 IT.length c1] 56)
          have hwp : w.heap.size ≤ wc.heap.size := hfw.size
          simp only [List.toArray] at hbx
          generalize wc.alloc (.cells #[.int .i64 i1, .string t1, .int .i64 u1, .slice A1 IT.length c1] 56) = V at *
          obtain ⟨p, hp⟩ : ∃ p, p = wc.heap.size := ⟨_, rfl⟩
          rw [← hp] at hbx hwp ⊢
          have HP := Lib.hid hp
          have hn1 : p ≠ q := by omega
          have hn2 : q ≠ p := by omega
          have hgp : g < p := by omega
          have hgq : g < q := by omega
          have hqp : q < p := by rw [hp]; exact hql
          clear hc8 d0 d1 d2 d3 HF hp hql
          refine (pick_c g _ 4 _ hc9 (by omega) (by decide)).mono ?_
          rintro e w9 ⟨r, rfl, hr0, _, hr1, _, hfr, hc10⟩
          have hr1 := hr1 (by decide)
          have hbx := hbx.fr hfr
          have hf10 := hf9.trans hfr
          clear hf9 hc9 hfr
          by_cases e0 : r = 0
          · subst e0
            go_wp2_with fail
            refine (among_c g _ [0, 99, 100] _ _ _ (hc10.alloc _) (by omega) (rd_litI _ _ _) (new_ne hc10.1) (by decide) (by decide)).mono ?_
            rintro e w10 ⟨v, rfl, hv, hfa, hca⟩
            have hv : 0 ≤ v ∧ v ≤ 100 := by simp at hv; omega
            have hbx := (hbx.alloc _).fr hfa
            have hfb := (fr_alloc hf10 _).trans hfa
            clear hf10 hc10 hfa
            have hbx0 := hbx
            obtain ⟨_, hpl, hpf, hpc⟩ := hbx
            have x0 := hpc 0 _ rfl
            clear hpc
            go_upto_region 30 with fail
            have hbx2 := hbx0.set 0 (by simp) (.int .i64 v)
            have hfp := fr_set (p := p) (j := 0) (u := (.int .i64 v)) hfb (by rw [HP.out]; exact Nat.le_refl _)
            have hcp := cur_set (p := p) (j := 0) (u := (.int .i64 v)) hca hgp
            have hPf := (HPG.out.fr_ hfp hg).re v t1 u1
            generalize w10.setCell ⟨p, 0, none⟩ (.int .i64 v) = W12 at *
            clear x0 hpl hpf hbx0 hfb hca
            obtain ⟨_, hpl, hpf, hpc⟩ := hbx2
            have x0 := hpc 0 _ rfl
            have x1 := hpc 1 _ rfl
            have x2 := hpc 2 _ rfl
            have x3 := hpc 3 _ rfl
            have hDf := HD8.out.fr_ hfp hg
            obtain ⟨_, _, hqf, y0, y1, y2, y3⟩ := hDf.at4 hml
            have HX := Lib.hid (And.intro (hDf.setAt hnl hPf (HPQ.out)) (And.intro (fr_setPM (i := n) ⟨v, t1, u1, A1, IT.length, c1⟩ (hfw.trans hfp) hbq) (cur_setPM (q := q) (i := n) ⟨v, t1, u1, A1, IT.length, c1⟩ (hcp.more (show m + 310 + 2 + 2 ≤ m + 330 by omega)) hgq)))
            have hok := Lib.hid (okP_set (n := n) HY.out (y := ⟨v, t1, u1, IT⟩) ⟨hv, k2, k3, k4, HK5.out⟩)
            clear hpc hfp hDf hPf HPG HPQ HD8 hcp
            go_wp2_with fail
            go_meet
            exact ⟨_, _, by rw [HL.out], by simp, hok.out, HX.out.1, HX.out.2.1, HX.out.2.2⟩
          by_cases e1 : r = 1
          · subst e1
            go_wp2_with fail
            refine (of_c g _ [⟨#[]⟩, ⟨#[66, 101, 114, 110]⟩] _ _ _ (hc10.alloc _) (by omega) (rd_litS _ _ _) (new_ne hc10.1) (by decide) (by decide)).mono ?_
            rintro e w10 ⟨v, rfl, hv, hfa, hca⟩
            have hv : v.size ≤ 10 := by exact (show ∀ x ∈ ([⟨#[]⟩, ⟨#[66, 101, 114, 110]⟩] : List ByteArray), x.size ≤ 10 by decide) v hv
            have hbx := (hbx.alloc _).fr hfa
            have hfb := (fr_alloc hf10 _).trans hfa
            clear hf10 hc10 hfa
            have hbx0 := hbx
            obtain ⟨_, hpl, hpf, hpc⟩ := hbx
            have x1 := hpc 1 _ rfl
            clear hpc
            go_upto_region 30 with fail
            have hbx2 := hbx0.set 1 (by simp) (.string v)
            have hfp := fr_set (p := p) (j := 1) (u := (.string v)) hfb (by rw [HP.out]; exact Nat.le_refl _)
            have hcp := cur_set (p := p) (j := 1) (u := (.string v)) hca hgp
            have hPf := (HPG.out.fr_ hfp hg).re i1 v u1
            generalize w10.setCell ⟨p, 1, none⟩ (.string v) = W12 at *
            clear x1 hpl hpf hbx0 hfb hca
            obtain ⟨_, hpl, hpf, hpc⟩ := hbx2
            have x0 := hpc 0 _ rfl
            have x1 := hpc 1 _ rfl
            have x2 := hpc 2 _ rfl
            have x3 := hpc 3 _ rfl
            have hDf := HD8.out.fr_ hfp hg
            obtain ⟨_, _, hqf, y0, y1, y2, y3⟩ := hDf.at4 hml
            have HX := Lib.hid (And.intro (hDf.setAt hnl hPf (HPQ.out)) (And.intro (fr_setPM (i := n) ⟨i1, v, u1, A1, IT.length, c1⟩ (hfw.trans hfp) hbq) (cur_setPM (q := q) (i := n) ⟨i1, v, u1, A1, IT.length, c1⟩ (hcp.more (show m + 310 + 2 + 2 ≤ m + 330 by omega)) hgq)))
            have hok := Lib.hid (okP_set (n := n) HY.out (y := ⟨i1, v, u1, IT⟩) ⟨k1, hv, k3, k4, HK5.out⟩)
            clear hpc hfp hDf hPf HPG HPQ HD8 hcp
            go_wp2_with fail
            go_meet
            exact ⟨_, _, by rw [HL.out], by simp, hok.out, HX.out.1, HX.out.2.1, HX.out.2.2⟩
          by_cases e2 : r = 2
          · subst e2
            have x00 := hbx.2.2.2 0 _ rfl
            go_wp2_with fail
            refine (among_c g _ [-1, i1, 98] _ _ _ (hc10.alloc _) (by omega) (rd_litI _ _ _) (new_ne hc10.1) (by simp) (by simp)).mono ?_
            rintro e w10 ⟨v, rfl, hv, hfa, hca⟩
            have hv : -1 ≤ v ∧ v ≤ 100 := by simp at hv; omega
            clear x00
            have hbx := (hbx.alloc _).fr hfa
            have hfb := (fr_alloc hf10 _).trans hfa
            clear hf10 hc10 hfa
            have hbx0 := hbx
            obtain ⟨_, hpl, hpf, hpc⟩ := hbx
            have x2 := hpc 2 _ rfl
            clear hpc
            go_upto_region 30 with fail
            have hbx2 := hbx0.set 2 (by simp) (.int .i64 v)
            have hfp := fr_set (p := p) (j := 2) (u := (.int .i64 v)) hfb (by rw [HP.out]; exact Nat.le_refl _)
            have hcp := cur_set (p := p) (j := 2) (u := (.int .i64 v)) hca hgp
            have hPf := (HPG.out.fr_ hfp hg).re i1 t1 v
            generalize w10.setCell ⟨p, 2, none⟩ (.int .i64 v) = W12 at *
            clear x2 hpl hpf hbx0 hfb hca
            obtain ⟨_, hpl, hpf, hpc⟩ := hbx2
            have x0 := hpc 0 _ rfl
            have x1 := hpc 1 _ rfl
            have x2 := hpc 2 _ rfl
            have x3 := hpc 3 _ rfl
            have hDf := HD8.out.fr_ hfp hg
            obtain ⟨_, _, hqf, y0, y1, y2, y3⟩ := hDf.at4 hml
            have HX := Lib.hid (And.intro (hDf.setAt hnl hPf (HPQ.out)) (And.intro (fr_setPM (i := n) ⟨i1, t1, v, A1, IT.length, c1⟩ (hfw.trans hfp) hbq) (cur_setPM (q := q) (i := n) ⟨i1, t1, v, A1, IT.length, c1⟩ (hcp.more (show m + 310 + 2 + 2 ≤ m + 330 by omega)) hgq)))
            have hok := Lib.hid (okP_set (n := n) HY.out (y := ⟨i1, t1, v, IT⟩) ⟨k1, k2, hv, k4, HK5.out⟩)
            clear hpc hfp hDf hPf HPG HPQ HD8 hcp
            go_wp2_with fail
            go_meet
            exact ⟨_, _, by rw [HL.out], by simp, hok.out, HX.out.1, HX.out.2.1, HX.out.2.2⟩
          by_cases e3 : r = 3
          · subst e3
            go_wp2_with fail
            refine (among_c g _ [0, 1000] _ _ _ (hc10.alloc _) (by omega) (rd_litI _ _ _) (new_ne hc10.1) (by decide) (by decide)).mono ?_
            rintro e w10 ⟨v, rfl, hv, hfa, hca⟩
            have hv : 0 ≤ v ∧ v ≤ 1000 := by simp at hv; omega
            have hbx0 := (hbx.alloc _).fr hfa
            have hfb := (fr_alloc hf10 _).trans hfa
            have hpz : p < w10.heap.size := hbx0.2.1
            have hri := rd_litP (w10.setCell ⟨p, 3, none⟩ (.slice (some ⟨w10.heap.size, 0, none⟩) 2 2)) [v, 5] 3 w10.heap.size (by simp [World.setCell])
            clear hf10 hc10 hfa
            simp only [List.map_cons, List.map_nil] at hri
            obtain ⟨_, hpl, hpf, hpc⟩ := id hbx0
            have x3 := hpc 3 _ rfl
            clear hpc
            go_upto_region 30 with fail
            have hbx2 := (hbx0.set 3 (by simp) (.slice (some ⟨w10.heap.size, 0, none⟩) 2 2)).alloc (.cells #[.int .i64 v, .int .i64 5] 3)
            have hfp := fr_alloc (fr_set (p := p) (j := 3) (u := (.slice (some ⟨w10.heap.size, 0, none⟩) 2 2)) hfb (by rw [HP.out]; exact Nat.le_refl _)) (.cells #[.int .i64 v, .int .i64 5] 3)
            have hcp := (cur_set (p := p) (j := 3) (u := (.slice (some ⟨w10.heap.size, 0, none⟩) 2 2)) hca hgp).alloc (.cells #[.int .i64 v, .int .i64 5] 3)
            have hPf := pgIn_rd (lo := w.heap.size) (z := i1) (t := t1) (u := u1) (c := 2) hri (by simp) (fun b off e => by injection e with e; injection e with e; omega)
            simp only [List.toArray] at hPf
            generalize (w10.setCell ⟨p, 3, none⟩ (.slice (some ⟨w10.heap.size, 0, none⟩) 2 2)).alloc (.cells #[.int .i64 v, .int .i64 5] 3) = W12 at *
            clear x3 hpl hpf hbx0 hfb hca hri
            obtain ⟨_, hpl, hpf, hpc⟩ := hbx2
            have x0 := hpc 0 _ rfl
            have x1 := hpc 1 _ rfl
            have x2 := hpc 2 _ rfl
            have x3 := hpc 3 _ rfl
            have hDf := HD8.out.fr_ hfp hg
            obtain ⟨_, _, hqf, y0, y1, y2, y3⟩ := hDf.at4 hml
            have HX := Lib.hid (And.intro (hDf.setAt hnl hPf (fun _ => new_neQ (by omega))) (And.intro (fr_setPM (i := n) ⟨i1, t1, u1, some ⟨w10.heap.size, 0, none⟩, 2, 2⟩ (hfw.trans hfp) hbq) (cur_setPM (q := q) (i := n) ⟨i1, t1, u1, some ⟨w10.heap.size, 0, none⟩, 2, 2⟩ (hcp.more (show m + 310 + 2 + 2 ≤ m + 330 by omega)) hgq)))
            have hok := Lib.hid (okP_set (n := n) HY.out (y := ⟨i1, t1, u1, [v, 5]⟩) ⟨k1, k2, k3, (by simp), fun z hz => by simp at hz; omega⟩)
            clear hpc hfp hDf hPf HPG HPQ HD8 hcp
            go_wp2_with fail
            go_meet
            exact ⟨_, _, by rw [HL.out], by simp, hok.out, HX.out.1, HX.out.2.1, HX.out.2.2⟩
          omega
      case rest =>
      obtain ⟨ms', ys, rfl, hyl, hoky, hDy, hfy, hcy⟩ := hcut
      have HYY := Lib.hid hoky
      clear HT HY hD8 hfw hc8 hoky
      go_wp2_with fail
      refine (one_c g _ 24 _ hcy (by omega) (by decide)).mono ?_
      rintro e w20 ⟨b, rfl, hf20, hc20⟩
      have hD20 := hDy.fr_ hf20 hg
      have hf20 := hfy.trans hf20
      clear hDy hfy hcy
      cases b
      · have HD20 := Lib.hid hD20
        clear hD20
        go_wp2_with fail
        go_returns
        exact ⟨_, ms', ys, rfl, HD20.out, by omega, HYY.out, hf20, hc20.more (by omega)⟩
      · have hD21 := DrP.nil (lo := w.heap.size) w20 hf20.size
        have hf21 := fr_alloc hf20 (.cells #[] 56)
        have hc21 := hc20.alloc (.cells #[] 56)
        clear hD20 hf20 hc20 HYY hyl
        go_wp2_with fail
        go_loopw [3, 12] (fun u n wr => ∃ (ms : List PageM) (ys : List Page) (j : Nat), DrP w.heap.size u ms ys wr ∧ n = .int .i64 j ∧ j ≤ 13 ∧ ys.length = j ∧ (∀ x ∈ ys, OkP x) ∧ Fr g (g + 1) w wr ∧ Cur g (m + 400 + 6 * j) wr) (fun _ n _ => 14 - (intOf n).toNat)
        case atStart => exact ⟨[], [], 0, hD21, rfl, by omega, rfl, by simp, hf21, hc21.more (by omega)⟩
        case round =>
          obtain ⟨ms2, ys2, j, hD, rfl, hj, hyl, hok, hf, hc⟩ := hrel
          have HY2 := Lib.hid hok
          have HYL := Lib.hid hyl
          clear hok hyl hD21 hf21 hc21
          go_wp2_with fail
          refine (pick_c g _ 2 _ hc (by omega) (by decide)).mono ?_
          rintro e w5 ⟨r, rfl, hr0, _, hr1, _, hf5, hc5⟩
          have hr1 := hr1 (by decide)
          have hD5 := hD.fr_ hf5 hg
          have hf5 := hf.trans hf5
          clear hD hf hc
          by_cases hlt : (j : Int) < 12 + r
          · have hj0 : (0 : Int) ≤ (j : Int) := by omega
            go_wp2_with fail
            refine (of_c g _ [⟨#[98, 101, 114, 110]⟩, ⟨#[115, 104, 105, 112, 115]⟩] _ _ _ (hc5.alloc _) (by omega) (rd_litS _ _ _) (new_ne hc5.1) (by decide) (by decide)).mono ?_
            rintro e w6 ⟨t, rfl, ht, hf6, hc6⟩
            have ht : t.size ≤ 10 := by exact (show ∀ x ∈ ([⟨#[98, 101, 114, 110]⟩, ⟨#[115, 104, 105, 112, 115]⟩] : List ByteArray), x.size ≤ 10 by decide) t ht
            have hD6 := (hD5.below_ ((Below.refl _ _).alloc (Nat.le_refl _) _)).fr_ hf6 hg
            have hf6 := (fr_alloc hf5 _).trans hf6
            clear hD5 hf5 hc5
            have hws : w.heap.size ≤ w6.heap.size := hf6.size
            have hri := rd_litI w6 [(j : Int) + 1, 100 + (j : Int)] 3
            have hD7 := hD6.below_ ((Below.refl w6.heap.size w6).alloc (Nat.le_refl _) (.cells #[.int .i64 ((j : Int) + 1), .int .i64 (100 + (j : Int))] 3))
            have hf7 := fr_alloc hf6 (.cells #[.int .i64 ((j : Int) + 1), .int .i64 (100 + (j : Int))] 3)
            have hc7 := hc6.alloc (.cells #[.int .i64 ((j : Int) + 1), .int .i64 (100 + (j : Int))] 3)
            have hPG := pgIn_rd (lo := w.heap.size) (z := (j : Int) + 1) (u := (j : Int)) (t := t) (c := 2) hri (by simp) (fun b off e => by injection e with e; injection e with e; omega)
            have hbp : ∀ b, (some w6.heap.size : Option Nat) = some b → b < (w6.alloc (.cells #[.int .i64 ((j : Int) + 1), .int .i64 (100 + (j : Int))] 3)).heap.size := fun b e => by injection e with e; simp; omega
            have hpgne : ∀ b off, (some ⟨w6.heap.size, 0, none⟩ : Option Addr) = some ⟨b, off, none⟩ → u3.ownBlock ≠ some b := fun b off e e2 => by
              have := hD6.1.lt_ b e2
              injection e with e; injection e with e; omega
            simp only [List.map_cons, List.map_nil] at hPG hri
            have hs7 : (w6.alloc (.cells #[.int .i64 ((j : Int) + 1), .int .i64 (100 + (j : Int))] 3)).heap.size = w6.heap.size + 1 := by simp
            clear hD6 hf6 hc6 hri hbp
            have HW6 := Lib.hid hws
            have hD8 := hD7.below_ ((Below.refl (w6.alloc (.cells #[.int .i64 ((j : Int) + 1), .int .i64 (100 + (j : Int))] 3)).heap.size (w6.alloc (.cells #[.int .i64 ((j : Int) + 1), .int .i64 (100 + (j : Int))] 3))).alloc (Nat.le_refl _) (.cells #[.int .i64 ((j : Int) + 1), .string t, .int .i64 (j : Int), .slice (some ⟨w6.heap.size, 0, none⟩) 2 2] 56))
            have hP8 := hPG.below_ ((Below.refl (w6.alloc (.cells #[.int .i64 ((j : Int) + 1), .int .i64 (100 + (j : Int))] 3)).heap.size (w6.alloc (.cells #[.int .i64 ((j : Int) + 1), .int .i64 (100 + (j : Int))] 3))).alloc (Nat.le_refl _) (.cells #[.int .i64 ((j : Int) + 1), .string t, .int .i64 (j : Int), .slice (some ⟨w6.heap.size, 0, none⟩) 2 2] 56))
            have hml2 : ms2.length ≤ 13 := by rw [hD7.2.1, HYL.out]; exact hj
            have HD8 := Lib.hid hD8
            have HP8 := Lib.hid hP8
            have HNE := Lib.hid hpgne
            have HC7 := Lib.hid hc7
            have HF7 := Lib.hid hf7
            clear hD7 hPG hpgne hc7 hf7 hD8 hP8 hs7
            go_wp2_with (at_builtin; refine wp_appH rfl _ _ _ rfl 56 (.agg #[.int .i64 0, .string ⟨#[]⟩, .int .i64 0, .slice none 0 0]) 4 56 Tryz.underlying24 infoPage rfl (by decide) encPM_len onePM (base := w.heap.size) (m := 1) (ys := ms2) (zs := [(⟨(j : Int) + 1, t, (j : Int), some ⟨w6.heap.size, 0, none⟩, 2, 2⟩ : PageM)]) rfl rfl rfl HD8.out.1 (rd_newP (w := (w6.alloc (.cells #[.int .i64 ((j : Int) + 1), .int .i64 (100 + (j : Int))] 3))) (q := w6.heap.size + 1) (by simp) (x := (⟨(j : Int) + 1, t, (j : Int), some ⟨w6.heap.size, 0, none⟩, 2, 2⟩ : PageM)) (vs := [.int .i64 ((j : Int) + 1), .string t, .int .i64 (j : Int), .slice (some ⟨w6.heap.size, 0, none⟩) 2 2]) rfl rfl) (by omega) (by omega) (by simp; omega) ?_; intro v7 w7 ho7 hg7 hv7)
            have hDn := HD8.out.push_ HP8.out (fun _ => HNE.out) ho7 hg7 hv7
            have hbn := HD8.out.1.growA (by have := HW6.out; simp; omega) hg7
            have hcn := cur_app HC7.out hbn hg
            have hfn := fr_app HF7.out hbn (Nat.le_refl _)
            have hokn := Lib.hid (okP_snoc HY2.out (y := ⟨(j : Int) + 1, t, (j : Int), [(j : Int) + 1, 100 + (j : Int)]⟩) ⟨⟨(by simp only; omega), (by simp only; omega)⟩, ht, ⟨(by simp only; omega), (by simp only; omega)⟩, (by simp), fun z hz => by simp at hz; omega⟩)
            have hzl : (ys2 ++ [(⟨(j : Int) + 1, t, (j : Int), [(j : Int) + 1, 100 + (j : Int)]⟩ : Page)]).length = j + 1 := by rw [List.length_append, HYL.out]; rfl
            generalize ys2 ++ [(⟨(j : Int) + 1, t, (j : Int), [(j : Int) + 1, 100 + (j : Int)]⟩ : Page)] = zs at *
            clear hbn ho7 hg7 hv7 HD8 HP8 HNE HC7 HF7
            go_roundw
            case rel => exact ⟨_, zs, j + 1, hDn, by go_num, by omega, hzl, hokn.out, hfn, hcn.more (by omega)⟩
            case measure => simp [intOf]; omega
          · have HD5 := Lib.hid hD5
            clear hD5
            go_wp2_with fail
            go_returns
            exact ⟨_, ms2, ys2, rfl, HD5.out, by have := HYL.out; omega, HY2.out, hf5, hc5.more (by omega)⟩
end Go.Proofs.YtpjnlcppjcnlgaaGreatDoor
