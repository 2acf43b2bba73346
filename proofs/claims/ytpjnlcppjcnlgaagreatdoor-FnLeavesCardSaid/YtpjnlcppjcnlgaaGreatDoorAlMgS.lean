/- MergePages: the reference's contract. No condition but the sizes. -/
import Derived.Test.YtpjnlcppjcnlgaaGreatDoorAlMgP
import Derived.Test.YtpjnlcppjcnlgaaGreatDoorAlCpy3
import Derived.Test.YtpjnlcppjcnlgaaGreatDoorAlPutO
import Derived.Test.YtpjnlcppjcnlgaaGreatDoorAlGs
import Derived.Deep.RegionLaw
import Derived.Deep.DeepCutAuto
namespace Go.Proofs.YtpjnlcppjcnlgaaGreatDoor
set_option linter.unusedVariables false
set_option linter.unusedSimpArgs false
open Go.RowKit
attribute [local irreducible] wpQuiet
section
variable {xs : List Page} {id other : Int} {i k j m : Nat}
/-- The page number j as the reference has made it. -/
def mgZ (xs : List Page) (i k j : Nat) : List Int := match xs[j]?, xs[k]? with
  | some p, some q => if j = i then q.items.foldl putI p.items else p.items
  | _, _ => []
theorem mgZ_i (hi : i < xs.length) (hk : k < xs.length) : mgZ xs i k i = xs[k].items.foldl putI xs[i].items := by
  unfold mgZ; rw [List.getElem?_eq_getElem hi, List.getElem?_eq_getElem hk]; simp
theorem mgZ_n (hj : j < xs.length) (hk : k < xs.length) (h : j ≠ i) : mgZ xs i k j = xs[j].items := by
  unfold mgZ; rw [List.getElem?_eq_getElem hj, List.getElem?_eq_getElem hk]; simp [h]
theorem mgX_get (hi : i < xs.length) (hk : k < xs.length) (hj : j < xs.length) (h' : j < (mgX xs i k id other).length) : (mgX xs i k id other)[j] = ⟨xs[j].id, xs[j].title, (if xs[j].under = other then id else xs[j].under), mgZ xs i k j⟩ := by
  have e : (mgX xs i k id other)[j]? = some ⟨xs[j].id, xs[j].title, (if xs[j].under = other then id else xs[j].under), mgZ xs i k j⟩ := by
    rw [mgX_at hi hk, List.getElem?_map]
    by_cases hij : i = j
    · subst hij
      rw [List.getElem?_set_self hi, mgZ_i hi hk]
      simp only [Option.map_some, mgU, mgI]
      split <;> rfl
    · rw [List.getElem?_set_ne hij, List.getElem?_eq_getElem hj, mgZ_n hj hk (fun e => hij e.symm)]
      simp only [Option.map_some, mgU]
      split <;> rfl
  rw [List.getElem?_eq_getElem h'] at e
  injection e
/-- What the reference has put out when it has come to page j. -/
def mgT (Y : List Page) (k j : Nat) : List Page := (Y.take j).take k ++ (Y.take j).drop (k + 1)
theorem mgT_0 {Y : List Page} : mgT Y k 0 = [] := by simp [mgT]
theorem mgT_skip {Y : List Page} (hk : k < Y.length) : mgT Y k (k + 1) = mgT Y k k := by
  unfold mgT
  rw [List.take_take, List.take_take, Nat.min_eq_left (by omega), Nat.min_self, List.drop_of_length_le (by rw [List.length_take]; omega), List.drop_of_length_le (by rw [List.length_take]; omega)]
theorem mgT_put {Y : List Page} (hj : j < Y.length) (hjk : j ≠ k) : mgT Y k (j + 1) = mgT Y k j ++ [Y[j]] := by
  unfold mgT
  rw [take_succ_get Y j hj]
  have hl : (Y.take j).length = j := by rw [List.length_take]; omega
  by_cases h : j < k
  · rw [List.take_of_length_le (l := Y.take j ++ [Y[j]]) (by rw [List.length_append, hl]; simp; omega), List.take_of_length_le (l := Y.take j) (by omega), List.drop_of_length_le (l := Y.take j ++ [Y[j]]) (by rw [List.length_append, hl]; simp; omega), List.drop_of_length_le (l := Y.take j) (by omega)]
    simp
  · rw [List.take_append_of_le_length (by omega), List.drop_append_of_le_length (by omega), List.append_assoc]
theorem mgT_all {Y : List Page} : mgT Y k Y.length = Y.take k ++ Y.drop (k + 1) := by unfold mgT; rw [List.take_length]
theorem mgT_len {Y : List Page} : (mgT Y k j).length ≤ j := by
  unfold mgT
  rw [List.length_append, List.length_take, List.length_drop, List.length_take]; omega
theorem fold_succ {zs ys : List Int} (h : m < zs.length) : (zs.take (m + 1)).foldl putI ys = putI ((zs.take m).foldl putI ys) zs[m] := by
  rw [take_succ_get zs m h, List.foldl_append]; rfl
theorem fold_not (hg : goodA xs = true) (hi : i < xs.length) (hk : k < xs.length) (hik : i ≠ k) (h : m < xs[k].items.length) : ¬ xs[k].items[m] ∈ (xs[k].items.take m).foldl putI xs[i].items := fun hm => by
  rcases (mem_fold _ _ _).1 hm with h1 | h1
  · exact good_one hg hi hk hik h1 (List.getElem_mem h)
  · obtain ⟨a, ha, e⟩ := List.getElem_of_mem h1
    have ham : a < m := by simp at ha; omega
    rw [List.getElem_take] at e
    have := ascL_lt (good_base hg hk).2.2.2.2.1 m a h ham
    omega
end
set_option maxRecDepth 100000 in
set_option maxHeartbeats 8000000 in
theorem specMergePages_c (xs : List Page) (A : Option Addr) (c : Nat) (id other : Int) (w : World) (hr : RdP w.heap.size w A xs) (hcap : xs.length ≤ c) (hn : xs.length ≤ 1048576) (hs : sumI xs ≤ 1048576) (hw : ∀ x ∈ xs, x.title.size ≤ 9223372036854775807 ∧ x.items.length ≤ 9223372036854775807 ∧ ∀ z ∈ x.items, Fits z) (hid : -9223372036854775808 ≤ id ∧ id ≤ 9223372036854775807) (hot : -9223372036854775808 ≤ other ∧ other ≤ 9223372036854775807) :
    Calls Tryz.prog 12 #[.slice A xs.length c, .int .i64 id, .int .i64 other] w (RetA (mgV xs id other) (mgB xs id other) w) := by
  have HW := Lib.hid hw
  clear hw
  go_enter Tryz.func12, Tryz.ntmps12
  go_wp2_with fail
  refine (l18Find_c xs _ _ _ _ hr hn).mono ?_
  rintro _ w1 ⟨rfl, hb1⟩
  go_wp2_with fail
  refine (l18Find_c xs _ _ _ _ (hr.go hb1) hn).mono ?_
  rintro _ w2 ⟨rfl, hb2⟩
  have hbg := below_via hb1 hb2
  clear hb1 hb2
  go_wp2_with fail
  refine (l18Good_c xs _ _ _ (hr.go hbg) hcap hn hs HW.out).mono ?_
  rintro _ w3 ⟨rfl, hb3⟩
  replace hbg := below_via hbg hb3
  clear hb3
  cases hG : goodA xs with
  | false =>
    have HB := Lib.hid (mgB_bad (id := id) (other := other) hG)
    clear hG
    go_wp2_with fail
    go_returns
    exact ⟨_, _, ret_list (by rw [mgV_no HB.out]; rfl) HB.out.symm, below_via hbg (by go_grown), OwnP.none_ (mgV_no HB.out) (Nat.le_refl _)⟩
  | true =>
    have HG := Lib.hid hG
    rcases lv_of xs id hG with ⟨i, hi, ei, exi, hB1, _⟩ | ⟨ei, hB1, _⟩
    · rcases lv_of xs other hG with ⟨k, hk, ek, exk, hB2, _⟩ | ⟨ek, hB2, _⟩
      · by_cases hio : id = other
        · have hik : i = k := good_inj hG hi hk (by rw [← exi, ← exk, hio])
          have HB := Lib.hid (mgB_eq (xs := xs) hio)
          rw [ei, ek]
          subst hik
          clear hG ei ek exi exk hB1 hB2 hio
          have hi0 : ¬ (i : Int) < 0 := by omega
          go_wp2_with fail
          go_returns
          exact ⟨_, _, ret_list (by rw [mgV_no HB.out]; rfl) HB.out.symm, below_via hbg (by go_grown), OwnP.none_ (mgV_no HB.out) (Nat.le_refl _)⟩
        · have hik : i ≠ k := fun e => hio (by rw [exi, exk]; subst e; rfl)
          have HB := Lib.hid (mgB_at hB1 hB2 hio)
          have HQ := Lib.hid (mgL_at (id := id) (other := other) ei ek)
          rw [ei, ek]
          clear hG ei ek exi exk hB1 hB2 hio
          have hi0 : ¬ (i : Int) < 0 := by omega
          have hk0 : ¬ (k : Int) < 0 := by omega
          have hik0 : ((i : Int) == (k : Int)) = false := by simp only [beq_eq_false_iff_ne, ne_eq]; omega
          have hkl : xs[k].items.length ≤ 8 := (good_base HG.out hk).2.2.2.1
          have hlen := goodA_len HG.out
          have hlw := hbg.size
          have HYL := Lib.hid (mgX_len (id := id) (other := other) hi hk)
          have hC0 := Cpy.empty (OutR.empty (enc := encPM) (k := 4) (E := 56) (base := w.heap.size) w3 hlw)
          go_wp2_with fail
          go_loopw [10, 11] (fun u n wr => ∃ (j : Nat) (ix : Nat → Nat) (ms : List PageM), j ≤ xs.length ∧ n = .int .i64 j ∧ Cpy w.heap.size ix u ms (mgT (mgX xs i k id other) k j) wr ∧ Below w.heap.size w wr) (fun _ n _ => xs.length - (intOf n).toNat)
          case atStart => exact ⟨0, _, [], Nat.zero_le _, rfl, by rw [mgT_0]; exact hC0, below_via hbg (by go_grown)⟩
          case round =>
            obtain ⟨j, ix, ms, hj, rfl, hC, hb⟩ := hrel
            clear hC0
            have hml := hC.len
            have htl := mgT_len (Y := mgX xs i k id other) (k := k) (j := j)
            by_cases hlt : j < xs.length
            · have hj0 : (0 : Int) ≤ (j : Int) := by omega
              have hj1 : (j : Int) < (xs.length : Int) := by omega
              obtain ⟨b, off, Ai, ci, rfl, hbs, d0, d1, d2, d3, hci, hri⟩ := (hr.below hb).page hlt
              have hil : xs[j].items.length ≤ 8 := (good_base HG.out hlt).2.2.2.1
              go_upto_region 9 with fail
              have hW := New.of wr [.int .i64 xs[j].id, .string xs[j].title, .int .i64 xs[j].under, .slice Ai xs[j].items.length ci] 56
              have f3 : ∀ o, (wr.alloc (.cells #[.int .i64 xs[j].id, .string xs[j].title, .int .i64 xs[j].under, .slice Ai xs[j].items.length ci] 56)).frozen? ⟨wr.heap.size, o, none⟩ = false := fun o => World.frozen?_alloc_new wr #[.int .i64 xs[j].id, .string xs[j].title, .int .i64 xs[j].under, .slice Ai xs[j].items.length ci] 56 o
              generalize wr.alloc (.cells #[.int .i64 xs[j].id, .string xs[j].title, .int .i64 xs[j].under, .slice Ai xs[j].items.length ci] 56) = W at *
              obtain ⟨hWb, hWl, hWc⟩ := hW
              have e0 := hWc 0 _ rfl
              have e1 := hWc 1 _ rfl
              have e2 := hWc 2 _ rfl
              have e3 := hWc 3 _ rfl
              have hriW := (hri.more hb.size).go hWb
              have hbs2 := hb.size
              clear hWc d0 d1 d2 d3
              obtain ⟨hp, hhp⟩ : ∃ hp, wr.heap.size = hp := ⟨_, rfl⟩
              rw [hhp] at hWl e0 e1 e2 e3 f3 hWb hbs2 ⊢
              go_wp2_with fail
              refine (l1Own_c xs[j].items _ _ _ hriW (by omega)).mono ?_
              rintro _ w4 ⟨A4, c4, rfl, hb4, ho4⟩
              have hs4 := hb4.size
              replace e0 := (hb4.cell (p := ⟨hp, 0, none⟩) hWl).trans e0
              replace e1 := (hb4.cell (p := ⟨hp, 1, none⟩) hWl).trans e1
              replace e2 := (hb4.cell (p := ⟨hp, 2, none⟩) hWl).trans e2
              replace e3 := (hb4.cell (p := ⟨hp, 3, none⟩) hWl).trans e3
              replace f3 : ∀ o, w4.frozen? ⟨hp, o, none⟩ = false := fun o => (hb4.frozen (p := ⟨hp, o, none⟩) hWl).trans (f3 o)
              have hbw := hWb.trans (hb4.mono (Nat.le_of_lt hWl))
              have hWs : hp + 1 ≤ W.heap.size := hWl
              have ho4u := ho4.lt_
              have ho4l := ho4.from_
              have f33 := f3 3
              clear hriW hb4
              go_upto_if 54 with fail
              have k0 := (World.cell?_setCell_other w4 ⟨hp, 3, none⟩ ⟨hp, 0, none⟩ (.slice A4 xs[j].items.length c4) (by simp)).trans e0
              have k1 := (World.cell?_setCell_other w4 ⟨hp, 3, none⟩ ⟨hp, 1, none⟩ (.slice A4 xs[j].items.length c4) (by simp)).trans e1
              have k2 := (World.cell?_setCell_other w4 ⟨hp, 3, none⟩ ⟨hp, 2, none⟩ (.slice A4 xs[j].items.length c4) (by simp)).trans e2
              have k3 := World.cell?_setCell_same w4 ⟨hp, 3, none⟩ (.slice A4 xs[j].items.length c4) e3
              have kf : ∀ o, (w4.setCell ⟨hp, 3, none⟩ (.slice A4 xs[j].items.length c4)).frozen? ⟨hp, o, none⟩ = false := fun o => by rw [World.frozen?_setCell]; exact f3 o
              have hF := (Fr.refl hp (hp + 1) w4).setCell (p := ⟨hp, 3, none⟩) (Nat.le_refl _) (Nat.lt_succ_self _) (.slice A4 xs[j].items.length c4)
              have hb5 := hbw.setCell (p := ⟨hp, 3, none⟩) (Nat.le_refl _) (.slice A4 xs[j].items.length c4)
              clear e0 e1 e2 e3 f3 f33 hbw
              generalize w4.setCell ⟨hp, 3, none⟩ (.slice A4 xs[j].items.length c4) = w5 at *
              have ho5 := (ho4.keep_ (w' := w5) (fun g hg => hF.block g (ho4u g hg) (by have := ho4l g hg; omega))).low (lo := hp + 1) hWs
              have hp5 : hp < w5.heap.size := by have := hF.size; omega
              clear hF ho4 ho4u ho4l hWb hWl hWs
              have HH := Lib.hid hhp
              have HC := Lib.hid hC
              have HI := Lib.hid hri
              clear hhp hC hri
              obtain ⟨WR, hWR⟩ : ∃ V, V = wr := ⟨_, rfl⟩
              subst hWR
              go_cut [54] (fun _ wx => ∃ (Z : List Int) (A6 : Option Addr) (c6 : Nat), Z = mgZ xs i k j ∧ Z.length ≤ 16 ∧ wx.cell? ⟨hp, 0, none⟩ = some (.int .i64 xs[j].id) ∧ wx.cell? ⟨hp, 1, none⟩ = some (.string xs[j].title) ∧ wx.cell? ⟨hp, 2, none⟩ = some (.int .i64 xs[j].under) ∧ wx.cell? ⟨hp, 3, none⟩ = some (.slice A6 (Z).length c6) ∧ (∀ o, wx.frozen? ⟨hp, o, none⟩ = false) ∧ Out (Value.int .i64) 3 (hp + 1) (.slice A6 (Z).length c6) (Z) wx ∧ Below hp WR wx)
              case first => as_aux_lemma =>
                generalize hvb : ((j : Int) == (i : Int)) = vb
                by_cases hji : j = i
                · have hjj : vb = true := by rw [← hvb, hji]; simp
                  subst hjj
                  have HZ := Lib.hid (show mgZ xs i k j = xs[k].items.foldl putI xs[j].items by subst hji; exact mgZ_i hi hk)
                  have hjk : j ≠ k := by omega
                  clear hji
                  go_wp2_with fail
                  go_loopw [13] (fun q wx => ∃ (m : Nat) (Z : List Int) (A6 : Option Addr) (c6 : Nat), m ≤ xs[k].items.length ∧ q = .int .i64 m ∧ Hid (Z = (xs[k].items.take m).foldl putI xs[j].items) ∧ wx.cell? ⟨hp, 0, none⟩ = some (.int .i64 xs[j].id) ∧ wx.cell? ⟨hp, 1, none⟩ = some (.string xs[j].title) ∧ wx.cell? ⟨hp, 2, none⟩ = some (.int .i64 xs[j].under) ∧ wx.cell? ⟨hp, 3, none⟩ = some (.slice A6 (Z).length c6) ∧ (∀ o, wx.frozen? ⟨hp, o, none⟩ = false) ∧ Out (Value.int .i64) 3 (hp + 1) (.slice A6 (Z).length c6) (Z) wx ∧ Below hp WR wx) (fun q _ => xs[k].items.length - (intOf q).toNat)
                  case atStart => exact ⟨0, xs[j].items, A4, c4, Nat.zero_le _, rfl, Lib.hid (by simp), k0, k1, k2, k3, kf, ho5, hb5⟩
                  case round =>
                    obtain ⟨m, Z, A6, c6, hm, rfl, hZ, r0, r1, r2, r3, rf, ho6, hb6⟩ := hrel
                    clear k0 k1 k2 k3 kf ho5 hb5
                    have hZl : Z.length ≤ 16 := by
                      have h1 := fold_len (xs[k].items.take m) xs[j].items
                      rw [hZ.out]
                      have h2 : (xs[k].items.take m).length ≤ 8 := by rw [List.length_take]; omega
                      omega
                    have hb6' : Below WR.heap.size WR wr := by rw [HH.out]; exact hb6
                    have hrp := ((hr.below hb).more hb.size).below hb6'
                    obtain ⟨b2, off2, Ak, ck, hA2, hbs2', _, _, _, q3, hck, hrk⟩ := hrp.page hk
                    injection hA2 with hA2
                    injection hA2 with hA2 hA3
                    subst hA2 hA3
                    have hbz : WR.heap.size ≤ wr.heap.size := hb6.size
                    have hk9 : (0 : Int) ≤ (k : Int) := by omega
                    have hk8 : (k : Int) < (xs.length : Int) := by omega
                    have hm0 : (0 : Int) ≤ (m : Int) := by omega
                    have hckk : xs[k].items.length ≤ ck := hck
                    by_cases hml2 : m < xs[k].items.length
                    · obtain ⟨b3, o3, rfl, hb3, q4⟩ := hrk.int hml2
                      have HN := Lib.hid (fold_not HG.out hlt hk hjk hml2)
                      have HS := Lib.hid (fold_succ (ys := xs[j].items) hml2)
                      have hm1 : (m : Int) < (xs[k].items.length : Int) := by omega
                      have hpr : hp < wr.heap.size := cell_lt r0
                      have HO6 := Lib.hid ho6
                      have HR6 := Lib.hid rf
                      have rf3 := rf 3
                      have hZr : Rd encI 1 wr.drew.heap.size wr.drew A6 Z := by
                        obtain ⟨A', c', hv, hOw⟩ := ho6.own
                        injection hv with hv _ _
                        rw [hv]
                        exact hOw.rd
                      have hZc : Z.length ≤ c6 := by
                        obtain ⟨A', c', hv, hle⟩ := ho6.cap
                        injection hv with _ _ hv
                        rw [hv]; exact hle
                      have HPL := Lib.hid (l1PutO_c Z A6 c6 xs[k].items[m] wr.drew hZr hZc (by rw [hZ.out]; exact HN.out) (by omega))
                      clear ho6 rf hrp hrk hZr hck
                      generalize xs[k].items[m] = z at *
                      go_wp2_with fail
                      go_region_law (go_simp; go_at_call 42; refine HPL.out.mono ?_; rintro _ w7 ⟨A7, c7, rfl, hb7, ho7⟩; have s0 := (hb7.cell (p := ⟨hp, 0, none⟩) hpr).trans r0; have s1 := (hb7.cell (p := ⟨hp, 1, none⟩) hpr).trans r1; have s2 := (hb7.cell (p := ⟨hp, 2, none⟩) hpr).trans r2; have s3 := (hb7.cell (p := ⟨hp, 3, none⟩) hpr).trans r3; have sf : ∀ o, w7.frozen? ⟨hp, o, none⟩ = false := fun o => (hb7.frozen (p := ⟨hp, o, none⟩) hpr).trans (HR6.out o))
                      all_goals
                        have hs7 : wr.heap.size ≤ w7.heap.size := hb7.size
                        have t0 := (World.cell?_setCell_other w7 ⟨hp, 3, none⟩ ⟨hp, 0, none⟩ (.slice A7 (putI Z z).length c7) (by simp)).trans s0
                        have t1 := (World.cell?_setCell_other w7 ⟨hp, 3, none⟩ ⟨hp, 1, none⟩ (.slice A7 (putI Z z).length c7) (by simp)).trans s1
                        have t2 := (World.cell?_setCell_other w7 ⟨hp, 3, none⟩ ⟨hp, 2, none⟩ (.slice A7 (putI Z z).length c7) (by simp)).trans s2
                        have t3 := World.cell?_setCell_same w7 ⟨hp, 3, none⟩ (.slice A7 (putI Z z).length c7) s3
                        have tf : ∀ o, (w7.setCell ⟨hp, 3, none⟩ (.slice A7 (putI Z z).length c7)).frozen? ⟨hp, o, none⟩ = false := fun o => by rw [World.frozen?_setCell]; exact sf o
                        have hF := (Fr.refl hp (hp + 1) w7).setCell (p := ⟨hp, 3, none⟩) (Nat.le_refl _) (Nat.lt_succ_self _) (.slice A7 (putI Z z).length c7)
                        have hb7' : Below wr.heap.size wr w7 := (Below.refl wr.heap.size wr).drew.trans hb7
                        have hb8 := (hb6.trans (hb7'.mono (Nat.le_of_lt hpr))).setCell (p := ⟨hp, 3, none⟩) (Nat.le_refl _) (.slice A7 (putI Z z).length c7)
                        have h7l : ∀ g, (Value.slice A7 (putI Z z).length c7).ownBlock = some g → wr.heap.size ≤ g := fun g hg => ho7.from_ g hg
                        have ho8 := (ho7.keep_ (w' := w7.setCell ⟨hp, 3, none⟩ (.slice A7 (putI Z z).length c7)) (fun g hg => hF.block g (ho7.lt_ g hg) (by have := h7l g hg; omega))).low (lo := hp + 1) hpr
                        clear s0 s1 s2 s3 sf hF hb7 hb7' ho7 h7l r0 r1 r2 r3 rf3
                        go_wp2_with fail
                        go_roundw
                        case rel => exact ⟨m + 1, putI Z z, A7, c7, by omega, by go_num, Lib.hid (by rw [HS.out, hZ.out]), t0, t1, t2, t3, tf, ho8, hb8⟩
                        case measure => simp [intOf]; omega
                    · obtain rfl : m = xs[k].items.length := by omega
                      have hZe : Z = mgZ xs i k j := by rw [HZ.out, hZ.out, List.take_length]
                      have HZE := Lib.hid hZe
                      clear hZe hml2
                      go_wp2_with fail
                      go_meet
                      exact ⟨Z, A6, c6, HZE.out, hZl, r0, r1, r2, r3, rf, ho6, hb6⟩
                · have hjj : vb = false := by rw [← hvb]; simp only [beq_eq_false_iff_ne, ne_eq]; omega
                  subst hjj
                  have HZ := Lib.hid (mgZ_n hlt hk hji)
                  clear hji
                  go_wp2_with fail
                  go_meet
                  exact ⟨xs[j].items, A4, c4, HZ.out.symm, by omega, k0, k1, k2, k3, kf, ho5, hb5⟩
              case rest => as_aux_lemma =>
                obtain ⟨Z, A6, c6, hZ, hZl, r0, r1, r2, r3, rf, ho6, hb6⟩ := hcut
                have HZ := Lib.hid hZ
                clear hZ k0 k1 k2 k3 kf ho5 hb5
                have HR6 := Lib.hid rf
                have HO6 := Lib.hid ho6
                have hpc : hp < wc.heap.size := cell_lt r0
                have rf2 := rf 2
                clear rf ho6
                go_upto_if 80 with fail
                obtain ⟨U, hU⟩ : ∃ U, U = if xs[j].under = other then id else xs[j].under := ⟨_, rfl⟩
                have HU := Lib.hid hU
                clear hU
                go_cut [80] (fun _ wx => wx.cell? ⟨hp, 0, none⟩ = some (.int .i64 xs[j].id) ∧ wx.cell? ⟨hp, 1, none⟩ = some (.string xs[j].title) ∧ wx.cell? ⟨hp, 2, none⟩ = some (.int .i64 U) ∧ wx.cell? ⟨hp, 3, none⟩ = some (.slice A6 (Z).length c6) ∧ (∀ o, wx.frozen? ⟨hp, o, none⟩ = false) ∧ Out (Value.int .i64) 3 (hp + 1) (.slice A6 (Z).length c6) (Z) wx ∧ Below hp WR wx)
                case first => as_aux_lemma =>
                  by_cases hu : xs[j].under = other
                  · have hUe : U = id := by rw [HU.out, if_pos hu]
                    have hu' : (xs[j].under == other) = true := by simpa using hu
                    have t0 := (World.cell?_setCell_other wc ⟨hp, 2, none⟩ ⟨hp, 0, none⟩ (.int .i64 id) (by simp)).trans r0
                    have t1 := (World.cell?_setCell_other wc ⟨hp, 2, none⟩ ⟨hp, 1, none⟩ (.int .i64 id) (by simp)).trans r1
                    have t2 := World.cell?_setCell_same wc ⟨hp, 2, none⟩ (.int .i64 id) r2
                    have t3 := (World.cell?_setCell_other wc ⟨hp, 2, none⟩ ⟨hp, 3, none⟩ (.int .i64 id) (by simp)).trans r3
                    have tf : ∀ o, (wc.setCell ⟨hp, 2, none⟩ (.int .i64 id)).frozen? ⟨hp, o, none⟩ = false := fun o => by rw [World.frozen?_setCell]; exact HR6.out o
                    have hF := (Fr.refl hp (hp + 1) wc).setCell (p := ⟨hp, 2, none⟩) (Nat.le_refl _) (Nat.lt_succ_self _) (.int .i64 id)
                    have hb8 := hb6.setCell (p := ⟨hp, 2, none⟩) (Nat.le_refl _) (.int .i64 id)
                    have ho8 := HO6.out.keep_ (w' := wc.setCell ⟨hp, 2, none⟩ (.int .i64 id)) (fun g hg => hF.block g (HO6.out.lt_ g hg) (by have := HO6.out.from_ g hg; omega))
                    have HX := Lib.hid (And.intro t0 (And.intro t1 (And.intro t2 (And.intro t3 (And.intro tf (And.intro ho8 hb8))))))
                    clear t0 t1 t2 t3 tf hF hb8 ho8 HU hu
                    subst hUe
                    go_wp2_with fail
                    go_meet
                    exact HX.out
                  · have hUe : U = xs[j].under := by rw [HU.out, if_neg hu]
                    have hu' : (xs[j].under == other) = false := by simpa using hu
                    clear HU hu
                    subst hUe
                    go_wp2_with fail
                    go_meet
                    exact ⟨r0, r1, r2, r3, HR6.out, HO6.out, hb6⟩
                case rest => as_aux_lemma =>
                  obtain ⟨t0, t1, t2, t3, tf, ho8, hb8⟩ := hcut
                  clear r0 r1 r2 r3 HR6 HO6 hb6 rf2
                  have hjY : j < (mgX xs i k id other).length := by rw [HYL.out]; exact hlt
                  have hkY : k < (mgX xs i k id other).length := by rw [HYL.out]; exact hk
                  have HG1 := Lib.hid (mgX_get (id := id) (other := other) hi hk hlt hjY)
                  have hb8' : Below WR.heap.size WR wc := by rw [HH.out]; exact hb8
                  have hbl8 := hb.trans (hb8'.mono hb.size)
                  have hpc2 : hp < wc.heap.size := cell_lt t0
                  by_cases hjk : j = k
                  · have HT := Lib.hid (show mgT (mgX xs i k id other) k j = mgT (mgX xs i k id other) k (j + 1) by rw [hjk]; exact (mgT_skip hkY).symm)
                    have hne : ((j : Int) != (k : Int)) = false := by rw [hjk]; simp
                    have hC8 := HC.out.go hb8'
                    rw [HT.out] at hC8
                    have HC8 := Lib.hid hC8
                    clear hC8 hjk HC
                    go_wp2_with fail
                    go_roundw
                    case rel => exact ⟨j + 1, ix, ms, by omega, by go_num, HC8.out, hbl8⟩
                    case measure => simp [intOf]; omega
                  · have HT := Lib.hid (mgT_put (k := k) hjY hjk)
                    have hne : ((j : Int) != (k : Int)) = true := by simp only [bne_iff_ne, ne_eq]; omega
                    have hpg : (mgX xs i k id other)[j] = ⟨xs[j].id, xs[j].title, U, Z⟩ := by rw [HG1.out, HU.out, HZ.out]
                    have HPG := Lib.hid hpg
                    have hal := (Below.refl wc.heap.size wc).alloc (Nat.le_refl _) (.cells #[.int .i64 xs[j].id, .string xs[j].title, .int .i64 U, .slice A6 Z.length c6] 56)
                    have hb9 : Below WR.heap.size WR (wc.alloc (.cells #[.int .i64 xs[j].id, .string xs[j].title, .int .i64 U, .slice A6 Z.length c6] 56)) := hb8'.trans (hal.mono hb8'.size)
                    have ho9 := ho8.below hal
                    have hout := HC.out.out.below hb9
                    have hn4 : (ms.length + 1) * 56 ≤ 140737488355328 := by omega
                    have hws := hbl8.size
                    have HHP := Lib.hid (show WR.heap.size ≤ hp + 1 by have := HH.out; omega)
                    clear hpg hjk
                    go_wp2_with (at_builtin; refine wp_appH rfl _ _ _ rfl 56 (.agg #[.int .i64 0, .string ⟨#[]⟩, .int .i64 0, .slice none 0 0]) 4 56 Tryz.underlying24 infoPage rfl (by decide) encPM_len onePM (base := w.heap.size) (m := 1) (ys := ms) (zs := [(⟨xs[j].id, xs[j].title, U, A6, Z.length, c6⟩ : PageM)]) rfl rfl rfl hout (rd_new (x := (⟨xs[j].id, xs[j].title, U, A6, Z.length, c6⟩ : PageM)) (vs := [.int .i64 xs[j].id, .string xs[j].title, .int .i64 U, .slice A6 Z.length c6]) rfl rfl) (by omega) (by omega) (by simp; omega) ?_; intro v7 w7 ho7 hg7 hv7)
                    obtain ⟨ix', hC7⟩ := HC.out.push (p := ⟨xs[j].id, xs[j].title, U, Z⟩) hb9 (by have := hb.size; have := HHP.out; omega) ho9 HHP.out ho7 hg7 hv7
                    rw [← HPG.out, ← HT.out] at hC7
                    have hbl := Below.grown (hb.trans (hb9.mono hb.size)) hg7 (by simp; omega) (fun g hg => HC.out.out.from_ g hg)
                    go_roundw
                    case rel => exact ⟨j + 1, ix', _, by omega, by go_num, hC7, hbl⟩
                    case measure => simp [intOf]; omega
            · obtain rfl : j = xs.length := by omega
              have hY : mgT (mgX xs i k id other) k xs.length = mgW xs i k id other := by rw [← HYL.out, mgT_all]; rfl
              rw [hY] at hC
              obtain ⟨A5, c5, rfl, hcap5, hOw⟩ := hC.shape
              have HHW := Lib.hid (mgW_hw (id := id) (other := other) HG.out hi hk HW.out)
              have HWL := Lib.hid (mgW_len (id := id) (other := other) hi hk)
              obtain ⟨Q, hQ⟩ : ∃ Q, mgW xs i k id other = Q := ⟨_, rfl⟩
              have HPQ := Lib.hid (HQ.out.trans hQ)
              rw [hQ] at HHW HWL hcap5 hOw ⊢
              have hQl : Q.length ≤ 12 := by have := HWL.out; omega
              have hsQ : sumI Q ≤ 1048576 := by
                have h1 := sumI_bd Q 16 HHW.out.2
                have h2 : Q.length * 16 ≤ 12 * 16 := Nat.mul_le_mul_right 16 hQl
                omega
              clear hC hQ hY htl hml HYL hlt
              go_wp2_with fail
              refine (l18Good_c Q _ c5 wr hOw.rd hcap5 (by omega) hsQ HHW.out.1).mono ?_
              rintro _ w9 ⟨rfl, hb10⟩
              replace hOw := hOw.go hb10
              have hbl := below_via hb hb10
              cases hgd : goodA Q with
              | true =>
                have HB := Lib.hid (HB.out.trans ((congrArg goodA HPQ.out).trans hgd))
                clear hgd
                go_wp2_with fail
                go_returns
                exact ⟨_, _, ret_list (by rw [mgV_yes HB.out, HPQ.out]) HB.out.symm, hbl, (hOw.wide (Nat.le_refl _) hb10.size (Nat.le_refl _)).cast (by rw [mgV_yes HB.out, HPQ.out])⟩
              | false =>
                have HB := Lib.hid (HB.out.trans ((congrArg goodA HPQ.out).trans hgd))
                clear hgd
                go_wp2_with fail
                go_returns
                exact ⟨_, _, ret_list (by rw [mgV_no HB.out]; rfl) HB.out.symm, below_via hbl (by go_grown), OwnP.none_ (mgV_no HB.out) (Nat.le_refl _)⟩
      · have HB := Lib.hid (mgB_lv2 (id := id) hB2)
        rw [ei, ek]
        clear hG ei ek exi hB1 hB2
        have hi0 : ¬ (i : Int) < 0 := by omega
        go_wp2_with fail
        go_returns
        exact ⟨_, _, ret_list (by rw [mgV_no HB.out]; rfl) HB.out.symm, below_via hbg (by go_grown), OwnP.none_ (mgV_no HB.out) (Nat.le_refl _)⟩
    · have HB := Lib.hid (mgB_lv1 (other := other) hB1)
      rw [ei]
      clear hG ei hB1
      go_wp2_with fail
      go_returns
      exact ⟨_, _, ret_list (by rw [mgV_no HB.out]; rfl) HB.out.symm, below_via hbg (by go_grown), OwnP.none_ (mgV_no HB.out) (Nat.le_refl _)⟩
end Go.Proofs.YtpjnlcppjcnlgaaGreatDoor
