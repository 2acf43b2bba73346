/- ExpertNames of the program: its contract. No condition but the sizes. -/
import Derived.Test.YtpnkeaeikcobfaaGreatDoorExSort
import Derived.Test.YtpnkeaeikcobfaaGreatDoorOpGood3
import Derived.Deep.DeepCutAuto
namespace Go.Proofs.YtpnkeaeikcobfaaGreatDoor
set_option linter.unusedVariables false
set_option linter.unusedSimpArgs false
open Go.RowKit Go.Maps Go.Shelf Go.Sort
attribute [local irreducible] wpQuiet
theorem cellB {w w' : World} {row : Option Nat} {b o : Nat} {v : Value} (hg : w.grownBy w' row) (h : w.cell? ⟨b, o, none⟩ = some v) (hne : some b ≠ row) : w'.cell? ⟨b, o, none⟩ = some v :=
  (World.cell?_of_block (w := w) (a := ⟨b, o, none⟩) (hg.block b (cell_lt h) hne)).trans h
set_option maxHeartbeats 800000 in
theorem names1_c (xs : List Opinion) (x y : ByteArray) (hx : x.size ≤ maxLen) (hy : y.size ≤ maxLen) (b B n : Nat) (w : World) (hb : w.cell? ⟨b, 0, none⟩ = some (.map (some B))) (hm : CntB B n xs w) :
    Calls Tryz.prog 53 #[.string x, .string y, .pointer (some ⟨b, 0, none⟩)] w fun e w' => e = .returned (.int .i64 (cfE xs x y)) ∧ ∃ q os', w' = grow (w.drewN q) os' := by
  have r1 := hm.run hy
  have r2 := hm.run hx
  have HV := Lib.hid (show cfE xs x y = orI [cmpI (cntE xs y) (cntE xs x), cmpS x y] from rfl)
  generalize (cntE xs y : Int) = cy at *
  generalize (cntE xs x : Int) = cx at *
  clear hm
  go_enter Tryz.func53, Tryz.ntmps53
  go_wp2_with (first
    | (go_at_call 55; refine (compare_c _ _ _).mono ?_; rintro e w' ⟨rfl, rfl⟩)
    | (go_at_call 56; refine (compareS_c _ _ _).mono ?_; rintro e w' ⟨rfl, rfl⟩)
    | (go_at_call 54; refine (or2_c _ _ _ _ _ (World.cell?_alloc_new _ _ _ _) (World.cell?_alloc_new _ _ _ _)).mono ?_; rintro e w' ⟨rfl, rfl⟩))
  go_returns
  exact ⟨ret_int HV.out.symm, 0, _, by rw [alloc_eq_grow]; rfl⟩
set_option maxHeartbeats 800000 in
theorem keysM_c (B : Nat) (w : World) : Calls Tryz.prog 52 #[.map (some B)] w fun e w' => e = .returned (.func (.func 71) #[] #[.pointer (some ⟨w.heap.size, 0, none⟩)]) ∧ w' = w.alloc (.cells #[.map (some B)] 67) := by
  go_enter Tryz.func52, Tryz.ntmps52
  go_wp2_with fail
  go_returns
  exact ⟨rfl, rfl⟩
theorem collect_c (Bm B n : Nat) (ys : List Opinion) (w : World) (hBm : Bm < w.heap.size) (hm : w.cell? ⟨Bm, 0, none⟩ = some (.map (some B))) (h : CntB B n ys w) (hn : n ≤ 1048576) :
    Calls Tryz.prog 69 #[.func (.func 71) #[] #[.pointer (some ⟨Bm, 0, none⟩)]] w fun e w' => ∃ (v : Value) (ts : List NmE) (ss : List (List UInt8)), e = .returned v ∧ Out encN 9 w.heap.size v ts w' ∧ Below w.heap.size w w' ∧ ts.map (fun x => x.1.data.toList) = ss ∧ ss.Nodup ∧ (∀ l, l ∈ ss ↔ ∃ y ∈ ys, y.expert.data.toList = l) ∧ ts.length ≤ n := by
  obtain ⟨D, hown, hsz, hnd, hle, hmem⟩ := h.keys
  have hml : (strKeys D).length ≤ n := by
    obtain ⟨es, rfl, _⟩ := hown.entries lawStr
    show (es.map _).length ≤ n
    rw [List.length_map]; exact hsz
  have hseq : SeqGives Fence.wide 3 Tryz.prog 71 #[.pointer (some ⟨Bm, 0, none⟩)] encStr (fun ss => ss.Perm (strKeys D)) (Maps.size D) w :=
    AnyZ.keys_gives (ρ := laysKeys_ren) { laysKeys with } Fence.wide _ trivial rfl (by omega) Bm B n D w hBm hm hown
  have cS := AnyZ.collect_in laysColl Fence.wide 5 trivial trivial rfl (by omega) 71 #[.pointer (some ⟨Bm, 0, none⟩)] trivial (enters_of Tryz.func71 (by kernel_rfl) rfl) _ (Maps.size D) (by unfold maxLen; omega) (by omega) w hseq
  refine (callsIn_wide (n := 5)).1 ?_
  refine (show CallsIn Fence.wide 5 Tryz.prog 69 _ w _ from cS).mono ?_
  rintro e w' ⟨v, ss, rfl, hp, hrow, _, hb⟩
  obtain ⟨ts, h1, h2⟩ := names_of ss fun s hs => hle s (hp.mem_iff.1 hs)
  have hl : ts.length = ss.length := by rw [← h2, List.length_map]
  refine ⟨v, ts, ss, rfl, ?_, hb, h2, hp.nodup_iff.2 hnd, fun l => hp.mem_iff.trans (hmem l), by rw [hl, hp.length_eq]; exact hml⟩
  unfold Out
  rw [hl, h1]
  exact hrow
theorem sortNames_c (xs : List Opinion) (b B n base : Nat) (v : Value) (ts : List NmE) (w : World) (hb : w.cell? ⟨b, 0, none⟩ = some (.map (some B))) (hm : CntB B n xs w) (ho : Out encN 9 base v ts w) (hlb : b < base) (hlB : B < base) (hbase : base ≤ w.heap.size) (hn : ts.length ≤ 1048576) :
    Calls Tryz.prog 70 #[v, .func (.func 53) #[] #[.pointer (some ⟨b, 0, none⟩)]] w fun e w' => e = .returned (.tuple #[]) ∧ Below base w w' ∧ Out encN 9 base v (ts.mergeSort fun x y => !(ltOf (fun x y : NmE => cfE xs x.1 y.1) y x)) w' := by
  have hord := befE_ord xs
  have hlt : ∀ x y : NmE, ltOf (fun x y : NmE => cfE xs x.1 y.1) x y = befE xs x.1 y.1 := fun x y => cfE_lt xs _ _
  have hO : SWO (ltOf (fun x y : NmE => cfE xs x.1 y.1)) := ⟨fun x => by rw [hlt]; exact hord.irr _, fun x y z h1 h2 => by rw [hlt] at *; exact hord.trans _ _ _ h1 h2, fun x y z h1 h2 => by
    rw [hlt] at *
    cases hc : befE xs x.1 z.1 with
    | false => rfl
    | true =>
      cases hz : befE xs z.1 y.1 with
      | true => rw [hord.trans _ _ _ hc hz] at h1; cases h1
      | false =>
        have e := hord.total _ _ h2 hz
        rw [e] at h1; rw [h1] at hc; cases hc⟩
  have hT : ∀ x y : NmE, ltOf (fun x y : NmE => cfE xs x.1 y.1) x y = false → ltOf (fun x y : NmE => cfE xs x.1 y.1) y x = false → x = y := fun x y h1 h2 => by
    rw [hlt] at *
    exact Subtype.ext (hord.total _ _ h1 h2)
  have hl2 : (ts.mergeSort fun x y => !(ltOf (fun x y : NmE => cfE xs x.1 y.1) y x)).length = ts.length := List.length_mergeSort ts
  rcases ho.2 with ⟨rfl, h0⟩ | ⟨g, cap, cur, rfl, hbg, hg, h1, h2, h3, h4⟩
  · have : ts = [] := List.eq_nil_of_length_eq_zero h0
    subst this
    refine (show Calls Tryz.prog 70 _ w _ from AnyF.slices_SortFunc_none (P := Tryz.prog) (ρ := laysSortF_ren) { laysSortF with } none 0 _ w).mono ?_
    rintro e w' ⟨rfl, rfl⟩
    exact ⟨rfl, Below.refl _ _ |>.mono hbase, by simpa using ho⟩
  · have hlg : g < w.heap.size := by
      rcases Nat.lt_or_ge g w.heap.size with h | h
      · exact h
      · rw [Array.getElem?_eq_none h] at hg; cases hg
    have hcmp : CmpLays1 Tryz.prog 53 #[.pointer (some ⟨b, 0, none⟩)] encN (fun x y : NmE => cfE xs x.1 y.1) g 0 ts.toArray.size w := fun m os dk _ x y =>
      have hgw := grownBy_sortedE (enc := encN) (w := w) (g := g) (n := m) (os := os) dk
      names1_c xs x.1 y.1 x.2 y.2 b B n _ (cellB hgw hb (by simp; omega)) (hm.kept hgw (by simp; omega))
    refine (show Calls Tryz.prog 70 #[.slice (some ⟨g, 0, none⟩) ts.length cap, .func (.func 53) #[] #[.pointer (some ⟨b, 0, none⟩)]] w _ from Any.slices_SortFunc_total laysSortF encN (fun _ => rfl) (fun x y : NmE => cfE xs x.1 y.1) hO 53 #[.pointer (some ⟨b, 0, none⟩)] g 0 cap ts.toArray w (enters_of Tryz.func53 (by kernel_rfl) rfl) hcmp (holds_of_blockE hg (by simpa using h4)) hlg (by simp; omega) hT).mono ?_
    rintro e w' ⟨rfl, m, os, rfl⟩
    refine ⟨rfl, Below.grown (Below.refl _ _ |>.mono hbase) (grownBy_sortedE _) hbase (fun j hj => by cases hj; exact hbg), ?_⟩
    unfold Out
    rw [hl2]
    exact ownsRow_sortedE hl2 hbg hg h1 h2 h3
set_option maxHeartbeats 800000 in
theorem sortedFunc_c (xs : List Opinion) (Bm b B n : Nat) (w : World) (hBm : Bm < w.heap.size) (hm : w.cell? ⟨Bm, 0, none⟩ = some (.map (some B))) (hb : w.cell? ⟨b, 0, none⟩ = some (.map (some B))) (h : CntB B n xs w) (hn : n ≤ 1048576) :
    Calls Tryz.prog 51 #[.func (.func 71) #[] #[.pointer (some ⟨Bm, 0, none⟩)], .func (.func 53) #[] #[.pointer (some ⟨b, 0, none⟩)]] w (RetS encS 1 (exF xs xs.length) w) := by
  have hbl : b < w.heap.size := cell_lt hb
  have hBl := h.lt
  have H := Lib.hid h
  have HB := Lib.hid hb
  have HC := Lib.hid (collect_c Bm B n xs w hBm hm h hn)
  clear h hm hb
  go_enter Tryz.func51, Tryz.ntmps51
  go_wp2_with fail
  refine HC.out.mono ?_
  rintro e w1 ⟨v, ts, ss, rfl, ho, hb1, h2, hnd, hmem, htl⟩
  have HS := Lib.hid (sortNames_c xs b B n w.heap.size v ts w1 ((hb1.cell (p := ⟨b, 0, none⟩) hbl).trans HB.out) (H.out.go hb1) ho hbl hBl hb1.size (by omega))
  have HL := Lib.hid (names_law h2 hnd hmem)
  clear ho h2 hnd hmem
  go_wp2_with fail
  refine HS.out.mono ?_
  rintro e w2 ⟨rfl, hb2, ho2⟩
  have ho3 : Out Value.string 9 w.heap.size v (exF xs xs.length) w2 := by
    unfold Out at ho2 ⊢
    rw [← HL.out, List.length_map, List.map_map]
    exact ho2
  obtain ⟨A5, c5, rfl, ho5⟩ := ho3.own
  clear ho2 ho3 HS
  go_wp2_with fail
  go_returns
  exact ⟨A5, c5, rfl, hb1.trans hb2, ho5⟩
set_option maxRecDepth 100000 in
set_option maxHeartbeats 1600000 in
theorem implExpertNames_c (xs : List Opinion) (A : Option Addr) (c : Nat) (w : World) (hr : Rd encOpinion 5 w.heap.size w A xs) (hn : xs.length ≤ 1048576) (hw : ∀ x ∈ xs, x.expert.size ≤ 9223372036854775807) :
    Calls Tryz.prog 20 #[.slice A xs.length c] w (RetL encS 1 (exV xs) (goodO xs) w) := by
  have HW := Lib.hid hw
  clear hw
  by_cases hF : goodO xs = false
  · go_enter Tryz.func20, Tryz.ntmps20
    have hbg := Below.refl w.heap.size w
    go_wp2_with fail
    refine (areOpinions_c xs _ _ _ (hr.go hbg) hn HW.out).mono ?_
    rintro e wg0 ⟨rfl, hb0⟩
    have hbg := below_via hbg hb0
    go_wp2_with fail
    go_returns
    exact ⟨_, _, ret_list (by unfold exV; rw [hF]; rfl) hF.symm, hbg, Own.none_ (by unfold exV; rw [hF]; rfl) (Nat.le_refl _)⟩
  have G0 : goodO xs = true := by simpa using hF
  clear hF
  go_enter Tryz.func20, Tryz.ntmps20
  have hbg := Below.refl w.heap.size w
  go_wp2_with fail
  refine (areOpinions_c xs _ _ _ (hr.go hbg) hn HW.out).mono ?_
  rintro e wg0 ⟨rfl, hb0⟩
  have hbg := below_via hbg hb0
  have HV := Lib.hid (show exV xs = exF xs xs.length by unfold exV; rw [G0]; rfl)
  have HG := Lib.hid G0
  have hmm := @run_makeMap Tryz.prog
  go_upto_region 4 with fail
  clear G0 hmm
  have hC := (CntB.made wg0).go ((Below.refl (wg0.alloc (.map #[] 0)).heap.size (wg0.alloc (.map #[] 0))).alloc (Nat.le_refl _) (.cells #[.map (some wg0.heap.size)] 67))
  have hcell : ((wg0.alloc (.map #[] 0)).alloc (.cells #[.map (some wg0.heap.size)] 67)).cell? ⟨wg0.heap.size + 1, 0, none⟩ = some (.map (some wg0.heap.size)) := by
    rw [show wg0.heap.size + 1 = (wg0.alloc (.map #[] 0)).heap.size by simp, World.cell?_alloc_new]; rfl
  have hbV : Below w.heap.size w ((wg0.alloc (.map #[] 0)).alloc (.cells #[.map (some wg0.heap.size)] 67)) := (hbg.alloc hbg.size _).alloc (by have := hbg.size; simp; omega) _
  have hBs := hbg.size
  generalize (wg0.alloc (.map #[] 0)).alloc (.cells #[.map (some wg0.heap.size)] 67) = V at *
  generalize wg0.heap.size = B at *
  go_wp2_with fail
  go_loopw [13] (fun i wr => ∃ k : Nat, k ≤ xs.length ∧ i = .int .i64 k ∧ CntB B k (xs.take k) wr ∧ wr.cell? ⟨B + 1, 0, none⟩ = some (.map (some B)) ∧ Below w.heap.size w wr) (fun i _ => xs.length - (intOf i).toNat)
  case atStart => exact ⟨0, Nat.zero_le _, rfl, hC, hcell, hbV⟩
  case round =>
    obtain ⟨k, hk, rfl, hCk, hck, hb⟩ := hrel
    have HC := Lib.hid hCk
    clear hC hcell hbV hCk
    by_cases hlt : k < xs.length
    · obtain ⟨b, off, rfl, hbs, d0, d1, d2, d3, d4⟩ := (hr.below hb).atOpinion hlt
      have HT := Lib.hid (take_succ_get xs k hlt)
      have hfz : xs[k].expert.size ≤ maxLen := by have := HW.out _ (List.getElem_mem hlt); unfold maxLen; omega
      have hk0 : (0 : Int) ≤ (k : Int) := by omega
      have hk1 : (k : Int) < (xs.length : Int) := by omega
      go_upto_region 7 with fail
      have hW := New.of wr [.int .i64 xs[k].item, .string xs[k].expert, .int .i64 xs[k].day, .int .i64 xs[k].says, .int .i64 xs[k].over] 35
      generalize wr.alloc (.cells #[.int .i64 xs[k].item, .string xs[k].expert, .int .i64 xs[k].day, .int .i64 xs[k].says, .int .i64 xs[k].over] 35) = W at *
      obtain ⟨hWb, hWl, hWc⟩ := hW
      have e1 := hWc 1 _ rfl
      have hckl := cell_lt hck
      have hcW := (hWb.cell (p := ⟨B + 1, 0, none⟩) hckl).trans hck
      have hCW := HC.out.go hWb
      have hbw := hb.trans (hWb.mono hb.size)
      have r1 := hCW.run hfz
      have hcl : cntE (xs.take k) xs[k].expert ≤ 1048576 := by have := cntE_le (xs.take k) xs[k].expert; rw [List.length_take] at this; omega
      have hlk : (xs.take k).length ≤ 1048576 := by rw [List.length_take]; omega
      have hlim : k < maxLen := by unfold maxLen; omega
      generalize wr.heap.size = hp at *
      clear hWc d0 d1 d2 d3 d4 hck
      go_wp2_with ((at_mapUpdate; refine wpList_count (by rfl) _ _ _ (by rfl) (by rfl) hCW hlim xs[k] (by rfl) (by rfl) hfz hlk ?_; intro w6 hC6 hg6))
      rw [← HT.out] at hC6
      have hc6 := cellB hg6 hcW (by simp)
      have hb6 := Below.grown hbw hg6 hbw.size (fun j hj => by cases hj; exact hBs)
      clear hCW hcW hbw hg6 r1
      go_roundw
      case rel => exact ⟨k + 1, by omega, by go_num, hC6, hc6, hb6⟩
      case measure => simp [intOf]; omega
    · obtain rfl : k = xs.length := by omega
      have hCx := HC.out
      rw [List.take_length] at hCx
      have hcl := cell_lt hck
      have HCK := Lib.hid hCx
      clear HC hCx
      go_wp2_with fail
      refine (keysM_c B wr).mono ?_
      rintro e w7 ⟨rfl, rfl⟩
      have hal := (Below.refl wr.heap.size wr).alloc (Nat.le_refl _) (.cells #[.map (some B)] 67)
      have hcn : (wr.alloc (.cells #[.map (some B)] 67)).cell? ⟨wr.heap.size, 0, none⟩ = some (.map (some B)) := by simp
      have HSF := Lib.hid (sortedFunc_c xs wr.heap.size (B + 1) B xs.length (wr.alloc (.cells #[.map (some B)] 67)) (by simp) hcn ((hal.cell (p := ⟨B + 1, 0, none⟩) hcl).trans hck) (HCK.out.go hal) hn)
      have hb8 := hb.trans (hal.mono hb.size)
      clear hal hcn HCK
      go_wp2_with fail
      refine HSF.out.mono ?_
      rintro e w9 ⟨A9, c9, rfl, hb9, ho9⟩
      go_wp2_with fail
      go_returns
      exact ⟨A9, c9, ret_list (by rw [HV.out]) HG.out.symm, hb8.trans (hb9.mono hb8.size), (by rw [HV.out]; exact ho9.wide hb8.size (Nat.le_refl _) (Nat.le_refl _))⟩
end Go.Proofs.YtpnkeaeikcobfaaGreatDoor
