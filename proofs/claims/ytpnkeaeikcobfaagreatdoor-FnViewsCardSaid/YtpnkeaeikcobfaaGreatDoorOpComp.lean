/- A list of numbers sorted and without repeats is what comes of putting them in one by one. Plain. -/
import Derived.Test.YtpnkeaeikcobfaaGreatDoorPutPlain
import Derived.Lib.SlicesCompact
import Derived.Test.YtpnkeaeikcobfaaGreatDoorApp
import Derived.Ground.NamesProg
import Derived.Ground.Names2Prog
import Derived.Shelf.Sort.Plain
import Derived.Shelf.Slices.CompactI
import Derived.Shelf.Slices.In.SortNone
import Derived.Sort.OwnSortedInts
import Derived.Lib.OwnBridge
import Derived.Test.YtpnkeaeikcobfaaGreatDoorOpDisp
namespace Go.Proofs.YtpnkeaeikcobfaaGreatDoor
set_option linter.unusedVariables false
set_option linter.unusedSimpArgs false
theorem bang {zs : List Int} {j : Nat} (h : j < zs.length) : zs.toArray[j]! = zs[j] := by simp [h]
theorem compact_mem (zs : List Int) : ∀ x, x ∈ Go.Lib.compact zs ↔ x ∈ zs := by
  intro x
  unfold Go.Lib.compact Go.Lib.compactUpTo
  simp only [List.mem_map, List.mem_filter, List.mem_range]
  constructor
  · rintro ⟨j, ⟨hj, _⟩, rfl⟩
    rw [bang hj]; exact List.getElem_mem hj
  · intro hx
    obtain ⟨j, hj, rfl⟩ := List.getElem_of_mem hx
    have key : ∀ n (h : n < zs.length), ∃ a, (a < zs.length ∧ Go.Lib.keeps zs.toArray a = true) ∧ zs.toArray[a]! = zs[n] := by
      intro n
      induction n with
      | zero => intro h; exact ⟨0, ⟨h, Go.Lib.keeps_lt_one _ 0 (by omega)⟩, bang h⟩
      | succ n ih =>
        intro h
        by_cases e : zs.toArray[n + 1]! = zs.toArray[n + 1 - 1]!
        · obtain ⟨a, ha, hb⟩ := ih (by omega)
          refine ⟨a, ha, hb.trans ?_⟩
          rw [show n + 1 - 1 = n from rfl, bang h, bang (by omega)] at e
          exact e.symm
        · exact ⟨n + 1, ⟨h, Go.Lib.keeps_pos e⟩, bang h⟩
    exact key j hj
theorem compact_asc {zs : List Int} (hs : zs.Pairwise (· ≤ ·)) : asc (Go.Lib.compact zs) := by
  unfold asc Go.Lib.compact Go.Lib.compactUpTo
  rw [List.pairwise_map]
  have hr : ((List.range zs.length).filter (Go.Lib.keeps zs.toArray)).Pairwise (· < ·) := List.Pairwise.filter _ List.pairwise_lt_range
  refine List.Pairwise.imp_of_mem ?_ hr
  intro i j hi hj hij
  rw [List.mem_filter, List.mem_range] at hi hj
  rw [bang hi.1, bang hj.1]
  have hk := hj.2
  simp only [Go.Lib.keeps, decide_eq_true_eq] at hk
  have hj1 : j - 1 < zs.length := by omega
  rw [bang hj.1, bang hj1] at hk
  have h1 : zs[j - 1] ≤ zs[j] := List.pairwise_iff_getElem.1 hs (j - 1) j hj1 hj.1 (by omega)
  have h2 : zs[i] ≤ zs[j - 1] := by
    rcases Nat.lt_or_ge i (j - 1) with h | h
    · exact List.pairwise_iff_getElem.1 hs i (j - 1) hi.1 hj1 h
    · have : i = j - 1 := by omega
      subst this; exact Int.le_refl _
  rcases hk with hk | hk
  · omega
  · have : zs[j] ≠ zs[j - 1] := hk
    omega
theorem compact_puts (zs : List Int) : Go.Lib.compact (zs.mergeSort fun x y => decide (x ≤ y)) = puts zs := by
  apply asc_ext _ _ (compact_asc ?_) (puts_asc _)
  · intro x; rw [compact_mem, puts_mem, List.mem_mergeSort]
  · have := List.pairwise_mergeSort (le := fun (x y : Int) => decide (x ≤ y)) (fun a b c h1 h2 => by simp only [decide_eq_true_eq] at *; omega) (fun a b => by simp only [Bool.or_eq_true, decide_eq_true_eq]; omega) zs
    exact this.imp (fun h => by simpa using h)
end Go.Proofs.YtpnkeaeikcobfaaGreatDoor
namespace Go.Proofs.YtpnkeaeikcobfaaGreatDoor
set_option linter.unusedVariables false
set_option linter.unusedSimpArgs false
open Go.RowKit Go.Shelf Go.Sort
def laysSort_ren : Go.Shelf.Ren := ⟨fun | 189 => 34 | 125 => 64 | 257 => 63 | 128 => 84 | 129 => 85 | 294 => 75 | 295 => 76 | 296 => 77 | 297 => 78 | 298 => 79 | 299 => 80 | 216 => 81 | 300 => 82 | 301 => 83 | 328 => 89 | 329 => 90 | 330 => 91 | 331 => 92 | 332 => 93 | 215 => 72 | 343 => 106 | n => n, fun | 28 => 29 | 3 => 3 | 46 => 82 | 0 => 0 | 51 => 95 | 53 => 55 | 4 => 4 | 183 => 88 | 182 => 87 | 131 => 27 | 5 => 5 | 9 => 9 | 218 => 100 | 222 => 104 | 228 => 115 | 229 => 116 | n => n, fun | n => n⟩
theorem laysSort : Go.Proofs.Lays.n189 Tryz.prog laysSort_ren := {
  mixed := by kernel_rfl
  f125 := Tryz.func64.trans (congrArg some (by kernel_rfl))
  f128 := Tryz.func84.trans (congrArg some (by kernel_rfl))
  f129 := Tryz.func85.trans (congrArg some (by kernel_rfl))
  f189 := Tryz.func34.trans (congrArg some (by kernel_rfl))
  f215 := Tryz.func72.trans (congrArg some (by kernel_rfl))
  f216 := Tryz.func81.trans (congrArg some (by kernel_rfl))
  f257 := Tryz.func63.trans (congrArg some (by kernel_rfl))
  f294 := Tryz.func75.trans (congrArg some (by kernel_rfl))
  f295 := Tryz.func76.trans (congrArg some (by kernel_rfl))
  f296 := Tryz.func77.trans (congrArg some (by kernel_rfl))
  f297 := Tryz.func78.trans (congrArg some (by kernel_rfl))
  f298 := Tryz.func79.trans (congrArg some (by kernel_rfl))
  f299 := Tryz.func80.trans (congrArg some (by kernel_rfl))
  f300 := Tryz.func82.trans (congrArg some (by kernel_rfl))
  f301 := Tryz.func83.trans (congrArg some (by kernel_rfl))
  f328 := Tryz.func89.trans (congrArg some (by kernel_rfl))
  f329 := Tryz.func90.trans (congrArg some (by kernel_rfl))
  f330 := Tryz.func91.trans (congrArg some (by kernel_rfl))
  f331 := Tryz.func92.trans (congrArg some (by kernel_rfl))
  f332 := Tryz.func93.trans (congrArg some (by kernel_rfl))
  f343 := Tryz.func106.trans (congrArg some (by kernel_rfl))
  t0 := Tryz.underlying0
  a0 := Tryz.isAgg0
  z0 := Tryz.sizeOf0
  v0 := Tryz.zeroValue0
  t3 := Tryz.underlying3
  a3 := Tryz.isAgg3
  z3 := Tryz.sizeOf3
  v3 := Tryz.zeroValue3
  t4 := Tryz.underlying4
  a4 := Tryz.isAgg4
  z4 := Tryz.sizeOf4
  v4 := Tryz.zeroValue4
  t5 := Tryz.underlying5
  a5 := Tryz.isAgg5
  z5 := Tryz.sizeOf5
  v5 := Tryz.zeroValue5
  t9 := Tryz.underlying9
  a9 := Tryz.isAgg9
  z9 := Tryz.sizeOf9
  v9 := Tryz.zeroValue9
  t28 := Tryz.underlying29
  a28 := Tryz.isAgg29
  z28 := Tryz.sizeOf29
  v28 := Tryz.zeroValue29
  t46 := Tryz.underlying82
  a46 := Tryz.isAgg82
  z46 := Tryz.sizeOf82
  v46 := Tryz.zeroValue82
  t51 := Tryz.underlying95
  a51 := Tryz.isAgg95
  z51 := Tryz.sizeOf95
  v51 := Tryz.zeroValue95
  t53 := Tryz.underlying55
  a53 := Tryz.isAgg55
  z53 := Tryz.sizeOf55
  v53 := Tryz.zeroValue55
  t131 := Tryz.underlying27
  a131 := Tryz.isAgg27
  z131 := Tryz.sizeOf27
  v131 := Tryz.zeroValue27
  t182 := Tryz.underlying87
  a182 := Tryz.isAgg87
  z182 := Tryz.sizeOf87
  v182 := Tryz.zeroValue87
  t183 := Tryz.underlying88
  a183 := Tryz.isAgg88
  z183 := Tryz.sizeOf88
  v183 := Tryz.zeroValue88
  t218 := Tryz.underlying100
  a218 := Tryz.isAgg100
  z218 := Tryz.sizeOf100
  v218 := Tryz.zeroValue100
  t222 := Tryz.underlying104
  a222 := Tryz.isAgg104
  z222 := Tryz.sizeOf104
  v222 := Tryz.zeroValue104
  t228 := Tryz.underlying115
  a228 := Tryz.isAgg115
  z228 := Tryz.sizeOf115
  v228 := Tryz.zeroValue115
  t229 := Tryz.underlying116
  a229 := Tryz.isAgg116
  z229 := Tryz.sizeOf116
  v229 := Tryz.zeroValue116 }
def laysCompact_ren : Go.Shelf.Ren := ⟨fun | 20 => 35 | n => n, fun | 22 => 29 | 3 => 3 | 4 => 4 | 0 => 0 | n => n, fun | n => n⟩
theorem laysCompact : Go.Proofs.Lays2.n20 Tryz.prog laysCompact_ren := {
  mixed := by kernel_rfl
  f20 := Tryz.func35.trans (congrArg some (by kernel_rfl))
  t0 := Tryz.underlying0
  a0 := Tryz.isAgg0
  z0 := Tryz.sizeOf0
  v0 := Tryz.zeroValue0
  t3 := Tryz.underlying3
  a3 := Tryz.isAgg3
  z3 := Tryz.sizeOf3
  v3 := Tryz.zeroValue3
  t4 := Tryz.underlying4
  a4 := Tryz.isAgg4
  z4 := Tryz.sizeOf4
  v4 := Tryz.zeroValue4
  t22 := Tryz.underlying29
  a22 := Tryz.isAgg29
  z22 := Tryz.sizeOf29
  v22 := Tryz.zeroValue29
  i3 := by kernel_rfl }
theorem sort_c (b o cap : Nat) (zs : List Int) (w : World) (hH : Holds (Value.int .i64) w b o zs.toArray) (hb : b < w.heap.size) (hn : zs.length ≤ 2097152) :
    Calls Tryz.prog 34 #[.slice (some ⟨b, o, none⟩) zs.length cap] w fun e w' =>
      e = .returned (.tuple #[]) ∧ ∃ n os, w' = grow (putRow (Value.int .i64) (Sort.ahead w n) b o (zs.mergeSort fun x y => decide (x ≤ y)).toArray) os :=
  Any.slices_Sort_int laysSort b o cap zs w hH hb (by omega)
theorem compact_c (b o cap : Nat) (zs : List Int) (w : World) (hH : Holds (Value.int .i64) w b o zs.toArray) (hn : zs.length ≤ 2097152) (hcap : zs.length ≤ cap) :
    Calls Tryz.prog 35 #[.slice (some ⟨b, o, none⟩) zs.length cap] w fun e w' =>
      e = .returned (.slice (some ⟨b, o, none⟩) (Go.Lib.compact zs).length cap) ∧ ∃ q, w' = putRow (Value.int .i64) (Sort.ahead w q) b o (Go.Lib.compact zs ++ List.replicate (zs.length - (Go.Lib.compact zs).length) 0).toArray :=
  Any.slices_Compact_int laysCompact b o cap zs w hH (by omega) hcap
theorem sort_none (p : Option Addr) (cap : Nat) (w : World) : Calls Tryz.prog 34 #[.slice p 0 cap] w fun e w' => e = .returned (.tuple #[]) ∧ w' = w := Any.slices_Sort_int_none laysSort p cap w
theorem compact_none (p : Option Addr) (cap : Nat) (w : World) : Calls Tryz.prog 35 #[.slice p 0 cap] w fun e w' => e = .returned (.slice p 0 cap) ∧ w' = w := Any.slices_Compact_int_empty laysCompact p cap w
/-- The sort of a slice of the call's own: it holds the sorted numbers, whatever it held before; nothing older turns. -/
theorem sortOwn_c (base : Nat) (v : Value) (zs : List Int) (w : World) (E : TypeId) (ho : Out (Value.int .i64) E base v zs w) (hb : base ≤ w.heap.size) (hn : zs.length ≤ 2097152) :
    Calls Tryz.prog 34 #[v] w fun e w' => e = .returned (.tuple #[]) ∧ Below base w w' ∧ Out (Value.int .i64) E base v (zs.mergeSort fun x y => decide (x ≤ y)) w' := by
  have hl2 : (zs.mergeSort fun x y => decide (x ≤ y)).length = zs.length := List.length_mergeSort zs
  rcases ho.2 with ⟨rfl, h0⟩ | ⟨g, cap, cur, rfl, hbase, hg, h1, h2, h3, h4⟩
  · have : zs = [] := List.eq_nil_of_length_eq_zero h0
    subst this
    refine (sort_none _ _ _).mono ?_
    rintro e w' ⟨rfl, rfl⟩
    exact ⟨rfl, Below.refl _ _ |>.mono hb, by simpa using ho⟩
  · have hlt : g < w.heap.size := by
      rcases Nat.lt_or_ge g w.heap.size with h | h
      · exact h
      · rw [Array.getElem?_eq_none h] at hg; cases hg
    refine (sort_c g 0 cap zs w (holds_of_blockI hg (by simpa using h4)) hlt hn).mono ?_
    rintro e w' ⟨rfl, n, os, rfl⟩
    refine ⟨rfl, Below.grown (Below.refl _ _ |>.mono hb) (grownBy_sortedI _) hb (fun j hj => by cases hj; exact hbase), ?_⟩
    unfold Out
    rw [hl2]
    exact ownsRow_sortedI hl2 hbase hg h1 h2 h3
/-- The compaction of a slice of the call's own. -/
theorem compactOwn_c (base : Nat) (v : Value) (zs : List Int) (w : World) (E : TypeId) (ho : Out (Value.int .i64) E base v zs w) (hb : base ≤ w.heap.size) (hn : zs.length ≤ 2097152) :
    Calls Tryz.prog 35 #[v] w fun e w' => ∃ v', e = .returned v' ∧ Below base w w' ∧ Out (Value.int .i64) E base v' (Go.Lib.compact zs) w' := by
  have hle := Go.Lib.compact_length_le zs
  rcases ho.2 with ⟨rfl, h0⟩ | ⟨g, cap, cur, rfl, hbase, hg, h1, h2, h3, h4⟩
  · have : zs = [] := List.eq_nil_of_length_eq_zero h0
    subst this
    refine (compact_none _ _ _).mono ?_
    rintro e w' ⟨rfl, rfl⟩
    exact ⟨_, rfl, Below.refl _ _ |>.mono hb, ho⟩
  · refine (compact_c g 0 cap zs w (holds_of_blockI hg (by simpa using h4)) hn h1).mono ?_
    rintro e w' ⟨rfl, q, rfl⟩
    refine ⟨_, rfl, Go.Lib.below_putRow (Below.refl _ _ |>.mono hb) hbase, ?_⟩
    have hc := Go.Lib.ownsRow_putRow (q := q) (k := (Go.Lib.compact zs).length) (ys := Go.Lib.compact zs ++ List.replicate (zs.length - (Go.Lib.compact zs).length) 0) ho (by simp; omega) hle
    rw [List.take_left] at hc
    exact hc
end Go.Proofs.YtpnkeaeikcobfaaGreatDoor
namespace Go.Proofs.YtpnkeaeikcobfaaGreatDoor
set_option linter.unusedVariables false
set_option linter.unusedSimpArgs false
open Go.RowKit
attribute [local irreducible] wpQuiet
set_option maxRecDepth 100000 in
set_option maxHeartbeats 1600000 in
theorem implDisputedItems_c (xs : List Opinion) (A : Option Addr) (c : Nat) (d : Int) (w : World) (hr : Rd encOpinion 5 w.heap.size w A xs) (hn : xs.length ≤ 1048576) (hw : ∀ x ∈ xs, x.expert.size ≤ 9223372036854775807) (hd : -9223372036854775808 ≤ d ∧ d ≤ 9223372036854775807) :
    Calls Tryz.prog 8 #[.slice A xs.length c, .int .i64 d] w (RetL encI 1 (dispV xs d) (dispB xs d) w) := by
  have HW := Lib.hid hw
  clear hw
  by_cases hF : goodO xs = false
  · go_enter Tryz.func8, Tryz.ntmps8
    have hbg := Below.refl w.heap.size w
    go_wp2_with fail
    refine (areOpinions_c xs _ _ _ (hr.go hbg) hn HW.out).mono ?_
    rintro e wg0 ⟨rfl, hb0⟩
    have hbg := below_via hbg hb0
    go_wp2_with fail
    go_returns
    have HB : dispB xs d = false := by simp [dispB, hF]
    exact ⟨_, _, ret_list (by simp [dispV, HB]) HB.symm, hbg, Own.none_ (by simp [dispV, HB]) (Nat.le_refl _)⟩
  have G0 : goodO xs = true := by simpa using hF
  clear hF
  by_cases hF : inR d 0 4000 = false
  · go_enter Tryz.func8, Tryz.ntmps8
    have hbg := Below.refl w.heap.size w
    go_wp2_with fail
    refine (areOpinions_c xs _ _ _ (hr.go hbg) hn HW.out).mono ?_
    rintro e wg0 ⟨rfl, hb0⟩
    have hbg := below_via hbg hb0
    go_wp2_with fail
    refine (isDay_c _ _).mono ?_
    rintro e wp1 ⟨rfl, rfl⟩
    go_wp2_with fail
    go_returns
    have HB : dispB xs d = false := by simp [dispB, hF]
    exact ⟨_, _, ret_list (by simp [dispV, HB]) HB.symm, hbg, Own.none_ (by simp [dispV, HB]) (Nat.le_refl _)⟩
  have G1 : inR d 0 4000 = true := by simpa using hF
  clear hF
  go_enter Tryz.func8, Tryz.ntmps8
  have hbg := Below.refl w.heap.size w
  go_wp2_with fail
  refine (areOpinions_c xs _ _ _ (hr.go hbg) hn HW.out).mono ?_
  rintro e wg0 ⟨rfl, hb0⟩
  have hbg := below_via hbg hb0
  go_wp2_with fail
  refine (isDay_c _ _).mono ?_
  rintro e wp1 ⟨rfl, rfl⟩
  have HB := Lib.hid (show dispB xs d = true by simp [dispB, G0, G1])
  have HV := Lib.hid (show dispV xs d = puts (dispT xs d xs.length) by unfold dispV; rw [if_pos HB.out])
  have HG := Lib.hid G0
  go_wp2_with fail
  clear G0 G1
  go_loopw [6, 21] (fun v i wr => ∃ k : Nat, k ≤ xs.length ∧ i = .int .i64 k ∧ Out (Value.int .i64) 3 w.heap.size v (dispT xs d k) wr ∧ Below w.heap.size w wr) (fun _ i _ => xs.length - (intOf i).toNat)
  case atStart => exact ⟨0, Nat.zero_le _, rfl, Out.nil _, hbg⟩
  case round =>
    obtain ⟨k, hk, rfl, ho, hb⟩ := hrel
    clear hbg
    have hl := disp_len xs d k
    have hbz := hb.size
    by_cases hlt : k < xs.length
    · obtain ⟨b, off, rfl, hbs, d0, d1, d2, d3, d4⟩ := (hr.below hb).atOpinion hlt
      have hbw : b < wr.heap.size := Nat.lt_of_lt_of_le hbs hb.size
      have hk0 : (0 : Int) ≤ (k : Int) := by omega
      have hk1 : (k : Int) < (xs.length : Int) := by omega
      cases h1 : viewD xs xs[k].item d with
      | true =>
        have HO := Lib.hid (disp_yes hlt h1)
        have HD := Lib.hid h1
        clear h1
        go_wp2_with fail
        refine (viewOf_c xs _ _ _ _ _ ((hr.below hb).more hb.size |>.go ((Below.refl _ _).alloc (Nat.le_refl _) _)) hn HG.out).mono ?_
        rw [HD.out]
        rintro e wc ⟨rfl, hbc⟩
        obtain ⟨hcc, hff⟩ := bcell hbc
        have hcs := hbc.size
        simp only [World.size_alloc] at hcs
        have hbA : Below w.heap.size w wc := (hb.trans ((Below.refl _ _).alloc hb.size _)).trans (hbc.mono (by simp; omega))
        have hoA := (ho.below ((Below.refl _ _).alloc (Nat.le_refl _) _)).below hbc
        have hx0 := (hcc wr.heap.size 0 (by simp)).trans (World.cell?_alloc_new _ _ _ _)
        go_wp2_with (at_builtin; refine wpList_push rfl _ _ _ rfl 3 (.int .i64 0) 8 Tryz.underlying29 infoI rfl xs[k].item rfl hoA _ rfl (by simp) rfl (by omega) (by omega) (by omega) ?_; intro v1 w1 hown1 hbel1)
        go_roundw
        case rel => exact ⟨k + 1, by omega, by go_num, by rw [HO.out]; exact hown1, hbA.trans hbel1⟩
        case measure => simp [intOf]; omega
      | false =>
        have HO := Lib.hid (disp_no hlt h1)
        have HD := Lib.hid h1
        clear h1
        go_wp2_with fail
        refine (viewOf_c xs _ _ _ _ _ ((hr.below hb).more hb.size |>.go ((Below.refl _ _).alloc (Nat.le_refl _) _)) hn HG.out).mono ?_
        rw [HD.out]
        rintro e wc ⟨rfl, hbc⟩
        obtain ⟨hcc, hff⟩ := bcell hbc
        have hbA : Below w.heap.size w wc := (hb.trans ((Below.refl _ _).alloc hb.size _)).trans (hbc.mono (by simp; omega))
        have hoA := (ho.below ((Below.refl _ _).alloc (Nat.le_refl _) _)).below hbc
        go_wp2_with fail
        go_roundw
        case rel => exact ⟨k + 1, by omega, by go_num, by rw [HO.out]; exact hoA, hbA⟩
        case measure => simp [intOf]; omega
    · have hke : k = xs.length := by omega
      subst hke
      obtain ⟨L, hL⟩ : ∃ L, dispT xs d xs.length = L := ⟨_, rfl⟩
      rw [hL] at ho hl
      have HV := Lib.hid (show dispV xs d = Go.Lib.compact (L.mergeSort fun x y => decide (x ≤ y)) by rw [compact_puts, ← hL]; exact HV.out)
      clear hL
      have hl2 : (L.mergeSort fun x y => decide (x ≤ y)).length = L.length := List.length_mergeSort L
      go_wp2_with fail
      refine (sortOwn_c w.heap.size _ L _ 3 ho hbz (by omega)).mono ?_
      rintro e ws ⟨rfl, hbs1, hos⟩
      go_wp2_with fail
      have hbS := hb.trans hbs1
      refine (compactOwn_c w.heap.size _ _ _ 3 hos hbS.size (by rw [hl2]; omega)).mono ?_
      rintro e wk ⟨v', rfl, hbs2, hok⟩
      rw [← HV.out] at hok
      obtain ⟨B, c', rfl, hO⟩ := hok.own
      go_wp2_with fail
      go_returns
      exact ⟨B, c', ret_list rfl HB.out.symm, hbS.trans hbs2, hO⟩
end Go.Proofs.YtpnkeaeikcobfaaGreatDoor
