/- Contracts of RareItems: the program's and the reference's. No condition but the sizes. -/
import Derived.Test.YtebkfcdijjcefaaDoorHoMiss
import Derived.Test.YtebkfcdijjcefaaDoorPutPlain
namespace Go.Proofs.YtebkfcdijjcefaaDoor
set_option linter.unusedVariables false
set_option linter.unusedSimpArgs false
open Go.RowKit
attribute [local irreducible] wpQuiet
def numH (xs : List Hold) (z : Int) : Nat := (xs.filter (ownP z)).length
theorem ownH_num (xs : List Hold) (z : Int) : (ownH xs z).length = numH xs z := by unfold ownH numH; rw [List.length_map]
def rareP (xs : List Hold) (i : Nat) : Bool := decide (numH xs ((i : Int) + 1) = 1)
def rareL (xs : List Hold) : List Int := ((List.range 99).filter (rareP xs)).map nxt
def rareV (xs : List Hold) : List Int := if goodH xs = true then rareL xs else []
theorem rareV_len (xs : List Hold) : (rareV xs).length ≤ 2097152 := by
  unfold rareV; split
  · have := range_len (p := rareP xs) (f := nxt) (k := 99); unfold rareL; omega
  · simp
set_option maxRecDepth 100000 in
set_option maxHeartbeats 2000000 in
theorem implRareItems_c (xs : List Hold) (A : Option Addr) (c : Nat) (w : World) (hr : Rd encHold 3 w.heap.size w A xs) (hn : xs.length ≤ 1048576) (hw : ∀ x ∈ xs, x.owner.size ≤ 9223372036854775807) :
    Calls Tryd.prog 9 #[.slice A xs.length c] w (RetL encI 1 (rareV xs) (goodH xs) w) := by
  have HW := Lib.hid hw
  clear hw
  by_cases hF : goodH xs = false
  · go_enter Tryd.func9, Tryd.ntmps9
    have hbg := Below.refl w.heap.size w
    go_wp2_with fail
    refine (areHolds_c xs _ _ _ (hr.go hbg) hn HW.out).mono ?_
    rintro e wg0 ⟨rfl, hb0⟩
    have hbg := below_via hbg hb0
    go_wp2_with fail
    go_returns
    exact ⟨_, _, ret_list (by simp [rareV, hF]) hF.symm, hbg, Own.none_ (by simp [rareV, hF]) (Nat.le_refl _)⟩
  have G0 : goodH xs = true := by simpa using hF
  clear hF
  go_enter Tryd.func9, Tryd.ntmps9
  have hbg := Below.refl w.heap.size w
  go_wp2_with fail
  refine (areHolds_c xs _ _ _ (hr.go hbg) hn HW.out).mono ?_
  rintro e wg0 ⟨rfl, hb0⟩
  have hbg := below_via hbg hb0
  have HV := Lib.hid (show rareV xs = ((List.range 99).filter (rareP xs)).map nxt by simp [rareV, rareL, G0])
  have HB := Lib.hid G0
  go_wp2_with fail
  clear G0
  go_loopw [4, 5] (fun v i wr => ∃ k : Nat, k ≤ 99 ∧ i = .int .i64 ((k : Int) + 1) ∧ Out (Value.int .i64) 3 w.heap.size v (((List.range k).filter (rareP xs)).map nxt) wr ∧ Below w.heap.size w wr) (fun _ i _ => 100 - (intOf i).toNat)
  case atStart => exact ⟨0, Nat.zero_le _, rfl, Out.nil _, hbg⟩
  case round =>
    obtain ⟨k, hk, rfl, ho, hb⟩ := hrel
    clear hbg
    have hl := range_len (p := rareP xs) (f := nxt) (k := k)
    have hbz := hb.size
    by_cases hlt : k < 99
    · have hle : (k : Int) + 1 ≤ 99 := by omega
      by_cases h0 : numH xs ((k : Int) + 1) = 1
      · have h0' : (((ownH xs ((k : Int) + 1)).length : Int) == 1) = true := by rw [ownH_num, h0]; rfl
        have HK := Lib.hid (range_yes (p := rareP xs) (f := nxt) (k := k) (by simp [rareP, h0]))
        clear h0
        go_wp2_with fail
        refine (ownersOf_c xs _ _ _ _ ((hr.below hb).more hb.size) hn).mono ?_
        rintro e wc ⟨B0, c0, rfl, hbc, hO0⟩
        clear hO0
        generalize (ownH xs ((k : Int) + 1)).length = m at *
        go_wp2_with (at_builtin; refine wpList_push rfl _ _ _ rfl 3 (.int .i64 0) 8 Tryd.underlying33 infoI rfl ((k : Int) + 1) rfl (ho.below hbc) _ rfl (by simp) rfl (by omega) (by omega) (by have := hbc.size; omega) ?_; intro v1 w1 hown1 hbel1)
        go_roundw
        case rel => exact ⟨k + 1, by omega, vi (by omega), by rw [HK.out]; exact hown1, (hb.trans (hbc.mono hb.size)).trans hbel1⟩
        case measure => simp [intOf]; omega
      · have h0' : (((ownH xs ((k : Int) + 1)).length : Int) == 1) = false := by rw [ownH_num]; rw [beq_eq_false_iff_ne]; omega
        have HK := Lib.hid (range_no (p := rareP xs) (f := nxt) (k := k) (by simp [rareP, h0]))
        clear h0
        go_wp2_with fail
        refine (ownersOf_c xs _ _ _ _ ((hr.below hb).more hb.size) hn).mono ?_
        rintro e wc ⟨B0, c0, rfl, hbc, hO0⟩
        clear hO0
        generalize (ownH xs ((k : Int) + 1)).length = m at *
        go_wp2_with fail
        go_roundw
        case rel => exact ⟨k + 1, by omega, vi (by omega), by rw [HK.out]; exact ho.below hbc, hb.trans (hbc.mono hb.size)⟩
        case measure => simp [intOf]; omega
    · have hle : ¬ (k : Int) + 1 ≤ 99 := by omega
      have hke : k = 99 := by omega
      subst hke
      clear hl
      obtain ⟨L, hL⟩ : ∃ L, ((List.range 99).filter (rareP xs)).map nxt = L := ⟨_, rfl⟩
      rw [hL] at ho
      have HV := Lib.hid (HV.out.trans hL)
      clear hL
      obtain ⟨B, c', rfl, hO⟩ := ho.own
      go_wp2_with fail
      go_returns
      exact ⟨B, c', ret_list (by rw [HV.out]) HB.out.symm, hb, hO.cast HV.out.symm⟩
/-- The items of which there is just one, in the order of the list. -/
def onesH (xs : List Hold) (k : Nat) : List Int := ((xs.take k).filter (fun h => decide (numH xs h.item = 1))).map (·.item)
theorem rare_eq {xs : List Hold} (h : goodH xs = true) : puts (onesH xs xs.length) = rareL xs := by
  apply asc_ext _ _ (puts_asc _) (asc_range _ _ _ (fun i j h => by unfold nxt; omega))
  intro x
  rw [puts_mem]
  unfold onesH
  rw [List.take_length]
  simp only [List.mem_map, List.mem_filter, decide_eq_true_eq, List.mem_range, rareP, nxt]
  constructor
  · rintro ⟨a, ⟨ha, h1⟩, rfl⟩
    obtain ⟨i, hi, rfl⟩ := List.getElem_of_mem ha
    have hok := goodH_ok h hi
    simp only [Hold.ok, Bool.and_eq_true, inR_iff] at hok
    exact ⟨(xs[i].item - 1).toNat, ⟨by omega, by rw [show (((xs[i].item - 1).toNat : Int) + 1) = xs[i].item by omega]; exact h1⟩, by omega⟩
  · rintro ⟨i, ⟨hi, h1⟩, rfl⟩
    have : 0 < (xs.filter (ownP ((i : Int) + 1))).length := by unfold numH at h1; omega
    obtain ⟨a, ha⟩ := List.exists_mem_of_length_pos this
    rw [List.mem_filter] at ha
    have hz : a.item = (i : Int) + 1 := by simpa [ownP] using ha.2
    exact ⟨a, ⟨ha.1, by rw [hz]; exact h1⟩, hz⟩
theorem ones_yes {xs : List Hold} {k : Nat} (hk : k < xs.length) (h : numH xs xs[k].item = 1) : onesH xs (k + 1) = onesH xs k ++ [xs[k].item] := by
  unfold onesH; exact filt_yes (p := fun h => decide (numH xs h.item = 1)) (f := (·.item)) hk (by simpa using h)
theorem ones_no {xs : List Hold} {k : Nat} (hk : k < xs.length) (h : ¬ numH xs xs[k].item = 1) : onesH xs (k + 1) = onesH xs k := by
  unfold onesH; exact filt_no (p := fun h => decide (numH xs h.item = 1)) (f := (·.item)) hk (by simpa using h)
theorem ones_len (xs : List Hold) (k : Nat) : (onesH xs k).length ≤ k := by unfold onesH; exact filt_len
def numT (xs : List Hold) (z : Int) (m : Nat) : Nat := ((xs.take m).filter (ownP z)).length
theorem numT_yes {xs : List Hold} {z : Int} {m : Nat} (hm : m < xs.length) (h : xs[m].item = z) : numT xs z (m + 1) = numT xs z m + 1 := by
  unfold numT; rw [take_succ_get xs m hm, List.filter_append]; simp [ownP, h]
theorem numT_no {xs : List Hold} {z : Int} {m : Nat} (hm : m < xs.length) (h : ¬ xs[m].item = z) : numT xs z (m + 1) = numT xs z m := by
  unfold numT; rw [take_succ_get xs m hm, List.filter_append]; simp [ownP, h]
theorem numT_le (xs : List Hold) (z : Int) (m : Nat) : numT xs z m ≤ m := by
  unfold numT; exact Nat.le_trans (List.length_filter_le _ _) (by simp; omega)
set_option maxRecDepth 100000 in
set_option maxHeartbeats 4000000 in
theorem specRareItems_c (xs : List Hold) (A : Option Addr) (c : Nat) (w : World) (hr : Rd encHold 3 w.heap.size w A xs) (hn : xs.length ≤ 1048576) (hw : ∀ x ∈ xs, x.owner.size ≤ 9223372036854775807) :
    Calls Tryd.prog 10 #[.slice A xs.length c] w (RetL encI 1 (rareV xs) (goodH xs) w) := by
  have HW := Lib.hid hw
  clear hw
  by_cases hF : goodH xs = false
  · go_enter Tryd.func10, Tryd.ntmps10
    have hbg := (show Below w.heap.size w (w.alloc (.cells #[] 3)) by go_grown)
    have hbx := Below.refl (w.alloc (.cells #[] 3)).heap.size (w.alloc (.cells #[] 3))
    go_wp2_with fail
    refine (l19Good_c xs _ _ _ (hr.go hbg) hn HW.out).mono ?_
    rintro e wg0 ⟨rfl, hb0⟩
    have hbg := below_via hbg hb0
    have hbx := below_via hbx hb0
    go_wp2_with fail
    go_returns
    exact ⟨_, _, ret_list (by simp [rareV, hF]) hF.symm, hbg, Own.none_ (by simp [rareV, hF]) (Nat.le_refl _)⟩
  have G0 : goodH xs = true := by simpa using hF
  clear hF
  go_enter Tryd.func10, Tryd.ntmps10
  have hbg := (show Below w.heap.size w (w.alloc (.cells #[] 3)) by go_grown)
  have hbx := Below.refl (w.alloc (.cells #[] 3)).heap.size (w.alloc (.cells #[] 3))
  go_wp2_with fail
  refine (l19Good_c xs _ _ _ (hr.go hbg) hn HW.out).mono ?_
  rintro e wg0 ⟨rfl, hb0⟩
  have hbg := below_via hbg hb0
  have hbx := below_via hbx hb0
  have HV := Lib.hid (show rareV xs = puts (onesH xs xs.length) by rw [rare_eq G0]; simp [rareV, G0])
  have HB := Lib.hid G0
  go_wp2_with fail
  clear G0
  have h0 : Own encI 1 w.heap.size wg0.heap.size wg0 (some ⟨w.heap.size, 0, none⟩) (puts (onesH xs 0)) := by
    have : onesH xs 0 = [] := by simp [onesH]
    rw [this]; exact Own.nil (Nat.le_refl _)
  go_loopw [4, 5] (fun v i wr => ∃ (k : Nat) (B : Option Addr) (c' : Nat), k ≤ xs.length ∧ i = .int .i64 k ∧ v = .slice B (puts (onesH xs k)).length c' ∧ (puts (onesH xs k)).length ≤ c' ∧ Own encI 1 w.heap.size wr.heap.size wr B (puts (onesH xs k)) ∧ Below w.heap.size w wr) (fun _ i _ => xs.length - (intOf i).toNat)
  case atStart => exact ⟨0, _, 0, Nat.zero_le _, rfl, by simp [onesH, puts], by simp [onesH, puts], h0, hbg⟩
  case round =>
    obtain ⟨k, B, c', hk, rfl, rfl, hcl, ho, hb⟩ := hrel
    clear hbg hbx h0
    by_cases hlt : k < xs.length
    · obtain ⟨bk, off, rfl, hbs, d0, d1, d2⟩ := (hr.below hb).atHold hlt
      have hbw : bk < wr.heap.size := Nat.lt_of_lt_of_le hbs hb.size
      obtain ⟨L, hL⟩ : ∃ L, puts (onesH xs k) = L := ⟨_, rfl⟩
      have hll : L.length ≤ k := by rw [← hL]; exact Nat.le_trans (puts_len _) (ones_len _ _)
      have HL := Lib.hid hL
      rw [hL] at ho hcl
      rw [hL]
      clear hL
      go_wp2_with fail
      obtain ⟨wo, rfl⟩ : ∃ wo : World, wo = wr := ⟨_, rfl⟩
      go_loopw [6, 7] (fun u i wr => ∃ m : Nat, m ≤ xs.length ∧ i = .int .i64 m ∧ u = .int .i64 (numT xs xs[k].item m) ∧ Below wo.heap.size wo wr) (fun _ i _ => xs.length - (intOf i).toNat)
      case atStart => exact ⟨0, Nat.zero_le _, rfl, by simp [numT], Below.refl _ _⟩
      case round =>
        obtain ⟨m, hm, rfl, rfl, hbm⟩ := hrel
        have hnt := numT_le xs xs[k].item m
        obtain ⟨bk', off', hA, hbs', g0, g1, g2⟩ := ((hr.below hb).below (hbm.mono hb.size)).atHold hlt
        injection hA with hA; injection hA with hA1 hA2
        subst hA1 hA2
        by_cases hmt : m < xs.length
        · obtain ⟨bk', off', hA, hbs'', f0, f1, f2⟩ := ((hr.below hb).below (hbm.mono hb.size)).atHold hmt
          injection hA with hA; injection hA with hA1 hA2
          subst hA1 hA2
          by_cases he : xs[m].item = xs[k].item
          · have he' : (xs[m].item == xs[k].item) = true := by simpa using he
            have HT := Lib.hid (numT_yes hmt he)
            clear he
            obtain ⟨q, hq⟩ : ∃ q, numT xs xs[k].item m = q := ⟨_, rfl⟩
            rw [hq] at HT hnt
            rw [hq]
            clear hq
            go_wp2_with fail
            go_quiet (fail)
            go_wp2_with fail
            go_roundw
            case rel => exact ⟨m + 1, by omega, by go_num, by rw [HT.out]; exact vi (by omega), below_drewN hbm _⟩
            case measure => simp [intOf]; omega
          · have he' : (xs[m].item == xs[k].item) = false := by simpa using he
            have HT := Lib.hid (numT_no hmt he)
            clear he
            obtain ⟨q, hq⟩ : ∃ q, numT xs xs[k].item m = q := ⟨_, rfl⟩
            rw [hq] at HT hnt
            rw [hq]
            clear hq
            go_wp2_with fail
            go_quiet (fail)
            go_wp2_with fail
            go_roundw
            case rel => exact ⟨m + 1, by omega, by go_num, by rw [HT.out], below_drewN hbm _⟩
            case measure => simp [intOf]; omega
        · have hme : m = xs.length := by omega
          have hnm : numT xs xs[k].item m = numH xs xs[k].item := by rw [hme]; unfold numT numH; rw [List.take_length]
          have hbA := hb.trans (hbm.mono hb.size)
          have hoA := ho.below hbm
          have hsz := hbm.size
          by_cases h1 : numH xs xs[k].item = 1
          · have HO := Lib.hid (ones_yes hlt h1)
            rw [hnm, h1]
            clear hnm h1 hme
            go_wp2_with fail
            refine (l1Put_c L _ _ _ _ w.heap.size _ hoA hbA.size hcl (by omega)).mono ?_
            rintro e wp ⟨B', c'', rfl, hbp, hop, hcp⟩
            have HP := Lib.hid (show puts (onesH xs (k + 1)) = putI L xs[k].item by rw [HO.out, puts_snoc, HL.out])
            obtain ⟨L', hL'⟩ : ∃ L', putI L xs[k].item = L' := ⟨_, rfl⟩
            rw [hL'] at HP hop hcp
            rw [hL']
            clear hL'
            go_wp2_with fail
            go_roundw
            case rel => exact ⟨k + 1, B', c'', by omega, by go_num, by rw [HP.out], by rw [HP.out]; exact hcp, by rw [HP.out]; exact hop, below_via hbA hbp⟩
            case measure => simp [intOf]; omega
          · have HO := Lib.hid (ones_no hlt h1)
            obtain ⟨q, hq⟩ : ∃ q, numT xs xs[k].item m = q := ⟨_, rfl⟩
            have h1' : ((q : Int) == 1) = false := by rw [← hq, hnm, beq_eq_false_iff_ne]; omega
            rw [hq]
            clear hq hme
            have HP := Lib.hid (show puts (onesH xs (k + 1)) = L by rw [HO.out, HL.out])
            clear hnm h1
            go_wp2_with fail
            go_roundw
            case rel => exact ⟨k + 1, _, c', by omega, by go_num, by rw [HP.out], by rw [HP.out]; exact hcl, by rw [HP.out]; exact hoA.wide (Nat.le_refl _) hsz (Nat.le_refl _), hbA⟩
            case measure => simp [intOf]; omega
    · have hke : k = xs.length := by omega
      subst hke
      rw [← HV.out] at *
      go_wp2_with fail
      go_returns
      exact ⟨B, c', ret_list rfl HB.out.symm, hb, ho⟩
end Go.Proofs.YtebkfcdijjcefaaDoor
