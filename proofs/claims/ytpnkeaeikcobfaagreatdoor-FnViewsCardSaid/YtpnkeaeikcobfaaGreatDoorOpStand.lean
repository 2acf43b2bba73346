/- Contract of standing: which opinions stand. No condition but the sizes. -/
import Derived.Test.YtpnkeaeikcobfaaGreatDoorOpMinds
namespace Go.Proofs.YtpnkeaeikcobfaaGreatDoor
set_option linter.unusedVariables false
set_option linter.unusedSimpArgs false
open Go.RowKit
attribute [local irreducible] wpQuiet
/-- Some opinion of a day not behind d was given over number v. -/
def goneO (xs : List Opinion) (d v : Int) : Bool := xs.any fun x => decide (x.day ≤ d) && decide (x.over = v)
def goneT (xs : List Opinion) (d : Int) (k : Nat) (v : Int) : Bool := (xs.take k).any fun x => decide (x.day ≤ d) && decide (x.over = v)
def gnL (xs : List Opinion) (d : Int) (k : Nat) : List Bool := (List.range xs.length).map fun v : Nat => goneT xs d k (v : Int)
theorem gnL_len (xs : List Opinion) (d : Int) (k : Nat) : (gnL xs d k).length = xs.length := by simp [gnL]
theorem gnL_get {xs : List Opinion} {d : Int} {k t : Nat} (h : t < (gnL xs d k).length) : (gnL xs d k)[t] = goneT xs d k (t : Int) := by simp [gnL]
theorem gnL_0 (xs : List Opinion) (d : Int) : gnL xs d 0 = List.replicate xs.length false := by
  apply List.ext_getElem
  · simp [gnL]
  · intro i h1 h2
    simp [gnL, goneT]
theorem goneT_next {xs : List Opinion} {d : Int} {k : Nat} (h : k < xs.length) (v : Int) : goneT xs d (k + 1) v = (goneT xs d k v || (decide (xs[k].day ≤ d) && decide (xs[k].over = v))) := by
  unfold goneT; rw [take_succ_get xs k h, List.any_append]; simp
theorem goneT_all (xs : List Opinion) (d v : Int) : goneT xs d xs.length v = goneO xs d v := by unfold goneT goneO; rw [List.take_length]
theorem gnL_no {xs : List Opinion} {d : Int} {k : Nat} (h : k < xs.length) (hn : ¬ (xs[k].day ≤ d ∧ 0 ≤ xs[k].over)) : gnL xs d (k + 1) = gnL xs d k := by
  unfold gnL
  apply List.map_congr_left
  intro v _
  rw [goneT_next h]
  by_cases h1 : xs[k].day ≤ d
  · rw [decide_eq_false (show ¬ xs[k].over = (v : Int) by omega), Bool.and_false, Bool.or_false]
  · rw [decide_eq_false h1, Bool.false_and, Bool.or_false]
theorem gnL_yes {xs : List Opinion} {d : Int} {k t : Nat} (h : k < xs.length) (hd : xs[k].day ≤ d) (ho : xs[k].over = t) : gnL xs d (k + 1) = (gnL xs d k).set t true := by
  apply List.ext_getElem
  · simp [gnL]
  · intro i h1 h2
    rw [List.getElem_set]
    simp only [gnL, List.getElem_map, List.getElem_range]
    rw [goneT_next h, ho, decide_eq_true hd, Bool.true_and]
    by_cases e : t = i
    · subst e; simp
    · rw [if_neg e, decide_eq_false (by omega), Bool.or_false]
def stO (xs : List Opinion) (d : Int) (i : Nat) : Bool := (match xs[i]? with | none => false | some x => decide (x.day ≤ d)) && !goneO xs d (i : Int)
def standP (xs : List Opinion) (z d : Int) (i : Nat) : Bool := (match xs[i]? with | none => false | some x => decide (x.item = z)) && stO xs d i
theorem stO_val {xs : List Opinion} {d : Int} {i : Nat} (h : i < xs.length) : stO xs d i = (decide (xs[i].day ≤ d) && !goneO xs d (i : Int)) := by simp [stO, h]
theorem standP_val {xs : List Opinion} {z d : Int} {i : Nat} (h : i < xs.length) : standP xs z d i = (decide (xs[i].item = z) && stO xs d i) := by simp [standP, h]
def nat (i : Nat) : Int := (i : Int)
theorem range_yes {β : Type} {p : Nat → Bool} {f : Nat → β} {k : Nat} (hp : p k = true) : ((List.range (k + 1)).filter p).map f = ((List.range k).filter p).map f ++ [f k] := by
  rw [List.range_succ, List.filter_append]; simp [hp]
theorem range_no {β : Type} {p : Nat → Bool} {f : Nat → β} {k : Nat} (hp : p k = false) : ((List.range (k + 1)).filter p).map f = ((List.range k).filter p).map f := by
  rw [List.range_succ, List.filter_append]; simp [hp]
theorem range_len {β : Type} {p : Nat → Bool} {f : Nat → β} {k : Nat} : (((List.range k).filter p).map f).length ≤ k := by
  rw [List.length_map]; exact Nat.le_trans (List.length_filter_le _ _) (by simp)
def standL (xs : List Opinion) (z d : Int) : List Int := ((List.range xs.length).filter (standP xs z d)).map nat
set_option maxRecDepth 100000 in
set_option maxHeartbeats 4000000 in
theorem standing_c (xs : List Opinion) (A : Option Addr) (c : Nat) (z d : Int) (w : World) (hr : Rd encOpinion 5 w.heap.size w A xs) (hn : xs.length ≤ 1048576) (hg : goodO xs = true) :
    Calls Tryz.prog 37 #[.slice A xs.length c, .int .i64 z, .int .i64 d] w (RetS encI 1 (standL xs z d) w) := by
  have HG := Lib.hid hg
  clear hg
  have HV := Lib.hid (show standL xs z d = ((List.range xs.length).filter (standP xs z d)).map nat from rfl)
  obtain ⟨i0, hi, hz0, hz1, hz2⟩ := info_parts infoB
  have hmk := run_makeFull (P := Tryz.prog) 78 4 i0 _ Tryz.underlying78 hi hz0 xs.length (by rw [hz2]; omega) (by omega)
  rw [hz1] at hmk
  generalize hcs : madeCells (Value.cells (.bool false)) (xs.length * 1) = cs at hmk
  have hO0 := own_made (enc := encB) w xs.length 4 cs false (.bool false) rfl (by rw [← hcs, Nat.mul_one]; exact toList_madeCells_one _ _)
  rw [← gnL_0 xs d] at hO0
  clear hcs hi hz0 hz1 hz2
  have hB0 : Below w.heap.size w (w.alloc (.cells cs 4)) := by go_grown
  go_enter Tryz.func37, Tryz.ntmps37
  go_wp2_with fail
  clear hmk
  go_loopw [18] (fun i wr => ∃ k : Nat, k ≤ xs.length ∧ i = .int .i64 k ∧ Own encB 1 w.heap.size (w.heap.size + 1) wr (some ⟨w.heap.size, 0, none⟩) (gnL xs d k) ∧ Below w.heap.size w wr) (fun i _ => xs.length - (intOf i).toNat)
  case atStart => exact ⟨0, Nat.zero_le _, rfl, hO0, hB0⟩
  case round =>
    obtain ⟨k, hk, rfl, hO, hb⟩ := hrel
    clear hO0 hB0
    by_cases hlt : k < xs.length
    · obtain ⟨b, off, rfl, hbs, d0, d1, d2, d3, d4⟩ := (hr.below hb).atOpinion hlt
      have hsz := hO.1
      by_cases h0 : xs[k].day ≤ d
      · by_cases h1 : 0 ≤ xs[k].over
        · obtain ⟨t, hot⟩ : ∃ t : Nat, xs[k].over = (t : Int) := ⟨xs[k].over.toNat, by omega⟩
          have htl : t < xs.length := goodO_over HG.out hlt hot
          have HD := Lib.hid (gnL_yes (d := d) hlt h0 hot)
          have h0i : (0 : Int) ≤ (t : Int) := by omega
          have ht1 : (t : Int) < (xs.length : Int) := by omega
          rw [hot] at d4
          have hut0 := own_at hO (i := t) (by rw [gnL_len]; exact htl) (u := .bool (goneT xs d k (t : Int))) (by rw [gnL_get]; rfl)
          have hfz := (own_free hO (by rw [gnL_len]; omega)).1
          have hfz0 := hfz t
          have hO4 := own_set hO (i := t) (by rw [gnL_len]; exact htl) (fun _ => rfl) true (u := .bool true) rfl
          rw [← HD.out] at hO4
          have hbX := hb.setCell (p := ⟨w.heap.size, t, none⟩) (Nat.le_refl _) (.bool true)
          have HO4 := Lib.hid hO4
          have hwb : w.heap.size < wr.heap.size := hsz
          clear hot hO4 hO hfz
          go_wp2_with fail
          go_roundw
          case rel => exact ⟨k + 1, by omega, by go_num, HO4.out.below (Below.alloc (Below.refl _ _) HO4.out.1 _), hbX.trans ((Below.refl _ _).alloc hbX.size _)⟩
          case measure => simp [intOf]; omega
        · have h0' : decide (xs[k].day ≤ d) = true := decide_eq_true h0
          have h1' : decide (0 ≤ xs[k].over) = false := decide_eq_false h1
          have HD := Lib.hid (gnL_no (d := d) hlt (fun h => h1 h.2))
          clear h1
          go_wp2_with fail
          go_roundw
          case rel => exact ⟨k + 1, by omega, by go_num, by rw [HD.out]; exact hO.below (Below.alloc (Below.refl _ _) hO.1 _), hb.trans ((Below.refl _ _).alloc hb.size _)⟩
          case measure => simp [intOf]; omega
      · have h0' : decide (xs[k].day ≤ d) = false := decide_eq_false h0
        have HD := Lib.hid (gnL_no (d := d) hlt (fun h => h0 h.1))
        clear h0
        go_wp2_with fail
        go_roundw
        case rel => exact ⟨k + 1, by omega, by go_num, by rw [HD.out]; exact hO.below (Below.alloc (Below.refl _ _) hO.1 _), hb.trans ((Below.refl _ _).alloc hb.size _)⟩
        case measure => simp [intOf]; omega
    · have hke : k = xs.length := by omega
      subst hke
      go_wp2_with fail
      obtain ⟨wo, rfl⟩ : ∃ wo : World, wo = wr := ⟨_, rfl⟩
      have hsz := hO.1
      go_loopw [10, 38] (fun v i wr => ∃ k : Nat, k ≤ xs.length ∧ i = .int .i64 k ∧ Out (Value.int .i64) 3 (w.heap.size + 1) v (((List.range k).filter (standP xs z d)).map nat) wr ∧ Own encB 1 w.heap.size (w.heap.size + 1) wr (some ⟨w.heap.size, 0, none⟩) (gnL xs d xs.length) ∧ Below w.heap.size w wr) (fun _ i _ => xs.length - (intOf i).toNat)
      case atStart => exact ⟨0, Nat.zero_le _, rfl, Out.nil _, hO, hb⟩
      case round =>
        obtain ⟨k, hk, rfl, ho, hO, hb⟩ := hrel
        have hsz := hO.1
        have hl := range_len (p := standP xs z d) (f := nat) (k := k)
        by_cases hlt : k < xs.length
        · obtain ⟨b, off, rfl, hbs, d0, d1, d2, d3, d4⟩ := (hr.below hb).atOpinion hlt
          have hut := own_at hO (i := k) (by rw [gnL_len]; exact hlt) (u := .bool (goneO xs d (k : Int))) (by rw [gnL_get, goneT_all]; rfl)
          have hwb : w.heap.size < wr.heap.size := hsz
          have hi0 : (0 : Int) ≤ (k : Int) := by omega
          have hi1 : (k : Int) < (xs.length : Int) := by omega
          have HP := Lib.hid (standP_val (z := z) (d := d) hlt)
          have HS := Lib.hid (stO_val (d := d) hlt)
          by_cases h0 : xs[k].item = z
          · have h0' : (xs[k].item == z) = true := by simpa using h0
            by_cases h1 : xs[k].day ≤ d
            · have h1' : decide (xs[k].day ≤ d) = true := decide_eq_true h1
              cases h2 : goneO xs d (k : Int) with
              | true =>
                rw [h2] at hut
                have HK := Lib.hid (range_no (p := standP xs z d) (f := nat) (k := k) (by rw [HP.out]; rw [HS.out, h2]; simp))
                clear h2
                go_wp2_with fail
                go_roundw
                case rel => exact ⟨k + 1, by omega, by go_num, by rw [HK.out]; exact ho.below ((Below.refl _ _).alloc (Nat.le_refl _) _), hO.below (Below.alloc (Below.refl _ _) hO.1 _), hb.trans ((Below.refl _ _).alloc hb.size _)⟩
                case measure => simp [intOf]; omega
              | false =>
                rw [h2] at hut
                have HK := Lib.hid (range_yes (p := standP xs z d) (f := nat) (k := k) (by rw [HP.out, HS.out, h2, decide_eq_true h0, h1']; rfl))
                clear h2 h0
                go_wp2_with (at_builtin; refine wpList_push rfl _ _ _ rfl 3 (.int .i64 0) 8 Tryz.underlying29 infoI rfl (k : Int) rfl (ho.below ((Below.refl _ _).alloc (Nat.le_refl _) _)) _ rfl (by simp) rfl (by omega) (by omega) (by simp; omega) ?_; intro v1 w1 hown1 hbel1)
                go_roundw
                case rel => exact ⟨k + 1, by omega, by go_num, by rw [HK.out]; exact hown1, hO.below ((Below.alloc (Below.refl _ _) hO.1 _).trans hbel1), (hb.trans ((Below.refl _ _).alloc hb.size _)).trans (hbel1.mono (by omega))⟩
                case measure => simp [intOf]; omega
            · have h1' : decide (xs[k].day ≤ d) = false := decide_eq_false h1
              have HK := Lib.hid (range_no (p := standP xs z d) (f := nat) (k := k) (by rw [HP.out]; rw [HS.out, h1']; simp))
              clear h1
              go_wp2_with fail
              go_roundw
              case rel => exact ⟨k + 1, by omega, by go_num, by rw [HK.out]; exact ho.below ((Below.refl _ _).alloc (Nat.le_refl _) _), hO.below (Below.alloc (Below.refl _ _) hO.1 _), hb.trans ((Below.refl _ _).alloc hb.size _)⟩
              case measure => simp [intOf]; omega
          · have h0' : (xs[k].item == z) = false := by simpa using h0
            have HK := Lib.hid (range_no (p := standP xs z d) (f := nat) (k := k) (by rw [HP.out]; rw [decide_eq_false h0]; rfl))
            clear h0
            go_wp2_with fail
            go_roundw
            case rel => exact ⟨k + 1, by omega, by go_num, by rw [HK.out]; exact ho.below ((Below.refl _ _).alloc (Nat.le_refl _) _), hO.below (Below.alloc (Below.refl _ _) hO.1 _), hb.trans ((Below.refl _ _).alloc hb.size _)⟩
            case measure => simp [intOf]; omega
        · have hke : k = xs.length := by omega
          subst hke
          clear hl
          obtain ⟨L, hL⟩ : ∃ L, ((List.range xs.length).filter (standP xs z d)).map nat = L := ⟨_, rfl⟩
          rw [hL] at ho
          have HV := Lib.hid (HV.out.trans hL)
          clear hL
          obtain ⟨B, c', rfl, hOw⟩ := ho.own
          go_wp2_with fail
          go_returns
          exact ⟨B, c', ret_sl (by rw [HV.out]), hb, (hOw.wide (by omega) (Nat.le_refl _) (Nat.le_refl _)).cast HV.out.symm⟩
end Go.Proofs.YtpnkeaeikcobfaaGreatDoor
