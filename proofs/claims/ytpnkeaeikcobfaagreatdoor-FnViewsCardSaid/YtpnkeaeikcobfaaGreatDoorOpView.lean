/- Contracts of l17Stands, l17View, viewOf: whether an opinion stands, and the view of an item. No condition but the sizes. -/
import Derived.Test.YtpnkeaeikcobfaaGreatDoorOpStand
namespace Go.Proofs.YtpnkeaeikcobfaaGreatDoor
set_option linter.unusedVariables false
set_option linter.unusedSimpArgs false
open Go.RowKit
attribute [local irreducible] wpQuiet
theorem l1Least_c (a b : Int) (w : World) : Calls Tryz.prog 61 #[.int .i64 a, .int .i64 b] w (Pure (.int .i64 (min a b)) w) := by
  by_cases h : a < b
  all_goals
    go_enter Tryz.func61, Tryz.ntmps61
    go_wp2
    go_ret
    exact ⟨ret_int (by omega), rfl⟩
theorem goneO_yes {xs : List Opinion} {d v : Int} {m : Nat} (hm : m < xs.length) (h1 : xs[m].day ≤ d) (h2 : xs[m].over = v) : goneO xs d v = true :=
  List.any_eq_true.2 ⟨xs[m], List.getElem_mem hm, by simp [h1, h2]⟩
theorem goneO_no {xs : List Opinion} (hg : goodO xs = true) {d : Int} {i : Nat} (h : ∀ m (hm : m < xs.length), i < m → ¬ (xs[m].over = (i : Int) ∧ xs[m].day ≤ d)) : goneO xs d (i : Int) = false := by
  refine List.any_eq_false.2 fun x hx => ?_
  obtain ⟨m, hm, rfl⟩ := List.getElem_of_mem hx
  intro hc
  simp only [Bool.and_eq_true, decide_eq_true_eq] at hc
  exact h m hm (goodO_before hg hm hc.2) ⟨hc.2, hc.1⟩
set_option maxRecDepth 100000 in
set_option maxHeartbeats 2000000 in
theorem l17Stands_c (xs : List Opinion) (A : Option Addr) (c : Nat) (i : Nat) (d : Int) (w : World) (hr : Rd encOpinion 5 w.heap.size w A xs) (hn : xs.length ≤ 1048576) (hg : goodO xs = true) (hi : i < xs.length) :
    Calls Tryz.prog 38 #[.slice A xs.length c, .int .i64 (i : Int), .int .i64 d] w (Pure (.bool (stO xs d i)) w) := by
  have HG := Lib.hid hg
  clear hg
  have HS := Lib.hid (stO_val (d := d) hi)
  obtain ⟨b, off, rfl, hbs, d0, d1, d2, d3, d4⟩ := hr.atOpinion hi
  have hi0 : (0 : Int) ≤ (i : Int) := by omega
  have hi1 : (i : Int) < (xs.length : Int) := by omega
  by_cases h0 : d < xs[i].day
  · have HV := Lib.hid (show stO xs d i = false by rw [HS.out, decide_eq_false (by omega)]; rfl)
    go_enter Tryz.func38, Tryz.ntmps38
    go_wp2_with fail
    go_returns
    exact ⟨ret_bool HV.out.symm, rfl⟩
  · have HS := Lib.hid (show stO xs d i = !goneO xs d (i : Int) by rw [HS.out, decide_eq_true (by omega)]; rfl)
    go_enter Tryz.func38, Tryz.ntmps38
    go_wp2_with fail
    clear d0 d1 d2 d3 d4
    go_loop [7] (fun v => ∃ k : Nat, i < k ∧ k ≤ xs.length ∧ v = .int .i64 k ∧ (∀ m (hm : m < xs.length), i < m → m < k → ¬ (xs[m].over = (i : Int) ∧ xs[m].day ≤ d))) (fun v => xs.length - (intOf v).toNat)
    case atStart => exact ⟨i + 1, by omega, by omega, by go_num, fun m hm h1 h2 => absurd h1 (by omega)⟩
    case round =>
      obtain ⟨k, hik, hk, rfl, hall⟩ := hrel
      have HA := Lib.hid hall
      clear hall
      by_cases hlt : k < xs.length
      · obtain ⟨b', off', hA, hbs', g0, g1, g2, g3, g4⟩ := hr.atOpinion hlt
        injection hA with hA; injection hA with hA1 hA2
        subst hA1 hA2
        clear hbs'
        by_cases h1 : xs[k].over = (i : Int)
        · have h1' : (xs[k].over == (i : Int)) = true := by simpa using h1
          by_cases h2 : xs[k].day ≤ d
          · have HV := Lib.hid (show stO xs d i = false by rw [HS.out, goneO_yes hlt h2 h1]; rfl)
            have h2' : decide (xs[k].day ≤ d) = true := decide_eq_true h2
            clear h1
            go_wp2_with fail
            go_returns
            exact ⟨ret_bool HV.out.symm, rfl⟩
          · have h2' : decide (xs[k].day ≤ d) = false := decide_eq_false h2
            have HV := Lib.hid (show ∀ m (hm : m < xs.length), i < m → m < k + 1 → ¬ (xs[m].over = (i : Int) ∧ xs[m].day ≤ d) from fun m hm h3 h4 h5 => by
              rcases Nat.lt_or_ge m k with h6 | h6
              · exact HA.out m hm h3 h6 h5
              · have e : m = k := by omega
                subst e; exact h2 h5.2)
            clear h1
            go_wp2_with fail
            go_round
            case rel => exact ⟨k + 1, by omega, by omega, by go_num, HV.out⟩
            case measure => simp [intOf]; omega
        · have h1' : (xs[k].over == (i : Int)) = false := by simpa using h1
          have HV := Lib.hid (show ∀ m (hm : m < xs.length), i < m → m < k + 1 → ¬ (xs[m].over = (i : Int) ∧ xs[m].day ≤ d) from fun m hm h3 h4 h5 => by
            rcases Nat.lt_or_ge m k with h6 | h6
            · exact HA.out m hm h3 h6 h5
            · have e : m = k := by omega
              subst e; exact h1 h5.1)
          clear h1
          go_wp2_with fail
          go_round
          case rel => exact ⟨k + 1, by omega, by omega, by go_num, HV.out⟩
          case measure => simp [intOf]; omega
      · have HV := Lib.hid (show stO xs d i = true by
          rw [HS.out, goneO_no HG.out (fun m hm h1 => HA.out m hm h1 (by omega))]; rfl)
        go_wp2_with fail
        go_returns
        exact ⟨ret_bool HV.out.symm, rfl⟩
theorem min_if (p s : Int) : (if s < p then s else p) = min p s := by split <;> omega
theorem max_if (q s : Int) : (if q < s then s else q) = max q s := by split <;> omega
def saysO (xs : List Opinion) (i : Int) : Int := match xs[i.toNat]? with | none => 0 | some x => x.says
theorem saysO_nat {xs : List Opinion} {i : Nat} (h : i < xs.length) : saysO xs (i : Int) = xs[i].says := by simp [saysO, h]
def viewL (xs : List Opinion) (l : List Int) : Int × Int := l.foldl (fun a i => (min a.1 (saysO xs i), max a.2 (saysO xs i))) (5, 0)
theorem viewL_snoc (xs : List Opinion) (l : List Int) (i : Int) : viewL xs (l ++ [i]) = (min (viewL xs l).1 (saysO xs i), max (viewL xs l).2 (saysO xs i)) := by unfold viewL; rw [List.foldl_append]; rfl
def standT (xs : List Opinion) (z d : Int) (k : Nat) : List Int := ((List.range k).filter (standP xs z d)).map nat
def viewM (xs : List Opinion) (z d : Int) : Int := (viewL xs (standL xs z d)).2
def viewD (xs : List Opinion) (z d : Int) : Bool := decide ((viewL xs (standL xs z d)).1 < (viewL xs (standL xs z d)).2)
theorem standL_mem {xs : List Opinion} {z d v : Int} (h : v ∈ standL xs z d) : ∃ m : Nat, m < xs.length ∧ v = (m : Int) := by
  unfold standL at h
  obtain ⟨m, hm, rfl⟩ := List.mem_map.1 h
  exact ⟨m, List.mem_range.1 (List.mem_filter.1 hm).1, rfl⟩
theorem says_pos {xs : List Opinion} (hg : goodO xs = true) {m : Nat} (hm : m < xs.length) : 1 ≤ xs[m].says := by
  have := goodO_at hg hm
  rw [okO_val hm] at this
  simp only [Bool.and_eq_true, Opinion.base, inR_iff] at this
  exact this.1.1.1.1.2.1
theorem viewL_pos {xs : List Opinion} (hg : goodO xs = true) (l : List Int) (h : ∀ v ∈ l, ∃ m : Nat, m < xs.length ∧ v = (m : Int)) (h0 : ¬ 0 < (viewL xs l).2) : l = [] := by
  rcases List.eq_nil_or_concat l with h1 | ⟨l', v, h1⟩
  · exact h1
  · exfalso
    subst h1
    obtain ⟨m, hm, hv⟩ := h v (by simp)
    have := says_pos hg hm
    apply h0
    rw [List.concat_eq_append, viewL_snoc]
    subst hv
    rw [saysO_nat hm]
    show 0 < max _ _
    omega
set_option maxRecDepth 100000 in
set_option maxHeartbeats 4000000 in
theorem l17View_c (xs : List Opinion) (A : Option Addr) (c : Nat) (z d : Int) (w : World) (hr : Rd encOpinion 5 w.heap.size w A xs) (hn : xs.length ≤ 1048576) (hg : goodO xs = true) :
    Calls Tryz.prog 33 #[.slice A xs.length c, .int .i64 z, .int .i64 d] w (Pure (.tuple #[.int .i64 (viewM xs z d), .bool (viewD xs z d)]) w) := by
  have HG := Lib.hid hg
  clear hg
  go_enter Tryz.func33, Tryz.ntmps33
  go_wp2_with fail
  go_loop [8, 9, 10] (fun u v i => ∃ k : Nat, k ≤ xs.length ∧ i = .int .i64 k ∧ u = .int .i64 (viewL xs (standT xs z d k)).1 ∧ v = .int .i64 (viewL xs (standT xs z d k)).2) (fun _ _ i => xs.length - (intOf i).toNat)
  case atStart => exact ⟨0, Nat.zero_le _, rfl, rfl, rfl⟩
  case round =>
    obtain ⟨k, hk, rfl, rfl, rfl⟩ := hrel
    obtain ⟨p, q, hpq⟩ : ∃ p q, viewL xs (standT xs z d k) = (p, q) := ⟨_, _, rfl⟩
    rw [hpq]
    have HQ := Lib.hid hpq
    clear hpq
    by_cases hlt : k < xs.length
    · obtain ⟨b, off, rfl, hbs, d0, d1, d2, d3, d4⟩ := hr.atOpinion hlt
      have hi0 : (0 : Int) ≤ (k : Int) := by omega
      have hi1 : (k : Int) < (xs.length : Int) := by omega
      have HP := Lib.hid (standP_val (z := z) (d := d) hlt)
      by_cases h0 : xs[k].item = z
      · have h0' : (xs[k].item == z) = true := by simpa using h0
        cases h1 : stO xs d k with
        | true =>
          have HK := Lib.hid (show viewL xs (standT xs z d (k + 1)) = (min p xs[k].says, max q xs[k].says) by
            unfold standT; rw [range_yes (by rw [HP.out, h1, decide_eq_true h0]; rfl), viewL_snoc]
            have e : viewL xs (((List.range k).filter (standP xs z d)).map nat) = (p, q) := HQ.out
            rw [e]; show (min p (saysO xs (k : Int)), max q (saysO xs (k : Int))) = _; rw [saysO_nat hlt])
          clear h0
          go_wp2_with (first | (go_at_call 38; refine (l17Stands_c xs _ _ k _ _ hr hn HG.out hlt).mono ?_; rintro e w' ⟨rfl, rfl⟩) | (go_at_call 61; refine (l1Least_c _ _ _).mono ?_; rintro e w' ⟨rfl, rfl⟩) | (go_at_call 62; refine (l1Most_c _ _ _).mono ?_; rintro e w' ⟨rfl, rfl⟩))
          go_round
          case rel => exact ⟨k + 1, by omega, by go_num, by rw [HK.out], by rw [HK.out]⟩
          case measure => simp [intOf]; omega
        | false =>
          have HK := Lib.hid (show viewL xs (standT xs z d (k + 1)) = (p, q) by
            unfold standT; rw [range_no (by rw [HP.out, h1, Bool.and_false])]; exact HQ.out)
          clear h0
          go_wp2_with (go_at_call 38; refine (l17Stands_c xs _ _ k _ _ hr hn HG.out hlt).mono ?_; rintro e w' ⟨rfl, rfl⟩)
          go_round
          case rel => exact ⟨k + 1, by omega, by go_num, by rw [HK.out], by rw [HK.out]⟩
          case measure => simp [intOf]; omega
      · have h0' : (xs[k].item == z) = false := by simpa using h0
        have HK := Lib.hid (show viewL xs (standT xs z d (k + 1)) = (p, q) by
          unfold standT; rw [range_no (by rw [HP.out, decide_eq_false h0, Bool.false_and])]; exact HQ.out)
        clear h0
        go_wp2_with fail
        go_round
        case rel => exact ⟨k + 1, by omega, by go_num, by rw [HK.out], by rw [HK.out]⟩
        case measure => simp [intOf]; omega
    · have hke : k = xs.length := by omega
      have HM := Lib.hid (show viewM xs z d = q by rw [hke] at HQ; exact congrArg Prod.snd HQ.out)
      have HD := Lib.hid (show viewD xs z d = decide (p < q) by
        rw [hke] at HQ
        have e : viewL xs (standL xs z d) = (p, q) := HQ.out
        unfold viewD; rw [e])
      clear hke
      go_wp2_with fail
      go_returns
      exact ⟨ret2 (vi HM.out.symm) (vb HD.out.symm), rfl⟩
set_option maxRecDepth 100000 in
set_option maxHeartbeats 4000000 in
theorem viewOf_c (xs : List Opinion) (A : Option Addr) (c : Nat) (z d : Int) (w : World) (hr : Rd encOpinion 5 w.heap.size w A xs) (hn : xs.length ≤ 1048576) (hg : goodO xs = true) :
    Calls Tryz.prog 29 #[.slice A xs.length c, .int .i64 z, .int .i64 d] w (Ret (.tuple #[.int .i64 (viewM xs z d), .bool (viewD xs z d)]) w) := by
  have HG := Lib.hid hg
  clear hg
  have HE := Lib.hid (fun (v : Int) (h : v ∈ standL xs z d) => standL_mem h)
  have hll : (standL xs z d).length ≤ xs.length := by unfold standL; exact range_len
  go_enter Tryz.func29, Tryz.ntmps29
  go_wp2_with fail
  refine (standing_c xs _ _ _ _ _ hr hn HG.out).mono ?_
  rintro e w1 ⟨B, c', rfl, hb1, hO⟩
  have HM := Lib.hid (show viewM xs z d = (viewL xs (standL xs z d)).2 from rfl)
  have HD := Lib.hid (show viewD xs z d = decide ((viewL xs (standL xs z d)).1 < (viewL xs (standL xs z d)).2) from rfl)
  have HZ := Lib.hid (fun h => viewL_pos HG.out (standL xs z d) (fun v hv => HE.out v hv) h)
  generalize standL xs z d = L at *
  go_wp2_with fail
  go_loopw [8, 9, 17] (fun u v i wr => ∃ k : Nat, k ≤ L.length ∧ i = .int .i64 k ∧ u = .int .i64 (viewL xs (L.take k)).1 ∧ v = .int .i64 (viewL xs (L.take k)).2 ∧ Below w1.heap.size w1 wr) (fun _ _ i _ => L.length - (intOf i).toNat)
  case atStart => exact ⟨0, Nat.zero_le _, rfl, rfl, rfl, Below.refl _ _⟩
  case round =>
    obtain ⟨k, hk, rfl, rfl, rfl, hb⟩ := hrel
    obtain ⟨p, q, hpq⟩ : ∃ p q, viewL xs (L.take k) = (p, q) := ⟨_, _, rfl⟩
    rw [hpq]
    have HQ := Lib.hid hpq
    clear hpq
    have hbW := below_via hb1 hb
    by_cases hlt : k < L.length
    · obtain ⟨m, hm, hv⟩ := HE.out L[k] (List.getElem_mem hlt)
      have HK := Lib.hid (show viewL xs (L.take (k + 1)) = (min p xs[m].says, max q xs[m].says) by
        rw [take_succ_get L k hlt, viewL_snoc, HQ.out, hv, saysO_nat hm])
      obtain ⟨bl, ofl, rfl, hbl, l0⟩ := (hO.rd.below hb).int hlt
      rw [hv] at l0
      clear hv
      obtain ⟨b, off, rfl, hbs, d0, d1, d2, d3, d4⟩ := (hr.below hbW).atOpinion hm
      have hi0 : (0 : Int) ≤ (m : Int) := by omega
      have hi1 : (m : Int) < (xs.length : Int) := by omega
      have hk0 : (0 : Int) ≤ (k : Int) := by omega
      have hk1 : (k : Int) < (L.length : Int) := by omega
      have hbw : b < wr.heap.size := Nat.lt_of_lt_of_le hbs hbW.size
      have hov := over_cell wr
      generalize xs[m].says = s at *
      go_wp2_with fail
      refine wp_region_over (by kernel_rfl) (by kernel_rfl) ?_
      repeat (go_big_quiet_step (fail))
      refine wpQuiet_nil ?_
      intro _ hwx1
      obtain ⟨x1, hwx1⟩ := hwx1
      subst hwx1
      go_wp2_with fail
      go_roundw
      case rel => exact ⟨k + 1, by omega, by go_num, by rw [HK.out]; exact vi (min_if _ _), by rw [HK.out]; exact vi (max_if _ _), below_via hb (over_below wr x1)⟩
      case measure => simp [intOf]; omega
    · have hke : L.take k = L := List.take_of_length_le (by omega)
      rw [hke] at HQ
      clear hke
      have HM := Lib.hid (show viewM xs z d = q by rw [HM.out, HQ.out])
      have HD := Lib.hid (show viewD xs z d = decide (p < q) by rw [HD.out, HQ.out])
      by_cases h0 : 0 < q
      · go_wp2_with fail
        all_goals
          go_returns
          exact ⟨ret2 (vi HM.out.symm) (vb (by rw [HD.out])), hbW⟩
      · have HD := Lib.hid (show viewD xs z d = false by
          have hz := HZ.out (by first | (rw [HQ.out]; exact h0) | (rw [HQ.out]; show q ≤ 0; omega))
          rw [hz] at HQ
          have e := HQ.out
          have e1 : (5 : Int) = p := congrArg Prod.fst e
          have e2 : (0 : Int) = q := congrArg Prod.snd e
          rw [HD.out, ← e1, ← e2]; rfl)
        go_wp2_with fail
        all_goals
          go_returns
          exact ⟨ret2 (vi HM.out.symm) (vb HD.out.symm), hbW⟩
end Go.Proofs.YtpnkeaeikcobfaaGreatDoor
