/- Contracts of l17Stands, l17View, viewOf: whether an opinion stands, and the view of an item. No condition but the sizes. -/
import Derived.Test.YtfkdefmdnkfpfaaOpStand
namespace Go.Proofs.Ytfkdefmdnkfpfaa
set_option linter.unusedVariables false
set_option linter.unusedSimpArgs false
open Go.RowKit
attribute [local irreducible] wpQuiet
theorem l1Least_c (a b : Int) (w : World) : Calls Try.prog 66 #[.int .i64 a, .int .i64 b] w (Pure (.int .i64 (min a b)) w) := by
  by_cases h : a < b
  all_goals
    go_enter Try.func66, Try.ntmps66
    go_wp2
    go_ret
    exact ⟨ret_int (by omega), rfl⟩
theorem goneO_yes {xs : List Opinion} {d v : Int} {m : Nat} (hm : m < xs.length) (h1 : xs[m].day ≤ d) (h2 : xs[m].over = v) : goneO xs d v = true :=
  List.any_eq_true.2 ⟨xs[m], List.getElem_mem hm, by simp [h1, h2]⟩
theorem goneO_no {xs : List Opinion} (hg : goodO xs = true) {d : Int} {i : Nat} (h : ∀ m (hm : m < xs.length), i < m → ¬ (xs[m].over = (i : Int) ∧ xs[m].day ≤ d)) : goneO xs d (i : Int) = false := by
  refine List.any_eq_false.2 fun x hx => ?_
  obtain ⟨m, hm, rfl⟩ := List.getElem_of_mem hx
  intro hc
  simp only [Bool.and_eq_true, decide_eq_true_eq] at hc
  exact h m hm (goodO_before hg hm hc.2) ⟨hc.2, hc.1⟩
set_option maxRecDepth 100000 in
set_option maxHeartbeats 2000000 in
theorem l17Stands_c (xs : List Opinion) (A : Option Addr) (c : Nat) (i : Nat) (d : Int) (w : World) (hr : Rd encOpinion 5 w.heap.size w A xs) (hn : xs.length ≤ 1048576) (hg : goodO xs = true) (hi : i < xs.length) :
    Calls Try.prog 51 #[.slice A xs.length c, .int .i64 (i : Int), .int .i64 d] w (Pure (.bool (stO xs d i)) w) := by
  have HG := Lib.hid hg
  clear hg
  have HS := Lib.hid (stO_val (d := d) hi)
  obtain ⟨b, off, rfl, hbs, d0, d1, d2, d3, d4⟩ := hr.atOpinion hi
  have hi0 : (0 : Int) ≤ (i : Int) := by omega
  have hi1 : (i : Int) < (xs.length : Int) := by omega
  by_cases h0 : d < xs[i].day
  · have HV := Lib.hid (show stO xs d i = false by rw [HS.out, decide_eq_false (by omega)]; rfl)
    go_enter Try.func51, Try.ntmps51
    go_wp2_with fail
    go_returns
    exact ⟨ret_bool HV.out.symm, rfl⟩
  · have HS := Lib.hid (show stO xs d i = !goneO xs d (i : Int) by rw [HS.out, decide_eq_true (by omega)]; rfl)
    go_enter Try.func51, Try.ntmps51
    go_wp2_with fail
    clear d0 d1 d2 d3 d4
    go_loop [7] (fun v => ∃ k : Nat, i < k ∧ k ≤ xs.length ∧ v = .int .i64 k ∧ (∀ m (hm : m < xs.length), i < m → m < k → ¬ (xs[m].over = (i : Int) ∧ xs[m].day ≤ d))) (fun v => xs.length - (intOf v).toNat)
    case atStart => exact ⟨i + 1, by omega, by omega, by go_num, fun m hm h1 h2 => absurd h1 (by omega)⟩
    case round =>
      obtain ⟨k, hik, hk, rfl, hall⟩ := hrel
      have HA := Lib.hid hall
      clear hall
      by_cases hlt : k < xs.length
      · obtain ⟨b', off', hA, hbs', g0, g1, g2, g3, g4⟩ := hr.atOpinion hlt
        injection hA with hA; injection hA with hA1 hA2
        subst hA1 hA2
        clear hbs'
        by_cases h1 : xs[k].over = (i : Int)
        · have h1' : (xs[k].over == (i : Int)) = true := by simpa using h1
          by_cases h2 : xs[k].day ≤ d
          · have HV := Lib.hid (show stO xs d i = false by rw [HS.out, goneO_yes hlt h2 h1]; rfl)
            have h2' : decide (xs[k].day ≤ d) = true := decide_eq_true h2
            clear h1
            go_wp2_with fail
            go_returns
            exact ⟨ret_bool HV.out.symm, rfl⟩
          · have h2' : decide (xs[k].day ≤ d) = false := decide_eq_false h2
            have HV := Lib.hid (show ∀ m (hm : m < xs.length), i < m → m < k + 1 → ¬ (xs[m].over = (i : Int) ∧ xs[m].day ≤ d) from fun m hm h3 h4 h5 => by
              rcases Nat.lt_or_ge m k with h6 | h6
              · exact HA.out m hm h3 h6 h5
              · have e : m = k := by omega
                subst e; exact h2 h5.2)
            clear h1
            go_wp2_with fail
            go_round
            case rel => exact ⟨k + 1, by omega, by omega, by go_num, HV.out⟩
            case measure => simp [intOf]; omega
        · have h1' : (xs[k].over == (i : Int)) = false := by simpa using h1
          have HV := Lib.hid (show ∀ m (hm : m < xs.length), i < m → m < k + 1 → ¬ (xs[m].over = (i : Int) ∧ xs[m].day ≤ d) from fun m hm h3 h4 h5 => by
            rcases Nat.lt_or_ge m k with h6 | h6
            · exact HA.out m hm h3 h6 h5
            · have e : m = k := by omega
              subst e; exact h1 h5.1)
          clear h1
          go_wp2_with fail
          go_round
          case rel => exact ⟨k + 1, by omega, by omega, by go_num, HV.out⟩
          case measure => simp [intOf]; omega
      · have HV := Lib.hid (show stO xs d i = true by
          rw [HS.out, goneO_no HG.out (fun m hm h1 => HA.out m hm h1 (by omega))]; rfl)
        go_wp2_with fail
        go_returns
        exact ⟨ret_bool HV.out.symm, rfl⟩
theorem min_if (p s : Int) : (if s < p then s else p) = min p s := by split <;> omega
theorem max_if (q s : Int) : (if q < s then s else q) = max q s := by split <;> omega
def saysO (xs : List Opinion) (i : Int) : Int := match xs[i.toNat]? with | none => 0 | some x => x.says
theorem saysO_nat {xs : List Opinion} {i : Nat} (h : i < xs.length) : saysO xs (i : Int) = xs[i].says := by simp [saysO, h]
def viewL (xs : List Opinion) (l : List Int) : Int × Int := l.foldl (fun a i => (min a.1 (saysO xs i), max a.2 (saysO xs i))) (5, 0)
theorem viewL_snoc (xs : List Opinion) (l : List Int) (i : Int) : viewL xs (l ++ [i]) = (min (viewL xs l).1 (saysO xs i), max (viewL xs l).2 (saysO xs i)) := by unfold viewL; rw [List.foldl_append]; rfl
def standT (xs : List Opinion) (z d : Int) (k : Nat) : List Int := ((List.range k).filter (standP xs z d)).map nat
def viewM (xs : List Opinion) (z d : Int) : Int := (viewL xs (standL xs z d)).2
def viewD (xs : List Opinion) (z d : Int) : Bool := decide ((viewL xs (standL xs z d)).1 < (viewL xs (standL xs z d)).2)
theorem standL_mem {xs : List Opinion} {z d v : Int} (h : v ∈ standL xs z d) : ∃ m : Nat, m < xs.length ∧ v = (m : Int) := by
  unfold standL at h
  obtain ⟨m, hm, rfl⟩ := List.mem_map.1 h
  exact ⟨m, List.mem_range.1 (List.mem_filter.1 hm).1, rfl⟩
theorem says_pos {xs : List Opinion} (hg : goodO xs = true) {m : Nat} (hm : m < xs.length) : 1 ≤ xs[m].says := by
  have := goodO_at hg hm
  rw [okO_val hm] at this
  simp only [Bool.and_eq_true, Opinion.base, inR_iff] at this
  exact this.1.1.1.1.2.1
theorem viewL_pos {xs : List Opinion} (hg : goodO xs = true) (l : List Int) (h : ∀ v ∈ l, ∃ m : Nat, m < xs.length ∧ v = (m : Int)) (h0 : ¬ 0 < (viewL xs l).2) : l = [] := by
  rcases List.eq_nil_or_concat l with h1 | ⟨l', v, h1⟩
  · exact h1
  · exfalso
    subst h1
    obtain ⟨m, hm, hv⟩ := h v (by simp)
    have := says_pos hg hm
    apply h0
    rw [List.concat_eq_append, viewL_snoc]
    subst hv
    rw [saysO_nat hm]
    show 0 < max _ _
    omega
end Go.Proofs.Ytfkdefmdnkfpfaa
