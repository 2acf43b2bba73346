/- The last opinion of an expert on an item that stands: plain words, and the contract of l17Last. No condition but the sizes. -/
import Derived.Test.YtpnkeaeikcobfaaGreatDoorOpTop
namespace Go.Proofs.YtpnkeaeikcobfaaGreatDoor
set_option linter.unusedVariables false
set_option linter.unusedSimpArgs false
open Go.RowKit
attribute [local irreducible] wpQuiet
def expO (xs : List Opinion) (e : ByteArray) (i : Nat) : Bool := match xs[i]? with | none => false | some x => decide (x.expert = e)
theorem expO_val {xs : List Opinion} {e : ByteArray} {i : Nat} (h : i < xs.length) : expO xs e i = decide (xs[i].expert = e) := by simp [expO, h]
def lastP (xs : List Opinion) (z : Int) (e : ByteArray) (d : Int) (i : Nat) : Bool := standP xs z d i && expO xs e i
def lastT (xs : List Opinion) (z : Int) (e : ByteArray) (d : Int) : Nat → Int
  | 0 => -1
  | k + 1 => if lastP xs z e d k = true then (k : Int) else lastT xs z e d k
theorem lastT_yes {xs : List Opinion} {z : Int} {e : ByteArray} {d : Int} {k : Nat} (h : lastP xs z e d k = true) : lastT xs z e d (k + 1) = (k : Int) := by unfold lastT; rw [if_pos h]
theorem lastT_no {xs : List Opinion} {z : Int} {e : ByteArray} {d : Int} {k : Nat} (h : lastP xs z e d k = false) : lastT xs z e d (k + 1) = lastT xs z e d k := by
  conv => lhs; unfold lastT
  rw [if_neg (by rw [h]; exact Bool.false_ne_true)]
theorem lastT_rng (xs : List Opinion) (z : Int) (e : ByteArray) (d : Int) : ∀ k, -1 ≤ lastT xs z e d k ∧ lastT xs z e d k < (k : Int)
  | 0 => by unfold lastT; omega
  | k + 1 => by
    have := lastT_rng xs z e d k
    unfold lastT; split <;> omega
/-- What holds of the last one. -/
theorem lastT_at (xs : List Opinion) (z : Int) (e : ByteArray) (d : Int) : ∀ (k m : Nat), lastT xs z e d k = (m : Int) → lastP xs z e d m = true
  | 0, m, h => by unfold lastT at h; omega
  | k + 1, m, h => by
    unfold lastT at h
    split at h
    · rename_i h1
      have : k = m := by omega
      subst this; exact h1
    · exact lastT_at xs z e d k m h
def lastO (xs : List Opinion) (z : Int) (e : ByteArray) (d : Int) : Int := lastT xs z e d xs.length
set_option maxRecDepth 100000 in
set_option maxHeartbeats 4000000 in
theorem l17Last_c (xs : List Opinion) (A : Option Addr) (c : Nat) (z : Int) (e : ByteArray) (d : Int) (w : World) (hr : Rd encOpinion 5 w.heap.size w A xs) (hn : xs.length ≤ 1048576) (hg : goodO xs = true) :
    Calls Tryz.prog 45 #[.slice A xs.length c, .int .i64 z, .string e, .int .i64 d] w (Pure (.int .i64 (lastO xs z e d)) w) := by
  have HG := Lib.hid hg
  clear hg
  have HV := Lib.hid (show lastO xs z e d = lastT xs z e d xs.length from rfl)
  go_enter Tryz.func45, Tryz.ntmps45
  go_wp2_with fail
  go_loop [9, 10] (fun u i => ∃ k : Nat, k ≤ xs.length ∧ i = .int .i64 k ∧ u = .int .i64 (lastT xs z e d k)) (fun _ i => xs.length - (intOf i).toNat)
  case atStart => exact ⟨0, Nat.zero_le _, rfl, rfl⟩
  case round =>
    obtain ⟨k, hk, rfl, rfl⟩ := hrel
    obtain ⟨q, hq⟩ : ∃ q, lastT xs z e d k = q := ⟨_, rfl⟩
    rw [hq]
    have HQ := Lib.hid hq
    clear hq
    by_cases hlt : k < xs.length
    · obtain ⟨b, off, rfl, hbs, d0, d1, d2, d3, d4⟩ := hr.atOpinion hlt
      have HP := Lib.hid (standP_val (z := z) (d := d) hlt)
      have HE := Lib.hid (expO_val (e := e) hlt)
      by_cases h0 : xs[k].item = z
      · have h0' : (xs[k].item == z) = true := by simpa using h0
        by_cases h1 : xs[k].expert = e
        · have h1' : (xs[k].expert.toList == e.toList) = true := by rw [toList_beq]; simpa using h1
          cases h2 : stO xs d k with
          | true =>
            have HK := Lib.hid (show lastT xs z e d (k + 1) = (k : Int) from lastT_yes (by unfold lastP; rw [HP.out, HE.out, h2, decide_eq_true h0, decide_eq_true h1]; rfl))
            clear h0 h1
            go_wp2_with (go_at_call 38; refine (l17Stands_c xs _ _ k _ _ hr hn HG.out hlt).mono ?_; rintro e w' ⟨rfl, rfl⟩)
            go_round
            case rel => exact ⟨k + 1, by omega, by go_num, by rw [HK.out]⟩
            case measure => simp [intOf]; omega
          | false =>
            have HK := Lib.hid (show lastT xs z e d (k + 1) = q by rw [lastT_no (by unfold lastP; rw [HP.out, h2, Bool.and_false, Bool.false_and])]; exact HQ.out)
            clear h0 h1
            go_wp2_with (go_at_call 38; refine (l17Stands_c xs _ _ k _ _ hr hn HG.out hlt).mono ?_; rintro e w' ⟨rfl, rfl⟩)
            go_round
            case rel => exact ⟨k + 1, by omega, by go_num, by rw [HK.out]⟩
            case measure => simp [intOf]; omega
        · have h1' : (xs[k].expert.toList == e.toList) = false := by rw [toList_beq]; simpa using h1
          have HK := Lib.hid (show lastT xs z e d (k + 1) = q by rw [lastT_no (by unfold lastP; rw [HE.out, decide_eq_false h1, Bool.and_false])]; exact HQ.out)
          clear h0 h1
          go_wp2_with fail
          go_round
          case rel => exact ⟨k + 1, by omega, by go_num, by rw [HK.out]⟩
          case measure => simp [intOf]; omega
      · have h0' : (xs[k].item == z) = false := by simpa using h0
        have HK := Lib.hid (show lastT xs z e d (k + 1) = q by rw [lastT_no (by unfold lastP; rw [HP.out, decide_eq_false h0]; simp)]; exact HQ.out)
        clear h0
        go_wp2_with fail
        go_round
        case rel => exact ⟨k + 1, by omega, by go_num, by rw [HK.out]⟩
        case measure => simp [intOf]; omega
    · have hke : k = xs.length := by omega
      have HV := Lib.hid (show lastO xs z e d = q by rw [HV.out, ← hke, HQ.out])
      clear hke
      go_wp2_with fail
      go_returns
      exact ⟨ret_int HV.out.symm, rfl⟩
end Go.Proofs.YtpnkeaeikcobfaaGreatDoor
