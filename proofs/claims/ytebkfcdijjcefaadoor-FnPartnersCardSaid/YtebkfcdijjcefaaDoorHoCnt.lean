/- How often an owner has an item: the program's and the reference's functions. No condition but the sizes. -/
import Derived.Test.YtebkfcdijjcefaaDoorHoBin
namespace Go.Proofs.YtebkfcdijjcefaaDoor
set_option linter.unusedVariables false
set_option linter.unusedSimpArgs false
open Go.RowKit
attribute [local irreducible] wpQuiet
theorem posH_le (xs : List Hold) (o : ByteArray) (z : Int) : posH xs o z ≤ xs.length := by
  unfold posH; exact List.Sublist.length_le (List.takeWhile_sublist _)
theorem hasH_lt {xs : List Hold} {o : ByteArray} {z : Int} (h : hasH xs o z = true) : posH xs o z < xs.length := by
  unfold hasH at h
  rcases Nat.lt_or_ge (posH xs o z) xs.length with h1 | h1
  · exact h1
  · rw [List.getElem?_eq_none h1] at h; cases h
theorem cntH_yes {xs : List Hold} (hg : goodH xs = true) {o : ByteArray} {z : Int} (h : hasH xs o z = true) : cntH xs o z = (xs[posH xs o z]'(hasH_lt h)).count := by
  rw [cntH_pos hg, if_pos h, List.getElem?_eq_getElem (hasH_lt h)]; rfl
theorem cntH_no {xs : List Hold} (hg : goodH xs = true) {o : ByteArray} {z : Int} (h : hasH xs o z = false) : cntH xs o z = 0 := by
  rw [cntH_pos hg, if_neg (by rw [h]; exact Bool.false_ne_true)]
set_option maxRecDepth 100000 in
set_option maxHeartbeats 1000000 in
theorem countOf_c (xs : List Hold) (A : Option Addr) (c : Nat) (o : ByteArray) (z : Int) (w : World) (hr : Rd encHold 3 w.heap.size w A xs) (hg : goodH xs = true) :
    Calls Tryd.prog 37 #[.slice A xs.length c, .string o, .int .i64 z] w (Ret (.int .i64 (cntH xs o z)) w) := by
  have hn := goodH_len hg
  have HY := Lib.hid (fun h => cntH_yes hg (o := o) (z := z) h)
  have HZ := Lib.hid (fun h => cntH_no hg (o := o) (z := z) h)
  have HG := Lib.hid hg
  clear hg
  by_cases hh : hasH xs o z = true
  · have HL := Lib.hid (hasH_lt hh)
    have HH := Lib.hid hh
    clear hh
    go_enter Tryd.func37, Tryd.ntmps37
    go_wp2_with fail
    refine (binH_c xs _ _ o z _ hr HG.out).mono ?_
    rintro e w1 ⟨rfl, hb1⟩
    rw [HH.out]
    obtain ⟨p, hp⟩ : ∃ p : Nat, posH xs o z = p := ⟨_, rfl⟩
    have hpl : p < xs.length := by rw [← hp]; exact HL.out
    have HV := Lib.hid (show cntH xs o z = (xs[p]'hpl).count by rw [HY.out HH.out]; simp only [hp])
    rw [hp]
    clear hp
    obtain ⟨b, off, rfl, hbs, d0, d1, d2⟩ := (hr.below hb1).atHold hpl
    have hi0 : (0 : Int) ≤ (p : Int) := by omega
    have hi1 : (p : Int) < (xs.length : Int) := by omega
    go_wp2_with fail
    go_returns
    exact ⟨ret_int (by rw [HV.out]), hb1⟩
  · have HH := Lib.hid (show hasH xs o z = false by simpa using hh)
    clear hh
    go_enter Tryd.func37, Tryd.ntmps37
    go_wp2_with fail
    refine (binH_c xs _ _ o z _ hr HG.out).mono ?_
    rintro e w1 ⟨rfl, hb1⟩
    rw [HH.out]
    go_wp2_with fail
    go_returns
    exact ⟨ret_int (by rw [HZ.out HH.out]), hb1⟩
theorem find_snoc {α : Type} (p : α → Bool) (xs : List α) (k : Nat) (hk : k < xs.length) (h0 : ∀ x ∈ xs.take k, p x = false) (h1 : p xs[k] = true) : xs.find? p = some xs[k] := by
  rw [List.find?_eq_some_iff_getElem]
  refine ⟨h1, k, hk, rfl, fun j hj => ?_⟩
  have := h0 xs[j] (List.mem_take_iff_getElem.2 ⟨j, by omega, rfl⟩)
  simp [this]
theorem take_none {α : Type} {p : α → Bool} {xs : List α} {k : Nat} (hk : k < xs.length) (h0 : ∀ x ∈ xs.take k, p x = false) (h1 : p xs[k] = false) : ∀ x ∈ xs.take (k + 1), p x = false := by
  rw [take_succ_get xs k hk]
  intro x hx
  rcases List.mem_append.1 hx with h | h
  · exact h0 x h
  · simp at h; subst h; exact h1
set_option maxRecDepth 100000 in
set_option maxHeartbeats 1000000 in
theorem l19Count_c (xs : List Hold) (A : Option Addr) (c : Nat) (o : ByteArray) (z : Int) (w : World) (hr : Rd encHold 3 w.heap.size w A xs) (hn : xs.length ≤ 1048576) :
    Calls Tryd.prog 39 #[.slice A xs.length c, .string o, .int .i64 z] w (Ret (.int .i64 (cntH xs o z)) w) := by
  go_enter Tryd.func39, Tryd.ntmps39
  go_wp2_with fail
  go_loopw [7] (fun i wr => ∃ k : Nat, k ≤ xs.length ∧ i = .int .i64 k ∧ (∀ x ∈ xs.take k, Hold.at_ o z x = false) ∧ Below w.heap.size w wr) (fun i _ => xs.length - (intOf i).toNat)
  case atStart => exact ⟨0, Nat.zero_le _, rfl, by simp, Below.refl _ _⟩
  case round =>
    obtain ⟨k, hk, rfl, hall, hb⟩ := hrel
    have HA := Lib.hid hall
    clear hall
    by_cases hlt : k < xs.length
    · obtain ⟨b, off, rfl, hbs, d0, d1, d2⟩ := (hr.below hb).atHold hlt
      by_cases ho : xs[k].owner = o
      · have h3 : (xs[k].owner.toList == o.toList) = true := by rw [toList_beq]; simpa using ho
        by_cases hz : xs[k].item = z
        · have HV := Lib.hid (show cntH xs o z = xs[k].count by unfold cntH; rw [find_snoc _ xs k hlt HA.out (by simp [Hold.at_, ho, hz])])
          have hz' : (xs[k].item == z) = true := by simpa using hz
          clear ho hz
          go_wp2_with fail
          go_returns
          exact ⟨ret_int HV.out.symm, hb⟩
        · have HV := Lib.hid (take_none hlt HA.out (by simp [Hold.at_, hz]))
          have hz' : (xs[k].item == z) = false := by simpa using hz
          clear ho hz
          go_wp2_with fail
          go_roundw
          case rel => exact ⟨k + 1, by omega, by go_num, HV.out, hb⟩
          case measure => simp [intOf]; omega
      · have h3 : (xs[k].owner.toList == o.toList) = false := by rw [toList_beq]; simpa using ho
        have HV := Lib.hid (take_none hlt HA.out (by simp [Hold.at_, ho]))
        clear ho
        go_wp2_with fail
        go_roundw
        case rel => exact ⟨k + 1, by omega, by go_num, HV.out, hb⟩
        case measure => simp [intOf]; omega
    · have hke : xs.length ≤ k := by omega
      have HV := Lib.hid (show cntH xs o z = 0 by
        unfold cntH
        have := HA.out
        rw [List.take_of_length_le hke] at this
        rw [List.find?_eq_none.2 (fun x hx => by rw [this x hx]; exact Bool.false_ne_true)])
      go_wp2_with fail
      go_returns
      exact ⟨ret_int HV.out.symm, hb⟩
end Go.Proofs.YtebkfcdijjcefaaDoor
