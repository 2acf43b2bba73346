/- Contracts of slices.IndexFunc at lists of lists, and of the closure by which the program asks for a group with the same codes. No condition but the sizes. -/
import Derived.Test.YtgjehnjpbekoeaaDoorOwnSS
import Derived.Test.YtgjehnjpbekoeaaDoorFlAsk
import Derived.Test.YtgjehnjpbekoeaaDoorLaPlain
import Derived.Deep.CutBlock
import Derived.Deep.RegionHeld3
namespace Go.Proofs.YtgjehnjpbekoeaaDoor
set_option linter.unusedVariables false
set_option linter.unusedSimpArgs false
open Go.RowKit
attribute [local irreducible] wpQuiet
theorem take_no {α : Type} {p : α → Bool} {xs : List α} {k : Nat} (hk : k < xs.length) (h0 : ∀ x ∈ xs.take k, p x = false) (h1 : p xs[k] = false) : ∀ x ∈ xs.take (k + 1), p x = false := by
  rw [take_succ_get xs k hk]
  intro x hx
  rcases List.mem_append.1 hx with h | h
  · exact h0 x h
  · simp at h; subst h; exact h1
set_option maxHeartbeats 1000000 in
theorem indexS3_c (xs : List (List Int)) (A : Option Addr) (c : Nat) (w : World) (g : FuncId) (c1 c2 c3 : Value) (p : List Int → Bool) (hr : RdSS w.heap.size w A xs) (hn : xs.length ≤ 1048576) (hg : ∀ args W, (callFunc g args).run Tryd.prog W = .ok (.enter g args) W)
    (hp : ∀ (x : List Int) (Ai : Option Addr) (ci : Nat) (W : World), Below w.heap.size w W → x ∈ xs → Rd encI 1 W.heap.size W Ai x → Calls Tryd.prog g #[.slice Ai x.length ci, c1, c2, c3] W (Ret (.bool (p x)) W)) :
    Calls Tryd.prog 29 #[.slice A xs.length c, .func (.func g) #[] #[c1, c2, c3]] w (Ret (.int .i64 (idxI p xs)) w) := by
  have HP := Lib.hid hp
  clear hp
  go_enter Tryd.func29, Tryd.ntmps29
  go_wp2_with fail
  go_loopw [8] (fun i wr => ∃ k : Nat, k ≤ xs.length ∧ i = .int .i64 k ∧ (∀ x ∈ xs.take k, p x = false) ∧ Below w.heap.size w wr) (fun i _ => xs.length - (intOf i).toNat)
  case atStart => exact ⟨0, Nat.zero_le _, rfl, by simp, Below.refl _ _⟩
  case round =>
    obtain ⟨k, hk, rfl, hall, hb⟩ := hrel
    have HA := Lib.hid hall
    clear hall
    by_cases hlt : k < xs.length
    · obtain ⟨b, off, Ai, ci, rfl, hbs, d0, hci, hri⟩ := (hr.below hb).at_ hlt
      go_wp2_with fail
      refine (HP.out xs[k] _ _ _ hb (List.getElem_mem hlt) (hri.more hb.size)).mono ?_
      rintro e w1 ⟨rfl, hb1⟩
      have hbl := hb.trans (hb1.mono hb.size)
      by_cases hok : p xs[k] = true
      · go_wp2_with fail
        go_returns
        exact ⟨ret_int (idxI_hit p xs k hlt HA.out hok).symm, hbl⟩
      · have hok' : p xs[k] = false := by simpa using hok
        have HN := Lib.hid (take_no hlt HA.out hok')
        go_wp2_with fail
        go_roundw
        case rel => exact ⟨k + 1, by omega, by go_num, HN.out, hbl⟩
        case measure => simp [intOf]; omega
    · have hke : xs.length ≤ k := by omega
      go_wp2_with fail
      go_returns
      exact ⟨ret_int (idxI_miss p xs (by have := HA.out; rwa [List.take_of_length_le hke] at this)).symm, hb⟩
set_option maxHeartbeats 1000000 in
theorem indexS0_c (xs : List (List Int)) (A : Option Addr) (c : Nat) (w : World) (g : FuncId) (p : List Int → Bool) (hr : RdSS w.heap.size w A xs) (hn : xs.length ≤ 1048576) (hg : ∀ args W, (callFunc g args).run Tryd.prog W = .ok (.enter g args) W)
    (hp : ∀ (x : List Int) (Ai : Option Addr) (ci : Nat) (W : World), Below w.heap.size w W → x ∈ xs → Rd encI 1 W.heap.size W Ai x → Calls Tryd.prog g #[.slice Ai x.length ci] W (Ret (.bool (p x)) W)) :
    Calls Tryd.prog 29 #[.slice A xs.length c, .func (.func g) #[] #[]] w (Ret (.int .i64 (idxI p xs)) w) := by
  have HP := Lib.hid hp
  clear hp
  go_enter Tryd.func29, Tryd.ntmps29
  go_wp2_with fail
  go_loopw [8] (fun i wr => ∃ k : Nat, k ≤ xs.length ∧ i = .int .i64 k ∧ (∀ x ∈ xs.take k, p x = false) ∧ Below w.heap.size w wr) (fun i _ => xs.length - (intOf i).toNat)
  case atStart => exact ⟨0, Nat.zero_le _, rfl, by simp, Below.refl _ _⟩
  case round =>
    obtain ⟨k, hk, rfl, hall, hb⟩ := hrel
    have HA := Lib.hid hall
    clear hall
    by_cases hlt : k < xs.length
    · obtain ⟨b, off, Ai, ci, rfl, hbs, d0, hci, hri⟩ := (hr.below hb).at_ hlt
      go_wp2_with fail
      refine (HP.out xs[k] _ _ _ hb (List.getElem_mem hlt) (hri.more hb.size)).mono ?_
      rintro e w1 ⟨rfl, hb1⟩
      have hbl := hb.trans (hb1.mono hb.size)
      by_cases hok : p xs[k] = true
      · go_wp2_with fail
        go_returns
        exact ⟨ret_int (idxI_hit p xs k hlt HA.out hok).symm, hbl⟩
      · have hok' : p xs[k] = false := by simpa using hok
        have HN := Lib.hid (take_no hlt HA.out hok')
        go_wp2_with fail
        go_roundw
        case rel => exact ⟨k + 1, by omega, by go_num, HN.out, hbl⟩
        case measure => simp [intOf]; omega
    · have hke : xs.length ≤ k := by omega
      go_wp2_with fail
      go_returns
      exact ⟨ret_int (idxI_miss p xs (by have := HA.out; rwa [List.take_of_length_le hke] at this)).symm, hb⟩
set_option maxRecDepth 100000 in
set_option maxHeartbeats 1000000 in
theorem alikes1_c (xs : List Flaw) (A : Option Addr) (c : Nat) (st : Int) (cs : List Int) (C : Option Addr) (cc bl bs bc : Nat) (z : Int) (t : List Int) (Ai : Option Addr) (ci : Nat) (w : World)
    (hl : w.cell? ⟨bl, 0, none⟩ = some (.slice A xs.length c)) (hs : w.cell? ⟨bs, 0, none⟩ = some (.int .i64 st)) (hx : w.cell? ⟨bc, 0, none⟩ = some (.slice C cs.length cc))
    (hr : Rd encFlaw 4 w.heap.size w A xs) (hg : goodFl xs = true) (hrc : Rd encI 1 w.heap.size w C cs) (hcl : cs.length ≤ 2097152) (hri : Rd encI 1 w.heap.size w Ai (z :: t)) :
    Calls Tryd.prog 30 #[.slice Ai (z :: t).length ci, .pointer (some ⟨bl, 0, none⟩), .pointer (some ⟨bs, 0, none⟩), .pointer (some ⟨bc, 0, none⟩)] w (Ret (.bool (hitP xs st cs (z :: t))) w) := by
  have HX := Lib.hid (show decide (codesL xs z st = cs) = hitP xs st cs (z :: t) from rfl)
  obtain ⟨b, off, rfl, hb, d0⟩ := hri.int (i := 0) (by simp)
  simp only [List.getElem_cons_zero, Nat.add_zero] at d0
  have hbl := cell_lt hl
  have hbs := cell_lt hs
  have hbc := cell_lt hx
  have hlen := goodFl_len hg
  have hcn := codesL_len xs z st
  have HG := Lib.hid hg
  have hp0 : (0 : Int) < ((z :: t).length : Int) := by simp
  clear hri hg
  go_enter Tryd.func30, Tryd.ntmps30
  go_wp2_with fail
  go_region_held3 (fun W => W.cell? ⟨bl, 0, none⟩ = some (.slice A xs.length c) ∧ W.cell? ⟨bs, 0, none⟩ = some (.int .i64 st) ∧ W.cell? ⟨bc, 0, none⟩ = some (.slice C cs.length cc) ∧ W.cell? ⟨b, off, none⟩ = some (.int .i64 z)) (first | exact ⟨hl, hs, hx, d0⟩ | exact ke1 | exact ke2 | assumption) (first
    | (go_at_call 28; refine (codesAt_c xs _ _ z st _ (show Rd encFlaw 4 w.drew.heap.size w.drew A xs from hr) HG.out).mono ?_; rintro e w1 ⟨B, c', rfl, hb1, hown⟩; have ke1 := And.intro ((hb1.cell (p := ⟨bl, 0, none⟩) hbl).trans hl) (And.intro ((hb1.cell (p := ⟨bs, 0, none⟩) hbs).trans hs) (And.intro ((hb1.cell (p := ⟨bc, 0, none⟩) hbc).trans hx) ((hb1.cell (p := ⟨b, off, none⟩) hb).trans d0))); have hrc1 := (show Rd encI 1 w.drew.heap.size w.drew C cs from hrc).go hb1; have hbc1 := Nat.lt_of_lt_of_le hbc hb1.size; have hbl1 := Nat.lt_of_lt_of_le hbl hb1.size; have hbs1 := Nat.lt_of_lt_of_le hbs hb1.size; have hbb1 := Nat.lt_of_lt_of_le hb hb1.size)
    | (go_at_call 31; refine (equalN_c (codesL xs z st) cs _ _ _ _ _ hown.rd hrc1 (by omega) (by omega)).mono ?_; rintro e w2 ⟨rfl, hb2⟩; have ke2 := And.intro ((hb2.cell (p := ⟨bl, 0, none⟩) hbl1).trans ke1.1) (And.intro ((hb2.cell (p := ⟨bs, 0, none⟩) hbs1).trans ke1.2.1) (And.intro ((hb2.cell (p := ⟨bc, 0, none⟩) hbc1).trans ke1.2.2.1) ((hb2.cell (p := ⟨b, off, none⟩) hbb1).trans ke1.2.2.2)))))
  all_goals
    have hbw := below_via ((Below.refl w.heap.size w).drew.trans hb1) hb2
    clear ke1 ke2 hown hrc1 hb1 hb2
    go_wp2_with fail
    go_returns
    exact ⟨ret_bool HX.out, hbw⟩
theorem alikes2_c (Ai : Option Addr) (n ci : Nat) (w : World) (hn : n ≤ 9223372036854775807) : Calls Tryd.prog 33 #[.slice Ai n ci] w (Pure (.bool (decide (n < 2))) w) := by
  go_enter Tryd.func33, Tryd.ntmps33
  go_wp2_with fail
  go_returns
  exact ⟨ret_bool (by simp; omega), rfl⟩
end Go.Proofs.YtgjehnjpbekoeaaDoor
