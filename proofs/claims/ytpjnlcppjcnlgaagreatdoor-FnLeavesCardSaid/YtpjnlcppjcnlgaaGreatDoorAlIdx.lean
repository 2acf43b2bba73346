/- Contracts of slices.Index, slices.Contains at ints, slices.IndexFunc at pages, and of the program's pageAt, pageWith. No condition but the sizes. -/
import Derived.Test.YtpjnlcppjcnlgaaGreatDoorAlGood
namespace Go.Proofs.YtpjnlcppjcnlgaaGreatDoor
set_option linter.unusedVariables false
set_option linter.unusedSimpArgs false
open Go.RowKit
attribute [local irreducible] wpQuiet
set_option maxRecDepth 100000 in
set_option maxHeartbeats 1000000 in
theorem indexI_c (xs : List Int) (A : Option Addr) (c : Nat) (z : Int) (w : World) (hr : Rd encI 1 w.heap.size w A xs) (hn : xs.length ≤ 2097152) :
    Calls Tryz.prog 86 #[.slice A xs.length c, .int .i64 z] w (Ret (.int .i64 (idxI (fun y => decide (y = z)) xs)) w) := by
  go_enter Tryz.func86, Tryz.ntmps86
  go_wp2_with fail
  go_loopw [8] (fun i wr => ∃ k : Nat, k ≤ xs.length ∧ i = .int .i64 k ∧ (∀ x ∈ xs.take k, (fun y => decide (y = z)) x = false) ∧ Below w.heap.size w wr) (fun i _ => xs.length - (intOf i).toNat)
  case atStart => exact ⟨0, Nat.zero_le _, rfl, by simp, Below.refl _ _⟩
  case round =>
    obtain ⟨k, hk, rfl, hall, hb⟩ := hrel
    have HA := Lib.hid hall
    clear hall
    by_cases hlt : k < xs.length
    · obtain ⟨b, off, rfl, hbs, d0⟩ := (hr.below hb).int hlt
      by_cases he : xs[k] = z
      · have HV := Lib.hid (idxI_hit (fun y => decide (y = z)) xs k hlt HA.out (by simp [he]))
        have he' : (z == xs[k]) = true := by simp [he]
        clear he
        go_wp2_with fail
        go_returns
        exact ⟨ret_int HV.out.symm, hb⟩
      · have HN := Lib.hid (take_no hlt HA.out (show (fun y => decide (y = z)) xs[k] = false by simp [he]))
        have he' : (z == xs[k]) = false := by simp; intro e; exact he e.symm
        clear he
        go_wp2_with fail
        go_roundw
        case rel => exact ⟨k + 1, by omega, by go_num, HN.out, hb⟩
        case measure => simp [intOf]; omega
    · have HV := Lib.hid (idxI_miss (fun y => decide (y = z)) xs (by have := HA.out; rwa [List.take_of_length_le (by omega)] at this))
      go_wp2_with fail
      go_returns
      exact ⟨ret_int HV.out.symm, hb⟩
theorem idx_mem (xs : List Int) (z : Int) : decide (0 ≤ idxI (fun y => decide (y = z)) xs) = decide (z ∈ xs) := by
  rw [idxI_any]
  by_cases h : z ∈ xs
  · rw [decide_eq_true h]; exact List.any_eq_true.2 ⟨z, h, by simp⟩
  · rw [decide_eq_false h]; exact List.any_eq_false.2 fun x hx => by simp; intro e; subst e; exact h hx
theorem containsI_c (xs : List Int) (A : Option Addr) (c : Nat) (z : Int) (w : World) (hr : Rd encI 1 w.heap.size w A xs) (hn : xs.length ≤ 2097152) :
    Calls Tryz.prog 65 #[.slice A xs.length c, .int .i64 z] w (Ret (.bool (decide (z ∈ xs))) w) := by
  have HV := Lib.hid (idx_mem xs z)
  go_enter Tryz.func65, Tryz.ntmps65
  go_wp2_with fail
  refine (indexI_c xs _ _ _ _ hr hn).mono ?_
  rintro _ w1 ⟨rfl, hb1⟩
  generalize idxI (fun y => decide (y = z)) xs = q at *
  go_wp2_with fail
  go_returns
  exact ⟨ret_bool HV.out, hb1⟩
set_option maxHeartbeats 1000000 in
theorem indexP_c (xs : List Page) (A : Option Addr) (c : Nat) (w : World) (g : FuncId) (cp : Value) (p : Page → Bool) (hr : RdP w.heap.size w A xs) (hn : xs.length ≤ 1048576) (hg : ∀ args W, (callFunc g args).run Tryz.prog W = .ok (.enter g args) W)
    (hp : ∀ (x : Page) (Ai : Option Addr) (ci : Nat) (W : World), Below w.heap.size w W → x ∈ xs → Rd encI 1 W.heap.size W Ai x.items → Calls Tryz.prog g #[.agg #[.int .i64 x.id, .string x.title, .int .i64 x.under, .slice Ai x.items.length ci], cp] W (Ret (.bool (p x)) W)) :
    Calls Tryz.prog 60 #[.slice A xs.length c, .func (.func g) #[] #[cp]] w (Ret (.int .i64 (idxI p xs)) w) := by
  have HP := Lib.hid hp
  clear hp
  go_enter Tryz.func60, Tryz.ntmps60
  go_wp2_with fail
  go_loopw [8] (fun i wr => ∃ k : Nat, k ≤ xs.length ∧ i = .int .i64 k ∧ (∀ x ∈ xs.take k, p x = false) ∧ Below w.heap.size w wr) (fun i _ => xs.length - (intOf i).toNat)
  case atStart => exact ⟨0, Nat.zero_le _, rfl, by simp, Below.refl _ _⟩
  case round =>
    obtain ⟨k, hk, rfl, hall, hb⟩ := hrel
    have HA := Lib.hid hall
    clear hall
    by_cases hlt : k < xs.length
    · obtain ⟨b, off, Ai, ci, rfl, hbs, d0, d1, d2, d3, hci, hri⟩ := (hr.below hb).page hlt
      go_wp2_with fail
      refine (HP.out xs[k] _ _ _ hb (List.getElem_mem hlt) (hri.more hb.size)).mono ?_
      rintro e w1 ⟨rfl, hb1⟩
      have hbl := hb.trans (hb1.mono hb.size)
      by_cases hok : p xs[k] = true
      · go_wp2_with fail
        go_returns
        exact ⟨ret_int (idxI_hit p xs k hlt HA.out hok).symm, hbl⟩
      · have hok' : p xs[k] = false := by simpa using hok
        have HN := Lib.hid (take_no hlt HA.out hok')
        go_wp2_with fail
        go_roundw
        case rel => exact ⟨k + 1, by omega, by go_num, HN.out, hbl⟩
        case measure => simp [intOf]; omega
    · have hke : xs.length ≤ k := by omega
      go_wp2_with fail
      go_returns
      exact ⟨ret_int (idxI_miss p xs (by have := HA.out; rwa [List.take_of_length_le hke] at this)).symm, hb⟩
theorem pageAt1_c (x : Page) (Ai : Option Addr) (ci : Nat) (b : Nat) (z : Int) (w : World) (hz : w.cell? ⟨b, 0, none⟩ = some (.int .i64 z)) :
    Calls Tryz.prog 61 #[.agg #[.int .i64 x.id, .string x.title, .int .i64 x.under, .slice Ai x.items.length ci], .pointer (some ⟨b, 0, none⟩)] w (Ret (.bool (idP z x)) w) := by
  have hb := cell_lt hz
  have hz' := ((Below.refl w.heap.size w).alloc (Nat.le_refl _) (.cells #[.int .i64 x.id, .string x.title, .int .i64 x.under, .slice Ai x.items.length ci] 56)).cell (p := ⟨b, 0, none⟩) hb |>.trans hz
  have hbl : Below w.heap.size w (w.alloc (.cells #[.int .i64 x.id, .string x.title, .int .i64 x.under, .slice Ai x.items.length ci] 56)) := by go_grown
  go_enter Tryz.func61, Tryz.ntmps61
  go_wp2_with fail
  go_returns
  exact ⟨ret_bool (by unfold idP; rfl), hbl⟩
set_option maxHeartbeats 1000000 in
theorem pageAt_c (xs : List Page) (A : Option Addr) (c : Nat) (z : Int) (w : World) (hr : RdP w.heap.size w A xs) (hn : xs.length ≤ 1048576) :
    Calls Tryz.prog 36 #[.slice A xs.length c, .int .i64 z] w (Ret (.int .i64 (idxI (idP z) xs)) w) := by
  have hbA : Below w.heap.size w (w.alloc (.cells #[.int .i64 z] 3)) := by go_grown
  have hz : (w.alloc (.cells #[.int .i64 z] 3)).cell? ⟨w.heap.size, 0, none⟩ = some (.int .i64 z) := by simp
  have hs : w.heap.size < (w.alloc (.cells #[.int .i64 z] 3)).heap.size := by simp
  go_enter Tryz.func36, Tryz.ntmps36
  go_wp2_with fail
  refine (indexP_c xs _ _ _ _ _ (idP z) (hr.go hbA) hn (fun args W => enters Tryz.func61 rfl rfl args W) (fun x Ai ci W hb _ _ => pageAt1_c x Ai ci _ z W ((hb.cell (p := ⟨w.heap.size, 0, none⟩) hs).trans hz))).mono ?_
  rintro _ w1 ⟨rfl, hb1⟩
  go_wp2_with fail
  go_returns
  exact ⟨rfl, below_via hbA hb1⟩
theorem pageWith1_c (x : Page) (Ai : Option Addr) (ci : Nat) (b : Nat) (z : Int) (w : World) (hz : w.cell? ⟨b, 0, none⟩ = some (.int .i64 z)) (hr : Rd encI 1 w.heap.size w Ai x.items) (hn : x.items.length ≤ 2097152) :
    Calls Tryz.prog 64 #[.agg #[.int .i64 x.id, .string x.title, .int .i64 x.under, .slice Ai x.items.length ci], .pointer (some ⟨b, 0, none⟩)] w (Ret (.bool (hasP z x)) w) := by
  have hb := cell_lt hz
  have hz' := ((Below.refl w.heap.size w).alloc (Nat.le_refl _) (.cells #[.int .i64 x.id, .string x.title, .int .i64 x.under, .slice Ai x.items.length ci] 56)).cell (p := ⟨b, 0, none⟩) hb |>.trans hz
  have hbl : Below w.heap.size w (w.alloc (.cells #[.int .i64 x.id, .string x.title, .int .i64 x.under, .slice Ai x.items.length ci] 56)) := by go_grown
  go_enter Tryz.func64, Tryz.ntmps64
  go_wp2_with fail
  refine (containsI_c _ _ _ _ _ (hr.go hbl) hn).mono ?_
  rintro _ w1 ⟨rfl, hb1⟩
  go_wp2_with fail
  go_returns
  exact ⟨rfl, below_via hbl hb1⟩
set_option maxHeartbeats 1000000 in
theorem pageWith_c (xs : List Page) (A : Option Addr) (c : Nat) (z : Int) (w : World) (hr : RdP w.heap.size w A xs) (hn : xs.length ≤ 1048576) (hs : sumI xs ≤ 2097152) :
    Calls Tryz.prog 46 #[.slice A xs.length c, .int .i64 z] w (Ret (.int .i64 (idxI (hasP z) xs)) w) := by
  have hbA : Below w.heap.size w (w.alloc (.cells #[.int .i64 z] 3)) := by go_grown
  have hz : (w.alloc (.cells #[.int .i64 z] 3)).cell? ⟨w.heap.size, 0, none⟩ = some (.int .i64 z) := by simp
  have hsz : w.heap.size < (w.alloc (.cells #[.int .i64 z] 3)).heap.size := by simp
  go_enter Tryz.func46, Tryz.ntmps46
  go_wp2_with fail
  refine (indexP_c xs _ _ _ _ _ (hasP z) (hr.go hbA) hn (fun args W => enters Tryz.func64 rfl rfl args W) (fun x Ai ci W hb hx hri => pageWith1_c x Ai ci _ z W ((hb.cell (p := ⟨w.heap.size, 0, none⟩) hsz).trans hz) hri (Nat.le_trans (sumI_mem hx) hs))).mono ?_
  rintro _ w1 ⟨rfl, hb1⟩
  go_wp2_with fail
  go_returns
  exact ⟨rfl, below_via hbA hb1⟩
end Go.Proofs.YtpjnlcppjcnlgaaGreatDoor
