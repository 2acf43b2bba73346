/- Contracts of the functions that ask whether a list are flaws: the reference's loop. No condition but the size. -/
import Derived.Test.YtgjehnjpbekoeaaDoorFlGood
namespace Go.Proofs.YtgjehnjpbekoeaaDoor
set_option linter.unusedVariables false
set_option linter.unusedSimpArgs false
open Go.RowKit
def Flaw.bef (a b : Flaw) : Bool := decide (a.key < b.key)
/-- Place k of the list: a flaw that lies behind the one before. -/
def okAtF (xs : List Flaw) (k : Nat) : Bool := match xs[k]? with
  | none => true
  | some x => x.ok && (decide (k = 0) || match xs[k - 1]? with | none => false | some y => y.bef x)
def goodFl (xs : List Flaw) : Bool := (List.range xs.length).all (okAtF xs) && decide (xs.length ≤ 20)
theorem okAtF_0 {xs : List Flaw} (h : 0 < xs.length) : okAtF xs 0 = xs[0].ok := by simp [okAtF, h]
theorem okAtF_s {xs : List Flaw} {j : Nat} (h : j + 1 < xs.length) : okAtF xs (j + 1) = (xs[j + 1].ok && xs[j].bef xs[j + 1]) := by
  have h' : j < xs.length := by omega
  simp [okAtF, h, h']
theorem okAtF_no {xs : List Flaw} {k : Nat} (h : k < xs.length) (ho : xs[k].ok = false) : okAtF xs k = false := by simp [okAtF, h, ho]
theorem goodFl_no {xs : List Flaw} {k : Nat} (h : k < xs.length) (ho : okAtF xs k = false) : goodFl xs = false := by
  have : (List.range xs.length).all (okAtF xs) = false := List.all_eq_false.2 ⟨k, List.mem_range.2 h, by simp [ho]⟩
  simp [goodFl, this]
theorem goodFl_all {xs : List Flaw} (h : (List.range xs.length).all (okAtF xs) = true) : decide ((xs.length : Int) ≤ 20) = goodFl xs := by
  simp only [goodFl, h, Bool.true_and]
  congr 1; simp; omega
theorem range_next {p : Nat → Bool} {k : Nat} (h : (List.range k).all p = true) (hk : p k = true) : (List.range (k + 1)).all p = true := by
  rw [List.range_succ, List.all_append, h]; simp [hk]
theorem okAtF_ok {xs : List Flaw} {k : Nat} (h : k < xs.length) (ho : okAtF xs k = true) : xs[k].ok = true := by
  cases hc : xs[k].ok with
  | true => rfl
  | false => rw [okAtF_no h hc] at ho; cases ho
theorem all_at {p : Nat → Bool} {k j : Nat} (h : (List.range k).all p = true) (hj : j < k) : p j = true := List.all_eq_true.1 h j (List.mem_range.2 hj)
/-- A struct that the call has just laid into a new block. -/
structure New (w W : World) (vs : List Value) : Prop where
  below : Below w.heap.size w W
  lt : w.heap.size < W.heap.size
  cell : ∀ (j : Nat) (v : Value), vs[j]? = some v → W.cell? ⟨w.heap.size, j, none⟩ = some v
theorem New.of (w : World) (vs : List Value) (t : TypeId) : New w (w.alloc (.cells vs.toArray t)) vs :=
  ⟨(Below.refl _ _).alloc (Nat.le_refl _) _, by simp, fun j v hv => by rw [World.cell?_alloc_new]; simpa using hv⟩
attribute [local irreducible] wpQuiet
set_option maxRecDepth 100000 in
set_option maxHeartbeats 4000000 in
theorem l15Good_c (xs : List Flaw) (A : Option Addr) (c : Nat) (w : World) (hr : Rd encFlaw 4 w.heap.size w A xs) (hn : xs.length ≤ 1048576) :
    Calls Tryd.prog 34 #[.slice A xs.length c] w (Ret (.bool (goodFl xs)) w) := by
  go_enter Tryd.func34, Tryd.ntmps34
  go_wp2_with fail
  go_loopw [3] (fun i wr => ∃ k : Nat, k ≤ xs.length ∧ i = .int .i64 k ∧ (List.range k).all (okAtF xs) = true ∧ Below w.heap.size w wr) (fun i _ => xs.length - (intOf i).toNat)
  case atStart => exact ⟨0, Nat.zero_le _, rfl, rfl, Below.refl _ _⟩
  case round =>
    obtain ⟨k, hk, rfl, hall, hb⟩ := hrel
    have HA := Lib.hid hall
    clear hall
    by_cases hlt : k < xs.length
    · obtain ⟨b, off, rfl, hbs, d0, d1, d2, d3⟩ := (hr.below hb).atFlaw hlt
      have hbw : b < wr.heap.size := Nat.lt_of_lt_of_le hbs hb.size
      have hov := over_cell wr
      have HC : Hid (∀ x : World, Calls Tryd.prog 55 #[.agg #[.int .i64 xs[k].row, .int .i64 xs[k].col, .int .i64 xs[k].code, .int .i64 xs[k].since]] (over wr x) (Ret (.bool xs[k].ok) (over wr x))) := Lib.hid (fun x => l15One_c _ _)
      have HN := Lib.hid (fun h => goodFl_no hlt h)
      by_cases hok : xs[k].ok = true
      · rw [hok] at HC
        by_cases hk0 : k = 0
        · have HK := Lib.hid (show okAtF xs k = true by subst hk0; exact (okAtF_0 hlt).trans hok)
          have hkz : decide (0 < (k : Int)) = false := decide_eq_false (by omega)
          have hkz1 : decide (0 < k) = false := decide_eq_false (by omega)
          clear hk0 hok
          go_wp2_with fail
          refine wp_region_over (by kernel_rfl) (by kernel_rfl) ?_
          repeat (go_big_quiet_step (((go_at_call 55; exact Calls.over_of (HC.out _)))))
          refine wpQuiet_nil ?_
          intro _ hwx1
          obtain ⟨x1, hwx1⟩ := hwx1
          subst hwx1
          go_wp2_with fail
          go_roundw
          case rel => exact ⟨k + 1, by omega, by go_num, range_next HA.out HK.out, below_via hb (over_below wr x1)⟩
          case measure => simp [intOf]; omega
        · obtain ⟨j, hj⟩ : ∃ j, k = j + 1 := ⟨k - 1, by omega⟩
          have hj' : j < xs.length := by omega
          obtain ⟨b', off', hA, hbs', g0, g1, g2, g3⟩ := (hr.below hb).atFlaw hj'
          injection hA with hA; injection hA with hA1 hA2
          subst hA1 hA2
          clear hbs'
          have hkz : decide (0 < (k : Int)) = true := decide_eq_true (by omega)
          have hkz1 : decide (0 < k) = true := decide_eq_true (by omega)
          have hkz2 : 0 < k := by omega
          have hsub : IntKind.i64.wrap ((k : Int) - 1) = (j : Int) := by
            rw [IntWalk.i64_in _ (by omega)]; omega
          have hj0 : (0 : Int) ≤ j := by omega
          have hj1 : (j : Int) ≤ xs.length := by omega
          have hj2 : (j : Int) < xs.length := by omega
          have HJ := Lib.hid (show xs[j].ok = true from okAtF_ok hj' (all_at HA.out (by omega)))
          have HO := Lib.hid hok
          have HE := Lib.hid (show okAtF xs k = (xs[k].ok && xs[j].bef xs[k]) by subst hj; exact okAtF_s hlt)
          by_cases hbf : xs[j].bef xs[k] = true
          · have hkk : decide (xs[k].key ≤ xs[j].key) = false := decide_eq_false (by have := of_decide_eq_true (show decide (xs[j].key < xs[k].key) = true from hbf); omega)
            have HK := Lib.hid (show okAtF xs k = true by rw [HE.out, hok, hbf]; rfl)
            clear hk0 hok hbf hj
            go_wp2_with fail
            refine wp_region_over (by kernel_rfl) (by kernel_rfl) ?_
            repeat (go_big_quiet_step (first | (go_at_call 55; exact Calls.over_of (HC.out _)) | (go_at_call 56; exact Calls.over_of (l15Key_c _ _ (by first | exact HJ.out | exact HO.out)))))
            refine wpQuiet_nil ?_
            intro _ hwx1
            obtain ⟨x1, hwx1⟩ := hwx1
            subst hwx1
            go_wp2_with fail
            go_roundw
            case rel => exact ⟨k + 1, by omega, by go_num, range_next HA.out HK.out, below_via hb (over_below wr x1)⟩
            case measure => simp [intOf]; omega
          · have hbf' : xs[j].bef xs[k] = false := by simpa using hbf
            have hkk : decide (xs[k].key ≤ xs[j].key) = true := decide_eq_true (by have := of_decide_eq_false (show decide (xs[j].key < xs[k].key) = false from hbf'); omega)
            have HK := Lib.hid (show okAtF xs k = false by rw [HE.out, hok, hbf']; rfl)
            clear hk0 hok hbf hbf' hj
            go_wp2_with fail
            refine wp_region_over (by kernel_rfl) (by kernel_rfl) ?_
            repeat (go_big_quiet_step (first | (go_at_call 55; exact Calls.over_of (HC.out _)) | (go_at_call 56; exact Calls.over_of (l15Key_c _ _ (by first | exact HJ.out | exact HO.out)))))
            refine wpQuiet_nil ?_
            intro _ hwx1
            obtain ⟨x1, hwx1⟩ := hwx1
            subst hwx1
            go_wp2_with fail
            go_returns
            exact ⟨ret_bool (HN.out HK.out).symm, below_via hb (over_below wr x1)⟩
      · have hok' : xs[k].ok = false := by simpa using hok
        rw [hok'] at HC
        have HK := Lib.hid (okAtF_no hlt hok')
        clear hok hok'
        go_wp2_with fail
        refine wp_region_over (by kernel_rfl) (by kernel_rfl) ?_
        repeat (go_big_quiet_step (((go_at_call 55; exact Calls.over_of (HC.out _)))))
        refine wpQuiet_nil ?_
        intro _ hwx1
        obtain ⟨x1, hwx1⟩ := hwx1
        subst hwx1
        go_wp2_with fail
        go_returns
        exact ⟨ret_bool (HN.out HK.out).symm, below_via hb (over_below wr x1)⟩
    · have hke : xs.length ≤ k := by omega
      have HV := Lib.hid (goodFl_all (xs := xs) (by rw [← (show k = xs.length by omega)]; exact HA.out))
      go_wp2_with fail
      go_returns
      exact ⟨ret_bool HV.out, hb⟩
end Go.Proofs.YtgjehnjpbekoeaaDoor
