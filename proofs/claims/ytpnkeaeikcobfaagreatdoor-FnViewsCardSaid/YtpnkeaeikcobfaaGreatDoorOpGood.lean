/- When a list are opinions: the plain words, and small contracts. No condition but the sizes. -/
import Derived.Test.YtpnkeaeikcobfaaGreatDoorCvOpinion
import Derived.Test.YtpnkeaeikcobfaaGreatDoorWord
import Derived.Test.YtpnkeaeikcobfaaGreatDoorCmpS
import Derived.Test.YtpnkeaeikcobfaaGreatDoorOver
import Derived.IntWalk
namespace Go.Proofs.YtpnkeaeikcobfaaGreatDoor
set_option linter.unusedVariables false
set_option linter.unusedSimpArgs false
open Go.RowKit
/-- A struct that the call has just laid into a new block. -/
structure New (w W : World) (vs : List Value) : Prop where
  below : Below w.heap.size w W
  lt : w.heap.size < W.heap.size
  cell : ∀ (j : Nat) (v : Value), vs[j]? = some v → W.cell? ⟨w.heap.size, j, none⟩ = some v
theorem New.of (w : World) (vs : List Value) (t : TypeId) : New w (w.alloc (.cells vs.toArray t)) vs :=
  ⟨(Below.refl _ _).alloc (Nat.le_refl _) _, by simp, fun j v hv => by rw [World.cell?_alloc_new]; simpa using hv⟩
def Opinion.base (x : Opinion) : Bool := inR x.item 1 999 && isW x.expert && inR x.day 0 4000 && inR x.says 1 4
def prevO (xs : List Opinion) (k : Nat) (x : Opinion) : Bool := decide (k = 0) || match xs[k - 1]? with | none => false | some y => decide (y.day ≤ x.day)
def tgtO (xs : List Opinion) (x : Opinion) : Bool := match xs[x.over.toNat]? with | none => false | some y => decide (y.item = x.item) && decide (y.expert = x.expert)
def usedO (xs : List Opinion) (k : Nat) (v : Int) : Bool := (xs.take k).any fun y => decide (y.over = v)
def okO (xs : List Opinion) (k : Nat) : Bool := match xs[k]? with
  | none => true
  | some x => x.base && decide (-1 ≤ x.over) && decide (x.over < k) && prevO xs k x && (decide (x.over < 0) || (tgtO xs x && !usedO xs k x.over))
def goodO (xs : List Opinion) : Bool := (List.range xs.length).all (okO xs) && decide (xs.length ≤ 15)
theorem okO_val {xs : List Opinion} {k : Nat} (h : k < xs.length) : okO xs k = (xs[k].base && decide (-1 ≤ xs[k].over) && decide (xs[k].over < k) && prevO xs k xs[k] && (decide (xs[k].over < 0) || (tgtO xs xs[k] && !usedO xs k xs[k].over))) := by simp [okO, h]
theorem prevO_0 (xs : List Opinion) (x : Opinion) : prevO xs 0 x = true := by simp [prevO]
theorem prevO_s {xs : List Opinion} {j : Nat} (h : j < xs.length) (x : Opinion) : prevO xs (j + 1) x = decide (xs[j].day ≤ x.day) := by simp [prevO, h]
theorem tgtO_val {xs : List Opinion} {x : Opinion} {t : Nat} (h : t < xs.length) (ho : x.over = t) : tgtO xs x = (decide (xs[t].item = x.item) && decide (xs[t].expert = x.expert)) := by simp [tgtO, ho, h]
theorem goodO_no {xs : List Opinion} {k : Nat} (h : k < xs.length) (ho : okO xs k = false) : goodO xs = false := by
  have : (List.range xs.length).all (okO xs) = false := List.all_eq_false.2 ⟨k, List.mem_range.2 h, by simp [ho]⟩
  simp [goodO, this]
theorem goodO_all {xs : List Opinion} (h : (List.range xs.length).all (okO xs) = true) : decide ((xs.length : Int) ≤ 15) = goodO xs := by
  simp only [goodO, h, Bool.true_and]
  congr 1; simp; omega
theorem goodO_many {xs : List Opinion} (h : 15 < xs.length) : decide ((xs.length : Int) ≤ 15) = goodO xs := by
  rw [decide_eq_false (by omega)]
  simp [goodO]; intro _; omega
theorem goodO_len {xs : List Opinion} (h : goodO xs = true) : xs.length ≤ 15 := by
  simp only [goodO, Bool.and_eq_true, decide_eq_true_eq] at h; exact h.2
theorem goodO_at {xs : List Opinion} (h : goodO xs = true) {k : Nat} (hk : k < xs.length) : okO xs k = true := by
  simp only [goodO, Bool.and_eq_true] at h
  exact List.all_eq_true.1 h.1 k (List.mem_range.2 hk)
theorem range_next {p : Nat → Bool} {k : Nat} (h : (List.range k).all p = true) (hk : p k = true) : (List.range (k + 1)).all p = true := by
  rw [List.range_succ, List.all_append, h]; simp [hk]
theorem l17Item_c (z : Int) (w : World) : Calls Tryz.prog 31 #[.int .i64 z] w (Pure (.bool (inR z 1 999)) w) := by
  go_enter Tryz.func31, Tryz.ntmps31
  go_wp2_with (go_at_call 50; refine (l1In_c _ _ _ _).mono ?_; rintro e w' ⟨rfl, rfl⟩)
  go_returns
  exact ⟨rfl, rfl⟩
theorem isItem_c (z : Int) (w : World) : Calls Tryz.prog 27 #[.int .i64 z] w (Pure (.bool (inR z 1 999)) w) := by
  go_enter Tryz.func27, Tryz.ntmps27
  go_wp2_with (go_at_call 49; refine (inRange_c _ _ _ _).mono ?_; rintro e w' ⟨rfl, rfl⟩)
  go_returns
  exact ⟨rfl, rfl⟩
theorem l2Day_c (z : Int) (w : World) : Calls Tryz.prog 32 #[.int .i64 z] w (Pure (.bool (inR z 0 4000)) w) := by
  go_enter Tryz.func32, Tryz.ntmps32
  go_wp2_with (go_at_call 50; refine (l1In_c _ _ _ _).mono ?_; rintro e w' ⟨rfl, rfl⟩)
  go_returns
  exact ⟨rfl, rfl⟩
theorem isDay_c (z : Int) (w : World) : Calls Tryz.prog 28 #[.int .i64 z] w (Pure (.bool (inR z 0 4000)) w) := by
  go_enter Tryz.func28, Tryz.ntmps28
  go_wp2_with (go_at_call 49; refine (inRange_c _ _ _ _).mono ?_; rintro e w' ⟨rfl, rfl⟩)
  go_returns
  exact ⟨rfl, rfl⟩
set_option maxHeartbeats 400000 in
theorem l17One_c (x : Opinion) (w : World) (hs : x.expert.size ≤ 9223372036854775807) : Calls Tryz.prog 60 #[.agg #[.int .i64 x.item, .string x.expert, .int .i64 x.day, .int .i64 x.says, .int .i64 x.over]] w (Ret (.bool (x.base && decide (-1 ≤ x.over))) w) := by
  go_enter Tryz.func60, Tryz.ntmps60
  go_wp2_with (first | (go_at_call 43; refine (l2Word_c _ _ hs).mono ?_; rintro e w' ⟨rfl, rfl⟩) | (go_at_call 31; refine (l17Item_c _ _).mono ?_; rintro e w' ⟨rfl, rfl⟩) | (go_at_call 32; refine (l2Day_c _ _).mono ?_; rintro e w' ⟨rfl, rfl⟩) | (go_at_call 50; refine (l1In_c _ _ _ _).mono ?_; rintro e w' ⟨rfl, rfl⟩))
  all_goals
    go_returns
    exact ⟨ret_bool (by simp_all [Opinion.base]), by go_grown⟩
end Go.Proofs.YtpnkeaeikcobfaaGreatDoor
