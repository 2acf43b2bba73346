/- Numbers as text: the reference's l1Num and the program's strconv.Itoa. No condition but that the table of powers lies as it is listed. -/
import Derived.Test.YtgjehnjpbekoeaaDoorProg
import Derived.Test.YtgjehnjpbekoeaaDoorLib
import Derived.Ground.NamesProg
import Derived.Shelf.Strconv.Itoa3
import Derived.Lib.AppendIntMem
import Derived.Laws.Concat
import Derived.Test.YtgjehnjpbekoeaaDoorOver
import Derived.Test.YtgjehnjpbekoeaaDoorFlGood2
namespace Go.Proofs.YtgjehnjpbekoeaaDoor
set_option linter.unusedVariables false
set_option linter.unusedSimpArgs false
open Go.RowKit Go.Shelf
attribute [local irreducible] wpQuiet
def laysItoa_ren : Go.Shelf.Ren := ⟨fun | 243 => 71 | 246 => 75 | 283 => 77 | 284 => 78 | 285 => 79 | 286 => 80 | 129 => 82 | 317 => 81 | 318 => 83 | 319 => 84 | 320 => 85 | 337 => 86 | 338 => 87 | n => n, fun | 3 => 3 | 9 => 9 | 2 => 2 | 4 => 4 | 171 => 88 | 0 => 0 | 53 => 61 | 37 => 22 | 5 => 5 | 173 => 91 | 212 => 94 | 51 => 95 | 20 => 20 | 213 => 96 | 46 => 81 | 232 => 99 | 233 => 100 | n => n, fun | 17 => 0 | 18 => 1 | 19 => 2 | n => n⟩
theorem laysItoa : Go.Proofs.LaysM.n243 Tryd.prog laysItoa_ren := {
  mixed := by kernel_rfl
  f129 := Tryd.func82.trans (congrArg some (by kernel_rfl))
  f243 := Tryd.func71.trans (congrArg some (by kernel_rfl))
  f246 := Tryd.func75.trans (congrArg some (by kernel_rfl))
  f283 := Tryd.func77.trans (congrArg some (by kernel_rfl))
  f284 := Tryd.func78.trans (congrArg some (by kernel_rfl))
  f285 := Tryd.func79.trans (congrArg some (by kernel_rfl))
  f286 := Tryd.func80.trans (congrArg some (by kernel_rfl))
  f317 := Tryd.func81.trans (congrArg some (by kernel_rfl))
  f318 := Tryd.func83.trans (congrArg some (by kernel_rfl))
  f319 := Tryd.func84.trans (congrArg some (by kernel_rfl))
  f320 := Tryd.func85.trans (congrArg some (by kernel_rfl))
  f337 := Tryd.func86.trans (congrArg some (by kernel_rfl))
  f338 := Tryd.func87.trans (congrArg some (by kernel_rfl))
  t0 := Tryd.underlying0
  a0 := Tryd.isAgg0
  z0 := Tryd.sizeOf0
  v0 := Tryd.zeroValue0
  t2 := Tryd.underlying2
  a2 := Tryd.isAgg2
  z2 := Tryd.sizeOf2
  v2 := Tryd.zeroValue2
  t3 := Tryd.underlying3
  a3 := Tryd.isAgg3
  z3 := Tryd.sizeOf3
  v3 := Tryd.zeroValue3
  t4 := Tryd.underlying4
  a4 := Tryd.isAgg4
  z4 := Tryd.sizeOf4
  v4 := Tryd.zeroValue4
  t5 := Tryd.underlying5
  a5 := Tryd.isAgg5
  z5 := Tryd.sizeOf5
  v5 := Tryd.zeroValue5
  t9 := Tryd.underlying9
  a9 := Tryd.isAgg9
  z9 := Tryd.sizeOf9
  v9 := Tryd.zeroValue9
  t20 := Tryd.underlying20
  a20 := Tryd.isAgg20
  z20 := Tryd.sizeOf20
  v20 := Tryd.zeroValue20
  t37 := Tryd.underlying22
  a37 := Tryd.isAgg22
  z37 := Tryd.sizeOf22
  v37 := Tryd.zeroValue22
  t46 := Tryd.underlying81
  a46 := Tryd.isAgg81
  z46 := Tryd.sizeOf81
  v46 := Tryd.zeroValue81
  t51 := Tryd.underlying95
  a51 := Tryd.isAgg95
  z51 := Tryd.sizeOf95
  v51 := Tryd.zeroValue95
  t53 := Tryd.underlying61
  a53 := Tryd.isAgg61
  z53 := Tryd.sizeOf61
  v53 := Tryd.zeroValue61
  t171 := Tryd.underlying88
  a171 := Tryd.isAgg88
  z171 := Tryd.sizeOf88
  v171 := Tryd.zeroValue88
  t173 := Tryd.underlying91
  a173 := Tryd.isAgg91
  z173 := Tryd.sizeOf91
  v173 := Tryd.zeroValue91
  t212 := Tryd.underlying94
  a212 := Tryd.isAgg94
  z212 := Tryd.sizeOf94
  v212 := Tryd.zeroValue94
  t213 := Tryd.underlying96
  a213 := Tryd.isAgg96
  z213 := Tryd.sizeOf96
  t232 := Tryd.underlying99
  a232 := Tryd.isAgg99
  z232 := Tryd.sizeOf99
  v232 := Tryd.zeroValue99
  t233 := Tryd.underlying100
  a233 := Tryd.isAgg100
  z233 := Tryd.sizeOf100
  v233 := Tryd.zeroValue100
  g17 := by kernel_rfl
  g18 := by kernel_rfl
  g19 := by kernel_rfl
  i0 := by kernel_rfl
  i2 := by kernel_rfl
  i3 := by kernel_rfl
  i4 := by kernel_rfl
  i5 := by kernel_rfl
  i9 := by kernel_rfl
  i20 := by kernel_rfl
  i37 := by kernel_rfl
  i46 := by kernel_rfl
  i51 := by kernel_rfl
  i53 := by kernel_rfl
  i171 := by kernel_rfl
  i173 := by kernel_rfl
  i212 := by kernel_rfl
  i232 := by kernel_rfl
  i233 := by kernel_rfl
  m17 := by kernel_rfl
  m18 := by kernel_rfl
  m19 := by kernel_rfl }
def digC (m : Nat) : UInt8 := UInt8.ofNat (48 + m)
/-- The text of a number. -/
def numB (n : Int) : ByteArray := ⟨(Go.Lib.itoa n).toArray⟩
def Pow (w : World) : Prop := Go.Lib.TabIs Tryd.prog w "internal/strconv.uint64pow10" .u64 Go.Lib.pow10Tab
theorem Pow.go {w w' : World} (h : Pow w) (hb : Below w.heap.size w w') : Pow w' := by
  unfold Pow Go.Lib.TabIs World.var? at *
  cases hg : Tryd.prog.globalNamed "internal/strconv.uint64pow10" with
  | none => rw [hg] at h; cases h
  | some g =>
    rw [hg] at h
    simp only [Option.bind_some] at h ⊢
    have hl : g < w.heap.size := by
      rcases Nat.lt_or_ge g w.heap.size with h1 | h1
      · exact h1
      · rw [Array.getElem?_eq_none h1] at h; cases h
    rw [hb.block g hl]
    exact h
theorem itoa_c (n : Int) (w : World) (ht : Pow w) (h0 : -9223372036854775808 ≤ n) (h1 : n ≤ 9223372036854775807) : Calls Tryd.prog 57 #[.int .i64 n] w (Ret (.string (numB n)) w) := by
  go_enter Tryd.func57, Tryd.ntmps57
  go_wp2_with fail
  refine (Any.internal_strconv_Itoa laysItoa n h0 h1 w ht).mono ?_
  rintro _ _ ⟨rfl, k, os, rfl⟩
  go_wp2_with fail
  go_returns
  exact ⟨rfl, Go.Lib.below_grow _ _ (Nat.le_refl _) _ _⟩
theorem ret_tx {a b : ByteArray} (h : a = b) : Ending.returned (.string a) = .returned (.string b) := by rw [h]
theorem dig_run : ∀ (i : Nat) (_ : i < 10) (w : World), (Instr.slice 9 (.string ⟨#[48, 49, 50, 51, 52, 53, 54, 55, 56, 57]⟩) (some (.int .i64 (i : Int))) (some (.int .i64 ((i : Int) + 1))) none).run Tryd.prog w = .ok (.string ⟨#[digC i]⟩) w
  | 0, _, w => by kernel_rfl
  | 1, _, w => by kernel_rfl
  | 2, _, w => by kernel_rfl
  | 3, _, w => by kernel_rfl
  | 4, _, w => by kernel_rfl
  | 5, _, w => by kernel_rfl
  | 6, _, w => by kernel_rfl
  | 7, _, w => by kernel_rfl
  | 8, _, w => by kernel_rfl
  | 9, _, w => by kernel_rfl
  | n + 10, h, _ => absurd h (by omega)
theorem dd_len : ∀ (k n : Nat), n < 10 ^ k → (Go.Lib.decDigits n).length ≤ k + 1
  | 0, n, h => by
    have : n = 0 := by simpa using h
    subst this
    rw [Go.Lib.decDigits_one (by omega)]; simp
  | k + 1, n, h => by
    by_cases h10 : n < 10
    · rw [Go.Lib.decDigits_one h10]; simp
    · rw [Go.Lib.decDigits, dif_neg h10, List.length_append]
      have := dd_len k (n / 10) (by rw [Nat.pow_succ] at h; omega)
      simp only [List.length_cons, List.length_nil]
      omega
theorem numB_size {n : Nat} (h : n ≤ 9223372036854775807) : (numB n).size ≤ 20 := by
  unfold numB Go.Lib.itoa
  rw [if_neg (by omega), Int.toNat_natCast]
  exact dd_len 19 n (by omega)
theorem numB_one {n : Nat} (h : n < 10) : numB n = ⟨#[digC n]⟩ := by
  unfold numB Go.Lib.itoa
  rw [if_neg (by omega), Int.toNat_natCast, Go.Lib.decDigits_one h]
  rfl
theorem numB_more {n : Nat} (h : ¬ n < 10) : numB n = numB (n / 10 : Nat) ++ ⟨#[digC (n % 10)]⟩ := by
  unfold numB Go.Lib.itoa
  rw [if_neg (by omega), if_neg (by omega), Int.toNat_natCast, Int.toNat_natCast, Go.Lib.decDigits, dif_neg h]
  apply ByteArray.ext
  simp [digC]
set_option maxRecDepth 100000 in
theorem l1Num_c : ∀ (n : Nat) (w : World), n ≤ 9223372036854775807 → Calls Tryd.prog 58 #[.int .i64 n] w (Ret (.string (numB n)) w) := by
  intro n
  induction n using Nat.strongRecOn with
  | _ n ih =>
  intro w hn
  by_cases h : n < 10
  · have h0 : ¬ (n : Int) < 0 := by omega
    have h1 : (n : Int) < 10 := by omega
    have HV := Lib.hid (numB_one h)
    have hd := dig_run n h
    clear ih
    go_enter Tryd.func58, Tryd.ntmps58
    go_wp2_with fail
    go_returns
    exact ⟨ret_tx HV.out.symm, Below.refl _ _⟩
  · have h0 : ¬ (n : Int) < 0 := by omega
    have h1 : ¬ (n : Int) < 10 := by omega
    have HV := Lib.hid (numB_more h)
    have hd : ∀ x : World, (Instr.slice 9 (.string ⟨#[48, 49, 50, 51, 52, 53, 54, 55, 56, 57]⟩) (some (.int .i64 ((n : Int) % 10))) (some (.int .i64 ((n : Int) % 10 + 1))) none).run Tryd.prog x = .ok (.string ⟨#[digC (n % 10)]⟩) x := fun x => by
      have := dig_run (n % 10) (by omega) x
      rwa [Int.natCast_emod] at this
    have HC : Hid (∀ x : World, Calls Tryd.prog 58 #[.int .i64 ((n : Int) / 10)] (over w x) (Ret (.string (numB ((n / 10 : Nat) : Int))) (over w x))) := Lib.hid (fun x => by
      have := ih (n / 10) (by omega) (over w x) (by omega)
      rwa [Int.natCast_ediv] at this)
    have hov := over_cell w
    have hsz := numB_size (n := n / 10) (by omega)
    have hsz1 : (⟨#[digC (n % 10)]⟩ : ByteArray).size = 1 := rfl
    clear ih
    generalize numB ((n / 10 : Nat) : Int) = s at *
    generalize digC (n % 10) = d at *
    go_enter Tryd.func58, Tryd.ntmps58
    go_wp2_with fail
    refine wp_region_over (by kernel_rfl) (by kernel_rfl) ?_
    repeat (go_big_quiet_step (((go_at_call 58; exact Calls.over_of (HC.out _)))))
    refine wpQuiet_nil ?_
    intro _ hwx1
    obtain ⟨x1, hwx1⟩ := hwx1
    subst hwx1
    have hbW := over_below w x1
    generalize over w x1 = W1 at *
    go_wp2_with fail
    go_returns
    exact ⟨ret_tx HV.out.symm, hbW⟩
end Go.Proofs.YtgjehnjpbekoeaaDoor
namespace Go.Proofs.YtgjehnjpbekoeaaDoor
set_option linter.unusedVariables false
set_option linter.unusedSimpArgs false
open Go.RowKit
attribute [local irreducible] wpQuiet
theorem numB_sizeF {m : Int} (h0 : 0 ≤ m) (h1 : m ≤ 9223372036854775807) : (numB m).size ≤ 20 := by
  obtain ⟨n, rfl⟩ := Int.eq_ofNat_of_zero_le h0
  exact numB_size (by omega)
theorem l1NumF_c (m : Int) (h0 : 0 ≤ m) (h1 : m ≤ 9223372036854775807) (w : World) : Calls Tryd.prog 58 #[.int .i64 m] w (Ret (.string (numB m)) w) := by
  obtain ⟨n, rfl⟩ := Int.eq_ofNat_of_zero_le h0
  exact l1Num_c n w (by omega)
theorem ret_tbF {a a' : ByteArray} {b b' : Bool} (h : a = a') (hb : b = b') : Ending.returned (.tuple #[.string a, .bool b]) = .returned (.tuple #[.string a', .bool b']) := by rw [h, hb]
def ftS (x : Flaw) : ByteArray := ((((((⟨#[114]⟩ ++ numB x.row) ++ ⟨#[32, 99]⟩) ++ numB x.col) ++ ⟨#[32, 102]⟩) ++ numB x.code) ++ ⟨#[32, 102, 114, 111, 109, 32]⟩) ++ numB x.since
def ftV (x : Flaw) : ByteArray := if x.ok = true then ftS x else ⟨#[]⟩
theorem ftV_no {x : Flaw} (k : x.ok = false) : ftV x = ⟨#[]⟩ := by simp [ftV, k]
theorem ftV_yes {x : Flaw} (k : x.ok = true) : ftV x = ftS x := by simp [ftV, k]
theorem okF_bd {x : Flaw} (k : x.ok = true) : (0 ≤ x.row ∧ x.row ≤ 99) ∧ (0 ≤ x.col ∧ x.col ≤ 99) ∧ (0 ≤ x.code ∧ x.code ≤ 99) ∧ (0 ≤ x.since ∧ x.since ≤ 99) := by
  simp [Flaw.ok, inR] at k
  omega
set_option maxRecDepth 100000 in
set_option maxHeartbeats 1000000 in
theorem specFlawText_c (x : Flaw) (w : World) : Calls Tryd.prog 24 #[.agg #[.int .i64 x.row, .int .i64 x.col, .int .i64 x.code, .int .i64 x.since]] w (Ret (.tuple #[.string (ftV x), .bool x.ok]) w) := by
  have hbA : Below w.heap.size w (w.alloc (.cells #[.int .i64 x.row, .int .i64 x.col, .int .i64 x.code, .int .i64 x.since] 43)) := by go_grown
  have p0 : (w.alloc (.cells #[.int .i64 x.row, .int .i64 x.col, .int .i64 x.code, .int .i64 x.since] 43)).cell? ⟨w.heap.size, 0, none⟩ = some (.int .i64 x.row) := by simp
  have p1 : (w.alloc (.cells #[.int .i64 x.row, .int .i64 x.col, .int .i64 x.code, .int .i64 x.since] 43)).cell? ⟨w.heap.size, 1, none⟩ = some (.int .i64 x.col) := by simp
  have p2 : (w.alloc (.cells #[.int .i64 x.row, .int .i64 x.col, .int .i64 x.code, .int .i64 x.since] 43)).cell? ⟨w.heap.size, 2, none⟩ = some (.int .i64 x.code) := by simp
  have p3 : (w.alloc (.cells #[.int .i64 x.row, .int .i64 x.col, .int .i64 x.code, .int .i64 x.since] 43)).cell? ⟨w.heap.size, 3, none⟩ = some (.int .i64 x.since) := by simp
  have hsA : w.heap.size < (w.alloc (.cells #[.int .i64 x.row, .int .i64 x.col, .int .i64 x.code, .int .i64 x.since] 43)).heap.size := by simp
  go_enter Tryd.func24, Tryd.ntmps24
  go_wp2_with fail
  generalize (w.alloc (.cells #[.int .i64 x.row, .int .i64 x.col, .int .i64 x.code, .int .i64 x.since] 43)) = W at *
  refine (l15One_c _ _).mono ?_
  rintro _ w1 ⟨rfl, hb1⟩
  replace p0 := (hb1.cell (p := ⟨w.heap.size, 0, none⟩) hsA).trans p0
  replace p1 := (hb1.cell (p := ⟨w.heap.size, 1, none⟩) hsA).trans p1
  replace p2 := (hb1.cell (p := ⟨w.heap.size, 2, none⟩) hsA).trans p2
  replace p3 := (hb1.cell (p := ⟨w.heap.size, 3, none⟩) hsA).trans p3
  have hs1 := Nat.lt_of_lt_of_le hsA hb1.size
  have hbg := below_via hbA hb1
  cases hO : x.ok with
  | false =>
    have HV := Lib.hid (ftV_no hO)
    have HO := Lib.hid hO
    clear hO
    go_wp2_with fail
    go_returns
    exact ⟨ret_tbF HV.out.symm HO.out.symm, hbg⟩
  | true =>
    have HV := Lib.hid (ftV_yes hO)
    have HO := Lib.hid hO
    obtain ⟨⟨a1, a2⟩, ⟨b1, b2⟩, ⟨c1, c2⟩, e1, e2⟩ := okF_bd hO
    clear hO
    have z0 := numB_sizeF (m := x.row) (by omega) (by omega)
    have z1 := numB_sizeF (m := x.col) (by omega) (by omega)
    have z2 := numB_sizeF (m := x.code) (by omega) (by omega)
    have z3 := numB_sizeF (m := x.since) (by omega) (by omega)
    have HC : Hid (∀ (m : Int) (_ : 0 ≤ m) (_ : m ≤ 1000) (y : World), Calls Tryd.prog 58 #[.int .i64 m] (over w1 y) (Ret (.string (numB m)) (over w1 y))) := Lib.hid (fun m k1 k2 y => l1NumF_c m k1 (by omega) _)
    have hov := over_cell w1
    go_wp2_with fail
    refine wp_region_over (by kernel_rfl) (by kernel_rfl) ?_
    repeat (go_big_quiet_step (((go_at_call 58; exact Calls.over_of (HC.out _ (by omega) (by omega) _)))))
    refine wpQuiet_nil ?_
    intro _ hwx1
    obtain ⟨x1, hwx1⟩ := hwx1
    subst hwx1
    have hbg := below_via hbg (over_below w1 x1)
    go_wp2_with fail
    go_returns
    exact ⟨ret_tbF (HV.out.trans rfl).symm HO.out.symm, hbg⟩
set_option maxRecDepth 100000 in
set_option maxHeartbeats 1000000 in
theorem implFlawText_c (x : Flaw) (w : World) (ht : Pow w) : Calls Tryd.prog 23 #[.agg #[.int .i64 x.row, .int .i64 x.col, .int .i64 x.code, .int .i64 x.since]] w (Ret (.tuple #[.string (ftV x), .bool x.ok]) w) := by
  have HT := Lib.hid ht
  clear ht
  have hbA : Below w.heap.size w (w.alloc (.cells #[.int .i64 x.row, .int .i64 x.col, .int .i64 x.code, .int .i64 x.since] 43)) := by go_grown
  have p0 : (w.alloc (.cells #[.int .i64 x.row, .int .i64 x.col, .int .i64 x.code, .int .i64 x.since] 43)).cell? ⟨w.heap.size, 0, none⟩ = some (.int .i64 x.row) := by simp
  have p1 : (w.alloc (.cells #[.int .i64 x.row, .int .i64 x.col, .int .i64 x.code, .int .i64 x.since] 43)).cell? ⟨w.heap.size, 1, none⟩ = some (.int .i64 x.col) := by simp
  have p2 : (w.alloc (.cells #[.int .i64 x.row, .int .i64 x.col, .int .i64 x.code, .int .i64 x.since] 43)).cell? ⟨w.heap.size, 2, none⟩ = some (.int .i64 x.code) := by simp
  have p3 : (w.alloc (.cells #[.int .i64 x.row, .int .i64 x.col, .int .i64 x.code, .int .i64 x.since] 43)).cell? ⟨w.heap.size, 3, none⟩ = some (.int .i64 x.since) := by simp
  have hsA : w.heap.size < (w.alloc (.cells #[.int .i64 x.row, .int .i64 x.col, .int .i64 x.code, .int .i64 x.since] 43)).heap.size := by simp
  go_enter Tryd.func23, Tryd.ntmps23
  go_wp2_with fail
  generalize (w.alloc (.cells #[.int .i64 x.row, .int .i64 x.col, .int .i64 x.code, .int .i64 x.since] 43)) = W at *
  refine (isFlaw_c _ _).mono ?_
  rintro _ w1 ⟨rfl, hb1⟩
  replace p0 := (hb1.cell (p := ⟨w.heap.size, 0, none⟩) hsA).trans p0
  replace p1 := (hb1.cell (p := ⟨w.heap.size, 1, none⟩) hsA).trans p1
  replace p2 := (hb1.cell (p := ⟨w.heap.size, 2, none⟩) hsA).trans p2
  replace p3 := (hb1.cell (p := ⟨w.heap.size, 3, none⟩) hsA).trans p3
  have hs1 := Nat.lt_of_lt_of_le hsA hb1.size
  have hbg := below_via hbA hb1
  cases hO : x.ok with
  | false =>
    have HV := Lib.hid (ftV_no hO)
    have HO := Lib.hid hO
    clear hO
    go_wp2_with fail
    go_returns
    exact ⟨ret_tbF HV.out.symm HO.out.symm, hbg⟩
  | true =>
    have HV := Lib.hid (ftV_yes hO)
    have HO := Lib.hid hO
    obtain ⟨⟨a1, a2⟩, ⟨b1, b2⟩, ⟨c1, c2⟩, e1, e2⟩ := okF_bd hO
    clear hO
    have z0 := numB_sizeF (m := x.row) (by omega) (by omega)
    have z1 := numB_sizeF (m := x.col) (by omega) (by omega)
    have z2 := numB_sizeF (m := x.code) (by omega) (by omega)
    have z3 := numB_sizeF (m := x.since) (by omega) (by omega)
    have HC : Hid (∀ (m : Int) (_ : 0 ≤ m) (_ : m ≤ 1000) (y : World), Calls Tryd.prog 57 #[.int .i64 m] (over w1 y) (Ret (.string (numB m)) (over w1 y))) := Lib.hid (fun m k1 k2 y => itoa_c m _ ((HT.out.go hbg).go (over_below w1 y)) (by omega) (by omega))
    have hov := over_cell w1
    go_wp2_with fail
    refine wp_region_over (by kernel_rfl) (by kernel_rfl) ?_
    repeat (go_big_quiet_step (((go_at_call 57; exact Calls.over_of (HC.out _ (by omega) (by omega) _)))))
    refine wpQuiet_nil ?_
    intro _ hwx1
    obtain ⟨x1, hwx1⟩ := hwx1
    subst hwx1
    have hbg := below_via hbg (over_below w1 x1)
    go_wp2_with fail
    go_returns
    exact ⟨ret_tbF (HV.out.trans rfl).symm HO.out.symm, hbg⟩
end Go.Proofs.YtgjehnjpbekoeaaDoor
