/- Numbers as text: the reference's l1Num and the program's strconv.Itoa. No condition but that the table of powers lies as it is listed. -/
import Derived.Test.YtpnkeaeikcobfaaGreatDoorProg
import Derived.Test.YtpnkeaeikcobfaaGreatDoorLib
import Derived.Ground.NamesProg
import Derived.Shelf.Strconv.Itoa3
import Derived.Lib.AppendIntMem
import Derived.Laws.Concat
import Derived.Test.YtpnkeaeikcobfaaGreatDoorOver
namespace Go.Proofs.YtpnkeaeikcobfaaGreatDoor
set_option linter.unusedVariables false
set_option linter.unusedSimpArgs false
open Go.RowKit Go.Shelf
attribute [local irreducible] wpQuiet
def laysItoa_ren : Go.Shelf.Ren := ⟨fun | 243 => 74 | 246 => 88 | 283 => 102 | 284 => 103 | 285 => 104 | 286 => 105 | 129 => 85 | 317 => 110 | 318 => 111 | 319 => 112 | 320 => 113 | 337 => 115 | 338 => 116 | n => n, fun | 3 => 3 | 9 => 9 | 2 => 2 | 4 => 4 | 171 => 111 | 0 => 0 | 53 => 55 | 37 => 22 | 5 => 5 | 173 => 113 | 212 => 121 | 51 => 95 | 20 => 20 | 213 => 122 | 46 => 82 | 232 => 124 | 233 => 125 | n => n, fun | 17 => 0 | 18 => 1 | 19 => 2 | n => n⟩
theorem laysItoa : Go.Proofs.LaysM.n243 Tryz.prog laysItoa_ren := {
  mixed := by kernel_rfl
  f129 := Tryz.func85.trans (congrArg some (by kernel_rfl))
  f243 := Tryz.func74.trans (congrArg some (by kernel_rfl))
  f246 := Tryz.func88.trans (congrArg some (by kernel_rfl))
  f283 := Tryz.func102.trans (congrArg some (by kernel_rfl))
  f284 := Tryz.func103.trans (congrArg some (by kernel_rfl))
  f285 := Tryz.func104.trans (congrArg some (by kernel_rfl))
  f286 := Tryz.func105.trans (congrArg some (by kernel_rfl))
  f317 := Tryz.func110.trans (congrArg some (by kernel_rfl))
  f318 := Tryz.func111.trans (congrArg some (by kernel_rfl))
  f319 := Tryz.func112.trans (congrArg some (by kernel_rfl))
  f320 := Tryz.func113.trans (congrArg some (by kernel_rfl))
  f337 := Tryz.func115.trans (congrArg some (by kernel_rfl))
  f338 := Tryz.func116.trans (congrArg some (by kernel_rfl))
  t0 := Tryz.underlying0
  a0 := Tryz.isAgg0
  z0 := Tryz.sizeOf0
  v0 := Tryz.zeroValue0
  t2 := Tryz.underlying2
  a2 := Tryz.isAgg2
  z2 := Tryz.sizeOf2
  v2 := Tryz.zeroValue2
  t3 := Tryz.underlying3
  a3 := Tryz.isAgg3
  z3 := Tryz.sizeOf3
  v3 := Tryz.zeroValue3
  t4 := Tryz.underlying4
  a4 := Tryz.isAgg4
  z4 := Tryz.sizeOf4
  v4 := Tryz.zeroValue4
  t5 := Tryz.underlying5
  a5 := Tryz.isAgg5
  z5 := Tryz.sizeOf5
  v5 := Tryz.zeroValue5
  t9 := Tryz.underlying9
  a9 := Tryz.isAgg9
  z9 := Tryz.sizeOf9
  v9 := Tryz.zeroValue9
  t20 := Tryz.underlying20
  a20 := Tryz.isAgg20
  z20 := Tryz.sizeOf20
  v20 := Tryz.zeroValue20
  t37 := Tryz.underlying22
  a37 := Tryz.isAgg22
  z37 := Tryz.sizeOf22
  v37 := Tryz.zeroValue22
  t46 := Tryz.underlying82
  a46 := Tryz.isAgg82
  z46 := Tryz.sizeOf82
  v46 := Tryz.zeroValue82
  t51 := Tryz.underlying95
  a51 := Tryz.isAgg95
  z51 := Tryz.sizeOf95
  v51 := Tryz.zeroValue95
  t53 := Tryz.underlying55
  a53 := Tryz.isAgg55
  z53 := Tryz.sizeOf55
  v53 := Tryz.zeroValue55
  t171 := Tryz.underlying111
  a171 := Tryz.isAgg111
  z171 := Tryz.sizeOf111
  v171 := Tryz.zeroValue111
  t173 := Tryz.underlying113
  a173 := Tryz.isAgg113
  z173 := Tryz.sizeOf113
  v173 := Tryz.zeroValue113
  t212 := Tryz.underlying121
  a212 := Tryz.isAgg121
  z212 := Tryz.sizeOf121
  v212 := Tryz.zeroValue121
  t213 := Tryz.underlying122
  a213 := Tryz.isAgg122
  z213 := Tryz.sizeOf122
  t232 := Tryz.underlying124
  a232 := Tryz.isAgg124
  z232 := Tryz.sizeOf124
  v232 := Tryz.zeroValue124
  t233 := Tryz.underlying125
  a233 := Tryz.isAgg125
  z233 := Tryz.sizeOf125
  v233 := Tryz.zeroValue125
  g17 := by kernel_rfl
  g18 := by kernel_rfl
  g19 := by kernel_rfl
  i0 := by kernel_rfl
  i2 := by kernel_rfl
  i3 := by kernel_rfl
  i4 := by kernel_rfl
  i5 := by kernel_rfl
  i9 := by kernel_rfl
  i20 := by kernel_rfl
  i37 := by kernel_rfl
  i46 := by kernel_rfl
  i51 := by kernel_rfl
  i53 := by kernel_rfl
  i171 := by kernel_rfl
  i173 := by kernel_rfl
  i212 := by kernel_rfl
  i232 := by kernel_rfl
  i233 := by kernel_rfl
  m17 := by kernel_rfl
  m18 := by kernel_rfl
  m19 := by kernel_rfl }
def digC (m : Nat) : UInt8 := UInt8.ofNat (48 + m)
/-- The text of a number. -/
def numB (n : Int) : ByteArray := ⟨(Go.Lib.itoa n).toArray⟩
def Pow (w : World) : Prop := Go.Lib.TabIs Tryz.prog w "internal/strconv.uint64pow10" .u64 Go.Lib.pow10Tab
theorem Pow.go {w w' : World} (h : Pow w) (hb : Below w.heap.size w w') : Pow w' := by
  unfold Pow Go.Lib.TabIs World.var? at *
  cases hg : Tryz.prog.globalNamed "internal/strconv.uint64pow10" with
  | none => rw [hg] at h; cases h
  | some g =>
    rw [hg] at h
    simp only [Option.bind_some] at h ⊢
    have hl : g < w.heap.size := by
      rcases Nat.lt_or_ge g w.heap.size with h1 | h1
      · exact h1
      · rw [Array.getElem?_eq_none h1] at h; cases h
    rw [hb.block g hl]
    exact h
theorem itoa_c (n : Int) (w : World) (ht : Pow w) (h0 : -9223372036854775808 ≤ n) (h1 : n ≤ 9223372036854775807) : Calls Tryz.prog 58 #[.int .i64 n] w (Ret (.string (numB n)) w) := by
  go_enter Tryz.func58, Tryz.ntmps58
  go_wp2_with fail
  refine (Any.internal_strconv_Itoa laysItoa n h0 h1 w ht).mono ?_
  rintro _ _ ⟨rfl, k, os, rfl⟩
  go_wp2_with fail
  go_returns
  exact ⟨rfl, Go.Lib.below_grow _ _ (Nat.le_refl _) _ _⟩
theorem ret_tx {a b : ByteArray} (h : a = b) : Ending.returned (.string a) = .returned (.string b) := by rw [h]
theorem dig_run : ∀ (i : Nat) (_ : i < 10) (w : World), (Instr.slice 9 (.string ⟨#[48, 49, 50, 51, 52, 53, 54, 55, 56, 57]⟩) (some (.int .i64 (i : Int))) (some (.int .i64 ((i : Int) + 1))) none).run Tryz.prog w = .ok (.string ⟨#[digC i]⟩) w
  | 0, _, w => by kernel_rfl
  | 1, _, w => by kernel_rfl
  | 2, _, w => by kernel_rfl
  | 3, _, w => by kernel_rfl
  | 4, _, w => by kernel_rfl
  | 5, _, w => by kernel_rfl
  | 6, _, w => by kernel_rfl
  | 7, _, w => by kernel_rfl
  | 8, _, w => by kernel_rfl
  | 9, _, w => by kernel_rfl
  | n + 10, h, _ => absurd h (by omega)
theorem dd_len : ∀ (k n : Nat), n < 10 ^ k → (Go.Lib.decDigits n).length ≤ k + 1
  | 0, n, h => by
    have : n = 0 := by simpa using h
    subst this
    rw [Go.Lib.decDigits_one (by omega)]; simp
  | k + 1, n, h => by
    by_cases h10 : n < 10
    · rw [Go.Lib.decDigits_one h10]; simp
    · rw [Go.Lib.decDigits, dif_neg h10, List.length_append]
      have := dd_len k (n / 10) (by rw [Nat.pow_succ] at h; omega)
      simp only [List.length_cons, List.length_nil]
      omega
theorem numB_size {n : Nat} (h : n ≤ 9223372036854775807) : (numB n).size ≤ 20 := by
  unfold numB Go.Lib.itoa
  rw [if_neg (by omega), Int.toNat_natCast]
  exact dd_len 19 n (by omega)
theorem numB_one {n : Nat} (h : n < 10) : numB n = ⟨#[digC n]⟩ := by
  unfold numB Go.Lib.itoa
  rw [if_neg (by omega), Int.toNat_natCast, Go.Lib.decDigits_one h]
  rfl
theorem numB_more {n : Nat} (h : ¬ n < 10) : numB n = numB (n / 10 : Nat) ++ ⟨#[digC (n % 10)]⟩ := by
  unfold numB Go.Lib.itoa
  rw [if_neg (by omega), if_neg (by omega), Int.toNat_natCast, Int.toNat_natCast, Go.Lib.decDigits, dif_neg h]
  apply ByteArray.ext
  simp [digC]
set_option maxRecDepth 100000 in
theorem l1Num_c : ∀ (n : Nat) (w : World), n ≤ 9223372036854775807 → Calls Tryz.prog 59 #[.int .i64 n] w (Ret (.string (numB n)) w) := by
  intro n
  induction n using Nat.strongRecOn with
  | _ n ih =>
  intro w hn
  by_cases h : n < 10
  · have h0 : ¬ (n : Int) < 0 := by omega
    have h1 : (n : Int) < 10 := by omega
    have HV := Lib.hid (numB_one h)
    have hd := dig_run n h
    clear ih
    go_enter Tryz.func59, Tryz.ntmps59
    go_wp2_with fail
    go_returns
    exact ⟨ret_tx HV.out.symm, Below.refl _ _⟩
  · have h0 : ¬ (n : Int) < 0 := by omega
    have h1 : ¬ (n : Int) < 10 := by omega
    have HV := Lib.hid (numB_more h)
    have hd : ∀ x : World, (Instr.slice 9 (.string ⟨#[48, 49, 50, 51, 52, 53, 54, 55, 56, 57]⟩) (some (.int .i64 ((n : Int) % 10))) (some (.int .i64 ((n : Int) % 10 + 1))) none).run Tryz.prog x = .ok (.string ⟨#[digC (n % 10)]⟩) x := fun x => by
      have := dig_run (n % 10) (by omega) x
      rwa [Int.natCast_emod] at this
    have HC : Hid (∀ x : World, Calls Tryz.prog 59 #[.int .i64 ((n : Int) / 10)] (over w x) (Ret (.string (numB ((n / 10 : Nat) : Int))) (over w x))) := Lib.hid (fun x => by
      have := ih (n / 10) (by omega) (over w x) (by omega)
      rwa [Int.natCast_ediv] at this)
    have hov := over_cell w
    have hsz := numB_size (n := n / 10) (by omega)
    have hsz1 : (⟨#[digC (n % 10)]⟩ : ByteArray).size = 1 := rfl
    clear ih
    generalize numB ((n / 10 : Nat) : Int) = s at *
    generalize digC (n % 10) = d at *
    go_enter Tryz.func59, Tryz.ntmps59
    go_wp2_with fail
    refine wp_region_over (by kernel_rfl) (by kernel_rfl) ?_
    repeat (go_big_quiet_step (((go_at_call 59; exact Calls.over_of (HC.out _)))))
    refine wpQuiet_nil ?_
    intro _ hwx1
    obtain ⟨x1, hwx1⟩ := hwx1
    subst hwx1
    have hbW := over_below w x1
    generalize over w x1 = W1 at *
    go_wp2_with fail
    go_returns
    exact ⟨ret_tx HV.out.symm, hbW⟩
end Go.Proofs.YtpnkeaeikcobfaaGreatDoor
