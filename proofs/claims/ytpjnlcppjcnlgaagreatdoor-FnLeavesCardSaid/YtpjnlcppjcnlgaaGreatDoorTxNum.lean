/- Numbers as text: the reference's l1Num and the program's strconv.Itoa. No condition but that the table of powers lies as it is listed. -/
import Derived.Test.YtpjnlcppjcnlgaaGreatDoorProg
import Derived.Test.YtpjnlcppjcnlgaaGreatDoorLib
import Derived.Ground.NamesProg
import Derived.Shelf.Strconv.Itoa3
import Derived.Lib.AppendIntMem
import Derived.Laws.Concat
import Derived.Test.YtpjnlcppjcnlgaaGreatDoorOver
import Derived.Test.YtpjnlcppjcnlgaaGreatDoorNum
import Derived.Test.YtpjnlcppjcnlgaaGreatDoorOpen
import Derived.Test.YtpjnlcppjcnlgaaGreatDoorMark
import Derived.Test.YtpjnlcppjcnlgaaGreatDoorAlTop
import Derived.Shelf.Strings.Repeat
namespace Go.Proofs.YtpjnlcppjcnlgaaGreatDoor
set_option linter.unusedVariables false
set_option linter.unusedSimpArgs false
open Go.RowKit Go.Shelf
attribute [local irreducible] wpQuiet
def laysItoa_ren : Go.Shelf.Ren := ⟨fun | 243 => 73 | 246 => 92 | 283 => 101 | 284 => 102 | 285 => 103 | 286 => 104 | 129 => 85 | 317 => 106 | 318 => 107 | 319 => 108 | 320 => 109 | 337 => 110 | 338 => 111 | n => n, fun | 3 => 3 | 9 => 9 | 2 => 2 | 4 => 4 | 171 => 117 | 0 => 0 | 53 => 46 | 37 => 22 | 5 => 5 | 173 => 119 | 212 => 125 | 51 => 99 | 20 => 20 | 213 => 126 | 46 => 76 | 232 => 127 | 233 => 128 | n => n, fun | 17 => 1 | 18 => 2 | 19 => 3 | n => n⟩
theorem laysItoa : Go.Proofs.LaysM.n243 Tryz.prog laysItoa_ren := {
  mixed := by kernel_rfl
  f129 := Tryz.func85.trans (congrArg some (by kernel_rfl))
  f243 := Tryz.func73.trans (congrArg some (by kernel_rfl))
  f246 := Tryz.func92.trans (congrArg some (by kernel_rfl))
  f283 := Tryz.func101.trans (congrArg some (by kernel_rfl))
  f284 := Tryz.func102.trans (congrArg some (by kernel_rfl))
  f285 := Tryz.func103.trans (congrArg some (by kernel_rfl))
  f286 := Tryz.func104.trans (congrArg some (by kernel_rfl))
  f317 := Tryz.func106.trans (congrArg some (by kernel_rfl))
  f318 := Tryz.func107.trans (congrArg some (by kernel_rfl))
  f319 := Tryz.func108.trans (congrArg some (by kernel_rfl))
  f320 := Tryz.func109.trans (congrArg some (by kernel_rfl))
  f337 := Tryz.func110.trans (congrArg some (by kernel_rfl))
  f338 := Tryz.func111.trans (congrArg some (by kernel_rfl))
  t0 := Tryz.underlying0
  a0 := Tryz.isAgg0
  z0 := Tryz.sizeOf0
  v0 := Tryz.zeroValue0
  t2 := Tryz.underlying2
  a2 := Tryz.isAgg2
  z2 := Tryz.sizeOf2
  v2 := Tryz.zeroValue2
  t3 := Tryz.underlying3
  a3 := Tryz.isAgg3
  z3 := Tryz.sizeOf3
  v3 := Tryz.zeroValue3
  t4 := Tryz.underlying4
  a4 := Tryz.isAgg4
  z4 := Tryz.sizeOf4
  v4 := Tryz.zeroValue4
  t5 := Tryz.underlying5
  a5 := Tryz.isAgg5
  z5 := Tryz.sizeOf5
  v5 := Tryz.zeroValue5
  t9 := Tryz.underlying9
  a9 := Tryz.isAgg9
  z9 := Tryz.sizeOf9
  v9 := Tryz.zeroValue9
  t20 := Tryz.underlying20
  a20 := Tryz.isAgg20
  z20 := Tryz.sizeOf20
  v20 := Tryz.zeroValue20
  t37 := Tryz.underlying22
  a37 := Tryz.isAgg22
  z37 := Tryz.sizeOf22
  v37 := Tryz.zeroValue22
  t46 := Tryz.underlying76
  a46 := Tryz.isAgg76
  z46 := Tryz.sizeOf76
  v46 := Tryz.zeroValue76
  t51 := Tryz.underlying99
  a51 := Tryz.isAgg99
  z51 := Tryz.sizeOf99
  v51 := Tryz.zeroValue99
  t53 := Tryz.underlying46
  a53 := Tryz.isAgg46
  z53 := Tryz.sizeOf46
  v53 := Tryz.zeroValue46
  t171 := Tryz.underlying117
  a171 := Tryz.isAgg117
  z171 := Tryz.sizeOf117
  v171 := Tryz.zeroValue117
  t173 := Tryz.underlying119
  a173 := Tryz.isAgg119
  z173 := Tryz.sizeOf119
  v173 := Tryz.zeroValue119
  t212 := Tryz.underlying125
  a212 := Tryz.isAgg125
  z212 := Tryz.sizeOf125
  v212 := Tryz.zeroValue125
  t213 := Tryz.underlying126
  a213 := Tryz.isAgg126
  z213 := Tryz.sizeOf126
  t232 := Tryz.underlying127
  a232 := Tryz.isAgg127
  z232 := Tryz.sizeOf127
  v232 := Tryz.zeroValue127
  t233 := Tryz.underlying128
  a233 := Tryz.isAgg128
  z233 := Tryz.sizeOf128
  v233 := Tryz.zeroValue128
  g17 := by kernel_rfl
  g18 := by kernel_rfl
  g19 := by kernel_rfl
  i0 := by kernel_rfl
  i2 := by kernel_rfl
  i3 := by kernel_rfl
  i4 := by kernel_rfl
  i5 := by kernel_rfl
  i9 := by kernel_rfl
  i20 := by kernel_rfl
  i37 := by kernel_rfl
  i46 := by kernel_rfl
  i51 := by kernel_rfl
  i53 := by kernel_rfl
  i171 := by kernel_rfl
  i173 := by kernel_rfl
  i212 := by kernel_rfl
  i232 := by kernel_rfl
  i233 := by kernel_rfl
  m17 := by kernel_rfl
  m18 := by kernel_rfl
  m19 := by kernel_rfl }
def digC (m : Nat) : UInt8 := UInt8.ofNat (48 + m)
/-- The text of a number. -/
def numB (n : Int) : ByteArray := ⟨(Go.Lib.itoa n).toArray⟩
def Pow (w : World) : Prop := Go.Lib.TabIs Tryz.prog w "internal/strconv.uint64pow10" .u64 Go.Lib.pow10Tab
theorem Pow.go {w w' : World} (h : Pow w) (hb : Below w.heap.size w w') : Pow w' := by
  unfold Pow Go.Lib.TabIs World.var? at *
  cases hg : Tryz.prog.globalNamed "internal/strconv.uint64pow10" with
  | none => rw [hg] at h; cases h
  | some g =>
    rw [hg] at h
    simp only [Option.bind_some] at h ⊢
    have hl : g < w.heap.size := by
      rcases Nat.lt_or_ge g w.heap.size with h1 | h1
      · exact h1
      · rw [Array.getElem?_eq_none h1] at h; cases h
    rw [hb.block g hl]
    exact h
theorem itoa_c (n : Int) (w : World) (ht : Pow w) (h0 : -9223372036854775808 ≤ n) (h1 : n ≤ 9223372036854775807) : Calls Tryz.prog 50 #[.int .i64 n] w (Ret (.string (numB n)) w) := by
  go_enter Tryz.func50, Tryz.ntmps50
  go_wp2_with fail
  refine (Any.internal_strconv_Itoa laysItoa n h0 h1 w ht).mono ?_
  rintro _ _ ⟨rfl, k, os, rfl⟩
  go_wp2_with fail
  go_returns
  exact ⟨rfl, Go.Lib.below_grow _ _ (Nat.le_refl _) _ _⟩
theorem ret_tx {a b : ByteArray} (h : a = b) : Ending.returned (.string a) = .returned (.string b) := by rw [h]
theorem dig_run : ∀ (i : Nat) (_ : i < 10) (w : World), (Instr.slice 9 (.string ⟨#[48, 49, 50, 51, 52, 53, 54, 55, 56, 57]⟩) (some (.int .i64 (i : Int))) (some (.int .i64 ((i : Int) + 1))) none).run Tryz.prog w = .ok (.string ⟨#[digC i]⟩) w
  | 0, _, w => by kernel_rfl
  | 1, _, w => by kernel_rfl
  | 2, _, w => by kernel_rfl
  | 3, _, w => by kernel_rfl
  | 4, _, w => by kernel_rfl
  | 5, _, w => by kernel_rfl
  | 6, _, w => by kernel_rfl
  | 7, _, w => by kernel_rfl
  | 8, _, w => by kernel_rfl
  | 9, _, w => by kernel_rfl
  | n + 10, h, _ => absurd h (by omega)
theorem dd_len : ∀ (k n : Nat), n < 10 ^ k → (Go.Lib.decDigits n).length ≤ k + 1
  | 0, n, h => by
    have : n = 0 := by simpa using h
    subst this
    rw [Go.Lib.decDigits_one (by omega)]; simp
  | k + 1, n, h => by
    by_cases h10 : n < 10
    · rw [Go.Lib.decDigits_one h10]; simp
    · rw [Go.Lib.decDigits, dif_neg h10, List.length_append]
      have := dd_len k (n / 10) (by rw [Nat.pow_succ] at h; omega)
      simp only [List.length_cons, List.length_nil]
      omega
theorem numB_size {n : Nat} (h : n ≤ 9223372036854775807) : (numB n).size ≤ 20 := by
  unfold numB Go.Lib.itoa
  rw [if_neg (by omega), Int.toNat_natCast]
  exact dd_len 19 n (by omega)
theorem numB_one {n : Nat} (h : n < 10) : numB n = ⟨#[digC n]⟩ := by
  unfold numB Go.Lib.itoa
  rw [if_neg (by omega), Int.toNat_natCast, Go.Lib.decDigits_one h]
  rfl
theorem numB_more {n : Nat} (h : ¬ n < 10) : numB n = numB (n / 10 : Nat) ++ ⟨#[digC (n % 10)]⟩ := by
  unfold numB Go.Lib.itoa
  rw [if_neg (by omega), if_neg (by omega), Int.toNat_natCast, Int.toNat_natCast, Go.Lib.decDigits, dif_neg h]
  apply ByteArray.ext
  simp [digC]
set_option maxRecDepth 100000 in
theorem l1Num_c : ∀ (n : Nat) (w : World), n ≤ 9223372036854775807 → Calls Tryz.prog 51 #[.int .i64 n] w (Ret (.string (numB n)) w) := by
  intro n
  induction n using Nat.strongRecOn with
  | _ n ih =>
  intro w hn
  by_cases h : n < 10
  · have h0 : ¬ (n : Int) < 0 := by omega
    have h1 : (n : Int) < 10 := by omega
    have HV := Lib.hid (numB_one h)
    have hd := dig_run n h
    clear ih
    go_enter Tryz.func51, Tryz.ntmps51
    go_wp2_with fail
    go_returns
    exact ⟨ret_tx HV.out.symm, Below.refl _ _⟩
  · have h0 : ¬ (n : Int) < 0 := by omega
    have h1 : ¬ (n : Int) < 10 := by omega
    have HV := Lib.hid (numB_more h)
    have hd : ∀ x : World, (Instr.slice 9 (.string ⟨#[48, 49, 50, 51, 52, 53, 54, 55, 56, 57]⟩) (some (.int .i64 ((n : Int) % 10))) (some (.int .i64 ((n : Int) % 10 + 1))) none).run Tryz.prog x = .ok (.string ⟨#[digC (n % 10)]⟩) x := fun x => by
      have := dig_run (n % 10) (by omega) x
      rwa [Int.natCast_emod] at this
    have HC : Hid (∀ x : World, Calls Tryz.prog 51 #[.int .i64 ((n : Int) / 10)] (over w x) (Ret (.string (numB ((n / 10 : Nat) : Int))) (over w x))) := Lib.hid (fun x => by
      have := ih (n / 10) (by omega) (over w x) (by omega)
      rwa [Int.natCast_ediv] at this)
    have hov := over_cell w
    have hsz := numB_size (n := n / 10) (by omega)
    have hsz1 : (⟨#[digC (n % 10)]⟩ : ByteArray).size = 1 := rfl
    clear ih
    generalize numB ((n / 10 : Nat) : Int) = s at *
    generalize digC (n % 10) = d at *
    go_enter Tryz.func51, Tryz.ntmps51
    go_wp2_with fail
    refine wp_region_over (by kernel_rfl) (by kernel_rfl) ?_
    repeat (go_big_quiet_step (((go_at_call 51; exact Calls.over_of (HC.out _)))))
    refine wpQuiet_nil ?_
    intro _ hwx1
    obtain ⟨x1, hwx1⟩ := hwx1
    subst hwx1
    have hbW := over_below w x1
    generalize over w x1 = W1 at *
    go_wp2_with fail
    go_returns
    exact ⟨ret_tx HV.out.symm, hbW⟩
end Go.Proofs.YtpjnlcppjcnlgaaGreatDoor
namespace Go.Proofs.YtpjnlcppjcnlgaaGreatDoor
set_option linter.unusedVariables false
set_option linter.unusedSimpArgs false
open Go.RowKit
def isTr (a b c : Int) : Bool := inR a 1 99 && inR b 1 99 && (a != b) && inR c 0 1000
def isOd (a b : Int) : Bool := inR a 1 1000 && inR b 1 1000 && (gc a b == 1)
def helpV (a b c : Int) : Value := .tuple #[.bool (isTr a b c && decide (b < a)), .bool (isTr a b c)]
theorem od_iff (a b : Int) (ha : 1 ≤ a) (hb : 1 ≤ b) : (a / gc a b == a) = (gc a b == 1) := by
  have hg := gc_pos a b (by omega)
  rw [Bool.eq_iff_iff]
  simp only [beq_iff_eq]
  constructor
  · intro h
    have h1 : a / gc a b * gc a b = a := Int.ediv_mul_cancel (by unfold gc; exact Int.gcd_dvd_left ..)
    rw [h] at h1
    have : a * (gc a b - 1) = 0 := by rw [Int.mul_sub, h1]; omega
    rcases Int.mul_eq_zero.1 this with h | h <;> omega
  · intro h; rw [h]; simp
def shareV (a b : Int) : Value := if isOd a b then .tuple #[.int .i64 (a / gc a (a + b)), .int .i64 ((a + b) / gc a (a + b)), .bool true] else .tuple #[.int .i64 0, .int .i64 0, .bool false]
theorem isOd_bd {a b : Int} (h : isOd a b = true) : 1 ≤ a ∧ a ≤ 1000 ∧ 1 ≤ b ∧ b ≤ 1000 := by
  simp [isOd, inR] at h; omega
end Go.Proofs.YtpjnlcppjcnlgaaGreatDoor
namespace Go.Proofs.YtpjnlcppjcnlgaaGreatDoor
set_option linter.unusedVariables false
set_option linter.unusedSimpArgs false
open Go.RowKit Go.ChangeShapes Go.WideShapes Go.Deep
structure Odds where
  real : Int
  fake : Int
instance : Inhabited Odds := ⟨⟨0, 0⟩⟩
def encOdds (t : Odds) : List Value := [.int .i64 t.real, .int .i64 t.fake]
theorem encOdds_len (t : Odds) : (encOdds t).length = 2 := rfl
def Odds.fits (t : Odds) : Prop := Fits t.real ∧ Fits t.fake
theorem Rd.atOdds {B : Nat} {w : World} {A : Option Addr} {xs : List Odds} (h : Rd encOdds 2 B w A xs) {i : Nat} (hi : i < xs.length) :
    ∃ b off, A = some ⟨b, off, none⟩ ∧ b < B ∧ w.cell? ⟨b, off + i * 2, none⟩ = some (.int .i64 xs[i].real) ∧ w.cell? ⟨b, off + i * 2 + 1, none⟩ = some (.int .i64 xs[i].fake) := by
  obtain ⟨b, off, hA, hb, hc⟩ := h.at_ hi
  exact ⟨b, off, hA, hb, by simpa using hc 0 _ rfl, hc 1 _ rfl⟩
end Go.Proofs.YtpjnlcppjcnlgaaGreatDoor
namespace Go.Proofs.YtpjnlcppjcnlgaaGreatDoor
set_option linter.unusedVariables false
set_option linter.unusedSimpArgs false
open Go.RowKit
end Go.Proofs.YtpjnlcppjcnlgaaGreatDoor
namespace Go.Proofs.YtpjnlcppjcnlgaaGreatDoor
set_option linter.unusedVariables false
set_option linter.unusedSimpArgs false
open Go.RowKit
attribute [local irreducible] wpQuiet
theorem numB_sizeI {m : Int} (h0 : 0 ≤ m) (h1 : m ≤ 9223372036854775807) : (numB m).size ≤ 20 := by
  obtain ⟨k, rfl⟩ := Int.eq_ofNat_of_zero_le h0
  exact numB_size (by omega)
theorem l1NumI_c (m : Int) (h0 : 0 ≤ m) (h1 : m ≤ 9223372036854775807) (w : World) : Calls Tryz.prog 51 #[.int .i64 m] w (Ret (.string (numB m)) w) := by
  obtain ⟨k, rfl⟩ := Int.eq_ofNat_of_zero_le h0
  exact l1Num_c k w (by omega)
def otS (a b : Int) : ByteArray := numB a ++ ⟨#[58]⟩ ++ numB b
def otV (a b : Int) : ByteArray := if isOd a b = true then otS a b else ⟨#[]⟩
theorem otV_no {a b : Int} (h : isOd a b = false) : otV a b = ⟨#[]⟩ := by simp [otV, h]
theorem otV_yes {a b : Int} (h : isOd a b = true) : otV a b = otS a b := by simp [otV, h]
theorem ret_tb {a a' : ByteArray} {b b' : Bool} (h : a = a') (hb : b = b') : Ending.returned (.tuple #[.string a, .bool b]) = .returned (.tuple #[.string a', .bool b']) := by rw [h, hb]
end Go.Proofs.YtpjnlcppjcnlgaaGreatDoor
namespace Go.Proofs.YtpjnlcppjcnlgaaGreatDoor
set_option linter.unusedVariables false
set_option linter.unusedSimpArgs false
open Go.RowKit Go.Shelf
attribute [local irreducible] wpQuiet
def laysRep_ren : Go.Shelf.Ren := ⟨fun | 105 => 49 | 212 => 67 | 99 => 68 | 165 => 69 | 166 => 70 | 170 => 71 | 169 => 72 | 263 => 87 | 264 => 88 | 206 => 89 | 240 => 90 | 241 => 91 | 276 => 99 | 277 => 100 | n => n, fun | 9 => 9 | 3 => 3 | 4 => 4 | 20 => 20 | 0 => 0 | 46 => 76 | 109 => 78 | 5 => 5 | 72 => 83 | 76 => 87 | 51 => 99 | 146 => 102 | 53 => 46 | 148 => 104 | 70 => 81 | 37 => 22 | 75 => 86 | 127 => 106 | 164 => 114 | 80 => 90 | n => n, fun | n => n⟩
theorem laysRep : Go.Proofs.Lays.n105 Tryz.prog laysRep_ren := {
  mixed := by kernel_rfl
  f99 := Tryz.func68.trans (congrArg some (by kernel_rfl))
  f105 := Tryz.func49.trans (congrArg some (by kernel_rfl))
  f165 := Tryz.func69.trans (congrArg some (by kernel_rfl))
  f166 := Tryz.func70.trans (congrArg some (by kernel_rfl))
  f169 := Tryz.func72.trans (congrArg some (by kernel_rfl))
  f170 := Tryz.func71.trans (congrArg some (by kernel_rfl))
  f206 := Tryz.func89.trans (congrArg some (by kernel_rfl))
  f212 := Tryz.func67.trans (congrArg some (by kernel_rfl))
  f240 := Tryz.func90.trans (congrArg some (by kernel_rfl))
  f241 := Tryz.func91.trans (congrArg some (by kernel_rfl))
  f263 := Tryz.func87.trans (congrArg some (by kernel_rfl))
  f264 := Tryz.func88.trans (congrArg some (by kernel_rfl))
  f276 := Tryz.func99.trans (congrArg some (by kernel_rfl))
  f277 := Tryz.func100.trans (congrArg some (by kernel_rfl))
  t0 := Tryz.underlying0
  a0 := Tryz.isAgg0
  z0 := Tryz.sizeOf0
  v0 := Tryz.zeroValue0
  t3 := Tryz.underlying3
  a3 := Tryz.isAgg3
  z3 := Tryz.sizeOf3
  v3 := Tryz.zeroValue3
  t4 := Tryz.underlying4
  a4 := Tryz.isAgg4
  z4 := Tryz.sizeOf4
  v4 := Tryz.zeroValue4
  t5 := Tryz.underlying5
  a5 := Tryz.isAgg5
  z5 := Tryz.sizeOf5
  v5 := Tryz.zeroValue5
  t9 := Tryz.underlying9
  a9 := Tryz.isAgg9
  z9 := Tryz.sizeOf9
  v9 := Tryz.zeroValue9
  t20 := Tryz.underlying20
  a20 := Tryz.isAgg20
  z20 := Tryz.sizeOf20
  v20 := Tryz.zeroValue20
  t37 := Tryz.underlying22
  a37 := Tryz.isAgg22
  z37 := Tryz.sizeOf22
  v37 := Tryz.zeroValue22
  t46 := Tryz.underlying76
  a46 := Tryz.isAgg76
  z46 := Tryz.sizeOf76
  v46 := Tryz.zeroValue76
  t51 := Tryz.underlying99
  a51 := Tryz.isAgg99
  z51 := Tryz.sizeOf99
  v51 := Tryz.zeroValue99
  t53 := Tryz.underlying46
  a53 := Tryz.isAgg46
  z53 := Tryz.sizeOf46
  v53 := Tryz.zeroValue46
  t70 := Tryz.underlying81
  a70 := Tryz.isAgg81
  z70 := Tryz.sizeOf81
  v70 := Tryz.zeroValue81
  t72 := Tryz.underlying83
  a72 := Tryz.isAgg83
  z72 := Tryz.sizeOf83
  v72 := Tryz.zeroValue83
  t75 := Tryz.underlying86
  a75 := Tryz.isAgg86
  z75 := Tryz.sizeOf86
  v75 := Tryz.zeroValue86
  t76 := Tryz.underlying87
  a76 := Tryz.isAgg87
  z76 := Tryz.sizeOf87
  v76 := Tryz.zeroValue87
  t109 := Tryz.underlying78
  a109 := Tryz.isAgg78
  z109 := Tryz.sizeOf78
  v109 := Tryz.zeroValue78
  t127 := Tryz.underlying106
  a127 := Tryz.isAgg106
  z127 := Tryz.sizeOf106
  v127 := Tryz.zeroValue106
  t146 := Tryz.underlying102
  a146 := Tryz.isAgg102
  z146 := Tryz.sizeOf102
  v146 := Tryz.zeroValue102
  t148 := Tryz.underlying104
  a148 := Tryz.isAgg104
  z148 := Tryz.sizeOf104
  v148 := Tryz.zeroValue104
  t164 := Tryz.underlying114
  a164 := Tryz.isAgg114
  z164 := Tryz.sizeOf114
  v164 := Tryz.zeroValue114 }
theorem extraRep : Builder.Extra Tryz.prog laysRep_ren := {
  sizeBuilder := by kernel_rfl
  liesBuilder := by kernel_rfl
  t5 := Tryz.underlying5
  a5 := Tryz.isAgg5
  z5 := Tryz.sizeOf5
  v5 := Tryz.zeroValue5
  infoByte := by kernel_rfl
  cellsByte := by kernel_rfl
  sizeByte := by kernel_rfl
  neB5 := by decide }
def dots (n : Nat) : ByteArray := ⟨(List.replicate n 46).toArray⟩
theorem dots_size (n : Nat) : (dots n).size = n := by
  show (List.replicate n (46 : UInt8)).toArray.size = n
  simp
theorem dots_s (n : Nat) : dots n ++ ⟨#[46]⟩ = dots (n + 1) := by
  apply ByteArray.ext
  rw [ByteArray.data_append]
  show (List.replicate n (46 : UInt8)).toArray ++ #[46] = (List.replicate (n + 1) 46).toArray
  apply Array.ext'
  simp [List.replicate_succ']
theorem dots_0 : dots 0 = ⟨#[]⟩ := rfl
theorem repeat_c (n : Nat) (w : World) (hn : n ≤ 140737488355328) : Calls Tryz.prog 49 #[.string ⟨#[46]⟩, .int .i64 n] w (Ret (.string (dots n)) w) := by
  refine (Any.strings_Repeat laysRep extraRep ⟨#[46]⟩ n w (by omega) (by show 1 * n ≤ _; omega)).mono ?_
  rintro e w2 ⟨rfl, hb⟩
  refine ⟨?_, hb⟩
  have h : Lib.repeatL [46] n = List.replicate n 46 := by
    have := Lib.repeatL_replicate 46 1 n
    simpa using this
  show Ending.returned (.string ⟨(Lib.repeatL [46] n).toArray⟩) = _
  rw [h]
  rfl
def pgT (l : Nat) (p : Page) : ByteArray := dots l ++ p.title ++ ⟨#[40]⟩ ++ numB (p.items.length : Int) ++ ⟨#[41, 59]⟩
def atA (xs : List Page) : Nat → ByteArray
  | 0 => ⟨#[]⟩
  | i + 1 => atA xs i ++ (match xs[i]? with | none => ⟨#[]⟩ | some p => pgT (levJ xs i) p)
theorem atA_s {xs : List Page} {i : Nat} (h : i < xs.length) : atA xs (i + 1) = atA xs i ++ pgT (levJ xs i) xs[i] := by
  simp [atA, h]
theorem app_size (a b : ByteArray) : (a ++ b).size = a.size + b.size := ByteArray.size_append
theorem good_title {xs : List Page} (hg : goodA xs = true) {k : Nat} (hk : k < xs.length) : xs[k].title.size ≤ 10 := by
  have h := goodA_at hg hk
  rw [okA_val hk] at h
  simp only [Bool.and_eq_true, Page.base, isW, decide_eq_true_eq] at h
  exact h.1.1.1.1.1.1.1.2.2
theorem atA_size {xs : List Page} (hg : goodA xs = true) : ∀ i, i ≤ xs.length → (atA xs i).size ≤ 60 * i
  | 0, _ => Nat.le_refl _
  | i + 1, h => by
    have h1 := atA_size hg i (by omega)
    have h2 := levJ_le xs i
    have h3 := good_title hg (show i < xs.length by omega)
    have h4 := goodA_len hg
    have h5 := (good_base hg (show i < xs.length by omega)).2.2.2.1
    have h6 := numB_size (n := (xs[i]'(by omega)).items.length) (by omega)
    rw [atA_s (show i < xs.length by omega), pgT]
    simp only [app_size, dots_size]
    have e1 : (⟨#[40]⟩ : ByteArray).size = 1 := rfl
    have e2 : (⟨#[41, 59]⟩ : ByteArray).size = 2 := rfl
    rw [e1, e2]
    omega
def txV (xs : List Page) : ByteArray := if goodA xs = true then atA xs xs.length else ⟨#[]⟩
theorem txV_no {xs : List Page} (h : goodA xs = false) : txV xs = ⟨#[]⟩ := by simp [txV, h]
theorem txV_yes {xs : List Page} (h : goodA xs = true) : txV xs = atA xs xs.length := by simp [txV, h]
theorem assoc_i (s d t a n b : ByteArray) : s ++ (d ++ t ++ a ++ n ++ b) = s ++ d ++ t ++ a ++ n ++ b := by simp only [ByteArray.append_assoc]
set_option maxRecDepth 100000 in
set_option maxHeartbeats 1600000 in
theorem implAlbumText_c (xs : List Page) (A : Option Addr) (c : Nat) (w : World) (hr : RdP w.heap.size w A xs) (hcap : xs.length ≤ c) (hn : xs.length ≤ 1048576) (hs : sumI xs ≤ 1048576) (hw : ∀ x ∈ xs, x.title.size ≤ 9223372036854775807 ∧ x.items.length ≤ 9223372036854775807 ∧ ∀ z ∈ x.items, Fits z) (ht : Pow w) :
    Calls Tryz.prog 25 #[.slice A xs.length c] w (Ret (.tuple #[.string (txV xs), .bool (goodA xs)]) w) := by
  have HW := Lib.hid hw
  clear hw
  have HT := Lib.hid ht
  clear ht
  by_cases hF : goodA xs = false
  · go_enter Tryz.func25, Tryz.ntmps25
    have hbg := Below.refl w.heap.size w
    go_wp2_with fail
    refine (isAlbum_c xs _ _ _ (hr.go hbg) hcap hn hs HW.out).mono ?_
    rintro e wg0 ⟨rfl, hb0⟩
    have hbg := below_via hbg hb0
    go_wp2_with fail
    go_returns
    exact ⟨ret_tb (txV_no hF).symm hF.symm, hbg⟩
  have G0 : goodA xs = true := by simpa using hF
  clear hF
  go_enter Tryz.func25, Tryz.ntmps25
  have hbg := Below.refl w.heap.size w
  go_wp2_with fail
  refine (isAlbum_c xs _ _ _ (hr.go hbg) hcap hn hs HW.out).mono ?_
  rintro e wg0 ⟨rfl, hb0⟩
  have hbg := below_via hbg hb0
  have HG := Lib.hid G0
  have hlen := goodA_len G0
  have HV := Lib.hid (txV_yes G0)
  go_wp2_with fail
  clear G0
  go_loopw [4, 12] (fun u i wr => ∃ k : Nat, k ≤ xs.length ∧ i = .int .i64 k ∧ u = .string (atA xs k) ∧ Below w.heap.size w wr) (fun _ i _ => xs.length - (intOf i).toNat)
  case atStart => exact ⟨0, Nat.zero_le _, rfl, rfl, hbg⟩
  case round =>
    obtain ⟨k, hk, rfl, rfl, hb⟩ := hrel
    by_cases hlt : k < xs.length
    · obtain ⟨b, off, Ai, ci, rfl, hbs, d0, d1, d2, d3, hci, hri⟩ := (hr.below hb).page hlt
      have z1 := atA_size HG.out k hk
      have z2 := levJ_le xs k
      have z3 := good_title HG.out hlt
      have z5 := (good_base HG.out hlt).2.2.2.1
      have z6 := numB_size (n := xs[k].items.length) (by omega)
      have z7 := dots_size (levJ xs k)
      have HS := Lib.hid (show atA xs k ++ (dots (levJ xs k) ++ xs[k].title ++ ⟨#[40]⟩ ++ numB (xs[k].items.length : Int) ++ ⟨#[41, 59]⟩) = atA xs (k + 1) from (atA_s hlt).symm)
      generalize hE : atA xs (k + 1) = E at *
      generalize hS : atA xs k = S at *
      go_upto_region 7 with fail
      have hW := New.of wr [.int .i64 xs[k].id, .string xs[k].title, .int .i64 xs[k].under, .slice Ai xs[k].items.length ci] 56
      generalize wr.alloc (.cells #[.int .i64 xs[k].id, .string xs[k].title, .int .i64 xs[k].under, .slice Ai xs[k].items.length ci] 56) = W at *
      obtain ⟨hWb, hWl, hWc⟩ := hW
      have e0 := hWc 0 _ rfl
      have e1 := hWc 1 _ rfl
      have e3 := hWc 3 _ rfl
      have hbW := hb.trans (hWb.mono hb.size)
      clear hWc d0 d1 d2 d3 hri
      have H1 : Hid (∀ x : World, Calls Tryz.prog 37 #[.slice (some ⟨b, off, none⟩) xs.length c, .int .i64 xs[k].id] (over W x) (Ret (.int .i64 (levJ xs k : Int)) (over W x))) := Lib.hid (fun x => levelOf_c xs _ _ k _ (((hr.below hbW).more hbW.size).go (over_below W x)) HG.out hlt)
      have H2 : Hid (∀ x : World, Calls Tryz.prog 49 #[.string ⟨#[46]⟩, .int .i64 (levJ xs k : Int)] (over W x) (Ret (.string (dots (levJ xs k))) (over W x))) := Lib.hid (fun x => repeat_c _ _ (by omega))
      have H3 : Hid (∀ x : World, Calls Tryz.prog 50 #[.int .i64 (xs[k].items.length : Int)] (over W x) (Ret (.string (numB (xs[k].items.length : Int))) (over W x))) := Lib.hid (fun x => itoa_c _ _ ((HT.out.go hbW).go (over_below W x)) (by omega) (by omega))
      have hov := over_cell W
      obtain ⟨hp, hhp⟩ : ∃ hp, wr.heap.size = hp := ⟨_, rfl⟩
      have hwp : w.heap.size ≤ hp := by have := hb.size; omega
      rw [hhp] at hWl e0 e1 e3 ⊢
      clear hhp hWb hb
      refine wp_region_over (by kernel_rfl) (by kernel_rfl) ?_
      repeat (go_big_quiet_step (((first | (go_at_call 37; exact Calls.over_of (H1.out _)) | (go_at_call 49; exact Calls.over_of (H2.out _)) | (go_at_call 50; exact Calls.over_of (H3.out _))))))
      refine wpQuiet_nil ?_
      intro _ hwx1
      obtain ⟨x1, hwx1⟩ := hwx1
      subst hwx1
      go_wp2_with fail
      go_roundw
      case rel => exact ⟨k + 1, by omega, by go_num, by rw [HS.out, hE], hbW.trans ((over_below W x1).mono hbW.size)⟩
      case measure => simp [intOf]; omega
    · have hke : k = xs.length := by omega
      subst hke
      generalize hS : atA xs xs.length = S at *
      go_wp2_with fail
      go_returns
      exact ⟨ret_tb HV.out.symm HG.out.symm, hb⟩
set_option maxRecDepth 100000 in
set_option maxHeartbeats 1600000 in
theorem specAlbumText_c (xs : List Page) (A : Option Addr) (c : Nat) (w : World) (hr : RdP w.heap.size w A xs) (hcap : xs.length ≤ c) (hn : xs.length ≤ 1048576) (hs : sumI xs ≤ 1048576) (hw : ∀ x ∈ xs, x.title.size ≤ 9223372036854775807 ∧ x.items.length ≤ 9223372036854775807 ∧ ∀ z ∈ x.items, Fits z) :
    Calls Tryz.prog 26 #[.slice A xs.length c] w (Ret (.tuple #[.string (txV xs), .bool (goodA xs)]) w) := by
  have HW := Lib.hid hw
  clear hw
  by_cases hF : goodA xs = false
  · go_enter Tryz.func26, Tryz.ntmps26
    have hbg := Below.refl w.heap.size w
    go_wp2_with fail
    refine (l18Good_c xs _ _ _ (hr.go hbg) hcap hn hs HW.out).mono ?_
    rintro e wg0 ⟨rfl, hb0⟩
    have hbg := below_via hbg hb0
    go_wp2_with fail
    go_returns
    exact ⟨ret_tb (txV_no hF).symm hF.symm, hbg⟩
  have G0 : goodA xs = true := by simpa using hF
  clear hF
  go_enter Tryz.func26, Tryz.ntmps26
  have hbg := Below.refl w.heap.size w
  go_wp2_with fail
  refine (l18Good_c xs _ _ _ (hr.go hbg) hcap hn hs HW.out).mono ?_
  rintro e wg0 ⟨rfl, hb0⟩
  have hbg := below_via hbg hb0
  have HG := Lib.hid G0
  have hlen := goodA_len G0
  have HV := Lib.hid (txV_yes G0)
  go_wp2_with fail
  clear G0
  go_loopw [4, 5] (fun u i wr => ∃ k : Nat, k ≤ xs.length ∧ i = .int .i64 k ∧ u = .string (atA xs k) ∧ Below w.heap.size w wr) (fun _ i _ => xs.length - (intOf i).toNat)
  case atStart => exact ⟨0, Nat.zero_le _, rfl, rfl, hbg⟩
  case round =>
    obtain ⟨k, hk, rfl, rfl, hb⟩ := hrel
    by_cases hlt : k < xs.length
    · obtain ⟨b, off, Ai, ci, rfl, hbs, d0, d1, d2, d3, hci, hri⟩ := (hr.below hb).page hlt
      have z1 := atA_size HG.out k hk
      have z2 := levJ_le xs k
      have z3 := good_title HG.out hlt
      have z5 := (good_base HG.out hlt).2.2.2.1
      have z6 := numB_size (n := xs[k].items.length) (by omega)
      have HS := Lib.hid (show ∀ l, l = levJ xs k → atA xs k ++ dots l ++ xs[k].title ++ ⟨#[40]⟩ ++ numB (xs[k].items.length : Int) ++ ⟨#[41, 59]⟩ = atA xs (k + 1) from fun l hl => by subst hl; rw [atA_s hlt, pgT, assoc_i])
      generalize hE : atA xs (k + 1) = E at *
      generalize hS : atA xs k = S at *
      have h0 : (0 : Int) ≤ (k : Int) := by omega
      have h1 : (k : Int) < (xs.length : Int) := by omega
      have HL := Lib.hid (fun (v : World) (hv : Below w.heap.size w v) => l18Level_c xs (some ⟨b, off, none⟩) c k v ((hr.below hv).more hv.size) HG.out hlt)
      generalize levJ xs k = l at *
      go_wp2_with (go_at_call 43; refine (HL.out _ hb).mono ?_; rintro e w2 ⟨rfl, hb2⟩)
      clear d0 d1 d2 d3 hri
      have hbx := below_via hb hb2
      clear HL hb2 hb
      go_loopw [4, 6] (fun u i wr => ∃ m q : Nat, m + q = l ∧ i = .int .i64 q ∧ u = .string (S ++ dots m) ∧ Below w.heap.size w wr) (fun _ i _ => (intOf i).toNat)
      case atStart => exact ⟨0, l, by omega, rfl, by rw [dots_0]; exact congrArg _ (by simp [ByteArray.append_empty] : S = S ++ ByteArray.empty), hbx⟩
      case round =>
        obtain ⟨m, q, hmq, rfl, rfl, hb⟩ := hrel
        have z7 := dots_size m
        have z8 := app_size S (dots m)
        have HD := Lib.hid (show S ++ dots m ++ ⟨#[46]⟩ = S ++ dots (m + 1) by rw [ByteArray.append_assoc, dots_s])
        have HE := Lib.hid (fun (h : m = l) => HS.out m h)
        generalize hT : S ++ dots m = T at *
        by_cases hq : 0 < q
        · have hq1 : decide (0 < (q : Int)) = true := decide_eq_true (by omega)
          have hq2 : decide (0 < q) = true := decide_eq_true hq
          go_wp2_with fail
          go_roundw
          case rel => exact ⟨m + 1, q - 1, by omega, by go_num, by rw [HD.out], hb⟩
          case measure => simp [intOf]; omega
        · have hq1 : decide (0 < (q : Int)) = false := decide_eq_false (by omega)
          have hq2 : decide (0 < q) = false := decide_eq_false hq
          have HF := Lib.hid (HE.out (by omega))
          clear HE HD
          go_upto_region 11 with fail
          have hbw : b < wr.heap.size := Nat.lt_of_lt_of_le hbs hb.size
          obtain ⟨b', off', Aj, cj, hA, hbs', g0, g1, g2, g3, _⟩ := (hr.below hb).page hlt
          obtain ⟨rfl, rfl⟩ := addr_eq hA
          clear hA
          have H3 : Hid (∀ x : World, Calls Tryz.prog 51 #[.int .i64 (xs[k].items.length : Int)] (over wr x) (Ret (.string (numB (xs[k].items.length : Int))) (over wr x))) := Lib.hid (fun x => l1NumI_c _ (by omega) (by omega) _)
          have hov := over_cell wr
          refine wp_region_over (by kernel_rfl) (by kernel_rfl) ?_
          repeat (go_big_quiet_step (((go_at_call 51; exact Calls.over_of (H3.out _)))))
          refine wpQuiet_nil ?_
          intro _ hwx1
          obtain ⟨x1, hwx1⟩ := hwx1
          subst hwx1
          go_wp2_with fail
          go_roundw
          case rel => exact ⟨k + 1, by omega, by go_num, by rw [HF.out, hE], hb.trans ((over_below wr x1).mono hb.size)⟩
          case measure => simp [intOf]; omega
    · have hke : k = xs.length := by omega
      subst hke
      generalize hS : atA xs xs.length = S at *
      go_wp2_with fail
      go_returns
      exact ⟨ret_tb HV.out.symm HG.out.symm, hb⟩
end Go.Proofs.YtpjnlcppjcnlgaaGreatDoor
