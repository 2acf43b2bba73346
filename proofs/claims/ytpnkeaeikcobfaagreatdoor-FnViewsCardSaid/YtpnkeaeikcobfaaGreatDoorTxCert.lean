/- CertificateText: the contracts of the program and the reference. No condition but the sizes and that the table of powers lies as it is listed. -/
import Derived.Test.YtpnkeaeikcobfaaGreatDoorTxOdds
import Derived.Test.YtpnkeaeikcobfaaGreatDoorOpTop
import Derived.Deep.RegionHeld3
import Derived.Deep.RegionWith
namespace Go.Proofs.YtpnkeaeikcobfaaGreatDoor
set_option linter.unusedVariables false
set_option linter.unusedSimpArgs false
open Go.RowKit
attribute [local irreducible] wpQuiet
theorem viewF_bd {xs : List Opinion} (hg : goodO xs = true) : ∀ (l : List Int) (a : Int × Int), 0 ≤ a.2 → a.2 ≤ 4 → (∀ v ∈ l, ∃ m : Nat, m < xs.length ∧ v = (m : Int)) → 0 ≤ (l.foldl (fun a i => (min a.1 (saysO xs i), max a.2 (saysO xs i))) a).2 ∧ (l.foldl (fun a i => (min a.1 (saysO xs i), max a.2 (saysO xs i))) a).2 ≤ 4
  | [], a, h1, h2, _ => ⟨h1, h2⟩
  | v :: l, a, h1, h2, h => by
    obtain ⟨m, hm, rfl⟩ := h v (by simp)
    have hb := goodO_at hg hm
    rw [okO_val hm] at hb
    simp only [Bool.and_eq_true, Opinion.base, inR_iff] at hb
    have h5 := hb.1.1.1.1.2
    rw [List.foldl_cons, saysO_nat hm]
    exact viewF_bd hg l _ (by simp only; omega) (by simp only; omega) (fun v hv => h v (List.mem_cons_of_mem _ hv))
theorem viewM_bd {xs : List Opinion} (hg : goodO xs = true) (z d : Int) : 0 ≤ viewM xs z d ∧ viewM xs z d ≤ 4 :=
  viewF_bd hg _ _ (by decide) (by decide) (fun v hv => standL_mem hv)
def vText (v : Int) : ByteArray := if v = 0 then ⟨#[110, 111, 32, 111, 112, 105, 110, 105, 111, 110]⟩ else if v = 1 then ⟨#[103, 101, 110, 117, 105, 110, 101]⟩ else if v = 2 then ⟨#[114, 101, 112, 97, 105, 114, 101, 100]⟩ else if v = 3 then ⟨#[97, 108, 116, 101, 114, 101, 100]⟩ else ⟨#[102, 111, 114, 103, 101, 100]⟩
def ctA (z v : Int) : ByteArray := ⟨#[105, 116, 101, 109, 32]⟩ ++ numB z ++ ⟨#[58, 32]⟩ ++ vText v
def ctS (z v : Int) (b : Bool) : ByteArray := if b = true then ctA z v ++ ⟨#[32, 40, 100, 105, 115, 112, 117, 116, 101, 100, 41]⟩ else ctA z v
def ctV (xs : List Opinion) (z d : Int) : ByteArray := if stB xs z d = true then ctS z (viewM xs z d) (viewD xs z d) else ⟨#[]⟩
theorem ctV_no {xs : List Opinion} {z d : Int} (h : stB xs z d = false) : ctV xs z d = ⟨#[]⟩ := by simp [ctV, h]
theorem ctV_yes {xs : List Opinion} {z d : Int} (h : stB xs z d = true) : ctV xs z d = ctS z (viewM xs z d) (viewD xs z d) := by simp [ctV, h]
theorem five {v : Int} (h0 : 0 ≤ v) (h4 : v ≤ 4) : v = 0 ∨ v = 1 ∨ v = 2 ∨ v = 3 ∨ v = 4 := by omega
set_option maxRecDepth 100000 in
set_option maxHeartbeats 1600000 in
theorem implCertificateText_c (xs : List Opinion) (A : Option Addr) (c : Nat) (z d : Int) (w : World) (hr : Rd encOpinion 5 w.heap.size w A xs) (hn : xs.length ≤ 1048576) (hw : ∀ x ∈ xs, x.expert.size ≤ 9223372036854775807) (hz : -9223372036854775808 ≤ z ∧ z ≤ 9223372036854775807) (hd : -9223372036854775808 ≤ d ∧ d ≤ 9223372036854775807) (ht : Pow w) :
    Calls Tryz.prog 22 #[.slice A xs.length c, .int .i64 z, .int .i64 d] w (Ret (.tuple #[.string (ctV xs z d), .bool (stB xs z d)]) w) := by
  have HW := Lib.hid hw
  clear hw
  have HT := Lib.hid ht
  clear ht
  by_cases hF : goodO xs = false
  · go_enter Tryz.func22, Tryz.ntmps22
    have hbg := Below.refl w.heap.size w
    go_wp2_with fail
    refine (areOpinions_c xs _ _ _ (hr.go hbg) hn HW.out).mono ?_
    rintro e wg0 ⟨rfl, hb0⟩
    have hbg := below_via hbg hb0
    go_wp2_with fail
    go_returns
    exact ⟨ret_tb (ctV_no (by simp [stB, hF])).symm (by simp [stB, hF]), hbg⟩
  have G0 : goodO xs = true := by simpa using hF
  clear hF
  by_cases hF : inR z 1 999 = false
  · go_enter Tryz.func22, Tryz.ntmps22
    have hbg := Below.refl w.heap.size w
    go_wp2_with fail
    refine (areOpinions_c xs _ _ _ (hr.go hbg) hn HW.out).mono ?_
    rintro e wg0 ⟨rfl, hb0⟩
    have hbg := below_via hbg hb0
    go_wp2_with fail
    refine (isItem_c _ _).mono ?_
    rintro e wp1 ⟨rfl, rfl⟩
    go_wp2_with fail
    go_returns
    exact ⟨ret_tb (ctV_no (by simp [stB, hF])).symm (by simp [stB, hF]), hbg⟩
  have G1 : inR z 1 999 = true := by simpa using hF
  clear hF
  by_cases hF : inR d 0 4000 = false
  · go_enter Tryz.func22, Tryz.ntmps22
    have hbg := Below.refl w.heap.size w
    go_wp2_with fail
    refine (areOpinions_c xs _ _ _ (hr.go hbg) hn HW.out).mono ?_
    rintro e wg0 ⟨rfl, hb0⟩
    have hbg := below_via hbg hb0
    go_wp2_with fail
    refine (isItem_c _ _).mono ?_
    rintro e wp1 ⟨rfl, rfl⟩
    go_wp2_with fail
    refine (isDay_c _ _).mono ?_
    rintro e wp2 ⟨rfl, rfl⟩
    go_wp2_with fail
    go_returns
    exact ⟨ret_tb (ctV_no (by simp [stB, hF])).symm (by simp [stB, hF]), hbg⟩
  have G2 : inR d 0 4000 = true := by simpa using hF
  clear hF
  go_enter Tryz.func22, Tryz.ntmps22
  have hbg := Below.refl w.heap.size w
  go_wp2_with fail
  refine (areOpinions_c xs _ _ _ (hr.go hbg) hn HW.out).mono ?_
  rintro e wg0 ⟨rfl, hb0⟩
  have hbg := below_via hbg hb0
  go_wp2_with fail
  refine (isItem_c _ _).mono ?_
  rintro e wp1 ⟨rfl, rfl⟩
  go_wp2_with fail
  refine (isDay_c _ _).mono ?_
  rintro e wp2 ⟨rfl, rfl⟩
  have HB := Lib.hid (show stB xs z d = true by simp [stB, G0, G1, G2])
  have HV := Lib.hid (ctV_yes HB.out)
  obtain ⟨hv0, hv4⟩ := viewM_bd G0 z d
  have hz3 := inR_iff.1 G1
  go_wp2_with fail
  refine (viewOf_c xs _ _ _ _ _ (hr.go hbg) hn G0).mono ?_
  rintro e wv ⟨rfl, hb1⟩
  have hbg := below_via hbg hb1
  clear hb1
  generalize viewM xs z d = v at *
  generalize viewD xs z d = b at *
  clear G0 G1 G2 hr
  have zn := numB_sizeI (m := z) (by omega) (by omega)
  have h5 := five hv0 hv4
  clear hv0 hv4
  rcases h5 with rfl | rfl | rfl | rfl | rfl
  · have HX := Lib.hid (show vText 0 = ⟨#[110, 111, 32, 111, 112, 105, 110, 105, 111, 110]⟩ from rfl)
    have hix : ∀ w, (Instr.index 77 (.agg #[.string ⟨#[110, 111, 32, 111, 112, 105, 110, 105, 111, 110]⟩, .string ⟨#[103, 101, 110, 117, 105, 110, 101]⟩, .string ⟨#[114, 101, 112, 97, 105, 114, 101, 100]⟩, .string ⟨#[97, 108, 116, 101, 114, 101, 100]⟩, .string ⟨#[102, 111, 114, 103, 101, 100]⟩]) (.int .i64 0)).run Tryz.prog w = .ok (.string ⟨#[110, 111, 32, 111, 112, 105, 110, 105, 111, 110]⟩) w := fun _ => by kernel_rfl
    have HC : Hid (∀ (m : Int) (_ : 0 ≤ m) (_ : m ≤ 1000) (x : World), Calls Tryz.prog 58 #[.int .i64 m] (over wv x) (Ret (.string (numB m)) (over wv x))) := Lib.hid (fun m k1 k2 x => itoa_c m _ ((HT.out.go hbg).go (over_below wv x)) (by omega) (by omega))
    go_wp2_with fail
    refine wp_region_over (by kernel_rfl) (by kernel_rfl) ?_
    repeat (go_big_quiet_step (((go_at_call 58; exact Calls.over_of (HC.out _ (by omega) (by omega) _)))))
    refine wpQuiet_nil ?_
    intro _ hwx1
    obtain ⟨x1, hwx1⟩ := hwx1
    subst hwx1
    have hbW := over_below wv x1
    generalize over wv x1 = W1 at *
    cases b
    · go_wp2_with fail
      go_returns
      exact ⟨ret_tb (HV.out.trans (by simp only [ctS, ctA, HX.out]; rfl)).symm HB.out.symm, below_via hbg hbW⟩
    · go_wp2_with fail
      go_returns
      exact ⟨ret_tb (HV.out.trans (by simp only [ctS, ctA, HX.out]; rfl)).symm HB.out.symm, below_via hbg hbW⟩
  · have HX := Lib.hid (show vText 1 = ⟨#[103, 101, 110, 117, 105, 110, 101]⟩ from rfl)
    have hix : ∀ w, (Instr.index 77 (.agg #[.string ⟨#[110, 111, 32, 111, 112, 105, 110, 105, 111, 110]⟩, .string ⟨#[103, 101, 110, 117, 105, 110, 101]⟩, .string ⟨#[114, 101, 112, 97, 105, 114, 101, 100]⟩, .string ⟨#[97, 108, 116, 101, 114, 101, 100]⟩, .string ⟨#[102, 111, 114, 103, 101, 100]⟩]) (.int .i64 1)).run Tryz.prog w = .ok (.string ⟨#[103, 101, 110, 117, 105, 110, 101]⟩) w := fun _ => by kernel_rfl
    have HC : Hid (∀ (m : Int) (_ : 0 ≤ m) (_ : m ≤ 1000) (x : World), Calls Tryz.prog 58 #[.int .i64 m] (over wv x) (Ret (.string (numB m)) (over wv x))) := Lib.hid (fun m k1 k2 x => itoa_c m _ ((HT.out.go hbg).go (over_below wv x)) (by omega) (by omega))
    go_wp2_with fail
    refine wp_region_over (by kernel_rfl) (by kernel_rfl) ?_
    repeat (go_big_quiet_step (((go_at_call 58; exact Calls.over_of (HC.out _ (by omega) (by omega) _)))))
    refine wpQuiet_nil ?_
    intro _ hwx1
    obtain ⟨x1, hwx1⟩ := hwx1
    subst hwx1
    have hbW := over_below wv x1
    generalize over wv x1 = W1 at *
    cases b
    · go_wp2_with fail
      go_returns
      exact ⟨ret_tb (HV.out.trans (by simp only [ctS, ctA, HX.out]; rfl)).symm HB.out.symm, below_via hbg hbW⟩
    · go_wp2_with fail
      go_returns
      exact ⟨ret_tb (HV.out.trans (by simp only [ctS, ctA, HX.out]; rfl)).symm HB.out.symm, below_via hbg hbW⟩
  · have HX := Lib.hid (show vText 2 = ⟨#[114, 101, 112, 97, 105, 114, 101, 100]⟩ from rfl)
    have hix : ∀ w, (Instr.index 77 (.agg #[.string ⟨#[110, 111, 32, 111, 112, 105, 110, 105, 111, 110]⟩, .string ⟨#[103, 101, 110, 117, 105, 110, 101]⟩, .string ⟨#[114, 101, 112, 97, 105, 114, 101, 100]⟩, .string ⟨#[97, 108, 116, 101, 114, 101, 100]⟩, .string ⟨#[102, 111, 114, 103, 101, 100]⟩]) (.int .i64 2)).run Tryz.prog w = .ok (.string ⟨#[114, 101, 112, 97, 105, 114, 101, 100]⟩) w := fun _ => by kernel_rfl
    have HC : Hid (∀ (m : Int) (_ : 0 ≤ m) (_ : m ≤ 1000) (x : World), Calls Tryz.prog 58 #[.int .i64 m] (over wv x) (Ret (.string (numB m)) (over wv x))) := Lib.hid (fun m k1 k2 x => itoa_c m _ ((HT.out.go hbg).go (over_below wv x)) (by omega) (by omega))
    go_wp2_with fail
    refine wp_region_over (by kernel_rfl) (by kernel_rfl) ?_
    repeat (go_big_quiet_step (((go_at_call 58; exact Calls.over_of (HC.out _ (by omega) (by omega) _)))))
    refine wpQuiet_nil ?_
    intro _ hwx1
    obtain ⟨x1, hwx1⟩ := hwx1
    subst hwx1
    have hbW := over_below wv x1
    generalize over wv x1 = W1 at *
    cases b
    · go_wp2_with fail
      go_returns
      exact ⟨ret_tb (HV.out.trans (by simp only [ctS, ctA, HX.out]; rfl)).symm HB.out.symm, below_via hbg hbW⟩
    · go_wp2_with fail
      go_returns
      exact ⟨ret_tb (HV.out.trans (by simp only [ctS, ctA, HX.out]; rfl)).symm HB.out.symm, below_via hbg hbW⟩
  · have HX := Lib.hid (show vText 3 = ⟨#[97, 108, 116, 101, 114, 101, 100]⟩ from rfl)
    have hix : ∀ w, (Instr.index 77 (.agg #[.string ⟨#[110, 111, 32, 111, 112, 105, 110, 105, 111, 110]⟩, .string ⟨#[103, 101, 110, 117, 105, 110, 101]⟩, .string ⟨#[114, 101, 112, 97, 105, 114, 101, 100]⟩, .string ⟨#[97, 108, 116, 101, 114, 101, 100]⟩, .string ⟨#[102, 111, 114, 103, 101, 100]⟩]) (.int .i64 3)).run Tryz.prog w = .ok (.string ⟨#[97, 108, 116, 101, 114, 101, 100]⟩) w := fun _ => by kernel_rfl
    have HC : Hid (∀ (m : Int) (_ : 0 ≤ m) (_ : m ≤ 1000) (x : World), Calls Tryz.prog 58 #[.int .i64 m] (over wv x) (Ret (.string (numB m)) (over wv x))) := Lib.hid (fun m k1 k2 x => itoa_c m _ ((HT.out.go hbg).go (over_below wv x)) (by omega) (by omega))
    go_wp2_with fail
    refine wp_region_over (by kernel_rfl) (by kernel_rfl) ?_
    repeat (go_big_quiet_step (((go_at_call 58; exact Calls.over_of (HC.out _ (by omega) (by omega) _)))))
    refine wpQuiet_nil ?_
    intro _ hwx1
    obtain ⟨x1, hwx1⟩ := hwx1
    subst hwx1
    have hbW := over_below wv x1
    generalize over wv x1 = W1 at *
    cases b
    · go_wp2_with fail
      go_returns
      exact ⟨ret_tb (HV.out.trans (by simp only [ctS, ctA, HX.out]; rfl)).symm HB.out.symm, below_via hbg hbW⟩
    · go_wp2_with fail
      go_returns
      exact ⟨ret_tb (HV.out.trans (by simp only [ctS, ctA, HX.out]; rfl)).symm HB.out.symm, below_via hbg hbW⟩
  · have HX := Lib.hid (show vText 4 = ⟨#[102, 111, 114, 103, 101, 100]⟩ from rfl)
    have hix : ∀ w, (Instr.index 77 (.agg #[.string ⟨#[110, 111, 32, 111, 112, 105, 110, 105, 111, 110]⟩, .string ⟨#[103, 101, 110, 117, 105, 110, 101]⟩, .string ⟨#[114, 101, 112, 97, 105, 114, 101, 100]⟩, .string ⟨#[97, 108, 116, 101, 114, 101, 100]⟩, .string ⟨#[102, 111, 114, 103, 101, 100]⟩]) (.int .i64 4)).run Tryz.prog w = .ok (.string ⟨#[102, 111, 114, 103, 101, 100]⟩) w := fun _ => by kernel_rfl
    have HC : Hid (∀ (m : Int) (_ : 0 ≤ m) (_ : m ≤ 1000) (x : World), Calls Tryz.prog 58 #[.int .i64 m] (over wv x) (Ret (.string (numB m)) (over wv x))) := Lib.hid (fun m k1 k2 x => itoa_c m _ ((HT.out.go hbg).go (over_below wv x)) (by omega) (by omega))
    go_wp2_with fail
    refine wp_region_over (by kernel_rfl) (by kernel_rfl) ?_
    repeat (go_big_quiet_step (((go_at_call 58; exact Calls.over_of (HC.out _ (by omega) (by omega) _)))))
    refine wpQuiet_nil ?_
    intro _ hwx1
    obtain ⟨x1, hwx1⟩ := hwx1
    subst hwx1
    have hbW := over_below wv x1
    generalize over wv x1 = W1 at *
    cases b
    · go_wp2_with fail
      go_returns
      exact ⟨ret_tb (HV.out.trans (by simp only [ctS, ctA, HX.out]; rfl)).symm HB.out.symm, below_via hbg hbW⟩
    · go_wp2_with fail
      go_returns
      exact ⟨ret_tb (HV.out.trans (by simp only [ctS, ctA, HX.out]; rfl)).symm HB.out.symm, below_via hbg hbW⟩
theorem undrew {B : Nat} {a w : World} (h : Below B a.drew w) : Below B a w := ⟨h.os, h.tape, h.output, h.size, h.block⟩
theorem built_cell {w w2 : World} {vs : Array Value} {t : TypeId} (hb : Below (w.alloc (.cells vs t)).drew.heap.size (w.alloc (.cells vs t)).drew w2) (k : Nat) {s : ByteArray} (hs : vs[k]? = some (.string s)) : w2.cell? ⟨w.heap.size, k, none⟩ = some (.string s) := by
  refine (hb.cell (p := ⟨w.heap.size, k, none⟩) ?_).trans ?_
  · show w.heap.size < (w.heap.push _).size
    simp
  · have h : (w.alloc (.cells vs t)).heap[w.heap.size]? = some (.cells vs t) := by show (w.heap.push _)[w.heap.size]? = _; simp
    have h2 : (w.alloc (.cells vs t)).drew.heap[w.heap.size]? = some (.cells vs t) := h
    simp only [World.cell?]
    rw [h2]
    exact hs
set_option maxRecDepth 100000 in
set_option maxHeartbeats 1600000 in
theorem specCertificateText_0 (xs : List Opinion) (A : Option Addr) (c : Nat) (z d : Int) (w : World) (hr : Rd encOpinion 5 w.heap.size w A xs) (hn : xs.length ≤ 1048576) (hw : ∀ x ∈ xs, x.expert.size ≤ 9223372036854775807) (hz : -9223372036854775808 ≤ z ∧ z ≤ 9223372036854775807) (hd : -9223372036854775808 ≤ d ∧ d ≤ 9223372036854775807) (hv : goodO xs = true → viewM xs z d = 0) :
    Calls Tryz.prog 23 #[.slice A xs.length c, .int .i64 z, .int .i64 d] w (Ret (.tuple #[.string (ctV xs z d), .bool (stB xs z d)]) w) := by
  have HW := Lib.hid hw
  clear hw
  by_cases hF : goodO xs = false
  · go_enter Tryz.func23, Tryz.ntmps23
    have hbg := Below.refl w.heap.size w
    go_wp2_with fail
    refine (l17Good_c xs _ _ _ (hr.go hbg) hn HW.out).mono ?_
    rintro e wg0 ⟨rfl, hb0⟩
    have hbg := below_via hbg hb0
    go_wp2_with fail
    go_returns
    exact ⟨ret_tb (ctV_no (by simp [stB, hF])).symm (by simp [stB, hF]), hbg⟩
  have G0 : goodO xs = true := by simpa using hF
  clear hF
  by_cases hF : inR z 1 999 = false
  · go_enter Tryz.func23, Tryz.ntmps23
    have hbg := Below.refl w.heap.size w
    go_wp2_with fail
    refine (l17Good_c xs _ _ _ (hr.go hbg) hn HW.out).mono ?_
    rintro e wg0 ⟨rfl, hb0⟩
    have hbg := below_via hbg hb0
    go_wp2_with fail
    refine (l17Item_c _ _).mono ?_
    rintro e wp1 ⟨rfl, rfl⟩
    go_wp2_with fail
    go_returns
    exact ⟨ret_tb (ctV_no (by simp [stB, hF])).symm (by simp [stB, hF]), hbg⟩
  have G1 : inR z 1 999 = true := by simpa using hF
  clear hF
  by_cases hF : inR d 0 4000 = false
  · go_enter Tryz.func23, Tryz.ntmps23
    have hbg := Below.refl w.heap.size w
    go_wp2_with fail
    refine (l17Good_c xs _ _ _ (hr.go hbg) hn HW.out).mono ?_
    rintro e wg0 ⟨rfl, hb0⟩
    have hbg := below_via hbg hb0
    go_wp2_with fail
    refine (l17Item_c _ _).mono ?_
    rintro e wp1 ⟨rfl, rfl⟩
    go_wp2_with fail
    refine (l2Day_c _ _).mono ?_
    rintro e wp2 ⟨rfl, rfl⟩
    go_wp2_with fail
    go_returns
    exact ⟨ret_tb (ctV_no (by simp [stB, hF])).symm (by simp [stB, hF]), hbg⟩
  have G2 : inR d 0 4000 = true := by simpa using hF
  clear hF
  go_enter Tryz.func23, Tryz.ntmps23
  have hbg := Below.refl w.heap.size w
  go_wp2_with fail
  refine (l17Good_c xs _ _ _ (hr.go hbg) hn HW.out).mono ?_
  rintro e wg0 ⟨rfl, hb0⟩
  have hbg := below_via hbg hb0
  go_wp2_with fail
  refine (l17Item_c _ _).mono ?_
  rintro e wp1 ⟨rfl, rfl⟩
  go_wp2_with fail
  refine (l2Day_c _ _).mono ?_
  rintro e wp2 ⟨rfl, rfl⟩
  have HB := Lib.hid (show stB xs z d = true by simp [stB, G0, G1, G2])
  replace hv := hv G0
  have HV := Lib.hid (show ctV xs z d = ctS z 0 (viewD xs z d) by rw [ctV_yes HB.out, hv])
  have hz3 := inR_iff.1 G1
  go_wp2_with fail
  refine (l17View_c xs _ _ _ _ _ (hr.go hbg) hn G0).mono ?_
  rintro e wv ⟨rfl, rfl⟩
  rw [hv]
  clear hv
  generalize viewD xs z d = b at *
  clear G0 G1 G2 hr
  have zn := numB_sizeI (m := z) (by omega) (by omega)
  have HX := Lib.hid (show vText 0 = ⟨#[110, 111, 32, 111, 112, 105, 110, 105, 111, 110]⟩ from rfl)
  go_upto_region 4 with fail
  go_region_with (first | (go_at_call 59; refine (l1NumI_c _ (by omega) (by omega) _).mono ?_; rintro e w2 ⟨rfl, hb2⟩; (first | (have hc2 : w2.cell? ⟨wg0.heap.size, 0, none⟩ = some (.string ⟨#[110, 111, 32, 111, 112, 105, 110, 105, 111, 110]⟩) := built_cell hb2 0 rfl) | skip)))
  all_goals
    cases b
    · go_wp2_with fail
      go_returns
      exact ⟨ret_tb (HV.out.trans (by simp only [ctS, ctA, HX.out]; rfl)).symm HB.out.symm, by first | exact below_via hbg (undrew hb2) | exact (below_via hbg (undrew hb2)).alloc (below_via hbg (undrew hb2)).size _ | exact below_via hbg (below_via ((Below.refl _ _).alloc (Nat.le_refl _) _) (undrew hb2))⟩
    · go_wp2_with fail
      go_returns
      exact ⟨ret_tb (HV.out.trans (by simp only [ctS, ctA, HX.out]; rfl)).symm HB.out.symm, by first | exact below_via hbg (undrew hb2) | exact (below_via hbg (undrew hb2)).alloc (below_via hbg (undrew hb2)).size _ | exact below_via hbg (below_via ((Below.refl _ _).alloc (Nat.le_refl _) _) (undrew hb2))⟩
set_option maxRecDepth 100000 in
set_option maxHeartbeats 1600000 in
theorem specCertificateText_1 (xs : List Opinion) (A : Option Addr) (c : Nat) (z d : Int) (w : World) (hr : Rd encOpinion 5 w.heap.size w A xs) (hn : xs.length ≤ 1048576) (hw : ∀ x ∈ xs, x.expert.size ≤ 9223372036854775807) (hz : -9223372036854775808 ≤ z ∧ z ≤ 9223372036854775807) (hd : -9223372036854775808 ≤ d ∧ d ≤ 9223372036854775807) (hv : goodO xs = true → viewM xs z d = 1) :
    Calls Tryz.prog 23 #[.slice A xs.length c, .int .i64 z, .int .i64 d] w (Ret (.tuple #[.string (ctV xs z d), .bool (stB xs z d)]) w) := by
  have HW := Lib.hid hw
  clear hw
  by_cases hF : goodO xs = false
  · go_enter Tryz.func23, Tryz.ntmps23
    have hbg := Below.refl w.heap.size w
    go_wp2_with fail
    refine (l17Good_c xs _ _ _ (hr.go hbg) hn HW.out).mono ?_
    rintro e wg0 ⟨rfl, hb0⟩
    have hbg := below_via hbg hb0
    go_wp2_with fail
    go_returns
    exact ⟨ret_tb (ctV_no (by simp [stB, hF])).symm (by simp [stB, hF]), hbg⟩
  have G0 : goodO xs = true := by simpa using hF
  clear hF
  by_cases hF : inR z 1 999 = false
  · go_enter Tryz.func23, Tryz.ntmps23
    have hbg := Below.refl w.heap.size w
    go_wp2_with fail
    refine (l17Good_c xs _ _ _ (hr.go hbg) hn HW.out).mono ?_
    rintro e wg0 ⟨rfl, hb0⟩
    have hbg := below_via hbg hb0
    go_wp2_with fail
    refine (l17Item_c _ _).mono ?_
    rintro e wp1 ⟨rfl, rfl⟩
    go_wp2_with fail
    go_returns
    exact ⟨ret_tb (ctV_no (by simp [stB, hF])).symm (by simp [stB, hF]), hbg⟩
  have G1 : inR z 1 999 = true := by simpa using hF
  clear hF
  by_cases hF : inR d 0 4000 = false
  · go_enter Tryz.func23, Tryz.ntmps23
    have hbg := Below.refl w.heap.size w
    go_wp2_with fail
    refine (l17Good_c xs _ _ _ (hr.go hbg) hn HW.out).mono ?_
    rintro e wg0 ⟨rfl, hb0⟩
    have hbg := below_via hbg hb0
    go_wp2_with fail
    refine (l17Item_c _ _).mono ?_
    rintro e wp1 ⟨rfl, rfl⟩
    go_wp2_with fail
    refine (l2Day_c _ _).mono ?_
    rintro e wp2 ⟨rfl, rfl⟩
    go_wp2_with fail
    go_returns
    exact ⟨ret_tb (ctV_no (by simp [stB, hF])).symm (by simp [stB, hF]), hbg⟩
  have G2 : inR d 0 4000 = true := by simpa using hF
  clear hF
  go_enter Tryz.func23, Tryz.ntmps23
  have hbg := Below.refl w.heap.size w
  go_wp2_with fail
  refine (l17Good_c xs _ _ _ (hr.go hbg) hn HW.out).mono ?_
  rintro e wg0 ⟨rfl, hb0⟩
  have hbg := below_via hbg hb0
  go_wp2_with fail
  refine (l17Item_c _ _).mono ?_
  rintro e wp1 ⟨rfl, rfl⟩
  go_wp2_with fail
  refine (l2Day_c _ _).mono ?_
  rintro e wp2 ⟨rfl, rfl⟩
  have HB := Lib.hid (show stB xs z d = true by simp [stB, G0, G1, G2])
  replace hv := hv G0
  have HV := Lib.hid (show ctV xs z d = ctS z 1 (viewD xs z d) by rw [ctV_yes HB.out, hv])
  have hz3 := inR_iff.1 G1
  go_wp2_with fail
  refine (l17View_c xs _ _ _ _ _ (hr.go hbg) hn G0).mono ?_
  rintro e wv ⟨rfl, rfl⟩
  rw [hv]
  clear hv
  generalize viewD xs z d = b at *
  clear G0 G1 G2 hr
  have zn := numB_sizeI (m := z) (by omega) (by omega)
  have HX := Lib.hid (show vText 1 = ⟨#[103, 101, 110, 117, 105, 110, 101]⟩ from rfl)
  go_upto_region 4 with fail
  go_region_with (first | (go_at_call 59; refine (l1NumI_c _ (by omega) (by omega) _).mono ?_; rintro e w2 ⟨rfl, hb2⟩; (first | (have hc2 : w2.cell? ⟨wg0.heap.size, 1, none⟩ = some (.string ⟨#[103, 101, 110, 117, 105, 110, 101]⟩) := built_cell hb2 1 rfl) | skip)))
  all_goals
    cases b
    · go_wp2_with fail
      go_returns
      exact ⟨ret_tb (HV.out.trans (by simp only [ctS, ctA, HX.out]; rfl)).symm HB.out.symm, by first | exact below_via hbg (undrew hb2) | exact (below_via hbg (undrew hb2)).alloc (below_via hbg (undrew hb2)).size _ | exact below_via hbg (below_via ((Below.refl _ _).alloc (Nat.le_refl _) _) (undrew hb2))⟩
    · go_wp2_with fail
      go_returns
      exact ⟨ret_tb (HV.out.trans (by simp only [ctS, ctA, HX.out]; rfl)).symm HB.out.symm, by first | exact below_via hbg (undrew hb2) | exact (below_via hbg (undrew hb2)).alloc (below_via hbg (undrew hb2)).size _ | exact below_via hbg (below_via ((Below.refl _ _).alloc (Nat.le_refl _) _) (undrew hb2))⟩
set_option maxRecDepth 100000 in
set_option maxHeartbeats 1600000 in
theorem specCertificateText_2 (xs : List Opinion) (A : Option Addr) (c : Nat) (z d : Int) (w : World) (hr : Rd encOpinion 5 w.heap.size w A xs) (hn : xs.length ≤ 1048576) (hw : ∀ x ∈ xs, x.expert.size ≤ 9223372036854775807) (hz : -9223372036854775808 ≤ z ∧ z ≤ 9223372036854775807) (hd : -9223372036854775808 ≤ d ∧ d ≤ 9223372036854775807) (hv : goodO xs = true → viewM xs z d = 2) :
    Calls Tryz.prog 23 #[.slice A xs.length c, .int .i64 z, .int .i64 d] w (Ret (.tuple #[.string (ctV xs z d), .bool (stB xs z d)]) w) := by
  have HW := Lib.hid hw
  clear hw
  by_cases hF : goodO xs = false
  · go_enter Tryz.func23, Tryz.ntmps23
    have hbg := Below.refl w.heap.size w
    go_wp2_with fail
    refine (l17Good_c xs _ _ _ (hr.go hbg) hn HW.out).mono ?_
    rintro e wg0 ⟨rfl, hb0⟩
    have hbg := below_via hbg hb0
    go_wp2_with fail
    go_returns
    exact ⟨ret_tb (ctV_no (by simp [stB, hF])).symm (by simp [stB, hF]), hbg⟩
  have G0 : goodO xs = true := by simpa using hF
  clear hF
  by_cases hF : inR z 1 999 = false
  · go_enter Tryz.func23, Tryz.ntmps23
    have hbg := Below.refl w.heap.size w
    go_wp2_with fail
    refine (l17Good_c xs _ _ _ (hr.go hbg) hn HW.out).mono ?_
    rintro e wg0 ⟨rfl, hb0⟩
    have hbg := below_via hbg hb0
    go_wp2_with fail
    refine (l17Item_c _ _).mono ?_
    rintro e wp1 ⟨rfl, rfl⟩
    go_wp2_with fail
    go_returns
    exact ⟨ret_tb (ctV_no (by simp [stB, hF])).symm (by simp [stB, hF]), hbg⟩
  have G1 : inR z 1 999 = true := by simpa using hF
  clear hF
  by_cases hF : inR d 0 4000 = false
  · go_enter Tryz.func23, Tryz.ntmps23
    have hbg := Below.refl w.heap.size w
    go_wp2_with fail
    refine (l17Good_c xs _ _ _ (hr.go hbg) hn HW.out).mono ?_
    rintro e wg0 ⟨rfl, hb0⟩
    have hbg := below_via hbg hb0
    go_wp2_with fail
    refine (l17Item_c _ _).mono ?_
    rintro e wp1 ⟨rfl, rfl⟩
    go_wp2_with fail
    refine (l2Day_c _ _).mono ?_
    rintro e wp2 ⟨rfl, rfl⟩
    go_wp2_with fail
    go_returns
    exact ⟨ret_tb (ctV_no (by simp [stB, hF])).symm (by simp [stB, hF]), hbg⟩
  have G2 : inR d 0 4000 = true := by simpa using hF
  clear hF
  go_enter Tryz.func23, Tryz.ntmps23
  have hbg := Below.refl w.heap.size w
  go_wp2_with fail
  refine (l17Good_c xs _ _ _ (hr.go hbg) hn HW.out).mono ?_
  rintro e wg0 ⟨rfl, hb0⟩
  have hbg := below_via hbg hb0
  go_wp2_with fail
  refine (l17Item_c _ _).mono ?_
  rintro e wp1 ⟨rfl, rfl⟩
  go_wp2_with fail
  refine (l2Day_c _ _).mono ?_
  rintro e wp2 ⟨rfl, rfl⟩
  have HB := Lib.hid (show stB xs z d = true by simp [stB, G0, G1, G2])
  replace hv := hv G0
  have HV := Lib.hid (show ctV xs z d = ctS z 2 (viewD xs z d) by rw [ctV_yes HB.out, hv])
  have hz3 := inR_iff.1 G1
  go_wp2_with fail
  refine (l17View_c xs _ _ _ _ _ (hr.go hbg) hn G0).mono ?_
  rintro e wv ⟨rfl, rfl⟩
  rw [hv]
  clear hv
  generalize viewD xs z d = b at *
  clear G0 G1 G2 hr
  have zn := numB_sizeI (m := z) (by omega) (by omega)
  have HX := Lib.hid (show vText 2 = ⟨#[114, 101, 112, 97, 105, 114, 101, 100]⟩ from rfl)
  go_upto_region 4 with fail
  go_region_with (first | (go_at_call 59; refine (l1NumI_c _ (by omega) (by omega) _).mono ?_; rintro e w2 ⟨rfl, hb2⟩; (first | (have hc2 : w2.cell? ⟨wg0.heap.size, 2, none⟩ = some (.string ⟨#[114, 101, 112, 97, 105, 114, 101, 100]⟩) := built_cell hb2 2 rfl) | skip)))
  all_goals
    cases b
    · go_wp2_with fail
      go_returns
      exact ⟨ret_tb (HV.out.trans (by simp only [ctS, ctA, HX.out]; rfl)).symm HB.out.symm, by first | exact below_via hbg (undrew hb2) | exact (below_via hbg (undrew hb2)).alloc (below_via hbg (undrew hb2)).size _ | exact below_via hbg (below_via ((Below.refl _ _).alloc (Nat.le_refl _) _) (undrew hb2))⟩
    · go_wp2_with fail
      go_returns
      exact ⟨ret_tb (HV.out.trans (by simp only [ctS, ctA, HX.out]; rfl)).symm HB.out.symm, by first | exact below_via hbg (undrew hb2) | exact (below_via hbg (undrew hb2)).alloc (below_via hbg (undrew hb2)).size _ | exact below_via hbg (below_via ((Below.refl _ _).alloc (Nat.le_refl _) _) (undrew hb2))⟩
set_option maxRecDepth 100000 in
set_option maxHeartbeats 1600000 in
theorem specCertificateText_3 (xs : List Opinion) (A : Option Addr) (c : Nat) (z d : Int) (w : World) (hr : Rd encOpinion 5 w.heap.size w A xs) (hn : xs.length ≤ 1048576) (hw : ∀ x ∈ xs, x.expert.size ≤ 9223372036854775807) (hz : -9223372036854775808 ≤ z ∧ z ≤ 9223372036854775807) (hd : -9223372036854775808 ≤ d ∧ d ≤ 9223372036854775807) (hv : goodO xs = true → viewM xs z d = 3) :
    Calls Tryz.prog 23 #[.slice A xs.length c, .int .i64 z, .int .i64 d] w (Ret (.tuple #[.string (ctV xs z d), .bool (stB xs z d)]) w) := by
  have HW := Lib.hid hw
  clear hw
  by_cases hF : goodO xs = false
  · go_enter Tryz.func23, Tryz.ntmps23
    have hbg := Below.refl w.heap.size w
    go_wp2_with fail
    refine (l17Good_c xs _ _ _ (hr.go hbg) hn HW.out).mono ?_
    rintro e wg0 ⟨rfl, hb0⟩
    have hbg := below_via hbg hb0
    go_wp2_with fail
    go_returns
    exact ⟨ret_tb (ctV_no (by simp [stB, hF])).symm (by simp [stB, hF]), hbg⟩
  have G0 : goodO xs = true := by simpa using hF
  clear hF
  by_cases hF : inR z 1 999 = false
  · go_enter Tryz.func23, Tryz.ntmps23
    have hbg := Below.refl w.heap.size w
    go_wp2_with fail
    refine (l17Good_c xs _ _ _ (hr.go hbg) hn HW.out).mono ?_
    rintro e wg0 ⟨rfl, hb0⟩
    have hbg := below_via hbg hb0
    go_wp2_with fail
    refine (l17Item_c _ _).mono ?_
    rintro e wp1 ⟨rfl, rfl⟩
    go_wp2_with fail
    go_returns
    exact ⟨ret_tb (ctV_no (by simp [stB, hF])).symm (by simp [stB, hF]), hbg⟩
  have G1 : inR z 1 999 = true := by simpa using hF
  clear hF
  by_cases hF : inR d 0 4000 = false
  · go_enter Tryz.func23, Tryz.ntmps23
    have hbg := Below.refl w.heap.size w
    go_wp2_with fail
    refine (l17Good_c xs _ _ _ (hr.go hbg) hn HW.out).mono ?_
    rintro e wg0 ⟨rfl, hb0⟩
    have hbg := below_via hbg hb0
    go_wp2_with fail
    refine (l17Item_c _ _).mono ?_
    rintro e wp1 ⟨rfl, rfl⟩
    go_wp2_with fail
    refine (l2Day_c _ _).mono ?_
    rintro e wp2 ⟨rfl, rfl⟩
    go_wp2_with fail
    go_returns
    exact ⟨ret_tb (ctV_no (by simp [stB, hF])).symm (by simp [stB, hF]), hbg⟩
  have G2 : inR d 0 4000 = true := by simpa using hF
  clear hF
  go_enter Tryz.func23, Tryz.ntmps23
  have hbg := Below.refl w.heap.size w
  go_wp2_with fail
  refine (l17Good_c xs _ _ _ (hr.go hbg) hn HW.out).mono ?_
  rintro e wg0 ⟨rfl, hb0⟩
  have hbg := below_via hbg hb0
  go_wp2_with fail
  refine (l17Item_c _ _).mono ?_
  rintro e wp1 ⟨rfl, rfl⟩
  go_wp2_with fail
  refine (l2Day_c _ _).mono ?_
  rintro e wp2 ⟨rfl, rfl⟩
  have HB := Lib.hid (show stB xs z d = true by simp [stB, G0, G1, G2])
  replace hv := hv G0
  have HV := Lib.hid (show ctV xs z d = ctS z 3 (viewD xs z d) by rw [ctV_yes HB.out, hv])
  have hz3 := inR_iff.1 G1
  go_wp2_with fail
  refine (l17View_c xs _ _ _ _ _ (hr.go hbg) hn G0).mono ?_
  rintro e wv ⟨rfl, rfl⟩
  rw [hv]
  clear hv
  generalize viewD xs z d = b at *
  clear G0 G1 G2 hr
  have zn := numB_sizeI (m := z) (by omega) (by omega)
  have HX := Lib.hid (show vText 3 = ⟨#[97, 108, 116, 101, 114, 101, 100]⟩ from rfl)
  go_upto_region 4 with fail
  go_region_with (first | (go_at_call 59; refine (l1NumI_c _ (by omega) (by omega) _).mono ?_; rintro e w2 ⟨rfl, hb2⟩; (first | (have hc2 : w2.cell? ⟨wg0.heap.size, 3, none⟩ = some (.string ⟨#[97, 108, 116, 101, 114, 101, 100]⟩) := built_cell hb2 3 rfl) | skip)))
  all_goals
    cases b
    · go_wp2_with fail
      go_returns
      exact ⟨ret_tb (HV.out.trans (by simp only [ctS, ctA, HX.out]; rfl)).symm HB.out.symm, by first | exact below_via hbg (undrew hb2) | exact (below_via hbg (undrew hb2)).alloc (below_via hbg (undrew hb2)).size _ | exact below_via hbg (below_via ((Below.refl _ _).alloc (Nat.le_refl _) _) (undrew hb2))⟩
    · go_wp2_with fail
      go_returns
      exact ⟨ret_tb (HV.out.trans (by simp only [ctS, ctA, HX.out]; rfl)).symm HB.out.symm, by first | exact below_via hbg (undrew hb2) | exact (below_via hbg (undrew hb2)).alloc (below_via hbg (undrew hb2)).size _ | exact below_via hbg (below_via ((Below.refl _ _).alloc (Nat.le_refl _) _) (undrew hb2))⟩
set_option maxRecDepth 100000 in
set_option maxHeartbeats 1600000 in
theorem specCertificateText_4 (xs : List Opinion) (A : Option Addr) (c : Nat) (z d : Int) (w : World) (hr : Rd encOpinion 5 w.heap.size w A xs) (hn : xs.length ≤ 1048576) (hw : ∀ x ∈ xs, x.expert.size ≤ 9223372036854775807) (hz : -9223372036854775808 ≤ z ∧ z ≤ 9223372036854775807) (hd : -9223372036854775808 ≤ d ∧ d ≤ 9223372036854775807) (hv : goodO xs = true → viewM xs z d = 4) :
    Calls Tryz.prog 23 #[.slice A xs.length c, .int .i64 z, .int .i64 d] w (Ret (.tuple #[.string (ctV xs z d), .bool (stB xs z d)]) w) := by
  have HW := Lib.hid hw
  clear hw
  by_cases hF : goodO xs = false
  · go_enter Tryz.func23, Tryz.ntmps23
    have hbg := Below.refl w.heap.size w
    go_wp2_with fail
    refine (l17Good_c xs _ _ _ (hr.go hbg) hn HW.out).mono ?_
    rintro e wg0 ⟨rfl, hb0⟩
    have hbg := below_via hbg hb0
    go_wp2_with fail
    go_returns
    exact ⟨ret_tb (ctV_no (by simp [stB, hF])).symm (by simp [stB, hF]), hbg⟩
  have G0 : goodO xs = true := by simpa using hF
  clear hF
  by_cases hF : inR z 1 999 = false
  · go_enter Tryz.func23, Tryz.ntmps23
    have hbg := Below.refl w.heap.size w
    go_wp2_with fail
    refine (l17Good_c xs _ _ _ (hr.go hbg) hn HW.out).mono ?_
    rintro e wg0 ⟨rfl, hb0⟩
    have hbg := below_via hbg hb0
    go_wp2_with fail
    refine (l17Item_c _ _).mono ?_
    rintro e wp1 ⟨rfl, rfl⟩
    go_wp2_with fail
    go_returns
    exact ⟨ret_tb (ctV_no (by simp [stB, hF])).symm (by simp [stB, hF]), hbg⟩
  have G1 : inR z 1 999 = true := by simpa using hF
  clear hF
  by_cases hF : inR d 0 4000 = false
  · go_enter Tryz.func23, Tryz.ntmps23
    have hbg := Below.refl w.heap.size w
    go_wp2_with fail
    refine (l17Good_c xs _ _ _ (hr.go hbg) hn HW.out).mono ?_
    rintro e wg0 ⟨rfl, hb0⟩
    have hbg := below_via hbg hb0
    go_wp2_with fail
    refine (l17Item_c _ _).mono ?_
    rintro e wp1 ⟨rfl, rfl⟩
    go_wp2_with fail
    refine (l2Day_c _ _).mono ?_
    rintro e wp2 ⟨rfl, rfl⟩
    go_wp2_with fail
    go_returns
    exact ⟨ret_tb (ctV_no (by simp [stB, hF])).symm (by simp [stB, hF]), hbg⟩
  have G2 : inR d 0 4000 = true := by simpa using hF
  clear hF
  go_enter Tryz.func23, Tryz.ntmps23
  have hbg := Below.refl w.heap.size w
  go_wp2_with fail
  refine (l17Good_c xs _ _ _ (hr.go hbg) hn HW.out).mono ?_
  rintro e wg0 ⟨rfl, hb0⟩
  have hbg := below_via hbg hb0
  go_wp2_with fail
  refine (l17Item_c _ _).mono ?_
  rintro e wp1 ⟨rfl, rfl⟩
  go_wp2_with fail
  refine (l2Day_c _ _).mono ?_
  rintro e wp2 ⟨rfl, rfl⟩
  have HB := Lib.hid (show stB xs z d = true by simp [stB, G0, G1, G2])
  replace hv := hv G0
  have HV := Lib.hid (show ctV xs z d = ctS z 4 (viewD xs z d) by rw [ctV_yes HB.out, hv])
  have hz3 := inR_iff.1 G1
  go_wp2_with fail
  refine (l17View_c xs _ _ _ _ _ (hr.go hbg) hn G0).mono ?_
  rintro e wv ⟨rfl, rfl⟩
  rw [hv]
  clear hv
  generalize viewD xs z d = b at *
  clear G0 G1 G2 hr
  have zn := numB_sizeI (m := z) (by omega) (by omega)
  have HX := Lib.hid (show vText 4 = ⟨#[102, 111, 114, 103, 101, 100]⟩ from rfl)
  go_upto_region 4 with fail
  go_region_with (first | (go_at_call 59; refine (l1NumI_c _ (by omega) (by omega) _).mono ?_; rintro e w2 ⟨rfl, hb2⟩; (first | (have hc2 : w2.cell? ⟨wg0.heap.size, 4, none⟩ = some (.string ⟨#[102, 111, 114, 103, 101, 100]⟩) := built_cell hb2 4 rfl) | skip)))
  all_goals
    cases b
    · go_wp2_with fail
      go_returns
      exact ⟨ret_tb (HV.out.trans (by simp only [ctS, ctA, HX.out]; rfl)).symm HB.out.symm, by first | exact below_via hbg (undrew hb2) | exact (below_via hbg (undrew hb2)).alloc (below_via hbg (undrew hb2)).size _ | exact below_via hbg (below_via ((Below.refl _ _).alloc (Nat.le_refl _) _) (undrew hb2))⟩
    · go_wp2_with fail
      go_returns
      exact ⟨ret_tb (HV.out.trans (by simp only [ctS, ctA, HX.out]; rfl)).symm HB.out.symm, by first | exact below_via hbg (undrew hb2) | exact (below_via hbg (undrew hb2)).alloc (below_via hbg (undrew hb2)).size _ | exact below_via hbg (below_via ((Below.refl _ _).alloc (Nat.le_refl _) _) (undrew hb2))⟩
theorem specCertificateText_c (xs : List Opinion) (A : Option Addr) (c : Nat) (z d : Int) (w : World) (hr : Rd encOpinion 5 w.heap.size w A xs) (hn : xs.length ≤ 1048576) (hw : ∀ x ∈ xs, x.expert.size ≤ 9223372036854775807) (hz : -9223372036854775808 ≤ z ∧ z ≤ 9223372036854775807) (hd : -9223372036854775808 ≤ d ∧ d ≤ 9223372036854775807) :
    Calls Tryz.prog 23 #[.slice A xs.length c, .int .i64 z, .int .i64 d] w (Ret (.tuple #[.string (ctV xs z d), .bool (stB xs z d)]) w) := by
  by_cases hg : goodO xs = true
  · obtain ⟨h0, h4⟩ := viewM_bd hg z d
    rcases five h0 h4 with h | h | h | h | h
    · exact specCertificateText_0 xs A c z d w hr hn hw hz hd (fun _ => h)
    · exact specCertificateText_1 xs A c z d w hr hn hw hz hd (fun _ => h)
    · exact specCertificateText_2 xs A c z d w hr hn hw hz hd (fun _ => h)
    · exact specCertificateText_3 xs A c z d w hr hn hw hz hd (fun _ => h)
    · exact specCertificateText_4 xs A c z d w hr hn hw hz hd (fun _ => h)
  · exact specCertificateText_0 xs A c z d w hr hn hw hz hd (fun h => absurd h hg)
end Go.Proofs.YtpnkeaeikcobfaaGreatDoor
