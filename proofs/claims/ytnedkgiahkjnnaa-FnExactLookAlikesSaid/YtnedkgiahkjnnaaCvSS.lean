/- Contracts of the functions by which the laws copy, compare and count lists of lists of numbers. No condition but the size that the laws ask. -/
import Derived.Test.YtnedkgiahkjnnaaRecSS
import Derived.Test.YtnedkgiahkjnnaaMark
import Derived.Test.YtnedkgiahkjnnaaScal
namespace Go.Proofs.Ytnedkgiahkjnnaa
set_option linter.unusedVariables false
set_option linter.unusedSimpArgs false
open Go.RowKit
def sumS (ps : List (List Int)) : Nat := (ps.map List.length).sum
theorem sumS_cons (p : List Int) (ps : List (List Int)) : sumS (p :: ps) = p.length + sumS ps := by simp [sumS]
theorem sumS_append (ps qs : List (List Int)) : sumS (ps ++ qs) = sumS ps + sumS qs := by simp [sumS]
theorem sumS_mem {ps : List (List Int)} {p : List Int} (h : p ∈ ps) : p.length ≤ sumS ps := by
  induction ps with
  | nil => cases h
  | cons q ps ih =>
    rw [sumS_cons]
    rcases List.mem_cons.1 h with rfl | h
    · omega
    · have := ih h; omega
theorem sumS_take_succ {ps : List (List Int)} {k : Nat} (h : k < ps.length) : sumS (ps.take (k + 1)) = sumS (ps.take k) + ps[k].length := by
  rw [take_succ_get ps k h, sumS_append]; simp [sumS]
theorem RdSS.rd {B : Nat} {w : World} {A : Option Addr} {ps : List (List Int)} (h : RdSS B w A ps) : RdSS B w A ps := h
theorem infoSS : (Try.prog.info? 23).map (fun i => (i.zero, i.size, i.bytes)) = some (some (.slice none 0 0), 1, 24) := by kernel_rfl
set_option maxHeartbeats 1000000 in
theorem toIntSS_c (xs : List (List Int)) (A : Option Addr) (c : Nat) (w : World) (hr : RdSS w.heap.size w A xs) (hn : xs.length ≤ 1048576) (hs : sumS xs ≤ 2097152) :
    Calls Try.prog 11 #[.slice A xs.length c] w fun e w' => ∃ A', e = .returned (.slice A' xs.length xs.length) ∧ Below w.heap.size w w' ∧ RdSS w'.heap.size w' A' xs := by
  obtain ⟨i0, hi, hz0, hz1, hz2⟩ := info_parts infoSS
  have hmk := run_makeFull (P := Try.prog) 24 23 i0 _ Try.underlying24 hi hz0 xs.length (by rw [hz2]; omega) (by omega)
  rw [hz1] at hmk
  generalize hcs : madeCells (Value.cells (.slice none 0 0)) (xs.length * 1) = cs at hmk
  have hsz : cs.size = xs.length * 1 := by rw [← hcs, size_madeCells]
  clear hcs hi hz0 hz1 hz2
  have hF := Fill.new (enc := encM) (k := 1) (n := xs.length) w cs 23 hsz
  have HI := Lib.hid (fun (k : Nat) (h : k < xs.length) => Nat.le_trans (sumS_mem (List.getElem_mem h)) hs)
  clear hsz
  go_enter Try.func11, Try.ntmps11
  go_wp2_with fail
  go_loopw [4] (fun i wr => ∃ (k : Nat) (ms : List SlM), k ≤ xs.length ∧ i = .int .i64 k ∧ ms.length = k ∧ Fill encM 1 w.heap.size xs.length ms wr ∧ (∀ (j : Nat) (m : SlM) (p : List Int), ms[j]? = some m → xs[j]? = some p → m.n = p.length ∧ m.n ≤ m.c ∧ Own encI 1 (w.heap.size + 1) wr.heap.size wr m.A p) ∧ Below w.heap.size w wr) (fun i _ => xs.length - (intOf i).toNat)
  case atStart => exact ⟨0, [], Nat.zero_le _, rfl, rfl, hF, by simp, by go_grown⟩
  case round =>
    obtain ⟨k, ms, hk, rfl, hml, hf, hrel, hb⟩ := hrel
    clear hF hmk
    have HR := Lib.hid hrel
    clear hrel
    by_cases hlt : k < xs.length
    · obtain ⟨b, off, Ai, ci, rfl, hbs, d0, hci, hri⟩ := (hr.below hb).at_ hlt
      have hil := HI.out k hlt
      go_wp2_with fail
      refine (toIntS_c xs[k] _ _ _ (hri.more hb.size) hil).mono ?_
      rintro e w1 ⟨A', rfl, hb1, o1⟩
      have hf1 := hf.below hb1
      have hfr := hf1.free
      have hlw := hf.lt
      obtain ⟨v0, e0⟩ := hf1.there (k * 1) (by omega)
      have hst := (hf1.set_ (o := k * 1) (by rw [hml]; exact Nat.le_refl _) (fun x _ => rfl) (.slice A' xs[k].length xs[k].length)).snoc (x := ⟨A', xs[k].length, xs[k].length⟩) (fun j v hv => by
        match j, hv with
        | 0, hv => simp [encM] at hv; subst hv; rw [hml]; exact World.cell?_setCell_same _ _ _ e0)
      have hbl := hb.trans (hb1.mono hb.size)
      rw [Nat.mul_one] at e0 hst
      have HRN := Lib.hid (show ∀ (j : Nat) (m : SlM) (p : List Int), (ms ++ [(⟨A', xs[k].length, xs[k].length⟩ : SlM)])[j]? = some m → xs[j]? = some p → m.n = p.length ∧ m.n ≤ m.c ∧ Own encI 1 (w.heap.size + 1) (w1.setCell ⟨w.heap.size, k, none⟩ (.slice A' xs[k].length xs[k].length)).heap.size (w1.setCell ⟨w.heap.size, k, none⟩ (.slice A' xs[k].length xs[k].length)) m.A p from fun j m p hm hp => by
        have hfs := (Fr.refl w.heap.size (w.heap.size + 1) w1).setCell (p := ⟨w.heap.size, k, none⟩) (Nat.le_refl _) (Nat.lt_succ_self _) (.slice A' xs[k].length xs[k].length)
        by_cases hj : j < ms.length
        · rw [List.getElem?_append_left hj] at hm
          obtain ⟨g1, g2, g3⟩ := HR.out j m p hm hp
          exact ⟨g1, g2, ((g3.go hb1).fr hfs (.inr (Nat.le_refl _))).wide (Nat.le_refl _) (Nat.le_trans hb1.size hfs.size) (Nat.le_refl _)⟩
        · rw [List.getElem?_append_right (by omega)] at hm
          have hj0 : j - ms.length = 0 := by
            have := (List.getElem?_eq_some_iff.1 hm).1
            simp at this; omega
          rw [hj0] at hm
          simp at hm
          subst hm
          have hjk : j = k := by omega
          subst hjk
          rw [List.getElem?_eq_getElem hlt] at hp
          injection hp with hp
          subst hp
          exact ⟨rfl, Nat.le_refl _, (o1.fr hfs (.inr hlw)).wide hlw hfs.size (Nat.le_refl _)⟩)
      go_wp2_with fail
      go_roundw
      case rel => exact ⟨k + 1, ms ++ [(⟨A', xs[k].length, xs[k].length⟩ : SlM)], by omega, by go_num, by simp; omega, hst, HRN.out, hbl.setCell (Nat.le_refl _) _⟩
      case measure => simp [intOf]; omega
    · have hke : k = xs.length := by omega
      subst hke
      go_wp2_with fail
      go_returns
      exact ⟨_, rfl, hb, ms, by omega, (hf.own (Nat.le_refl _) hf.lt (Nat.le_refl _)).rd, fun i m p hm hp => by
        obtain ⟨g1, g2, g3⟩ := HR.out i m p hm hp
        exact ⟨g1, g2, g3.rd⟩⟩
theorem szIntS_c (n : Nat) (A : Option Addr) (c : Nat) (l : Int) (w : World) (hm : n ≤ 9223372036854775807) (h0 : 0 ≤ l) (h1 : l ≤ 1048576) :
    Calls Try.prog 25 #[.slice A n c, .int .i64 l] w fun e w' => ∃ r : Int, e = .returned (.int .i64 r) ∧ w = w' ∧ ((l < n ∧ r = -1) ∨ (0 ≤ r ∧ r = l - n)) := by
  by_cases h : l < n
  · go_enter Try.func25, Try.ntmps25
    go_wp2
    go_ret
    exact ⟨_, rfl, rfl, .inl ⟨h, rfl⟩⟩
  · go_enter Try.func25, Try.ntmps25
    go_wp2
    go_ret
    exact ⟨_, rfl, rfl, .inr ⟨by omega, rfl⟩⟩
set_option maxHeartbeats 1000000 in
theorem szIntSS_c (xs : List (List Int)) (A : Option Addr) (c : Nat) (l : Int) (w : World) (hr : RdSS w.heap.size w A xs) (hm : xs.length ≤ 9223372036854775807) (hw : ∀ x ∈ xs, x.length ≤ 9223372036854775807 ∧ ∀ z ∈ x, Fits z) (h0 : 0 ≤ l) (h1 : l ≤ 1048576) :
    Calls Try.prog 7 #[.slice A xs.length c, .int .i64 l] w fun e w' => ∃ r : Int, e = .returned (.int .i64 r) ∧ Below w.heap.size w w' ∧ (r = -1 ∨ (0 ≤ r ∧ r ≤ 1048576 ∧ xs.length ≤ 1048576 ∧ sumS xs ≤ 1048576)) := by
  have HW := Lib.hid hw
  clear hw
  by_cases h : l < xs.length
  · go_enter Try.func7, Try.ntmps7
    go_wp2_with fail
    go_returns
    exact ⟨_, rfl, Below.refl _ _, .inl rfl⟩
  · go_enter Try.func7, Try.ntmps7
    go_wp2_with fail
    go_loopw [1, 5] (fun u i wr => ∃ (k : Nat) (r : Int), k ≤ xs.length ∧ i = .int .i64 k ∧ u = .int .i64 r ∧ 0 ≤ r ∧ r + sumS (xs.take k) ≤ 1048576 ∧ Below w.heap.size w wr) (fun _ i _ => xs.length - (intOf i).toNat)
    case atStart => exact ⟨0, _, Nat.zero_le _, rfl, rfl, by omega, by simp [sumS]; omega, Below.refl _ _⟩
    case round =>
      obtain ⟨k, r, hk, rfl, rfl, hr0, hr1, hb⟩ := hrel
      have hr2 : r ≤ 1048576 := by omega
      have H1 := Lib.hid hr1
      clear hr1
      by_cases hlt : k < xs.length
      · obtain ⟨b, off, Ai, ci, rfl, hbs, d0, hci, hri⟩ := (hr.below hb).at_ hlt
        have hx := HW.out _ (List.getElem_mem hlt)
        go_wp2_with fail
        refine (szIntS_c xs[k].length _ _ _ _ hx.1 hr0 hr2).mono ?_
        rintro e w1 ⟨r1, rfl, rfl, hq⟩
        rcases hq with ⟨h2, rfl⟩ | ⟨g0, g1⟩
        · go_wp2_with fail
          go_returns
          exact ⟨_, rfl, hb, .inl rfl⟩
        · have g3 : ¬ r1 < 0 := by omega
          have G1 := Lib.hid g1
          clear g1
          go_wp2_with fail
          go_roundw
          case rel => exact ⟨k + 1, r1, by omega, by go_num, rfl, g0, by rw [sumS_take_succ hlt]; have := H1.out; have := G1.out; omega, hb⟩
          case measure => simp [intOf]; omega
      · have hke : xs.length ≤ k := by omega
        go_wp2_with fail
        go_returns
        exact ⟨_, rfl, hb, .inr ⟨hr0, hr2, by omega, by have := H1.out; rw [List.take_of_length_le hke] at this; omega⟩⟩
set_option maxRecDepth 100000 in
set_option maxHeartbeats 1000000 in
theorem eqIntSS_c (xs : List (List Int)) (A A' : Option Addr) (c c' : Nat) (w : World) (hr : RdSS w.heap.size w A xs) (hr' : RdSS w.heap.size w A' xs) (hn : xs.length ≤ 2097152) (hs : sumS xs ≤ 2097152) :
    Calls Try.prog 15 #[.slice A xs.length c, .slice A' xs.length c'] w (Ret (.bool true) w) := by
  have HI := Lib.hid (fun (k : Nat) (h : k < xs.length) => Nat.le_trans (sumS_mem (List.getElem_mem h)) hs)
  go_enter Try.func15, Try.ntmps15
  go_wp2_with fail
  go_loopw [5] (fun i wr => ∃ k : Nat, k ≤ xs.length ∧ i = .int .i64 k ∧ Below w.heap.size w wr) (fun i _ => xs.length - (intOf i).toNat)
  case atStart => exact ⟨0, Nat.zero_le _, rfl, Below.refl _ _⟩
  case round =>
    obtain ⟨k, hk, rfl, hb⟩ := hrel
    by_cases hlt : k < xs.length
    · obtain ⟨b, off, Ai, ci, rfl, hbs, d0, hci, hri⟩ := (hr.below hb).at_ hlt
      obtain ⟨b', off', Ai', ci', rfl, hbs', g0, hci', hri'⟩ := (hr'.below hb).at_ hlt
      have hil := HI.out k hlt
      go_wp2_with fail
      go_still_tail 8, (by kernel_rfl)
      change wpList _ _ _ _ _ wr.drew
      go_wp2_with fail
      refine (eqIntS_c xs[k] _ _ _ _ _ ((hri.more hb.size).go (Below.refl _ _).drew) ((hri'.more hb.size).go (Below.refl _ _).drew) hil).mono ?_
      rintro e w1 ⟨rfl, hb1⟩
      have hbl := hb.drew.trans (hb1.mono hb.drew.size)
      go_wp2_with fail
      go_roundw
      case rel => exact ⟨k + 1, by omega, by go_num, hbl⟩
      case measure => simp [intOf]; omega
    · go_wp2_with fail
      go_returns
      exact ⟨rfl, hb⟩
end Go.Proofs.Ytnedkgiahkjnnaa
