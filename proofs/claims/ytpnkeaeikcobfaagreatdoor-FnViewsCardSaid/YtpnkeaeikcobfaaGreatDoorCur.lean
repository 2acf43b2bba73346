/- The reader of choices: what its memory holds, and contracts of next, pick, one, of, among: each gives some choice within its bounds and turns only the reader's own block. -/
import Derived.Test.YtpnkeaeikcobfaaGreatDoorScal
import Derived.Test.YtpnkeaeikcobfaaGreatDoorOver
import Derived.IntWalk
import Derived.Laws.BitsLemmas
namespace Go.Proofs.YtpnkeaeikcobfaaGreatDoor
set_option linter.unusedVariables false
set_option linter.unusedSimpArgs false
open Go.RowKit
attribute [local irreducible] wpQuiet
/-- A byte in a cell. -/
def encY (n : Int) : List Value := [.int .u8 n]
def ByteI (n : Int) : Prop := 0 ≤ n ∧ n ≤ 255
/-- Block g holds a reader that has read at most m bytes. -/
def Cur (g m : Nat) (w : World) : Prop :=
  g < w.heap.size ∧ ∃ (A : Option Addr) (bs : List Int) (c : Nat) (p : Nat) (s : Int), w.cell? ⟨g, 0, none⟩ = some (.slice A bs.length c) ∧ w.cell? ⟨g, 1, none⟩ = some (.int .i64 p) ∧ w.cell? ⟨g, 2, none⟩ = some (.int .u64 s) ∧
    p ≤ m ∧ bs.length ≤ 65536 ∧ bs.length ≤ c ∧ (∀ b ∈ bs, ByteI b) ∧ Rd encY 1 g w A bs ∧ 0 ≤ s ∧ s ≤ 18446744073709551615 ∧ ∀ o, w.frozen? ⟨g, o, none⟩ = false
section
variable {g m m' : Nat} {w w' : World}
theorem Cur.more (h : Cur g m w) (hm : m ≤ m') : Cur g m' w := by
  obtain ⟨h0, A, bs, c, p, s, h1, h2, h3, h4, h5⟩ := h
  exact ⟨h0, A, bs, c, p, s, h1, h2, h3, by omega, h5⟩
theorem Cur.keep (h : Cur g m w) (hs : w.heap.size ≤ w'.heap.size) (hk : ∀ b, b ≤ g → w'.heap[b]? = w.heap[b]?) : Cur g m w' := by
  obtain ⟨h0, A, bs, c, p, s, h1, h2, h3, h4, h5, h6, h7, h8, h9, h10, h11⟩ := h
  have kc : ∀ b o, b ≤ g → w'.cell? ⟨b, o, none⟩ = w.cell? ⟨b, o, none⟩ := fun b o h => World.cell?_of_block (w := w) (a := ⟨b, o, none⟩) (hk b h)
  exact ⟨by omega, A, bs, c, p, s, (kc _ _ (Nat.le_refl _)).trans h1, (kc _ _ (Nat.le_refl _)).trans h2, (kc _ _ (Nat.le_refl _)).trans h3, h4, h5, h6, h7, h8.keep fun b o hb => kc b o (by omega), h9, h10,
    fun o => (World.frozen?_of_block (w := w) (a := ⟨g, o, none⟩) (hk g (Nat.le_refl _))).trans (h11 o)⟩
theorem Cur.below (h : Cur g m w) (hb : Below w.heap.size w w') : Cur g m w' := h.keep hb.size fun b hb' => hb.block b (by have := h.1; omega)
/-- The two cells that a step writes. -/
theorem cur_step {p : Nat} {q : Int} {s t : Int} {A : Option Addr} {bs : List Int} {c : Nat} (h0 : g < w.heap.size) (h1 : w.cell? ⟨g, 0, none⟩ = some (.slice A bs.length c)) (h2 : w.cell? ⟨g, 1, none⟩ = some (.int .i64 p)) (h3 : w.cell? ⟨g, 2, none⟩ = some (.int .u64 s))
    (h5 : bs.length ≤ 65536) (h6 : bs.length ≤ c) (h7 : ∀ b ∈ bs, ByteI b) (h8 : Rd encY 1 g w A bs) (h11 : ∀ o, w.frozen? ⟨g, o, none⟩ = false) (hq0 : 0 ≤ q) (hq : q ≤ m) (ht0 : 0 ≤ t) (ht1 : t ≤ 18446744073709551615) :
    Cur g m ((w.setCell ⟨g, 1, none⟩ (.int .i64 q)).setCell ⟨g, 2, none⟩ (.int .u64 t)) := by
  obtain ⟨q, rfl⟩ := Int.eq_ofNat_of_zero_le hq0
  refine ⟨by simpa [World.setCell] using h0, A, bs, c, q, t, ?_, ?_, ?_, (by omega), h5, h6, h7, ?_, ht0, ht1, fun o => by rw [World.frozen?_setCell, World.frozen?_setCell]; exact h11 o⟩
  · rw [World.cell?_setCell_other _ _ _ _ (by simp), World.cell?_setCell_other _ _ _ _ (by simp)]; exact h1
  · rw [World.cell?_setCell_other _ _ _ _ (by simp)]; exact World.cell?_setCell_same _ _ _ h2
  · exact World.cell?_setCell_same _ _ _ ((World.cell?_setCell_other _ _ _ _ (by simp)).trans h3)
  · refine h8.keep fun b o hb => ?_
    rw [World.cell?_setCell_other _ _ _ _ (fun e => by injection e; omega), World.cell?_setCell_other _ _ _ _ (fun e => by injection e; omega)]
end
theorem fr_drewN {lo hi : Nat} {a w : World} (h : Fr lo hi a w) (n : Nat) : Fr lo hi a (w.drewN n) := ⟨h.os, h.tape, h.output, h.size, h.block⟩
theorem cur_drewN {g m : Nat} {w : World} (h : Cur g m w) (n : Nat) : Cur g m (w.drewN n) := h
theorem wrap64_rng (x : Int) : 0 ≤ IntKind.u64.wrap x ∧ IntKind.u64.wrap x ≤ 18446744073709551615 := by
  have e : IntKind.u64.wrap x = x % 18446744073709551616 := by unfold IntKind.wrap; simp [IntKind.signed, IntKind.bits]
  rw [e]; omega
theorem u63 (n : Int) (h0 : 0 ≤ n) (h1 : n < 2 ^ 63) : IntKind.u64.wrap n = n := by rw [IntKind.wrap_u64]; omega
theorem fr_two (w : World) (g : Nat) (q t : Value) (n n2 : Nat) : Fr g (g + 1) w ((((w.drewN n).setCell ⟨g, 1, none⟩ q).setCell ⟨g, 2, none⟩ t).drewN n2) :=
  fr_drewN (((fr_drewN (Fr.refl g (g + 1) w) n).setCell (p := ⟨g, 1, none⟩) (Nat.le_refl _) (Nat.lt_succ_self _) q).setCell (p := ⟨g, 2, none⟩) (Nat.le_refl _) (Nat.lt_succ_self _) t) n2
theorem byte_rng (x : Int) (h0 : 0 ≤ x) (h1 : x ≤ 18446744073709551615) : ByteI (wrap64 (bits BinOp.and IntKind.u64 (x / 1099511627776) 255)) := by
  have h := bits_mask .u64 63 (by decide) u63 8 (by decide) (x / 1099511627776) (by omega) (by omega)
  have e : ((2 : Int) ^ 8 - 1) = 255 := by decide
  have e2 : ((2 : Int) ^ 8) = 256 := by decide
  rw [e, e2] at h
  rw [h]
  have hm : x / 1099511627776 % 256 < 256 := Int.emod_lt_of_pos _ (by decide)
  have hm0 : 0 ≤ x / 1099511627776 % 256 := Int.emod_nonneg _ (by decide)
  rw [Go.IntWalk.wrap64_in _ (by omega)]
  exact ⟨hm0, by omega⟩
set_option maxRecDepth 100000 in
set_option maxHeartbeats 1600000 in
theorem next_c (g m : Nat) (w : World) (h : Cur g m w) (hm : m ≤ 1099511627776) :
    Calls Tryz.prog 68 #[.pointer (some ⟨g, 0, none⟩)] w fun e w' => ∃ r : Int, e = .returned (.int .i64 r) ∧ ByteI r ∧ Fr g (g + 1) w w' ∧ Cur g (m + 1) w' := by
  obtain ⟨h0, A, bs, c, p, s, h1, h2, h3, h4, h5, h6, h7, h8, h9, h10, h11⟩ := h
  have hov := over_cell w
  have hc0 : (0 : Int) ≤ (p : Int) := by omega
  by_cases hp : p < bs.length
  · obtain ⟨b, off, rfl, hbs, hcell⟩ := h8.at_ hp
    have hc1 : w.cell? ⟨b, off + p, none⟩ = some (.int .u8 bs[p]) := by simpa using hcell 0 _ rfl
    have hby := h7 bs[p] (List.getElem_mem hp)
    generalize bs[p] = y at *
    obtain ⟨hy0, hy1⟩ := hby
    have hlt : decide ((p : Int) < (bs.length : Int)) = true := by simp; omega
    have hle : decide ((p : Int) + 1 ≤ (bs.length : Int)) = true := by simp; omega
    clear hcell
    go_enter Tryz.func68, Tryz.ntmps68
    go_wp2_with fail
    go_quiet (fail)
    go_wp2_with fail
    go_quiet (fail)
    go_wp2_with fail
    go_quiet (fail)
    go_wp2_with fail
    go_returns
    exact ⟨y, rfl, ⟨hy0, hy1⟩, fr_two _ _ _ _ _ _, cur_drewN (cur_step (w := w.drewN _) h0 h1 h2 h3 h5 h6 h7 h8 h11 (by omega) (by omega) (wrap64_rng _).1 (wrap64_rng _).2) _⟩
  · have hlt : decide ((p : Int) < (bs.length : Int)) = false := by simp; omega
    have hle : decide ((p : Int) + 1 ≤ (bs.length : Int)) = false := by simp; omega
    go_enter Tryz.func68, Tryz.ntmps68
    go_wp2_with fail
    go_quiet (fail)
    go_wp2_with fail
    go_quiet (fail)
    go_wp2_with fail
    go_returns
    have hw := wrap64_rng (IntKind.u64.wrap (IntKind.u64.wrap (s * 6364136223846793005)) + 381907)
    have hb := byte_rng _ hw.1 hw.2
    refine ⟨_, rfl, hb, fr_two _ _ _ _ _ _, cur_drewN (cur_step (w := w.drewN _) h0 h1 h2 h3 h5 h6 h7 h8 h11 (by omega) (by omega) hw.1 hw.2) _⟩
set_option maxHeartbeats 800000 in
theorem pick_c (g m : Nat) (n : Int) (w : World) (h : Cur g m w) (hm : m ≤ 1099511000000) (hn : n ≤ 1099511627776) :
    Calls Tryz.prog 48 #[.pointer (some ⟨g, 0, none⟩), .int .i64 n] w fun e w' => ∃ r : Int, e = .returned (.int .i64 r) ∧ 0 ≤ r ∧ r ≤ 1099511627776 ∧ (1 < n → r < n) ∧ (n ≤ 1 → r = 0) ∧ Fr g (g + 1) w w' ∧ Cur g (m + 2) w' := by
  by_cases h1 : n ≤ 1
  · go_enter Tryz.func48, Tryz.ntmps48
    go_wp2_with fail
    go_returns
    exact ⟨0, rfl, by omega, by omega, by omega, fun _ => rfl, Fr.refl _ _ _, h.more (by omega)⟩
  · by_cases h2 : 200 < n
    · go_enter Tryz.func48, Tryz.ntmps48
      go_wp2_with fail
      refine (next_c g m _ h (by omega)).mono ?_
      rintro e w1 ⟨r, rfl, ⟨hr0, hr1⟩, hf1, hc1⟩
      go_wp2_with fail
      refine (next_c g (m + 1) _ hc1 (by omega)).mono ?_
      rintro e w2 ⟨q, rfl, ⟨hq0, hq1⟩, hf2, hc2⟩
      have hx0 : 0 ≤ r * 256 + q := by omega
      have hx1 : r * 256 + q ≤ 65535 := by omega
      have hn0 : n ≠ 0 := by omega
      have hm0 := Int.emod_nonneg (r * 256 + q) hn0
      have hm1 := Int.emod_lt_of_pos (r * 256 + q) (show 0 < n by omega)
      go_wp2_with fail
      all_goals try go_quiet (fail)
      all_goals try go_wp2_with fail
      go_returns
      exact ⟨_, rfl, hm0, by omega, fun _ => hm1, fun h => absurd h (by omega), by first | exact hf1.trans hf2 | exact fr_drewN (hf1.trans hf2) _, by first | exact hc2 | exact cur_drewN hc2 _⟩
    · go_enter Tryz.func48, Tryz.ntmps48
      go_wp2_with fail
      refine (next_c g m _ h (by omega)).mono ?_
      rintro e w1 ⟨r, rfl, ⟨hr0, hr1⟩, hf1, hc1⟩
      have hn0 : n ≠ 0 := by omega
      have hm0 := Int.emod_nonneg r hn0
      have hm1 := Int.emod_lt_of_pos r (show 0 < n by omega)
      go_wp2_with fail
      all_goals try go_quiet (fail)
      all_goals try go_wp2_with fail
      go_returns
      exact ⟨_, rfl, hm0, by omega, fun _ => hm1, fun h => absurd h (by omega), by first | exact hf1 | exact fr_drewN hf1 _, (by first | exact hc1.more (by omega) | exact cur_drewN (hc1.more (by omega)) _)⟩
theorem one_c (g m : Nat) (n : Int) (w : World) (h : Cur g m w) (hm : m ≤ 1099511000000) (hn : n ≤ 1099511627776) :
    Calls Tryz.prog 66 #[.pointer (some ⟨g, 0, none⟩), .int .i64 n] w fun e w' => ∃ b : Bool, e = .returned (.bool b) ∧ Fr g (g + 1) w w' ∧ Cur g (m + 2) w' := by
  go_enter Tryz.func66, Tryz.ntmps66
  go_wp2_with fail
  refine (pick_c g m n _ h hm hn).mono ?_
  rintro e w1 ⟨r, rfl, _, _, _, _, hf1, hc1⟩
  go_wp2_with fail
  go_returns
  exact ⟨_, rfl, hf1, hc1⟩
theorem of_c (g m : Nat) (xs : List ByteArray) (A : Option Addr) (c : Nat) (w : World) (h : Cur g m w) (hm : m ≤ 1099511000000) (hr : Rd encS 1 w.heap.size w A xs) (hg : ∀ b off, A = some ⟨b, off, none⟩ → b ≠ g) (h0 : 0 < xs.length) (hn : xs.length ≤ 1048576) :
    Calls Tryz.prog 67 #[.pointer (some ⟨g, 0, none⟩), .slice A xs.length c] w fun e w' => ∃ x : ByteArray, e = .returned (.string x) ∧ x ∈ xs ∧ Fr g (g + 1) w w' ∧ Cur g (m + 2) w' := by
  go_enter Tryz.func67, Tryz.ntmps67
  go_wp2_with fail
  refine (pick_c g m _ _ h hm (by omega)).mono ?_
  rintro e w1 ⟨r, rfl, hr0, _, hr1, hr2, hf1, hc1⟩
  obtain ⟨k, rfl⟩ := Int.eq_ofNat_of_zero_le hr0
  have hk : k < xs.length := by
    by_cases h1 : (1 : Int) < (xs.length : Int)
    · have := hr1 h1; omega
    · have := hr2 (by omega); omega
  obtain ⟨b, off, rfl, hbs, d0⟩ := hr.str hk
  have hne := hg b off rfl
  have d1 : w1.cell? ⟨b, off + k, none⟩ = some (.string xs[k]) := (World.cell?_of_block (w := w) (a := ⟨b, off + k, none⟩) (hf1.block b hbs (by omega))).trans d0
  have hmem := List.getElem_mem hk
  go_wp2_with fail
  go_returns
  exact ⟨_, rfl, hmem, hf1, hc1⟩
theorem among_c (g m : Nat) (xs : List Int) (A : Option Addr) (c : Nat) (w : World) (h : Cur g m w) (hm : m ≤ 1099511000000) (hr : Rd encI 1 w.heap.size w A xs) (hg : ∀ b off, A = some ⟨b, off, none⟩ → b ≠ g) (h0 : 0 < xs.length) (hn : xs.length ≤ 1048576) :
    Calls Tryz.prog 47 #[.pointer (some ⟨g, 0, none⟩), .slice A xs.length c] w fun e w' => ∃ x : Int, e = .returned (.int .i64 x) ∧ x ∈ xs ∧ Fr g (g + 1) w w' ∧ Cur g (m + 2) w' := by
  go_enter Tryz.func47, Tryz.ntmps47
  go_wp2_with fail
  refine (pick_c g m _ _ h hm (by omega)).mono ?_
  rintro e w1 ⟨r, rfl, hr0, _, hr1, hr2, hf1, hc1⟩
  obtain ⟨k, rfl⟩ := Int.eq_ofNat_of_zero_le hr0
  have hk : k < xs.length := by
    by_cases h1 : (1 : Int) < (xs.length : Int)
    · have := hr1 h1; omega
    · have := hr2 (by omega); omega
  obtain ⟨b, off, rfl, hbs, d0⟩ := hr.int hk
  have hne := hg b off rfl
  have d1 : w1.cell? ⟨b, off + k, none⟩ = some (.int .i64 xs[k]) := (World.cell?_of_block (w := w) (a := ⟨b, off + k, none⟩) (hf1.block b hbs (by omega))).trans d0
  have hmem := List.getElem_mem hk
  go_wp2_with fail
  go_returns
  exact ⟨_, rfl, hmem, hf1, hc1⟩
end Go.Proofs.YtpnkeaeikcobfaaGreatDoor
