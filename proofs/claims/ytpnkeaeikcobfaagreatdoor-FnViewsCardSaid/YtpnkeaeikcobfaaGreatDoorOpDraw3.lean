/- Contracts of the draws of arguments for the laws on opinions. No condition but that the code is one that can be. -/
import Derived.Test.YtpnkeaeikcobfaaGreatDoorOpDraw2
import Derived.Deep.DeepCutAuto
import Derived.Deep.RegionHeld3
namespace Go.Proofs.YtpnkeaeikcobfaaGreatDoor
set_option linter.unusedVariables false
set_option linter.unusedSimpArgs false
open Go.RowKit
attribute [local irreducible] wpQuiet
/-- A reader that the call has just made. -/
theorem cur_new (w : World) (bs : List Int) (A : Option Addr) (c : Nat) (E : TypeId) (hr : Rd encY 1 w.heap.size w A bs) (hn : bs.length ≤ 65536) (hc : bs.length ≤ c) (hb : ∀ b ∈ bs, ByteI b) : Cur w.heap.size 0 (w.alloc (.cells #[.slice A bs.length c, .int .i64 0, .int .u64 0] E)) :=
  ⟨by simp, A, bs, c, 0, 0, by simp, by simp, by simp, Nat.le_refl _, hn, hc, hb, hr.keep fun b o h => ((Below.refl _ _).alloc (Nat.le_refl _) _).cell (p := ⟨b, o, none⟩) h, by decide, by decide, fun o => World.frozen?_alloc_new w _ E o⟩
theorem below_new {w w' : World} {o : Obj} (h : Fr w.heap.size (w.heap.size + 1) (w.alloc o) w') : Below w.heap.size w w' :=
  ((Below.refl _ _).alloc (Nat.le_refl _) _).trans (h.below (Nat.le_refl _) (by simp))
theorem Own.toNe {α : Type} {enc : α → List Value} {k lo hi g : Nat} {w : World} {A : Option Addr} {xs : List α} (h : Own enc k lo hi w A xs) (hg : g < lo) : 0 < xs.length → ∀ b off, A = some ⟨b, off, none⟩ → b ≠ g := fun hn b off e => by
  obtain ⟨b', off', hA, h1, _⟩ := h.2 hn
  rw [hA] at e
  obtain ⟨rfl, rfl⟩ := addr_eq e
  omega
set_option maxRecDepth 100000 in
set_option maxHeartbeats 1600000 in
theorem drawStanding_c (bs : List Int) (A : Option Addr) (c : Nat) (w : World) (hr : Rd encY 1 w.heap.size w A bs) (hn : bs.length ≤ 65536) (hc : bs.length ≤ c) (hb : ∀ b ∈ bs, ByteI b) :
    Calls Tryz.prog 25 #[.slice A bs.length c] w fun e w' => ∃ (B : Option Addr) (c' : Nat) (xs : List Opinion) (z d : Int), e = .returned (.tuple #[.slice B xs.length c', .int .i64 z, .int .i64 d]) ∧ xs.length ≤ 100 ∧ (∀ x ∈ xs, OkO x) ∧ (0 ≤ z ∧ z ≤ 1000) ∧ (-1 ≤ d ∧ d ≤ 4001) ∧ Own encOpinion 5 w.heap.size w'.heap.size w' B xs ∧ Below w.heap.size w w' := by
  have h0 := cur_new w bs A c 57 hr hn hc hb
  go_enter Tryz.func25, Tryz.ntmps25
  go_wp2_with fail
  refine (opinions17_c _ 0 _ h0 (by decide)).mono ?_
  rintro e w1 ⟨B, c', xs, rfl, hl, hok, ho, hf1, hc1⟩
  go_wp2_with fail
  refine (item17_c _ _ _ hc1 (by decide)).mono ?_
  rintro e w2 ⟨z, rfl, hz, hf2, hc2⟩
  have ho2 := ho.fr hf2 (.inr (by simp))
  go_wp2_with fail
  refine (opinionDay_c _ _ xs _ _ _ hc2 (by decide) ho2.rd (ho2.toNe (by simp)) (by omega) hok).mono ?_
  rintro e w3 ⟨d, rfl, hd, hf3, hc3⟩
  have ho3 := (ho2.fr hf3 (.inr (by simp))).wide (lo' := w.heap.size) (hi' := w3.heap.size) (by simp) (Nat.le_trans hf2.size hf3.size) (Nat.le_refl _)
  have hbl := below_new (hf1.trans (hf2.trans hf3))
  go_wp2_with fail
  go_returns
  exact ⟨B, c', xs, z, d, rfl, hl, hok, hz, hd, ho3, hbl⟩
end Go.Proofs.YtpnkeaeikcobfaaGreatDoor
