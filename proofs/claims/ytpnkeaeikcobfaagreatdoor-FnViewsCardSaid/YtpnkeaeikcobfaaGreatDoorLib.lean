/- Small words for memory that all the other texts of this seat use: what a call that only makes memory of its own leaves; a slice that reads as a list of records. No condition of its own. -/
import Derived.WalkKit
import Derived.ProofKit
import Derived.Handy
import Derived.Below
import Derived.BigQuiet
import Derived.BigGuardPart
import Derived.Deep.QuietTactic
import Derived.Lib.Hide
import Derived.KernelRfl
import Derived.StillTailTactics
import Derived.Laws.OwnMore
import Derived.Deep.Draws
import Derived.Laws.Rows
import Derived.WalkLawsBesides
namespace Go.Proofs.YtpnkeaeikcobfaaGreatDoor
set_option linter.unusedVariables false
set_option linter.unusedSimpArgs false
open Go.RowKit

/-- The call returns v; all that was there before is as it was. -/
def Ret (v : Value) (w : World) (e : Ending) (w' : World) : Prop := e = .returned v ∧ Below w.heap.size w w'
/-- The call returns v and turns nothing at all. -/
def Pure (v : Value) (w : World) (e : Ending) (w' : World) : Prop := e = .returned v ∧ w = w'

theorem bcell {W w1 : World} (hb : Below W.heap.size W w1) :
    (∀ b o, b < W.heap.size → w1.cell? ⟨b, o, none⟩ = W.cell? ⟨b, o, none⟩) ∧ (∀ b o, b < W.heap.size → w1.frozen? ⟨b, o, none⟩ = W.frozen? ⟨b, o, none⟩) :=
  ⟨fun b o h => hb.cell (p := ⟨b, o, none⟩) h, fun b o h => hb.frozen (p := ⟨b, o, none⟩) h⟩

theorem below_drewN {B : Nat} {a w : World} (h : Below B a w) (n : Nat) : Below B a (w.drewN n) := ⟨h.os, h.tape, h.output, h.size, h.block⟩
theorem below_step {w w1 w2 : World} (h : Below w.heap.size w w1) (k : Below w1.heap.size w1 w2) : Below w.heap.size w w2 := h.trans (k.mono h.size)

theorem below_via {w W w1 : World} (h : Below w.heap.size w W) (k : Below W.heap.size W w1) : Below w.heap.size w w1 := h.trans (k.mono h.size)

theorem ret_int {k : IntKind} {a b : Int} (h : a = b) : Ending.returned (.int k a) = .returned (.int k b) := by rw [h]
theorem ret_bool {a b : Bool} (h : a = b) : Ending.returned (.bool a) = .returned (.bool b) := by rw [h]

theorem vi {k : IntKind} {a b : Int} (h : a = b) : Value.int k a = Value.int k b := by rw [h]
theorem vb {a b : Bool} (h : a = b) : Value.bool a = Value.bool b := by rw [h]
theorem ret1 {v1 w1 : Value} (h1 : v1 = w1) : Ending.returned v1 = .returned w1 := by rw [h1]
theorem ret2 {v1 v2 w1 w2 : Value} (h1 : v1 = w1) (h2 : v2 = w2) : Ending.returned (.tuple #[v1, v2]) = .returned (.tuple #[w1, w2]) := by rw [h1, h2]
theorem ret3 {v1 v2 v3 w1 w2 w3 : Value} (h1 : v1 = w1) (h2 : v2 = w2) (h3 : v3 = w3) : Ending.returned (.tuple #[v1, v2, v3]) = .returned (.tuple #[w1, w2, w3]) := by rw [h1, h2, h3]

/-- The slice with address A reads as the records xs, k cells each, and lies below block B. -/
def Rd {α : Type} (enc : α → List Value) (k B : Nat) (w : World) (A : Option Addr) (xs : List α) : Prop :=
  0 < xs.length → ∃ b off, A = some ⟨b, off, none⟩ ∧ b < B ∧
    ∀ (i : Nat) (x : α), xs[i]? = some x → ∀ (j : Nat) (v : Value), (enc x)[j]? = some v → w.cell? ⟨b, off + i * k + j, none⟩ = some v

section
variable {α : Type} {enc : α → List Value} {k B B' : Nat} {w w' : World} {A : Option Addr} {xs : List α}
theorem Rd.nil : Rd enc k B w A [] := fun h => absurd h (by simp)
theorem Rd.keep (h : Rd enc k B w A xs) (hk : ∀ b o, b < B → w'.cell? ⟨b, o, none⟩ = w.cell? ⟨b, o, none⟩) : Rd enc k B w' A xs := fun hn => by
  obtain ⟨b, off, hA, hb, hc⟩ := h hn
  exact ⟨b, off, hA, hb, fun i x hx j v hv => (hk _ _ hb).trans (hc i x hx j v hv)⟩
theorem Rd.more (h : Rd enc k B w A xs) (hB : B ≤ B') : Rd enc k B' w A xs := fun hn => by
  obtain ⟨b, off, hA, hb, hc⟩ := h hn
  exact ⟨b, off, hA, by omega, hc⟩
theorem Rd.below (h : Rd enc k B w A xs) (hb : Below B w w') : Rd enc k B w' A xs := h.keep fun b o hp => hb.cell (p := ⟨b, o, none⟩) hp
theorem Rd.go (h : Rd enc k w.heap.size w A xs) (hb : Below w.heap.size w w') : Rd enc k w'.heap.size w' A xs := (h.below hb).more hb.size
theorem Rd.at_ (h : Rd enc k B w A xs) {i : Nat} (hi : i < xs.length) : ∃ b off, A = some ⟨b, off, none⟩ ∧ b < B ∧
    ∀ (j : Nat) (v : Value), (enc xs[i])[j]? = some v → w.cell? ⟨b, off + i * k + j, none⟩ = some v := by
  obtain ⟨b, off, hA, hb, hc⟩ := h (by omega)
  exact ⟨b, off, hA, hb, fun j v hv => hc i _ (List.getElem?_eq_getElem hi) j v hv⟩
end

/-- The slice with address A, made by the call itself, reads as xs; its block is one of the numbers from lo on and below hi; its cells may be written. -/
def Own {α : Type} (enc : α → List Value) (k lo hi : Nat) (w : World) (A : Option Addr) (xs : List α) : Prop :=
  hi ≤ w.heap.size ∧ (0 < xs.length → ∃ b off, A = some ⟨b, off, none⟩ ∧ lo ≤ b ∧ b < hi ∧
    (∀ (i : Nat) (x : α), xs[i]? = some x → ∀ (j : Nat) (v : Value), (enc x)[j]? = some v → w.cell? ⟨b, off + i * k + j, none⟩ = some v) ∧
    ∀ o, w.frozen? ⟨b, o, none⟩ = false)

section
variable {α : Type} {enc : α → List Value} {k lo hi lo' hi' : Nat} {w w' : World} {A : Option Addr} {xs : List α}
theorem Own.rd (h : Own enc k lo hi w A xs) : Rd enc k w.heap.size w A xs := fun hn => by
  obtain ⟨b, off, hA, _, hb, hc, _⟩ := h.2 hn
  exact ⟨b, off, hA, Nat.lt_of_lt_of_le hb h.1, hc⟩
theorem Own.rdhi (h : Own enc k lo hi w A xs) : Rd enc k hi w A xs := fun hn => by
  obtain ⟨b, off, hA, _, hb, hc, _⟩ := h.2 hn
  exact ⟨b, off, hA, hb, hc⟩
theorem Own.keep (h : Own enc k lo hi w A xs) (hs : w.heap.size ≤ w'.heap.size) (hk : ∀ b, lo ≤ b → b < hi → w'.heap[b]? = w.heap[b]?) : Own enc k lo hi w' A xs :=
  ⟨Nat.le_trans h.1 hs, fun hn => by
    obtain ⟨b, off, hA, hl, hb, hc, hf⟩ := h.2 hn
    exact ⟨b, off, hA, hl, hb, fun i x hx j v hv => (World.cell?_of_block (w := w) (hk b hl hb)).trans (hc i x hx j v hv), fun o => (World.frozen?_of_block (w := w) (a := ⟨b, o, none⟩) (hk b hl hb)).trans (hf o)⟩⟩
theorem Own.below (h : Own enc k lo hi w A xs) (hb : Below hi w w') : Own enc k lo hi w' A xs := h.keep hb.size fun b _ h => hb.block b h
theorem Own.go (h : Own enc k lo hi w A xs) (hb : Below w.heap.size w w') : Own enc k lo hi w' A xs := h.below (hb.mono h.1)
theorem Own.wide (h : Own enc k lo hi w A xs) (hl : lo' ≤ lo) (hh : hi ≤ hi') (hs : hi' ≤ w.heap.size) : Own enc k lo' hi' w A xs :=
  ⟨hs, fun hn => by
    obtain ⟨b, off, hA, hl, hb, hc⟩ := h.2 hn
    exact ⟨b, off, hA, by omega, by omega, hc⟩⟩
theorem Own.nil (h : hi ≤ w.heap.size) : Own enc k lo hi w A [] := ⟨h, fun h => absurd h (by simp)⟩
end

/-- A call of a function value is a call of its function. -/
theorem enters {P : Program} {f : FuncId} {fn : Func} {c : Code} (hf : P.funcs[f]? = some fn) (hname : (fn.name == "runtime.NumGoroutine") = false) (hb : fn.body = some c) (args : Array Value) (w : World) : (callFunc f args).run P w = .ok (.enter f args) w := by
  have h1 : fn.name ≠ "runtime.NumGoroutine" := by simpa using hname
  simp [callFunc, hf, h1, hb, mark]

theorem cell_lt {w : World} {a : Addr} {v : Value} (h : w.cell? a = some v) : a.block < w.heap.size := by
  rcases Nat.lt_or_ge a.block w.heap.size with h1 | h1
  · exact h1
  · unfold World.cell? at h
    rw [Array.getElem?_eq_none h1] at h
    simp at h

/-- Two cells behind one another, written. -/
theorem set2_cells {w : World} {g : Nat} {a b u v : Value} (h0 : w.cell? ⟨g, 0, none⟩ = some u) (h1 : w.cell? ⟨g, 1, none⟩ = some v) :
    ((w.setCell ⟨g, 0, none⟩ a).setCell ⟨g, 1, none⟩ b).cell? ⟨g, 0, none⟩ = some a ∧ ((w.setCell ⟨g, 0, none⟩ a).setCell ⟨g, 1, none⟩ b).cell? ⟨g, 1, none⟩ = some b := by
  have k1 : (w.setCell ⟨g, 0, none⟩ a).cell? ⟨g, 1, none⟩ = some v := by rw [World.cell?_setCell_other _ _ _ _ (by simp)]; exact h1
  exact ⟨by rw [World.cell?_setCell_other _ _ _ _ (by simp)]; exact World.cell?_setCell_same _ _ _ h0, World.cell?_setCell_same _ _ _ k1⟩

/-- The first place at which p holds, or -1. -/
def idxI {α : Type} (p : α → Bool) (xs : List α) : Int := match xs.findIdx? p with | some i => (i : Int) | none => -1
theorem idxI_hit {α : Type} (p : α → Bool) (xs : List α) (k : Nat) (hk : k < xs.length) (h0 : ∀ x ∈ xs.take k, p x = false) (h1 : p xs[k] = true) : idxI p xs = k := by
  have : xs.findIdx? p = some k := by
    rw [List.findIdx?_eq_some_iff_getElem]
    refine ⟨hk, h1, fun j hj => ?_⟩
    have := h0 xs[j] (List.mem_take_iff_getElem.2 ⟨j, by omega, rfl⟩)
    simp [this]
  simp [idxI, this]
theorem idxI_miss {α : Type} (p : α → Bool) (xs : List α) (h0 : ∀ x ∈ xs, p x = false) : idxI p xs = -1 := by
  have : xs.findIdx? p = none := by simpa using h0
  simp [idxI, this]
theorem idxI_any {α : Type} (p : α → Bool) (xs : List α) : decide (0 ≤ idxI p xs) = xs.any p := by
  unfold idxI
  cases h : xs.findIdx? p with
  | none =>
    have : ∀ x ∈ xs, p x = false := by simpa using h
    have h2 : xs.any p = false := List.any_eq_false.2 fun x hx => by simp [this x hx]
    simp [h2]
  | some i =>
    have h2 : xs.any p = true := by
      rw [List.findIdx?_eq_some_iff_getElem] at h
      obtain ⟨hi, hp, _⟩ := h
      exact List.any_eq_true.2 ⟨_, List.getElem_mem hi, hp⟩
    simp [h2]

/-- Only blocks from lo on and below hi have turned, of those that were there. -/
structure Fr (lo hi : Nat) (w w' : World) : Prop where
  os : w'.os = w.os
  tape : w'.tape = w.tape
  output : w'.output = w.output
  size : w.heap.size ≤ w'.heap.size
  block : ∀ k, k < w.heap.size → (k < lo ∨ hi ≤ k) → w'.heap[k]? = w.heap[k]?

theorem Fr.refl (lo hi : Nat) (w : World) : Fr lo hi w w := ⟨rfl, rfl, rfl, Nat.le_refl _, fun _ _ _ => rfl⟩
theorem Fr.trans {lo hi : Nat} {a b c : World} (h : Fr lo hi a b) (k : Fr lo hi b c) : Fr lo hi a c :=
  ⟨k.os.trans h.os, k.tape.trans h.tape, k.output.trans h.output, Nat.le_trans h.size k.size, fun i hi hn => (k.block i (Nat.lt_of_lt_of_le hi h.size) hn).trans (h.block i hi hn)⟩
theorem Fr.of_below {lo hi : Nat} {w w' : World} (h : Below w.heap.size w w') : Fr lo hi w w' := ⟨h.os, h.tape, h.output, h.size, fun i hi _ => h.block i hi⟩
theorem Fr.below {lo hi B : Nat} {w w' : World} (h : Fr lo hi w w') (hB : B ≤ lo) (hs : B ≤ w.heap.size) : Below B w w' := ⟨h.os, h.tape, h.output, h.size, fun i hi => h.block i (by omega) (.inl (by omega))⟩
theorem Fr.setCell {lo hi : Nat} {a w : World} (h : Fr lo hi a w) {p : Addr} (h1 : lo ≤ p.block) (h2 : p.block < hi) (u : Value) : Fr lo hi a (w.setCell p u) :=
  h.trans ⟨rfl, rfl, rfl, by simp [World.setCell], fun k _ hk => Below.heap_setCell _ _ _ _ (by omega)⟩
theorem Own.fr {α : Type} {enc : α → List Value} {k lo hi l h2 : Nat} {w w' : World} {A : Option Addr} {xs : List α} (h : Own enc k lo hi w A xs) (hf : Fr l h2 w w') (hd : hi ≤ l ∨ h2 ≤ lo) : Own enc k lo hi w' A xs :=
  h.keep hf.size fun b h1 hb => hf.block b (Nat.lt_of_lt_of_le hb h.1) (by omega)
end Go.Proofs.YtpnkeaeikcobfaaGreatDoor
