/- A list of lists of numbers: how it lies in memory, how one that came in is opened. No condition. -/
import Derived.Test.YtgjehnjpbekoeaaDoorProg
import Derived.Test.YtgjehnjpbekoeaaDoorOpenScal
namespace Go.Proofs.YtgjehnjpbekoeaaDoor
set_option linter.unusedVariables false
set_option linter.unusedSimpArgs false
open Go.RowKit Go.ChangeShapes Go.WideShapes Go.Deep
/-- A slice as its one cell holds it. -/
structure SlM where
  A : Option Addr
  n : Nat
  c : Nat
instance : Inhabited SlM := ⟨⟨none, 0, 0⟩⟩
def encM (m : SlM) : List Value := [.slice m.A m.n m.c]
theorem encM_len (m : SlM) : (encM m).length = 1 := rfl
def SlM.fits (w : World) (m : SlM) : Prop := ∃ zs : List Int, zs.length = m.n ∧ m.n ≤ m.c ∧ m.n ≤ maxLen ∧ (∀ z ∈ zs, Fits z) ∧ Rd encI 1 w.heap.size w m.A zs
def RelS (B : Nat) (w : World) (m : SlM) (p : List Int) : Prop := m.n = p.length ∧ m.n ≤ m.c ∧ Rd encI 1 B w m.A p
/-- The slice with address A reads as the lists ps; it and they lie below block B. -/
def RdSS (B : Nat) (w : World) (A : Option Addr) (ps : List (List Int)) : Prop :=
  ∃ ms : List SlM, ms.length = ps.length ∧ Rd encM 1 B w A ms ∧ ∀ (i : Nat) (m : SlM) (p : List Int), ms[i]? = some m → ps[i]? = some p → RelS B w m p
section
variable {B B' : Nat} {w w' : World} {A : Option Addr} {ps : List (List Int)}
theorem RelS.keep {m : SlM} {p : List Int} (h : RelS B w m p) (hk : ∀ b o, b < B → w'.cell? ⟨b, o, none⟩ = w.cell? ⟨b, o, none⟩) : RelS B w' m p := ⟨h.1, h.2.1, h.2.2.keep hk⟩
theorem RelS.more {m : SlM} {p : List Int} (h : RelS B w m p) (hB : B ≤ B') : RelS B' w m p := ⟨h.1, h.2.1, h.2.2.more hB⟩
theorem RdSS.keep (h : RdSS B w A ps) (hk : ∀ b o, b < B → w'.cell? ⟨b, o, none⟩ = w.cell? ⟨b, o, none⟩) : RdSS B w' A ps := by
  obtain ⟨ms, h1, h2, h3⟩ := h
  exact ⟨ms, h1, h2.keep hk, fun i m p hm hp => (h3 i m p hm hp).keep hk⟩
theorem RdSS.more (h : RdSS B w A ps) (hB : B ≤ B') : RdSS B' w A ps := by
  obtain ⟨ms, h1, h2, h3⟩ := h
  exact ⟨ms, h1, h2.more hB, fun i m p hm hp => (h3 i m p hm hp).more hB⟩
theorem RdSS.below (h : RdSS B w A ps) (hb : Below B w w') : RdSS B w' A ps := h.keep fun b o hp => hb.cell (p := ⟨b, o, none⟩) hp
theorem RdSS.go (h : RdSS w.heap.size w A ps) (hb : Below w.heap.size w w') : RdSS w'.heap.size w' A ps := (h.below hb).more hb.size
theorem RdSS.at_ (h : RdSS B w A ps) {i : Nat} (hi : i < ps.length) : ∃ b off Ai ci, A = some ⟨b, off, none⟩ ∧ b < B ∧ w.cell? ⟨b, off + i, none⟩ = some (.slice Ai ps[i].length ci) ∧ ps[i].length ≤ ci ∧ Rd encI 1 B w Ai ps[i] := by
  obtain ⟨ms, h1, h2, h3⟩ := h
  have hm : i < ms.length := by omega
  obtain ⟨b, off, hA, hb, hc⟩ := h2 (by omega)
  obtain ⟨k1, k2, k3⟩ := h3 i ms[i] ps[i] (List.getElem?_eq_getElem hm) (List.getElem?_eq_getElem hi)
  have hcc := hc i ms[i] (List.getElem?_eq_getElem hm) 0 _ rfl
  rw [k1] at hcc
  exact ⟨b, off, ms[i].A, ms[i].c, hA, hb, by simpa using hcc, by omega, k3⟩
theorem RdSS.none_ (h : ps = []) : RdSS B w A ps := by subst h; exact ⟨[], rfl, Rd.nil, by simp⟩
end
section
variable {H : Type} {enc : TypeId × Value → H} {w : World} {base : Nat} {spare : Nat → Bool} {held : Bool}
theorem elSS (cs : List Value) (n : Nat) (y : DataW H × List MemPlace) (h : DataW.trod enc Tryd.prog w base spare held n 31 cs = some y) : ∃ a : SlM, cs = encM a ∧ a.fits w := by
  have hsl : ∃ A' l' c', cs = [Value.slice A' l' c'] := by
    rcases open_slice Tryd.underlying31 h with ⟨h0, _⟩ | ⟨a, l, c, m, n, D, Pl, hcs, _⟩
    · exact ⟨_, _, _, h0⟩
    · exact ⟨_, _, _, hcs⟩
  obtain ⟨A', l', c', rfl⟩ := hsl
  obtain ⟨k1, k2, k3, zs, rfl, k4, k5⟩ := rd_open (P := Tryd.prog) 1 encI Fits (by decide) Tryd.underlying31 (by kernel_rfl) elInt h
  exact ⟨⟨A', zs.length, c'⟩, rfl, zs, rfl, k1, Nat.le_trans k1 k2, k4, k5⟩
end
theorem ss_of {w : World} : ∀ (ms : List SlM), (∀ m ∈ ms, m.fits w) → ∃ ps : List (List Int), ms.length = ps.length ∧ (∀ p ∈ ps, p.length ≤ maxLen ∧ ∀ z ∈ p, Fits z) ∧ ∀ (i : Nat) (m : SlM) (p : List Int), ms[i]? = some m → ps[i]? = some p → RelS w.heap.size w m p
  | [], _ => ⟨[], rfl, by simp, by simp⟩
  | m :: ms, h => by
    obtain ⟨ps, h1, h2, h3⟩ := ss_of ms (fun x hx => h x (List.mem_cons_of_mem _ hx))
    obtain ⟨zs, k0, k1, k2, k3, k4⟩ := h m (List.mem_cons_self ..)
    refine ⟨zs :: ps, by simp [h1], fun p hp => ?_, fun i m' p hm hp => ?_⟩
    · rcases List.mem_cons.1 hp with rfl | hp
      · exact ⟨by omega, k3⟩
      · exact h2 p hp
    · match i with
      | 0 =>
        simp at hm hp; subst hm hp
        exact ⟨k0.symm, k1, k4⟩
      | i + 1 =>
        simp at hm hp
        exact h3 i m' p hm hp
theorem rdSS_of {w : World} {A : Option Addr} {ms : List SlM} (hm : ∀ m ∈ ms, m.fits w) (h : Rd encM 1 w.heap.size w A ms) : ∃ ps : List (List Int), ps.length = ms.length ∧ (∀ p ∈ ps, p.length ≤ maxLen ∧ ∀ z ∈ p, Fits z) ∧ RdSS w.heap.size w A ps := by
  obtain ⟨ps, h1, h2, h3⟩ := ss_of ms hm
  exact ⟨ps, h1.symm, h2, ms, h1, h, h3⟩
end Go.Proofs.YtgjehnjpbekoeaaDoor
