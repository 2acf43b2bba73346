/- A list of lists of numbers that a call has made: how it lies, each list in a block of its own; the laws' marks on it. No condition but the sizes. -/
import Derived.Test.YtgjehnjpbekoeaaDoorCvSS
namespace Go.Proofs.YtgjehnjpbekoeaaDoor
set_option linter.unusedVariables false
set_option linter.unusedSimpArgs false
open Go.RowKit
/-- A list lies in cell o of block b; its numbers, if there are any, lie in a block of their own (from lo on, below hi) that belongs to list number i alone; all may be written. -/
def OIn (lo hi : Nat) (ix : Nat → Nat) (b i : Nat) (w : World) (o : Nat) (p : List Int) : Prop :=
  ∃ Ai ci, w.cell? ⟨b, o, none⟩ = some (.slice Ai p.length ci) ∧ p.length ≤ ci ∧ (0 < p.length → ∃ bi oi, Ai = some ⟨bi, oi, none⟩ ∧ lo ≤ bi ∧ bi < hi ∧ bi ≠ b ∧ ix bi = i ∧
    (∀ (j : Nat) (z : Int), p[j]? = some z → w.cell? ⟨bi, oi + j, none⟩ = some (.int .i64 z)) ∧ ∀ o, w.frozen? ⟨bi, o, none⟩ = false)
/-- The slice with address A, made by the call itself (blocks from lo on and below hi), reads as the lists ps; no two of them share memory; its cells may be written. -/
def OwnSS (lo hi : Nat) (w : World) (A : Option Addr) (ps : List (List Int)) : Prop :=
  hi ≤ w.heap.size ∧ (0 < ps.length → ∃ b off, ∃ ix : Nat → Nat, A = some ⟨b, off, none⟩ ∧ lo ≤ b ∧ b < hi ∧ (∀ o, w.frozen? ⟨b, o, none⟩ = false) ∧ ∀ (i : Nat) (p : List Int), ps[i]? = some p → OIn lo hi ix b i w (off + i) p)
theorem list_of {α : Type} {P : Nat → α → Prop} : ∀ n, (∀ i, i < n → ∃ x, P i x) → ∃ l : List α, l.length = n ∧ ∀ i x, l[i]? = some x → P i x
  | 0, _ => ⟨[], rfl, by simp⟩
  | n + 1, h => by
    obtain ⟨l, h1, h2⟩ := list_of n fun i hi => h i (by omega)
    obtain ⟨x, hx⟩ := h n (by omega)
    refine ⟨l ++ [x], by simp [h1], fun i y hy => ?_⟩
    by_cases hi : i < n
    · rw [List.getElem?_append_left (by omega)] at hy; exact h2 i y hy
    · have hl := (List.getElem?_eq_some_iff.1 hy).1
      have : i = n := by simp at hl; omega
      subst this
      rw [List.getElem?_append_right (by omega), h1, Nat.sub_self] at hy
      simp at hy; subst hy; exact hx
section
variable {lo hi lo' hi' : Nat} {ix ix' : Nat → Nat} {w w' : World} {A : Option Addr} {ps qs : List (List Int)} {b i o : Nat} {p : List Int}
theorem rdI_of {B : Nat} {Ai : Option Addr} {zs : List Int} (h : 0 < zs.length → ∃ bi oi, Ai = some ⟨bi, oi, none⟩ ∧ bi < B ∧ ∀ (j : Nat) (z : Int), zs[j]? = some z → w.cell? ⟨bi, oi + j, none⟩ = some (.int .i64 z)) : Rd encI 1 B w Ai zs := fun hn => by
  obtain ⟨bi, oi, hA, hb, hc⟩ := h hn
  refine ⟨bi, oi, hA, hb, fun i x hx j v hv => ?_⟩
  match j, hv with
  | 0, hv => simp [encI] at hv; subst hv; simpa using hc i x hx
theorem OIn.keep (h : OIn lo hi ix b i w o p) (h1 : lo ≤ b) (h2 : b < hi) (kc : ∀ b o, lo ≤ b → b < hi → w'.cell? ⟨b, o, none⟩ = w.cell? ⟨b, o, none⟩) (kf : ∀ b o, lo ≤ b → b < hi → w'.frozen? ⟨b, o, none⟩ = w.frozen? ⟨b, o, none⟩) : OIn lo hi ix b i w' o p := by
  obtain ⟨Ai, ci, c3, c4, c5⟩ := h
  refine ⟨Ai, ci, (kc _ _ h1 h2).trans c3, c4, fun hn => ?_⟩
  obtain ⟨bi, oi, c6, c7, c8, c9, c10, c11, c12⟩ := c5 hn
  exact ⟨bi, oi, c6, c7, c8, c9, c10, fun j z hz => (kc _ _ c7 c8).trans (c11 j z hz), fun o => (kf _ _ c7 c8).trans (c12 o)⟩
theorem OIn.wide (h : OIn lo hi ix b i w o p) (hl : lo' ≤ lo) (hh : hi ≤ hi') : OIn lo' hi' ix b i w o p := by
  obtain ⟨Ai, ci, c3, c4, c5⟩ := h
  refine ⟨Ai, ci, c3, c4, fun hn => ?_⟩
  obtain ⟨bi, oi, c6, c7, c8, c9, c10, c11, c12⟩ := c5 hn
  exact ⟨bi, oi, c6, by omega, by omega, c9, c10, c11, c12⟩
theorem OwnSS.rdhi (h : OwnSS lo hi w A ps) : RdSS hi w A ps := by
  rcases Nat.eq_zero_or_pos ps.length with h0 | h0
  · exact RdSS.none_ (List.eq_nil_of_length_eq_zero h0)
  obtain ⟨b, off, ix, hA, hl, hb, hf, hc⟩ := h.2 h0
  obtain ⟨ms, hm, hP⟩ := list_of (P := fun i (m : SlM) => ∃ p, ps[i]? = some p ∧ w.cell? ⟨b, off + i, none⟩ = some (.slice m.A m.n m.c) ∧ RelS hi w m p) ps.length fun i hi' => by
    obtain ⟨Ai, ci, c3, c4, c5⟩ := hc i _ (List.getElem?_eq_getElem hi')
    exact ⟨⟨Ai, ps[i].length, ci⟩, ps[i], List.getElem?_eq_getElem hi', c3, rfl, c4, rdI_of fun hn => by
      obtain ⟨bi, oi, c6, _, c8, _, _, c11, _⟩ := c5 hn
      exact ⟨bi, oi, c6, c8, c11⟩⟩
  refine ⟨ms, hm, fun _ => ⟨b, off, hA, hb, fun i m hm' j v hv => ?_⟩, fun i m p hm' hp => ?_⟩
  · obtain ⟨p, _, h2, _⟩ := hP i m hm'
    match j, hv with
    | 0, hv => simp [encM] at hv; subst hv; simpa using h2
  · obtain ⟨p', h1, _, h3⟩ := hP i m hm'
    rw [hp] at h1; injection h1 with h1; subst h1; exact h3
theorem OwnSS.rd (h : OwnSS lo hi w A ps) : RdSS w.heap.size w A ps := h.rdhi.more h.1
theorem OwnSS.keep (h : OwnSS lo hi w A ps) (hs : w.heap.size ≤ w'.heap.size) (hk : ∀ b, lo ≤ b → b < hi → w'.heap[b]? = w.heap[b]?) : OwnSS lo hi w' A ps :=
  ⟨Nat.le_trans h.1 hs, fun hn => by
    obtain ⟨b, off, ix, hA, hl, hb, hf, hc⟩ := h.2 hn
    have kc : ∀ b o, lo ≤ b → b < hi → w'.cell? ⟨b, o, none⟩ = w.cell? ⟨b, o, none⟩ := fun b o h1 h2 => World.cell?_of_block (w := w) (a := ⟨b, o, none⟩) (hk b h1 h2)
    have kf : ∀ b o, lo ≤ b → b < hi → w'.frozen? ⟨b, o, none⟩ = w.frozen? ⟨b, o, none⟩ := fun b o h1 h2 => World.frozen?_of_block (w := w) (a := ⟨b, o, none⟩) (hk b h1 h2)
    exact ⟨b, off, ix, hA, hl, hb, fun o => (kf _ _ hl hb).trans (hf o), fun i p hp => (hc i p hp).keep hl hb kc kf⟩⟩
theorem OwnSS.below (h : OwnSS lo hi w A ps) (hb : Below hi w w') : OwnSS lo hi w' A ps := h.keep hb.size fun b _ h => hb.block b h
theorem OwnSS.go (h : OwnSS lo hi w A ps) (hb : Below w.heap.size w w') : OwnSS lo hi w' A ps := h.below (hb.mono h.1)
theorem OwnSS.wide (h : OwnSS lo hi w A ps) (hl : lo' ≤ lo) (hh : hi ≤ hi') (hs : hi' ≤ w.heap.size) : OwnSS lo' hi' w A ps :=
  ⟨hs, fun hn => by
    obtain ⟨b, off, ix, hA, hl, hb, hf, hc⟩ := h.2 hn
    exact ⟨b, off, ix, hA, by omega, by omega, hf, fun i p hp => (hc i p hp).wide (by omega) hh⟩⟩
theorem OwnSS.nil (h : hi ≤ w.heap.size) : OwnSS lo hi w A [] := ⟨h, fun h => absurd h (by simp)⟩
theorem OwnSS.none_ (h : ps = []) (hs : hi ≤ w.heap.size) : OwnSS lo hi w A ps := by subst h; exact OwnSS.nil hs
theorem OwnSS.cast (h : OwnSS lo hi w A ps) (e : ps = qs) : OwnSS lo hi w A qs := e ▸ h
theorem OwnSS.fr {l h2 : Nat} (h : OwnSS lo hi w A ps) (hf : Fr l h2 w w') (hd : hi ≤ l ∨ h2 ≤ lo) : OwnSS lo hi w' A ps :=
  h.keep hf.size fun b h1 hb => hf.block b (Nat.lt_of_lt_of_le hb h.1) (by omega)
/-- One list written: the cells of the others stay. -/
theorem OwnSS.list_ (h : OwnSS lo hi w A ps) (hi' : i < ps.length) : ∃ b off Ai ci l r, A = some ⟨b, off, none⟩ ∧ lo ≤ b ∧ b < hi ∧ w.cell? ⟨b, off + i, none⟩ = some (.slice Ai ps[i].length ci) ∧
    Own encI 1 l r w Ai ps[i] ∧ lo ≤ l ∧ r ≤ hi ∧ ∀ (w' : World) (zs : List Int), zs.length = ps[i].length → Fr l r w w' → Own encI 1 l r w' Ai zs → OwnSS lo hi w' A (ps.set i zs) := by
  obtain ⟨b, off, ix, hA, hl, hb, hf, hc⟩ := h.2 (by omega)
  obtain ⟨Ai, ci, h3, h4, h5⟩ := hc i _ (List.getElem?_eq_getElem hi')
  have hsz := h.1
  have hstep : ∀ (l r : Nat) (w' : World) (zs : List Int), (∀ k, lo ≤ k → k < hi → (k < l ∨ r ≤ k) → w'.heap[k]? = w.heap[k]?) → w.heap.size ≤ w'.heap.size → (b < l ∨ r ≤ b) → (∀ k, l ≤ k → k < r → ix k = i) → zs.length = ps[i].length →
      (0 < zs.length → ∃ bi oi, Ai = some ⟨bi, oi, none⟩ ∧ lo ≤ bi ∧ bi < hi ∧ bi ≠ b ∧ ix bi = i ∧ (∀ (j : Nat) (z : Int), zs[j]? = some z → w'.cell? ⟨bi, oi + j, none⟩ = some (.int .i64 z)) ∧ ∀ o, w'.frozen? ⟨bi, o, none⟩ = false) →
      OwnSS lo hi w' A (ps.set i zs) := by
    intro l r w' zs hk hs hbl hix hlen hz
    refine ⟨Nat.le_trans hsz hs, fun _ => ⟨b, off, ix, hA, hl, hb, fun o => (World.frozen?_of_block (w := w) (a := ⟨b, o, none⟩) (hk b hl hb hbl)).trans (hf o), fun i' p hp => ?_⟩⟩
    have kc : ∀ o, w'.cell? ⟨b, o, none⟩ = w.cell? ⟨b, o, none⟩ := fun o => World.cell?_of_block (w := w) (a := ⟨b, o, none⟩) (hk b hl hb hbl)
    by_cases hii : i' = i
    · subst hii
      rw [List.getElem?_set_self hi'] at hp
      injection hp with hp
      subst hp
      exact ⟨Ai, ci, by rw [kc, h3, hlen], by rw [hlen]; exact h4, hz⟩
    · rw [List.getElem?_set_ne (by omega)] at hp
      obtain ⟨Aj, cj, g3, g4, g5⟩ := hc i' p hp
      refine ⟨Aj, cj, (kc _).trans g3, g4, fun hn => ?_⟩
      obtain ⟨bi, oi, c6, c7, c8, c9, c10, c11, c12⟩ := g5 hn
      have hout : bi < l ∨ r ≤ bi := by
        rcases Nat.lt_or_ge bi l with h | h
        · exact .inl h
        · rcases Nat.lt_or_ge bi r with h' | h'
          · have h9 := hix bi h h'; exact absurd (h9.symm.trans c10) (fun e => hii e.symm)
          · exact .inr h'
      have e := hk bi c7 c8 hout
      exact ⟨bi, oi, c6, c7, c8, c9, c10, fun j z hz => (World.cell?_of_block (w := w) (a := ⟨bi, oi + j, none⟩) e).trans (c11 j z hz), fun o => (World.frozen?_of_block (w := w) (a := ⟨bi, o, none⟩) e).trans (c12 o)⟩
  by_cases hn : 0 < ps[i].length
  · obtain ⟨bi, oi, rfl, c7, c8, c9, c10, c11, c12⟩ := h5 hn
    refine ⟨b, off, _, ci, bi, bi + 1, hA, hl, hb, h3, ⟨by omega, fun _ => ⟨bi, oi, rfl, Nat.le_refl _, by omega, fun j x hx m v hv => ?_, c12⟩⟩, c7, by omega, fun w' zs hlen hfr ho => ?_⟩
    · match m, hv with
      | 0, hv => simp [encI] at hv; subst hv; simpa using c11 j x hx
    · refine hstep bi (bi + 1) w' zs (fun k _ hk2 hk => hfr.block k (by omega) hk) hfr.size (by omega) (fun k h1 h2 => by rw [show k = bi by omega]; exact c10) hlen (fun hz => ?_)
      obtain ⟨b', o', hA', k1, k2, k3, k4⟩ := ho.2 hz
      injection hA' with hA'; injection hA' with e1 e2
      subst e1 e2
      exact ⟨bi, oi, rfl, c7, c8, c9, c10, fun j z hz => by simpa using k3 j z hz 0 _ rfl, k4⟩
  · have hnil : ps[i] = [] := List.eq_nil_of_length_eq_zero (by omega)
    refine ⟨b, off, Ai, ci, hi, hi, hA, hl, hb, h3, by rw [hnil]; exact Own.nil hsz, by omega, Nat.le_refl _, fun w' zs hlen hfr ho => ?_⟩
    exact hstep hi hi w' zs (fun k _ hk _ => hfr.block k (by omega) (by omega)) hfr.size (.inl hb) (fun k _ _ => by omega) hlen (fun hz => by omega)
end
/-- The call returns a list of lists of its own, and b. -/
def RetSS (ps : List (List Int)) (b : Bool) (w : World) (e : Ending) (w' : World) : Prop := ∃ B c', e = .returned (.tuple #[.slice B ps.length c', .bool b]) ∧ Below w.heap.size w w' ∧ OwnSS w.heap.size w'.heap.size w' B ps
end Go.Proofs.YtgjehnjpbekoeaaDoor
