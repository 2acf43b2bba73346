/- The record AlbumPage: its cells, how a list of pages lies in memory, how one that came in is opened. No condition. -/
import Derived.Test.YtpjnlcppjcnlgaaGreatDoorProg
import Derived.Test.YtpjnlcppjcnlgaaGreatDoorOpenScal
namespace Go.Proofs.YtpjnlcppjcnlgaaGreatDoor
set_option linter.unusedVariables false
set_option linter.unusedSimpArgs false
open Go.RowKit Go.ChangeShapes Go.WideShapes Go.Deep
structure Page where
  id : Int
  title : ByteArray
  under : Int
  items : List Int
instance : Inhabited Page := ⟨⟨0, ByteArray.empty, 0, []⟩⟩
def Page.fits (p : Page) : Prop := Fits p.id ∧ p.title.size ≤ maxLen ∧ Fits p.under ∧ p.items.length ≤ maxLen ∧ ∀ z ∈ p.items, Fits z
/-- The page p lies in block b from cell o on, its items below block B. -/
def PgAt (B : Nat) (w : World) (b o : Nat) (p : Page) : Prop :=
  w.cell? ⟨b, o, none⟩ = some (.int .i64 p.id) ∧ w.cell? ⟨b, o + 1, none⟩ = some (.string p.title) ∧ w.cell? ⟨b, o + 2, none⟩ = some (.int .i64 p.under) ∧
  ∃ Ai ci, w.cell? ⟨b, o + 3, none⟩ = some (.slice Ai p.items.length ci) ∧ p.items.length ≤ ci ∧ Rd encI 1 B w Ai p.items
/-- The slice with address A reads as the pages ps; it and their items lie below block B. -/
def RdP (B : Nat) (w : World) (A : Option Addr) (ps : List Page) : Prop :=
  0 < ps.length → ∃ b off, A = some ⟨b, off, none⟩ ∧ b < B ∧ ∀ (i : Nat) (p : Page), ps[i]? = some p → PgAt B w b (off + i * 4) p
section
variable {B B' : Nat} {w w' : World} {A : Option Addr} {ps : List Page} {b o : Nat} {p : Page}
theorem PgAt.keep (h : PgAt B w b o p) (hb : b < B) (hk : ∀ b o, b < B → w'.cell? ⟨b, o, none⟩ = w.cell? ⟨b, o, none⟩) : PgAt B w' b o p := by
  obtain ⟨h0, h1, h2, Ai, ci, h3, h4, h5⟩ := h
  exact ⟨(hk _ _ hb).trans h0, (hk _ _ hb).trans h1, (hk _ _ hb).trans h2, Ai, ci, (hk _ _ hb).trans h3, h4, h5.keep hk⟩
theorem PgAt.more (h : PgAt B w b o p) (hB : B ≤ B') : PgAt B' w b o p := by
  obtain ⟨h0, h1, h2, Ai, ci, h3, h4, h5⟩ := h
  exact ⟨h0, h1, h2, Ai, ci, h3, h4, h5.more hB⟩
theorem RdP.nil : RdP B w A [] := fun h => absurd h (by simp)
theorem RdP.none_ (h : ps = []) : RdP B w A ps := by subst h; exact RdP.nil
theorem RdP.keep (h : RdP B w A ps) (hk : ∀ b o, b < B → w'.cell? ⟨b, o, none⟩ = w.cell? ⟨b, o, none⟩) : RdP B w' A ps := fun hn => by
  obtain ⟨b, off, hA, hb, hc⟩ := h hn
  exact ⟨b, off, hA, hb, fun i p hp => (hc i p hp).keep hb hk⟩
theorem RdP.more (h : RdP B w A ps) (hB : B ≤ B') : RdP B' w A ps := fun hn => by
  obtain ⟨b, off, hA, hb, hc⟩ := h hn
  exact ⟨b, off, hA, by omega, fun i p hp => (hc i p hp).more hB⟩
theorem RdP.below (h : RdP B w A ps) (hb : Below B w w') : RdP B w' A ps := h.keep fun b o hp => hb.cell (p := ⟨b, o, none⟩) hp
theorem RdP.go (h : RdP w.heap.size w A ps) (hb : Below w.heap.size w w') : RdP w'.heap.size w' A ps := (h.below hb).more hb.size
theorem RdP.at_ (h : RdP B w A ps) {i : Nat} (hi : i < ps.length) : ∃ b off, A = some ⟨b, off, none⟩ ∧ b < B ∧ PgAt B w b (off + i * 4) ps[i] := by
  obtain ⟨b, off, hA, hb, hc⟩ := h (by omega)
  exact ⟨b, off, hA, hb, hc i _ (List.getElem?_eq_getElem hi)⟩
theorem RdP.page (h : RdP B w A ps) {i : Nat} (hi : i < ps.length) : ∃ b off Ai ci, A = some ⟨b, off, none⟩ ∧ b < B ∧
    w.cell? ⟨b, off + i * 4, none⟩ = some (.int .i64 ps[i].id) ∧ w.cell? ⟨b, off + i * 4 + 1, none⟩ = some (.string ps[i].title) ∧ w.cell? ⟨b, off + i * 4 + 2, none⟩ = some (.int .i64 ps[i].under) ∧
    w.cell? ⟨b, off + i * 4 + 3, none⟩ = some (.slice Ai ps[i].items.length ci) ∧ ps[i].items.length ≤ ci ∧ Rd encI 1 B w Ai ps[i].items := by
  obtain ⟨b, off, hA, hb, h0, h1, h2, Ai, ci, h3, h4, h5⟩ := h.at_ hi
  exact ⟨b, off, Ai, ci, hA, hb, h0, h1, h2, h3, h4, h5⟩
theorem RdP.take (h : RdP B w A ps) (n : Nat) : RdP B w A (ps.take n) := fun hn => by
  obtain ⟨b, off, hA, hb, hc⟩ := h (by simp at hn; omega)
  exact ⟨b, off, hA, hb, fun i p hp => hc i p (by rw [List.getElem?_take] at hp; split at hp; exact hp; cases hp)⟩
end
/-- Page number i lies in block b from cell o on; its items, if there are any, lie in a block of their own (from lo on, below hi) that belongs to page i alone; all may be written. -/
def OPg (lo hi : Nat) (ix : Nat → Nat) (b i : Nat) (w : World) (o : Nat) (p : Page) : Prop :=
  w.cell? ⟨b, o, none⟩ = some (.int .i64 p.id) ∧ w.cell? ⟨b, o + 1, none⟩ = some (.string p.title) ∧ w.cell? ⟨b, o + 2, none⟩ = some (.int .i64 p.under) ∧
  ∃ Ai ci, w.cell? ⟨b, o + 3, none⟩ = some (.slice Ai p.items.length ci) ∧ p.items.length ≤ ci ∧ (0 < p.items.length → ∃ bi oi, Ai = some ⟨bi, oi, none⟩ ∧ lo ≤ bi ∧ bi < hi ∧ bi ≠ b ∧ ix bi = i ∧
    (∀ (j : Nat) (z : Int), p.items[j]? = some z → w.cell? ⟨bi, oi + j, none⟩ = some (.int .i64 z)) ∧ ∀ o, w.frozen? ⟨bi, o, none⟩ = false)
/-- The slice with address A, made by the call itself (blocks from lo on and below hi), reads as the pages ps; no two of them share memory; its cells may be written. -/
def OwnP (lo hi : Nat) (w : World) (A : Option Addr) (ps : List Page) : Prop :=
  hi ≤ w.heap.size ∧ (0 < ps.length → ∃ b off, ∃ ix : Nat → Nat, A = some ⟨b, off, none⟩ ∧ lo ≤ b ∧ b < hi ∧ (∀ o, w.frozen? ⟨b, o, none⟩ = false) ∧ ∀ (i : Nat) (p : Page), ps[i]? = some p → OPg lo hi ix b i w (off + i * 4) p)
section
variable {lo hi lo' hi' : Nat} {ix ix' : Nat → Nat} {w w' : World} {A : Option Addr} {ps qs : List Page} {b i o : Nat} {p : Page}
theorem rdI_of {B : Nat} {Ai : Option Addr} {zs : List Int} (h : 0 < zs.length → ∃ bi oi, Ai = some ⟨bi, oi, none⟩ ∧ bi < B ∧ ∀ (j : Nat) (z : Int), zs[j]? = some z → w.cell? ⟨bi, oi + j, none⟩ = some (.int .i64 z)) : Rd encI 1 B w Ai zs := fun hn => by
  obtain ⟨bi, oi, hA, hb, hc⟩ := h hn
  refine ⟨bi, oi, hA, hb, fun i x hx j v hv => ?_⟩
  match j, hv with
  | 0, hv => simp [encI] at hv; subst hv; simpa using hc i x hx
theorem Rd.ints {B : Nat} {Ai : Option Addr} {zs : List Int} (h : Rd encI 1 B w Ai zs) (hn : 0 < zs.length) : ∃ bi oi, Ai = some ⟨bi, oi, none⟩ ∧ bi < B ∧ ∀ (j : Nat) (z : Int), zs[j]? = some z → w.cell? ⟨bi, oi + j, none⟩ = some (.int .i64 z) := by
  obtain ⟨b, off, hA, hb, hc⟩ := h hn
  exact ⟨b, off, hA, hb, fun j z hz => by simpa using hc j z hz 0 _ rfl⟩
theorem OPg.keep (h : OPg lo hi ix b i w o p) (h1 : lo ≤ b) (h2 : b < hi) (kc : ∀ b o, lo ≤ b → b < hi → w'.cell? ⟨b, o, none⟩ = w.cell? ⟨b, o, none⟩) (kf : ∀ b o, lo ≤ b → b < hi → w'.frozen? ⟨b, o, none⟩ = w.frozen? ⟨b, o, none⟩) : OPg lo hi ix b i w' o p := by
  obtain ⟨c0, c1, c2, Ai, ci, c3, c4, c5⟩ := h
  refine ⟨(kc _ _ h1 h2).trans c0, (kc _ _ h1 h2).trans c1, (kc _ _ h1 h2).trans c2, Ai, ci, (kc _ _ h1 h2).trans c3, c4, fun hn => ?_⟩
  obtain ⟨bi, oi, c6, c7, c8, c9, c10, c11, c12⟩ := c5 hn
  exact ⟨bi, oi, c6, c7, c8, c9, c10, fun j z hz => (kc _ _ c7 c8).trans (c11 j z hz), fun o => (kf _ _ c7 c8).trans (c12 o)⟩
theorem OPg.wide (h : OPg lo hi ix b i w o p) (hl : lo' ≤ lo) (hh : hi ≤ hi') (hx : ∀ x, lo ≤ x → x < hi → ix' x = ix x) : OPg lo' hi' ix' b i w o p := by
  obtain ⟨c0, c1, c2, Ai, ci, c3, c4, c5⟩ := h
  refine ⟨c0, c1, c2, Ai, ci, c3, c4, fun hn => ?_⟩
  obtain ⟨bi, oi, c6, c7, c8, c9, c10, c11, c12⟩ := c5 hn
  exact ⟨bi, oi, c6, by omega, by omega, c9, (hx _ c7 c8).trans c10, c11, c12⟩
/-- A write to another cell of the pages' block. -/
theorem OPg.set_ (h : OPg lo hi ix b i w o p) {q : Nat} (hq : q < o ∨ o + 4 ≤ q) (u : Value) : OPg lo hi ix b i (w.setCell ⟨b, q, none⟩ u) o p := by
  obtain ⟨c0, c1, c2, Ai, ci, c3, c4, c5⟩ := h
  have far : ∀ j, j < 4 → (w.setCell ⟨b, q, none⟩ u).cell? ⟨b, o + j, none⟩ = w.cell? ⟨b, o + j, none⟩ := fun j hj => World.cell?_setCell_other w _ _ u (fun e => by injection e; omega)
  refine ⟨(far 0 (by omega)).trans c0, (far 1 (by omega)).trans c1, (far 2 (by omega)).trans c2, Ai, ci, (far 3 (by omega)).trans c3, c4, fun hn => ?_⟩
  obtain ⟨bi, oi, c6, c7, c8, c9, c10, c11, c12⟩ := c5 hn
  exact ⟨bi, oi, c6, c7, c8, c9, c10, fun j z hz => (World.cell?_setCell_other w _ _ u (fun e => by injection e; omega)).trans (c11 j z hz), fun o => by rw [World.frozen?_setCell]; exact c12 o⟩
theorem OPg.at_ (h : OPg lo hi ix b i w o p) : PgAt hi w b o p := by
  obtain ⟨h0, h1, h2, Ai, ci, h3, h4, h5⟩ := h
  exact ⟨h0, h1, h2, Ai, ci, h3, h4, rdI_of fun hn => by obtain ⟨bi, oi, h6, _, h7, _, _, h8, _⟩ := h5 hn; exact ⟨bi, oi, h6, h7, h8⟩⟩
theorem OwnP.rdhi (h : OwnP lo hi w A ps) : RdP hi w A ps := fun hn => by
  obtain ⟨b, off, ix, hA, _, hb, _, hc⟩ := h.2 hn
  exact ⟨b, off, hA, hb, fun i p hp => (hc i p hp).at_⟩
theorem OwnP.rd (h : OwnP lo hi w A ps) : RdP w.heap.size w A ps := h.rdhi.more h.1
theorem OwnP.keep (h : OwnP lo hi w A ps) (hs : w.heap.size ≤ w'.heap.size) (hk : ∀ b, lo ≤ b → b < hi → w'.heap[b]? = w.heap[b]?) : OwnP lo hi w' A ps :=
  ⟨Nat.le_trans h.1 hs, fun hn => by
    obtain ⟨b, off, ix, hA, hl, hb, hf, hc⟩ := h.2 hn
    have kc : ∀ b o, lo ≤ b → b < hi → w'.cell? ⟨b, o, none⟩ = w.cell? ⟨b, o, none⟩ := fun b o h1 h2 => World.cell?_of_block (w := w) (a := ⟨b, o, none⟩) (hk b h1 h2)
    have kf : ∀ b o, lo ≤ b → b < hi → w'.frozen? ⟨b, o, none⟩ = w.frozen? ⟨b, o, none⟩ := fun b o h1 h2 => World.frozen?_of_block (w := w) (a := ⟨b, o, none⟩) (hk b h1 h2)
    exact ⟨b, off, ix, hA, hl, hb, fun o => (kf _ _ hl hb).trans (hf o), fun i p hp => (hc i p hp).keep hl hb kc kf⟩⟩
theorem OwnP.below (h : OwnP lo hi w A ps) (hb : Below hi w w') : OwnP lo hi w' A ps := h.keep hb.size fun b _ h => hb.block b h
theorem OwnP.go (h : OwnP lo hi w A ps) (hb : Below w.heap.size w w') : OwnP lo hi w' A ps := h.below (hb.mono h.1)
theorem OwnP.wide (h : OwnP lo hi w A ps) (hl : lo' ≤ lo) (hh : hi ≤ hi') (hs : hi' ≤ w.heap.size) : OwnP lo' hi' w A ps :=
  ⟨hs, fun hn => by
    obtain ⟨b, off, ix, hA, hl, hb, hf, hc⟩ := h.2 hn
    exact ⟨b, off, ix, hA, by omega, by omega, hf, fun i p hp => (hc i p hp).wide (by omega) hh (fun _ _ _ => rfl)⟩⟩
theorem OwnP.nil (h : hi ≤ w.heap.size) : OwnP lo hi w A [] := ⟨h, fun h => absurd h (by simp)⟩
theorem OwnP.none_ (h : ps = []) (hs : hi ≤ w.heap.size) : OwnP lo hi w A ps := by subst h; exact OwnP.nil hs
theorem OwnP.cast (h : OwnP lo hi w A ps) (e : ps = qs) : OwnP lo hi w A qs := e ▸ h
theorem OwnP.fr {l h2 : Nat} (h : OwnP lo hi w A ps) (hf : Fr l h2 w w') (hd : hi ≤ l ∨ h2 ≤ lo) : OwnP lo hi w' A ps :=
  h.keep hf.size fun b h1 hb => hf.block b (Nat.lt_of_lt_of_le hb h.1) (by omega)
/-- One page written: the cells of the others stay. -/
theorem OwnP.page (h : OwnP lo hi w A ps) (hi' : i < ps.length) : ∃ b off Ai ci l r, A = some ⟨b, off, none⟩ ∧ lo ≤ b ∧ b < hi ∧ (∀ o, w.frozen? ⟨b, o, none⟩ = false) ∧
    w.cell? ⟨b, off + i * 4, none⟩ = some (.int .i64 ps[i].id) ∧ w.cell? ⟨b, off + i * 4 + 1, none⟩ = some (.string ps[i].title) ∧ w.cell? ⟨b, off + i * 4 + 2, none⟩ = some (.int .i64 ps[i].under) ∧ w.cell? ⟨b, off + i * 4 + 3, none⟩ = some (.slice Ai ps[i].items.length ci) ∧
    Own encI 1 l r w Ai ps[i].items ∧ lo ≤ l ∧ r ≤ hi ∧ ∀ (w' : World) (zs : List Int), zs.length = ps[i].items.length → Fr l r w w' → Own encI 1 l r w' Ai zs → OwnP lo hi w' A (ps.set i ⟨ps[i].id, ps[i].title, ps[i].under, zs⟩) := by
  obtain ⟨b, off, ix, hA, hl, hb, hf, hc⟩ := h.2 (by omega)
  have hcc := hc i _ (List.getElem?_eq_getElem hi')
  obtain ⟨h0, h1, h2, Ai, ci, h3, h4, h5⟩ := hcc
  have hsz := h.1
  have hstep : ∀ (l r : Nat) (w' : World) (zs : List Int), (∀ k, lo ≤ k → k < hi → (k < l ∨ r ≤ k) → w'.heap[k]? = w.heap[k]?) → w.heap.size ≤ w'.heap.size → (b < l ∨ r ≤ b) → (∀ k, l ≤ k → k < r → ix k = i) → zs.length = ps[i].items.length →
      (0 < zs.length → ∃ bi oi, Ai = some ⟨bi, oi, none⟩ ∧ lo ≤ bi ∧ bi < hi ∧ bi ≠ b ∧ ix bi = i ∧ (∀ (j : Nat) (z : Int), zs[j]? = some z → w'.cell? ⟨bi, oi + j, none⟩ = some (.int .i64 z)) ∧ ∀ o, w'.frozen? ⟨bi, o, none⟩ = false) →
      OwnP lo hi w' A (ps.set i ⟨ps[i].id, ps[i].title, ps[i].under, zs⟩) := by
    intro l r w' zs hk hs hbl hix hlen hz
    refine ⟨Nat.le_trans hsz hs, fun _ => ⟨b, off, ix, hA, hl, hb, fun o => (World.frozen?_of_block (w := w) (a := ⟨b, o, none⟩) (hk b hl hb hbl)).trans (hf o), fun i' p hp => ?_⟩⟩
    have kc : ∀ o, w'.cell? ⟨b, o, none⟩ = w.cell? ⟨b, o, none⟩ := fun o => World.cell?_of_block (w := w) (a := ⟨b, o, none⟩) (hk b hl hb hbl)
    by_cases hii : i' = i
    · subst hii
      rw [List.getElem?_set_self hi'] at hp
      injection hp with hp
      subst hp
      exact ⟨(kc _).trans h0, (kc _).trans h1, (kc _).trans h2, Ai, ci, by rw [kc, h3, hlen], by rw [hlen]; exact h4, hz⟩
    · rw [List.getElem?_set_ne (by omega)] at hp
      obtain ⟨g0, g1, g2, Aj, cj, g3, g4, g5⟩ := hc i' p hp
      refine ⟨(kc _).trans g0, (kc _).trans g1, (kc _).trans g2, Aj, cj, (kc _).trans g3, g4, fun hn => ?_⟩
      obtain ⟨bi, oi, c6, c7, c8, c9, c10, c11, c12⟩ := g5 hn
      have hout : bi < l ∨ r ≤ bi := by
        rcases Nat.lt_or_ge bi l with h | h
        · exact .inl h
        · rcases Nat.lt_or_ge bi r with h' | h'
          · have h9 := hix bi h h'; exact absurd (h9.symm.trans c10) (fun e => hii e.symm)
          · exact .inr h'
      have e := hk bi c7 c8 hout
      exact ⟨bi, oi, c6, c7, c8, c9, c10, fun j z hz => (World.cell?_of_block (w := w) (a := ⟨bi, oi + j, none⟩) e).trans (c11 j z hz), fun o => (World.frozen?_of_block (w := w) (a := ⟨bi, o, none⟩) e).trans (c12 o)⟩
  by_cases hn : 0 < ps[i].items.length
  · obtain ⟨bi, oi, rfl, c7, c8, c9, c10, c11, c12⟩ := h5 hn
    refine ⟨b, off, _, ci, bi, bi + 1, hA, hl, hb, hf, h0, h1, h2, h3, ⟨by omega, fun _ => ⟨bi, oi, rfl, Nat.le_refl _, by omega, fun j x hx m v hv => ?_, c12⟩⟩, c7, by omega, fun w' zs hlen hfr ho => ?_⟩
    · match m, hv with
      | 0, hv => simp [encI] at hv; subst hv; simpa using c11 j x hx
    · refine hstep bi (bi + 1) w' zs (fun k _ hk2 hk => hfr.block k (by omega) hk) hfr.size (by omega) (fun k h1 h2 => by rw [show k = bi by omega]; exact c10) hlen (fun hz => ?_)
      obtain ⟨b', o', hA', k1, k2, k3, k4⟩ := ho.2 hz
      injection hA' with hA'; injection hA' with e1 e2
      subst e1 e2
      exact ⟨bi, oi, rfl, c7, c8, c9, c10, fun j z hz => by simpa using k3 j z hz 0 _ rfl, k4⟩
  · have hnil : ps[i].items = [] := by
      cases hq : ps[i].items with
      | nil => rfl
      | cons _ _ => rw [hq] at hn; simp at hn
    refine ⟨b, off, Ai, ci, hi, hi, hA, hl, hb, hf, h0, h1, h2, h3, by rw [hnil]; exact Own.nil hsz, by omega, Nat.le_refl _, fun w' zs hlen hfr ho => ?_⟩
    exact hstep hi hi w' zs (fun k _ hk _ => hfr.block k (by omega) (by omega)) hfr.size (.inl hb) (fun k _ _ => by omega) hlen (fun hz => by omega)
theorem OwnP.setPg {off : Nat} {u : Value} {q : Nat} {p' : Page} (h : OwnP lo hi w (some ⟨b, off, none⟩) ps) (hi' : i < ps.length) (hq : q = off + i * 4 ∨ q = off + i * 4 + 1 ∨ q = off + i * 4 + 2)
    (hp : ∀ (ix : Nat → Nat), OPg lo hi ix b i w (off + i * 4) ps[i] → OPg lo hi ix b i (w.setCell ⟨b, q, none⟩ u) (off + i * 4) p') : OwnP lo hi (w.setCell ⟨b, q, none⟩ u) (some ⟨b, off, none⟩) (ps.set i p') := by
  obtain ⟨b', off', ix, hA, hl, hb, hf, hc⟩ := h.2 (by omega)
  injection hA with hA; injection hA with e1 e2
  subst e1 e2
  refine ⟨by simpa [World.setCell] using h.1, fun _ => ⟨b, off, ix, rfl, hl, hb, fun o => by rw [World.frozen?_setCell]; exact hf o, fun i' p hp' => ?_⟩⟩
  by_cases hii : i' = i
  · subst hii
    rw [List.getElem?_set_self hi'] at hp'
    injection hp' with hp'
    subst hp'
    exact hp ix (hc _ _ (List.getElem?_eq_getElem hi'))
  · rw [List.getElem?_set_ne (by omega)] at hp'
    refine (hc i' p hp').set_ ?_ u
    rcases Nat.lt_or_gt_of_ne hii with h | h <;> omega
theorem OwnP.setId {off : Nat} (h : OwnP lo hi w (some ⟨b, off, none⟩) ps) (hi' : i < ps.length) (a : Int) : OwnP lo hi (w.setCell ⟨b, off + i * 4, none⟩ (.int .i64 a)) (some ⟨b, off, none⟩) (ps.set i ⟨a, ps[i].title, ps[i].under, ps[i].items⟩) :=
  h.setPg hi' (.inl rfl) fun ix hx => by
    obtain ⟨c0, c1, c2, Ai, ci, c3, c4, c5⟩ := hx
    refine ⟨World.cell?_setCell_same _ _ _ c0, (World.cell?_setCell_other _ _ _ _ (by simp)).trans c1, (World.cell?_setCell_other _ _ _ _ (by simp)).trans c2, Ai, ci, (World.cell?_setCell_other _ _ _ _ (by simp)).trans c3, c4, fun hn => ?_⟩
    obtain ⟨bi, oi, c6, c7, c8, c9, c10, c11, c12⟩ := c5 hn
    exact ⟨bi, oi, c6, c7, c8, c9, c10, fun j z hz => (World.cell?_setCell_other _ _ _ _ (fun e => by injection e; omega)).trans (c11 j z hz), fun o => by rw [World.frozen?_setCell]; exact c12 o⟩
theorem OwnP.setTitle {off : Nat} (h : OwnP lo hi w (some ⟨b, off, none⟩) ps) (hi' : i < ps.length) (a : ByteArray) : OwnP lo hi (w.setCell ⟨b, off + i * 4 + 1, none⟩ (.string a)) (some ⟨b, off, none⟩) (ps.set i ⟨ps[i].id, a, ps[i].under, ps[i].items⟩) :=
  h.setPg hi' (.inr (.inl rfl)) fun ix hx => by
    obtain ⟨c0, c1, c2, Ai, ci, c3, c4, c5⟩ := hx
    refine ⟨(World.cell?_setCell_other _ _ _ _ (by simp)).trans c0, World.cell?_setCell_same _ _ _ c1, (World.cell?_setCell_other _ _ _ _ (by simp)).trans c2, Ai, ci, (World.cell?_setCell_other _ _ _ _ (by simp)).trans c3, c4, fun hn => ?_⟩
    obtain ⟨bi, oi, c6, c7, c8, c9, c10, c11, c12⟩ := c5 hn
    exact ⟨bi, oi, c6, c7, c8, c9, c10, fun j z hz => (World.cell?_setCell_other _ _ _ _ (fun e => by injection e; omega)).trans (c11 j z hz), fun o => by rw [World.frozen?_setCell]; exact c12 o⟩
theorem OwnP.setUnder {off : Nat} (h : OwnP lo hi w (some ⟨b, off, none⟩) ps) (hi' : i < ps.length) (a : Int) : OwnP lo hi (w.setCell ⟨b, off + i * 4 + 2, none⟩ (.int .i64 a)) (some ⟨b, off, none⟩) (ps.set i ⟨ps[i].id, ps[i].title, a, ps[i].items⟩) :=
  h.setPg hi' (.inr (.inr rfl)) fun ix hx => by
    obtain ⟨c0, c1, c2, Ai, ci, c3, c4, c5⟩ := hx
    refine ⟨(World.cell?_setCell_other _ _ _ _ (by simp)).trans c0, (World.cell?_setCell_other _ _ _ _ (by simp)).trans c1, World.cell?_setCell_same _ _ _ c2, Ai, ci, (World.cell?_setCell_other _ _ _ _ (by simp)).trans c3, c4, fun hn => ?_⟩
    obtain ⟨bi, oi, c6, c7, c8, c9, c10, c11, c12⟩ := c5 hn
    exact ⟨bi, oi, c6, c7, c8, c9, c10, fun j z hz => (World.cell?_setCell_other _ _ _ _ (fun e => by injection e; omega)).trans (c11 j z hz), fun o => by rw [World.frozen?_setCell]; exact c12 o⟩
end
/-- A page as its four cells hold it. -/
structure PageM where
  id : Int
  title : ByteArray
  under : Int
  A : Option Addr
  n : Nat
  c : Nat
instance : Inhabited PageM := ⟨⟨0, ByteArray.empty, 0, none, 0, 0⟩⟩
def encPM (m : PageM) : List Value := [.int .i64 m.id, .string m.title, .int .i64 m.under, .slice m.A m.n m.c]
def PageM.ok (w : World) (m : PageM) : Prop := Fits m.id ∧ m.title.size ≤ maxLen ∧ Fits m.under ∧ ∃ zs : List Int, zs.length = m.n ∧ m.n ≤ m.c ∧ m.n ≤ maxLen ∧ (∀ z ∈ zs, Fits z) ∧ Rd encI 1 w.heap.size w m.A zs
theorem pages_of {w : World} {A : Option Addr} : ∀ (ms : List PageM), (∀ m ∈ ms, m.ok w) → ∃ ps : List Page, ps.length = ms.length ∧ (∀ p ∈ ps, p.fits) ∧ ∀ (i : Nat) (p : Page), ps[i]? = some p → ∃ m, ms[i]? = some m ∧ p.id = m.id ∧ p.title = m.title ∧ p.under = m.under ∧ p.items.length = m.n ∧ m.n ≤ m.c ∧ Rd encI 1 w.heap.size w m.A p.items
  | [], _ => ⟨[], rfl, by simp, by simp⟩
  | m :: ms, h => by
    obtain ⟨ps, h1, h2, h3⟩ := pages_of (A := A) ms (fun x hx => h x (List.mem_cons_of_mem _ hx))
    obtain ⟨f0, f1, f2, zs, k0, k1, k2, k3, k4⟩ := h m (List.mem_cons_self ..)
    refine ⟨⟨m.id, m.title, m.under, zs⟩ :: ps, by simp [h1], fun p hp => ?_, fun i p hp => ?_⟩
    · rcases List.mem_cons.1 hp with rfl | hp
      · exact ⟨f0, f1, f2, by simp only; omega, k3⟩
      · exact h2 p hp
    · match i with
      | 0 =>
        simp at hp; subst hp
        exact ⟨m, by simp, rfl, rfl, rfl, k0, k1, k4⟩
      | i + 1 =>
        simp at hp
        simpa using h3 i p hp
theorem rdP_of {w : World} {A : Option Addr} {ms : List PageM} (hm : ∀ m ∈ ms, m.ok w) (h : Rd encPM 4 w.heap.size w A ms) : ∃ ps : List Page, ps.length = ms.length ∧ (∀ p ∈ ps, p.fits) ∧ RdP w.heap.size w A ps := by
  obtain ⟨ps, h1, h2, h3⟩ := pages_of (A := A) ms hm
  refine ⟨ps, h1, h2, fun hn => ?_⟩
  obtain ⟨b, off, hA, hb, hc⟩ := h (by omega)
  refine ⟨b, off, hA, hb, fun i p hp => ?_⟩
  obtain ⟨m, k0, k1, k2, k3, k4, k5, k6⟩ := h3 i p hp
  refine ⟨by rw [k1]; simpa using hc i m k0 0 _ rfl, by rw [k2]; exact hc i m k0 1 _ rfl, by rw [k3]; exact hc i m k0 2 _ rfl, m.A, m.c, by rw [k4]; exact hc i m k0 3 _ rfl, by omega, k6⟩
end Go.Proofs.YtpjnlcppjcnlgaaGreatDoor
