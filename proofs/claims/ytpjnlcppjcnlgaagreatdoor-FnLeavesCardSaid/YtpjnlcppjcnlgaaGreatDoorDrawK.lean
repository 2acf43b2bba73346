/- What the draws have in common: slices written out, the reader's block, a record of the call's own in a variable. No condition. -/
import Derived.Test.YtpjnlcppjcnlgaaGreatDoorCur
import Derived.Test.YtpjnlcppjcnlgaaGreatDoorApp2
import Derived.WalkSpells
import Derived.Test.YtpjnlcppjcnlgaaGreatDoorAlCpy
import Derived.Test.YtpjnlcppjcnlgaaGreatDoorAppH
import Derived.Deep.CutBlock
import Derived.Deep.DeepCutAuto
import Derived.Deep.RegionLaw
namespace Go.Proofs.YtpjnlcppjcnlgaaGreatDoor
set_option linter.unusedVariables false
set_option linter.unusedSimpArgs false
open Go.RowKit
attribute [local irreducible] wpQuiet
theorem rd_litI (w : World) (xs : List Int) (E : TypeId) : Rd encI 1 (w.alloc (.cells (xs.map (Value.int .i64)).toArray E)).heap.size (w.alloc (.cells (xs.map (Value.int .i64)).toArray E)) (some ⟨w.heap.size, 0, none⟩) xs := fun _ =>
  ⟨w.heap.size, 0, rfl, by simp, fun i x hx j v hv => by
    have hj : j = 0 := by have := (List.getElem?_eq_some_iff.1 hv).1; simp [encI] at this; omega
    subst hj
    have hv' : v = .int .i64 x := by simpa [encI] using hv.symm
    subst hv'
    rw [World.cell?_alloc_new]
    simp [hx]⟩
theorem rd_litS (w : World) (xs : List ByteArray) (E : TypeId) : Rd encS 1 (w.alloc (.cells (xs.map Value.string).toArray E)).heap.size (w.alloc (.cells (xs.map Value.string).toArray E)) (some ⟨w.heap.size, 0, none⟩) xs := fun _ =>
  ⟨w.heap.size, 0, rfl, by simp, fun i x hx j v hv => by
    have hj : j = 0 := by have := (List.getElem?_eq_some_iff.1 hv).1; simp [encS] at this; omega
    subst hj
    have hv' : v = .string x := by simpa [encS] using hv.symm
    subst hv'
    rw [World.cell?_alloc_new]
    simp [hx]⟩
theorem rd_litP (w : World) (xs : List Int) (E : TypeId) (p : Nat) (hp : p = w.heap.size) : Rd encI 1 (w.alloc (.cells (xs.map (Value.int .i64)).toArray E)).heap.size (w.alloc (.cells (xs.map (Value.int .i64)).toArray E)) (some ⟨p, 0, none⟩) xs := by subst hp; exact rd_litI w xs E
theorem new_neP {g p : Nat} (h : g < p) : ∀ b off, (some ⟨p, 0, none⟩ : Option Addr) = some ⟨b, off, none⟩ → b ≠ g := fun b off e => by injection e with e; injection e with e1 _; omega
theorem Cur.alloc {g m : Nat} {w : World} (h : Cur g m w) (o : Obj) : Cur g m (w.alloc o) := h.below ((Below.refl _ _).alloc (Nat.le_refl _) _)
theorem fr_alloc {lo hi : Nat} {a w : World} (h : Fr lo hi a w) (o : Obj) : Fr lo hi a (w.alloc o) := h.trans (Fr.of_below ((Below.refl _ _).alloc (Nat.le_refl _) _))
theorem fr_drew {lo hi : Nat} {a w : World} (h : Fr lo hi a w) : Fr lo hi a w.drew := ⟨h.os, h.tape, h.output, h.size, h.block⟩
theorem new_ne {g : Nat} {w : World} (h : g < w.heap.size) : ∀ b off, (some ⟨w.heap.size, 0, none⟩ : Option Addr) = some ⟨b, off, none⟩ → b ≠ g := fun b off e => by injection e with e; injection e with e1 _; omega
theorem Rd.fr {α : Type} {enc : α → List Value} {k g : Nat} {w w' : World} {A : Option Addr} {xs : List α} (h : Rd enc k w.heap.size w A xs) (hA : ∀ b off, A = some ⟨b, off, none⟩ → b ≠ g) (hf : Fr g (g + 1) w w') : Rd enc k w'.heap.size w' A xs := fun hn => by
  obtain ⟨b, off, rfl, hb, hc⟩ := h hn
  have hne := hA b off rfl
  have hk := hf.block b hb (by omega)
  exact ⟨b, off, rfl, Nat.lt_of_lt_of_le hb hf.size, fun i x hx j v hv => (World.cell?_of_block (w := w) (a := ⟨b, _, none⟩) hk).trans (hc i x hx j v hv)⟩
theorem Rd.drew {α : Type} {enc : α → List Value} {k : Nat} {w : World} {A : Option Addr} {xs : List α} (h : Rd enc k w.heap.size w A xs) : Rd enc k w.drew.heap.size w.drew A xs := h
theorem pick_nat {r : Int} {n : Nat} (h0 : 0 ≤ r) (h1 : 1 < (n : Int) → r < n) (h2 : (n : Int) ≤ 1 → r = 0) (hn : 0 < n) : ∃ k : Nat, k < n ∧ r = (k : Int) := by
  obtain ⟨k, rfl⟩ := Int.eq_ofNat_of_zero_le h0
  refine ⟨k, ?_, rfl⟩
  by_cases h : 1 < (n : Int)
  · have := h1 h; omega
  · have := h2 (by omega); omega
theorem OutR.fr {α : Type} {enc : α → List Value} {k : Nat} {E : TypeId} {base g : Nat} {v : Value} {ys : List α} {w w' : World} (h : OutR enc k E base v ys w) (hf : Fr g (g + 1) w w') (hg : g < base) : OutR enc k E base v ys w' := by
  have hgr : w.grownBy w' (some g) := ⟨hf.os, hf.tape, hf.output, hf.size, fun k hk hne => hf.block k hk (by have : k ≠ g := fun e => hne (by rw [e]); omega)⟩
  refine World.ownsRow.kept h hgr ?_
  cases hv : v.ownBlock with
  | none => simp
  | some q => exact .inr (by have := h.from_ q hv; intro e; injection e; omega)
theorem cur_set {g m p j : Nat} {w : World} {u : Value} (h : Cur g m w) (hp : g < p) : Cur g m (w.setCell ⟨p, j, none⟩ u) :=
  h.keep (by simp [World.setCell]) fun b hb => Below.heap_setCell _ _ _ _ (by simp only; omega)
theorem fr_set {lo hi p j : Nat} {a w : World} {u : Value} (h : Fr lo hi a w) (hp : a.heap.size ≤ p) : Fr lo hi a (w.setCell ⟨p, j, none⟩ u) :=
  ⟨h.os, h.tape, h.output, by simpa [World.setCell] using h.size, fun k hk hn => (Below.heap_setCell _ _ _ _ (by simp only; omega)).trans (h.block k hk hn)⟩
theorem OutR.set_ {α : Type} {enc : α → List Value} {k : Nat} {E : TypeId} {base p j : Nat} {v : Value} {ys : List α} {w : World} {u : Value} (h : OutR enc k E base v ys w) (hp : v.ownBlock ≠ some p) : OutR enc k E base v ys (w.setCell ⟨p, j, none⟩ u) := by
  have hgr : w.grownBy (w.setCell ⟨p, j, none⟩ u) (some p) := ⟨rfl, rfl, rfl, by simp [World.setCell], fun k hk hne => Below.heap_setCell _ _ _ _ (by simp only; intro e; exact hne (by rw [e]))⟩
  exact World.ownsRow.kept h hgr (by cases hv : v.ownBlock with
    | none => simp
    | some q => exact .inr (by rw [← hv]; exact hp))
theorem OutR.fresh {α : Type} {enc : α → List Value} {k : Nat} {E : TypeId} {base lo : Nat} {v : Value} {ys : List α} {w : World} (h : OutR enc k E base v ys w) (hl : lo ≤ base) : OutR enc k E lo v ys w := by
  refine ⟨h.1, ?_⟩
  rcases h.2 with h0 | ⟨g, cap, cur, hv, hb, h2⟩
  · exact .inl h0
  · exact .inr ⟨g, cap, cur, hv, by omega, h2⟩
theorem OutR.blk {α : Type} {enc : α → List Value} {k : Nat} {E : TypeId} {base : Nat} {v : Value} {ys : List α} {w : World} (h : OutR enc k E base v ys w) : v.ownBlock ≠ some w.heap.size := by
  intro e
  have := (World.ownsRow.lt h w.heap.size e).2
  omega
theorem far {p i j : Nat} {w : World} {u : Value} (h : i ≠ j) : (w.setCell ⟨p, i, none⟩ u).cell? ⟨p, j, none⟩ = w.cell? ⟨p, j, none⟩ := World.cell?_setCell_other w _ _ u (fun e => by injection e; omega)
/-- A reader that the call has just made. -/
theorem cur_new (w : World) (bs : List Int) (A : Option Addr) (c : Nat) (E : TypeId) (hr : Rd encY 1 w.heap.size w A bs) (hn : bs.length ≤ 65536) (hc : bs.length ≤ c) (hb : ∀ b ∈ bs, ByteI b) : Cur w.heap.size 0 (w.alloc (.cells #[.slice A bs.length c, .int .i64 0, .int .u64 0] E)) :=
  ⟨by simp, A, bs, c, 0, 0, by simp, by simp, by simp, Nat.le_refl _, hn, hc, hb, hr.keep fun b o h => ((Below.refl _ _).alloc (Nat.le_refl _) _).cell (p := ⟨b, o, none⟩) h, by decide, by decide, fun o => World.frozen?_alloc_new w _ E o⟩
theorem below_new {w w' : World} {o : Obj} (h : Fr w.heap.size (w.heap.size + 1) (w.alloc o) w') : Below w.heap.size w w' :=
  ((Below.refl _ _).alloc (Nat.le_refl _) _).trans (h.below (Nat.le_refl _) (by simp))
theorem Own.toNe {α : Type} {enc : α → List Value} {k lo hi g : Nat} {w : World} {A : Option Addr} {xs : List α} (h : Own enc k lo hi w A xs) (hg : g < lo) : 0 < xs.length → ∀ b off, A = some ⟨b, off, none⟩ → b ≠ g := fun hn b off e => by
  obtain ⟨b', off', hA, h1, _⟩ := h.2 hn
  rw [hA] at e
  obtain ⟨rfl, rfl⟩ := addr_eq e
  omega
/-- A record of the call's own in a block of its own: its cells are vs. -/
def BoxV (g p : Nat) (vs : List Value) (w : World) : Prop := p ≠ g ∧ p < w.heap.size ∧ (∀ o, w.frozen? ⟨p, o, none⟩ = false) ∧ ∀ i v, vs[i]? = some v → w.cell? ⟨p, i, none⟩ = some v
section
variable {g p : Nat} {vs : List Value} {w w' : World}
theorem BoxV.fr (h : BoxV g p vs w) (hf : Fr g (g + 1) w w') : BoxV g p vs w' := by
  obtain ⟨h1, h2, h3, h4⟩ := h
  have hk := hf.block p h2 (by omega)
  exact ⟨h1, Nat.lt_of_lt_of_le h2 hf.size, fun o => (World.frozen?_of_block (w := w) (a := ⟨p, o, none⟩) hk).trans (h3 o), fun i v hv => (World.cell?_of_block (w := w) (a := ⟨p, i, none⟩) hk).trans (h4 i v hv)⟩
theorem BoxV.below (h : BoxV g p vs w) (hb : Below w.heap.size w w') : BoxV g p vs w' := h.fr (Fr.of_below hb)
theorem BoxV.alloc (h : BoxV g p vs w) (o : Obj) : BoxV g p vs (w.alloc o) := h.below ((Below.refl _ _).alloc (Nat.le_refl _) _)
theorem BoxV.set (h : BoxV g p vs w) (j : Nat) (hj : j < vs.length) (u : Value) : BoxV g p (vs.set j u) (w.setCell ⟨p, j, none⟩ u) := by
  obtain ⟨h1, h2, h3, h4⟩ := h
  refine ⟨h1, by simpa [World.setCell] using h2, fun o => by rw [World.frozen?_setCell]; exact h3 o, fun i v hv => ?_⟩
  by_cases hi : j = i
  · subst hi
    rw [List.getElem?_set_self hj] at hv
    injection hv with hv; subst hv
    exact World.cell?_setCell_same _ _ _ (h4 j _ (List.getElem?_eq_getElem hj))
  · rw [List.getElem?_set_ne hi] at hv
    exact (far hi).trans (h4 i v hv)
theorem BoxV.other {q j : Nat} {u : Value} (h : BoxV g p vs w) (hq : p ≠ q) : BoxV g p vs (w.setCell ⟨q, j, none⟩ u) := by
  obtain ⟨h1, h2, h3, h4⟩ := h
  exact ⟨h1, by simpa [World.setCell] using h2, fun o => by rw [World.frozen?_setCell]; exact h3 o, fun i v hv => (World.cell?_setCell_other w _ _ u (fun e => by injection e; omega)).trans (h4 i v hv)⟩
theorem boxV_new (g : Nat) (w : World) (vs : List Value) (E : TypeId) (h : g < w.heap.size) : BoxV g w.heap.size vs (w.alloc (.cells vs.toArray E)) :=
  ⟨by omega, by simp, fun o => World.frozen?_alloc_new w _ E o, fun i v hv => by rw [World.cell?_alloc_new]; simpa using hv⟩
end
theorem boxV_at (g : Nat) (w : World) (vs : List Value) (E : TypeId) (h : w.heap.size ≠ g) : BoxV g w.heap.size vs (w.alloc (.cells vs.toArray E)) :=
  ⟨h, by simp, fun o => World.frozen?_alloc_new w _ E o, fun i v hv => by rw [World.cell?_alloc_new]; simpa using hv⟩
theorem cur_app {g m base : Nat} {w w' : World} {o : Obj} (h : Cur g m w) (hb : Below base (w.alloc o) w') (hg : g < base) : Cur g m w' :=
  h.keep (Nat.le_trans (by simp) hb.size) fun b hb' => (hb.block b (by omega)).trans (((Below.refl w.heap.size w).alloc (Nat.le_refl _) o).block b (by have := h.1; omega))
theorem fr_app {lo hi base : Nat} {a w w' : World} {o : Obj} (h : Fr lo hi a w) (hb : Below base (w.alloc o) w') (hle : a.heap.size ≤ base) : Fr lo hi a w' :=
  have hA := (Below.refl w.heap.size w).alloc (Nat.le_refl _) o
  ⟨hb.os.trans (hA.os.trans h.os), hb.tape.trans (hA.tape.trans h.tape), hb.output.trans (hA.output.trans h.output), Nat.le_trans h.size (Nat.le_trans hA.size hb.size), fun b h1 h2 => (hb.block b (by omega)).trans ((hA.block b (Nat.lt_of_lt_of_le h1 h.size)).trans (h.block b h1 h2))⟩
def lenV : Value → Nat
  | .slice _ n _ => n
  | _ => 0
end Go.Proofs.YtpjnlcppjcnlgaaGreatDoor
namespace Go.Proofs.YtpjnlcppjcnlgaaGreatDoor
set_option linter.unusedVariables false
set_option linter.unusedSimpArgs false
open Go.RowKit
attribute [local irreducible] wpQuiet
/-- The cells m show page p; its items, if there are any, lie in a block from lo on. -/
def PgIn (lo : Nat) (w : World) (m : PageM) (p : Page) : Prop := m.id = p.id ∧ m.title = p.title ∧ m.under = p.under ∧ m.n = p.items.length ∧ m.n ≤ m.c ∧ Rd encI 1 w.heap.size w m.A p.items ∧ (0 < m.n → ∀ b off, m.A = some ⟨b, off, none⟩ → lo ≤ b)
/-- The slice v of the draw's own holds pages that read as ps; none of their items lies in v's block. -/
def DrP (lo : Nat) (v : Value) (ms : List PageM) (ps : List Page) (w : World) : Prop :=
  OutR encPM 4 56 lo v ms w ∧ ms.length = ps.length ∧ ∀ (i : Nat) (m : PageM) (p : Page), ms[i]? = some m → ps[i]? = some p → PgIn lo w m p ∧ (0 < m.n → ∀ b off, m.A = some ⟨b, off, none⟩ → v.ownBlock ≠ some b)
section
variable {lo : Nat} {v v' : Value} {ms : List PageM} {ps : List Page} {w w' : World} {m : PageM} {p : Page}
theorem PgIn.grown {b : Option Nat} (h : PgIn lo w m p) (hg : w.grownBy w' b) (hne : 0 < m.n → ∀ q off, m.A = some ⟨q, off, none⟩ → b ≠ some q) : PgIn lo w' m p := by
  obtain ⟨h1, h2, h3, h4, h5, h6, h7⟩ := h
  refine ⟨h1, h2, h3, h4, h5, fun hn => ?_, h7⟩
  obtain ⟨q, off, hA, hb, hc⟩ := h6 hn
  have hq := hg.block q hb (fun e => hne (by rw [h4]; exact hn) q off hA e.symm)
  exact ⟨q, off, hA, Nat.lt_of_lt_of_le hb hg.size, fun i x hx j u hu => (World.cell?_of_block (w := w) (a := ⟨q, _, none⟩) hq).trans (hc i x hx j u hu)⟩
theorem fr_grownP {g : Nat} (hf : Fr g (g + 1) w w') : w.grownBy w' (some g) := ⟨hf.os, hf.tape, hf.output, hf.size, fun k hk hne => hf.block k hk (by have : k ≠ g := fun e => hne (by rw [e]); omega)⟩
theorem below_grnP (hb : Below w.heap.size w w') : w.grownBy w' none := ⟨hb.os, hb.tape, hb.output, hb.size, fun k hk _ => hb.block k hk⟩
theorem PgIn.fr_ {g : Nat} (h : PgIn lo w m p) (hf : Fr g (g + 1) w w') (hg : g < lo) : PgIn lo w' m p := h.grown (fr_grownP hf) fun hn q off hA e => by have := h.2.2.2.2.2.2 hn q off hA; injection e with e; omega
theorem PgIn.below_ (h : PgIn lo w m p) (hb : Below w.heap.size w w') : PgIn lo w' m p := h.grown (below_grnP hb) fun _ _ _ _ e => by cases e
theorem PgIn.lt (h : PgIn lo w m p) (hn : 0 < m.n) {b off : Nat} (hA : m.A = some ⟨b, off, none⟩) : b < w.heap.size := by
  obtain ⟨q, o, hA', hb, _⟩ := h.2.2.2.2.2.1 (by rw [← h.2.2.2.1]; exact hn)
  rw [hA] at hA'
  obtain ⟨rfl, _⟩ := addr_eq hA'
  exact hb
theorem DrP.nil (w : World) (hl : lo ≤ w.heap.size) : DrP lo (.slice (some ⟨w.heap.size, 0, none⟩) 0 0) [] [] (w.alloc (.cells #[] 56)) := ⟨OutR.empty w hl, rfl, by simp⟩
theorem DrP.keep_ {b : Option Nat} (h : DrP lo v ms ps w) (hg : w.grownBy w' b) (hv : ∀ q, v.ownBlock = some q → b ≠ some q) (hin : ∀ q, lo ≤ q → b ≠ some q) : DrP lo v ms ps w' :=
  ⟨h.1.kept_ hg hv, h.2.1, fun i m p hm hp => ⟨(h.2.2 i m p hm hp).1.grown hg fun hn q off hA => hin q ((h.2.2 i m p hm hp).1.2.2.2.2.2.2 hn q off hA), (h.2.2 i m p hm hp).2⟩⟩
theorem DrP.fr_ {g : Nat} (h : DrP lo v ms ps w) (hf : Fr g (g + 1) w w') (hg : g < lo) : DrP lo v ms ps w' :=
  h.keep_ (fr_grownP hf) (fun q hq e => by have := h.1.from_ q hq; injection e with e; omega) fun q hq e => by injection e with e; omega
theorem DrP.below_ (h : DrP lo v ms ps w) (hb : Below w.heap.size w w') : DrP lo v ms ps w' :=
  h.keep_ (below_grnP hb) (fun _ _ e => by cases e) fun _ _ e => by cases e
theorem DrP.push_ (h : DrP lo v ms ps w) (hm : PgIn lo w m p) (hmv : 0 < m.n → ∀ b off, m.A = some ⟨b, off, none⟩ → v.ownBlock ≠ some b)
    (ho : OutR encPM 4 56 lo v' (ms ++ [m]) w') (hg : w.grownBy w' v.ownBlock) (hv : v'.ownBlock = v.ownBlock ∨ v'.ownBlock = some w.heap.size) : DrP lo v' (ms ++ [m]) (ps ++ [p]) w' := by
  have hkey : ∀ (x : PageM) (y : Page), PgIn lo w x y → (0 < x.n → ∀ b off, x.A = some ⟨b, off, none⟩ → v.ownBlock ≠ some b) → PgIn lo w' x y ∧ (0 < x.n → ∀ b off, x.A = some ⟨b, off, none⟩ → v'.ownBlock ≠ some b) := fun x y h1 h2 => by
    refine ⟨h1.grown hg h2, fun hn b off hA e => ?_⟩
    rcases hv with hv | hv
    · rw [hv] at e; exact h2 hn b off hA e
    · rw [hv] at e; injection e with e
      have := h1.lt hn hA
      omega
  refine ⟨ho, by simp [h.2.1], fun i x y hx hy => ?_⟩
  by_cases hi : i < ms.length
  · rw [List.getElem?_append_left hi] at hx
    rw [List.getElem?_append_left (by rw [← h.2.1]; exact hi)] at hy
    exact hkey x y (h.2.2 i x y hx hy).1 (h.2.2 i x y hx hy).2
  · have hl := (List.getElem?_eq_some_iff.1 hx).1
    have he : i = ms.length := by simp at hl; omega
    subst he
    rw [List.getElem?_append_right (Nat.le_refl _), Nat.sub_self] at hx
    rw [List.getElem?_append_right (by rw [h.2.1]; exact Nat.le_refl _), h.2.1, Nat.sub_self] at hy
    simp at hx hy
    subst hx hy
    exact hkey _ _ hm hmv
theorem DrP.shape (h : DrP lo v ms ps w) : ∃ A c, v = .slice A ps.length c ∧ ps.length ≤ c ∧ RdP w.heap.size w A ps := by
  obtain ⟨A, c, rfl, hc, ho⟩ := h.1.ownC encPM_len
  rw [h.2.1] at hc ⊢
  refine ⟨A, c, rfl, hc, fun hn => ?_⟩
  obtain ⟨b, off, hA, hl, hb, hcell, _⟩ := ho.2 (by rw [h.2.1]; exact hn)
  refine ⟨b, off, hA, hb, fun i p hp => ?_⟩
  have hi := (List.getElem?_eq_some_iff.1 hp).1
  have hm : i < ms.length := by rw [h.2.1]; exact hi
  obtain ⟨h1, h2, h3, h4, h5, h6, _⟩ := (h.2.2 i ms[i] p (List.getElem?_eq_getElem hm) hp).1
  have hc4 := hcell i ms[i] (List.getElem?_eq_getElem hm)
  refine ⟨?_, ?_, ?_, ms[i].A, ms[i].c, ?_, by rw [← h4]; exact h5, h6⟩
  · rw [← h1]; simpa using hc4 0 _ rfl
  · rw [← h2]; exact hc4 1 _ rfl
  · rw [← h3]; exact hc4 2 _ rfl
  · rw [← h4]; exact hc4 3 _ rfl
end
/-- A page within the bounds that the draws keep. -/
def OkP (p : Page) : Prop := (0 ≤ p.id ∧ p.id ≤ 100) ∧ p.title.size ≤ 10 ∧ (-1 ≤ p.under ∧ p.under ≤ 100) ∧ p.items.length ≤ 8 ∧ ∀ z ∈ p.items, 0 ≤ z ∧ z ≤ 1000
set_option maxRecDepth 100000 in
set_option maxHeartbeats 1600000 in
theorem pageId18_c (g m lo : Nat) (w : World) (h : Cur g m w) (hm : m ≤ 1099500000000) (v : Value) (ms : List PageM) (xs : List Page) (hd : DrP lo v ms xs w) (hg : g < lo) (hn : xs.length ≤ 20) (hok : ∀ x ∈ xs, OkP x) :
    Calls Tryz.prog 28 #[.pointer (some ⟨g, 0, none⟩), v] w fun e w' => ∃ z : Int, e = .returned (.int .i64 z) ∧ (0 ≤ z ∧ z ≤ 100) ∧ Fr g (g + 1) w w' ∧ Cur g (m + 6) w' := by
  have hg0 := h.1
  obtain ⟨A, c, rfl, hcap, hr⟩ := hd.shape
  have HD := Lib.hid hd
  clear hd
  have HY := Lib.hid hok
  clear hok
  go_enter Tryz.func28, Tryz.ntmps28
  by_cases h0 : xs.length = 0
  · have h0' : ((xs.length : Int) == 0) = true := by rw [h0]; rfl
    clear h0
    go_wp2_with fail
    refine (among_c g _ [0, 1, 50] _ 3 _ (h.alloc _) (by omega) (rd_litI w [0, 1, 50] 3) (new_ne hg0) (by decide) (by decide)).mono ?_
    rintro e w1 ⟨z, rfl, hz, hf1, hc1⟩
    have hz' : 0 ≤ z ∧ z ≤ 100 := by simp at hz; omega
    go_wp2_with fail
    go_returns
    exact ⟨z, rfl, hz', (fr_alloc (Fr.refl _ _ _) _).trans hf1, hc1.more (by omega)⟩
  · have h0' : ((xs.length : Int) == 0) = false := by simp only [beq_eq_false_iff_ne, ne_eq]; omega
    have hpos : 0 < xs.length := by omega
    clear h0
    go_wp2_with fail
    refine (one_c g _ 10 _ h (by omega) (by decide)).mono ?_
    rintro e w1 ⟨t, rfl, hf1, hc1⟩
    have hd1 := HD.out.fr_ hf1 hg
    clear hr h
    cases t
    · go_wp2_with fail
      refine (pick_c g _ xs.length _ hc1 (by omega) (by omega)).mono ?_
      rintro e w2 ⟨r, rfl, hr0, _, hr1, hr2, hf2, hc2⟩
      obtain ⟨k, hk, rfl⟩ := pick_nat hr0 hr1 hr2 hpos
      obtain ⟨A', c', hv, _, hr3⟩ := (hd1.fr_ hf2 hg).shape
      injection hv with hA hnn hcc
      subst hA hcc
      obtain ⟨b, off, Ai, ci, rfl, hbs, d0, _, _, _, _, _⟩ := hr3.page hk
      have hokk := HY.out xs[k] (List.getElem_mem hk)
      have hk0 : (0 : Int) ≤ (k : Int) := by omega
      have hk1 : (k : Int) < (xs.length : Int) := by omega
      have hz' := hokk.1
      generalize xs[k].id = z at d0 hz'
      clear hnn hr0 hr1 hr2 hr3 hd1 hokk
      go_wp2_with fail
      go_returns
      exact ⟨z, rfl, hz', hf1.trans hf2, hc2.more (by omega)⟩
    · go_wp2_with fail
      refine (among_c g _ [0, 1, 50] _ 3 _ (hc1.alloc _) (by omega) (rd_litI w1 [0, 1, 50] 3) (new_ne hc1.1) (by decide) (by decide)).mono ?_
      rintro e w2 ⟨z, rfl, hz, hf2, hc2⟩
      have hz' : 0 ≤ z ∧ z ≤ 100 := by simp at hz; omega
      go_wp2_with fail
      go_returns
      exact ⟨z, rfl, hz', (fr_alloc hf1 _).trans hf2, hc2.more (by omega)⟩
theorem cell_frP {g b o : Nat} {a w : World} (h : Fr g (g + 1) a w) (hb : b < a.heap.size) (hne : b ≠ g) : w.cell? ⟨b, o, none⟩ = a.cell? ⟨b, o, none⟩ := World.cell?_of_block (w := a) (a := ⟨b, _, none⟩) (h.block b hb (by omega))
set_option maxRecDepth 100000 in
set_option maxHeartbeats 1600000 in
theorem item18_c (g m lo : Nat) (w : World) (h : Cur g m w) (hm : m ≤ 1099500000000) (v : Value) (ms : List PageM) (xs : List Page) (hd : DrP lo v ms xs w) (hg : g < lo) (hn : xs.length ≤ 20) (hok : ∀ x ∈ xs, OkP x) :
    Calls Tryz.prog 44 #[.pointer (some ⟨g, 0, none⟩), v] w fun e w' => ∃ z : Int, e = .returned (.int .i64 z) ∧ (0 ≤ z ∧ z ≤ 1000) ∧ Fr g (g + 1) w w' ∧ Cur g (m + 8) w' := by
  have hg0 := h.1
  obtain ⟨A, c, rfl, hcap, hr⟩ := hd.shape
  have HD := Lib.hid hd
  clear hd
  have HY := Lib.hid hok
  clear hok
  go_enter Tryz.func44, Tryz.ntmps44
  go_upto_region 1 with fail
  go_cut [12] (fun v wx => ∃ t : Bool, v = .bool t ∧ (t = false → 0 < xs.length) ∧ Fr g (g + 1) w wx ∧ Cur g (m + 2) wx)
  case first =>
    by_cases h0 : xs.length = 0
    · have h0' : ((xs.length : Int) == 0) = true := by rw [h0]; rfl
      clear h0
      go_wp2_with fail
      go_meet
      exact ⟨true, rfl, fun h => (by cases h), Fr.refl _ _ _, h.more (by omega)⟩
    · have h0' : ((xs.length : Int) == 0) = false := by simp only [beq_eq_false_iff_ne, ne_eq]; omega
      have hpos : 0 < xs.length := by omega
      clear h0
      go_wp2_with fail
      refine (one_c g _ 3 _ h (by omega) (by decide)).mono ?_
      rintro e w1 ⟨t, rfl, hf1, hc1⟩
      go_wp2_with fail
      go_meet
      exact ⟨_, rfl, fun _ => hpos, hf1, hc1⟩
  case rest =>
  obtain ⟨t, rfl, ht, hf1, hc1⟩ := hcut
  have HD1 := Lib.hid (HD.out.fr_ hf1 hg)
  have hW0 : g < wc.heap.size := hc1.1
  clear hr h
  cases t
  · have hpos := ht rfl
    clear ht
    go_wp2_with fail
    refine (pick_c g _ xs.length _ hc1 (by omega) (by omega)).mono ?_
    rintro e w2 ⟨r, rfl, hr0, _, hr1, hr2, hf2, hc2⟩
    obtain ⟨k, hk, rfl⟩ := pick_nat hr0 hr1 hr2 hpos
    obtain ⟨A', c', hv, _, hr3⟩ := (HD1.out.fr_ hf2 hg).shape
    injection hv with hA hnn hcc
    subst hA hcc
    have hd2 := HD1.out.fr_ hf2 hg
    obtain ⟨b, off, Ai, ci, rfl, hbs, d0, d1, d2, d3, hci, hri⟩ := hr3.page hk
    have hAg : 0 < xs[k].items.length → ∀ b off, Ai = some ⟨b, off, none⟩ → b ≠ g := fun hn q o e => by
      have hmk : k < ms.length := by rw [hd2.2.1]; exact hk
      obtain ⟨h1, _⟩ := hd2.2.2 k ms[k] xs[k] (List.getElem?_eq_getElem hmk) (List.getElem?_eq_getElem hk)
      obtain ⟨A2, c2, hv2, _, hown⟩ := hd2.1.ownC encPM_len
      injection hv2 with hA2 _ _
      obtain ⟨b2, o2, hA3, _, _, hcell, _⟩ := hown.2 (by omega)
      rw [← hA2] at hA3
      obtain ⟨rfl, rfl⟩ := addr_eq hA3
      have hc3 := hcell k ms[k] (List.getElem?_eq_getElem hmk) 3 _ rfl
      rw [d3] at hc3
      injection hc3 with hc3
      injection hc3 with hc4 _ _
      have := h1.2.2.2.2.2.2 (by rw [h1.2.2.2.1]; exact hn) q o (by rw [← hc4]; exact e)
      omega
    have hokk := HY.out xs[k] (List.getElem_mem hk)
    have hk0 : (0 : Int) ≤ (k : Int) := by omega
    have hk1 : (k : Int) < (xs.length : Int) := by omega
    have hf2 := hf1.trans hf2
    have HI := Lib.hid hri
    have HAG := Lib.hid hAg
    obtain ⟨_, _, _, hil, hiz⟩ := hokk
    have HIZ := Lib.hid hiz
    clear hnn hr0 hr1 hr2 hr3 hd2 hri hAg hc1 hiz
    go_upto_region 4 with fail
    have hbx := boxV_new g w2 [.int .i64 xs[k].id, .string xs[k].title, .int .i64 xs[k].under, .slice Ai xs[k].items.length ci] 56 hc2.1
    have hc4 := hc2.alloc (.cells #[.int .i64 xs[k].id, .string xs[k].title, .int .i64 xs[k].under, .slice Ai xs[k].items.length ci] 56)
    have hf4 := fr_alloc hf2 (.cells #[.int .i64 xs[k].id, .string xs[k].title, .int .i64 xs[k].under, .slice Ai xs[k].items.length ci] 56)
    have hr4 := HI.out.go ((Below.refl w2.heap.size w2).alloc (Nat.le_refl _) (.cells #[.int .i64 xs[k].id, .string xs[k].title, .int .i64 xs[k].under, .slice Ai xs[k].items.length ci] 56))
    simp only [List.toArray] at hbx
    generalize w2.alloc (.cells #[.int .i64 xs[k].id, .string xs[k].title, .int .i64 xs[k].under, .slice Ai xs[k].items.length ci] 56) = V at *
    generalize w2.heap.size = hp at *
    obtain ⟨hpg, hpl, _, hpc⟩ := hbx
    have e3 := hpc 3 _ rfl
    have HR4 := Lib.hid hr4
    clear hpc hc2 hf2 HI d0 d1 d2 d3 hr4
    generalize xs[k].items = IT at *
    by_cases hz : IT.length = 0
    · have hz' : ((IT.length : Int) == 0) = true := by rw [hz]; rfl
      clear hz
      go_wp2_with fail
      go_returns
      exact ⟨8, rfl, by omega, hf4, hc4.more (by omega)⟩
    · have hz' : ((IT.length : Int) == 0) = false := by simp only [beq_eq_false_iff_ne, ne_eq]; omega
      have hip : 0 < IT.length := by omega
      clear hz
      go_wp2_with fail
      have hcV : Cur g (m + 4) V.drew := hc4.more (by omega)
      go_region_law (go_simp; go_at_call 52; refine (pick_c g _ IT.length _ hcV (by omega) (by omega)).mono ?_; rintro e w6 ⟨r, rfl, hr0, _, hr1, hr2, hf6, hc6⟩; obtain ⟨q, hq, rfl⟩ := pick_nat hr0 hr1 hr2 hip; have hf6' : Fr g (g + 1) V w6 := (Fr.of_below (Below.refl V.heap.size V).drew).trans hf6; have e6 := (cell_frP hf6' hpl hpg).trans e3; obtain ⟨b6, o6, hA6, hb6, q6⟩ := (show Rd encI 1 w6.heap.size w6 Ai IT from fun hn => HR4.out.fr (HAG.out hn) hf6' hn).int hq; subst hA6; have hq0 : (0 : Int) ≤ (q : Int) := (by omega); have hq1 : (q : Int) < (IT.length : Int) := (by omega))
      all_goals
        have hzz := HIZ.out _ (List.getElem_mem hq)
        generalize IT[q] = z at *
        go_wp2_with fail
        go_returns
        exact ⟨z, rfl, hzz, hf4.trans hf6', hc6.more (by omega)⟩
  · have hlit0 := rd_litI wc [1, 7, 31, 999, 0, 1000] 3
    go_wp2_with fail
    refine (pick_c g _ 24 _ (hc1.alloc (.cells ([1, 7, 31, 999, 0, 1000].map (Value.int .i64)).toArray 3)) (by omega) (by decide)).mono ?_
    rintro e w3 ⟨r, rfl, hr0, _, hr1, _, hf3, hc3⟩
    have hr2 := hr1 (by decide)
    have hlit := hlit0.fr (new_ne hW0) hf3
    have hf3 := (fr_alloc hf1 _).trans hf3
    have hcs : ∃ (t : Nat), 4 + r / 11 = (t : Int) ∧ 4 ≤ t ∧ t ≤ 6 := ⟨(4 + r / 11).toNat, by omega, by omega, by omega⟩
    clear hr1 hcs hlit0 hc1
    have h3 : r / 11 = 0 ∨ r / 11 = 1 ∨ r / 11 = 2 := by omega
    rcases h3 with h3 | h3 | h3
    · go_wp2_with fail
      refine (among_c g _ (List.take 4 [1, 7, 31, 999, 0, 1000]) _ 6 _ hc3 (by omega) (hlit.take 4) (new_ne hW0) (by decide) (by decide)).mono ?_
      rintro e w9 ⟨z, rfl, hx, hf9, hc9⟩
      have hz' : 0 ≤ z ∧ z ≤ 1000 := by simp at hx; omega
      go_wp2_with fail
      go_returns
      exact ⟨z, rfl, hz', hf3.trans hf9, hc9.more (by omega)⟩
    · go_wp2_with fail
      refine (among_c g _ (List.take 5 [1, 7, 31, 999, 0, 1000]) _ 6 _ hc3 (by omega) (hlit.take 5) (new_ne hW0) (by decide) (by decide)).mono ?_
      rintro e w9 ⟨z, rfl, hx, hf9, hc9⟩
      have hz' : 0 ≤ z ∧ z ≤ 1000 := by simp at hx; omega
      go_wp2_with fail
      go_returns
      exact ⟨z, rfl, hz', hf3.trans hf9, hc9.more (by omega)⟩
    · go_wp2_with fail
      refine (among_c g _ (List.take 6 [1, 7, 31, 999, 0, 1000]) _ 6 _ hc3 (by omega) (hlit.take 6) (new_ne hW0) (by decide) (by decide)).mono ?_
      rintro e w9 ⟨z, rfl, hx, hf9, hc9⟩
      have hz' : 0 ≤ z ∧ z ≤ 1000 := by simp at hx; omega
      go_wp2_with fail
      go_returns
      exact ⟨z, rfl, hz', hf3.trans hf9, hc9.more (by omega)⟩
end Go.Proofs.YtpjnlcppjcnlgaaGreatDoor
namespace Go.Proofs.YtpjnlcppjcnlgaaGreatDoor
set_option linter.unusedVariables false
set_option linter.unusedSimpArgs false
open Go.RowKit
section
variable {α : Type} {enc : α → List Value} {k : Nat} {E : TypeId} {base : Nat} {v : Value} {ys : List α} {w w' : World}
theorem OutR.openedR (h : OutR enc k E base v ys w) (hl : ∀ x, (enc x).length = k) (hn : 0 < ys.length) : ∃ g c, v = .slice (some ⟨g, 0, none⟩) ys.length c ∧ ys.length ≤ c ∧ base ≤ g ∧ g < w.heap.size ∧ (∀ o, w.frozen? ⟨g, o, none⟩ = false) ∧ ∀ (i : Nat) (x : α), ys[i]? = some x → ∀ (j : Nat) (u : Value), (enc x)[j]? = some u → w.cell? ⟨g, i * k + j, none⟩ = some u := by
  obtain ⟨A, c, rfl, ho, hc⟩ := h.own hl
  obtain ⟨b, off, rfl, h1, h2, h3, h4⟩ := ho.2 hn
  have h0 : off = 0 := by
    rcases h.2 with ⟨h5, _⟩ | ⟨g, cap, cur, h5, _⟩
    · cases h5
    · injection h5 with h5; injection h5 with h5; injection h5
  subst h0
  exact ⟨b, c, rfl, hc, h1, h2, h4, fun i x hx j u hu => by simpa using h3 i x hx j u hu⟩
theorem flat_setR {m' : α} : ∀ {ys : List α} {i j : Nat} {u : Value} (_ : ∀ x, (enc x).length = k) (hi : i < ys.length) (_ : j < k) (_ : enc m' = (enc ys[i]).set j u), (ys.flatMap enc).set (i * k + j) u = (ys.set i m').flatMap enc
  | y :: ys, 0, j, u, hl, hi, hj, he => by
    simp only [List.getElem_cons_zero] at he
    simp only [List.set_cons_zero, List.flatMap_cons, Nat.zero_mul, Nat.zero_add]
    rw [List.set_append_left _ _ (by rw [hl]; exact hj), he]
  | y :: ys, i + 1, j, u, hl, hi, hj, he => by
    simp only [List.getElem_cons_succ] at he
    simp only [List.set_cons_succ, List.flatMap_cons]
    have hge : (enc y).length ≤ (i + 1) * k + j := by rw [hl, Nat.add_mul]; omega
    rw [List.set_append_right _ _ hge, hl]
    have : (i + 1) * k + j - k = i * k + j := by rw [Nat.add_mul]; omega
    rw [this, flat_setR hl (by simpa using hi) hj he]
theorem OutR.cellSetR {g n c i j : Nat} {u : Value} {m' : α} (h : OutR enc k E base (.slice (some ⟨g, 0, none⟩) n c) ys w) (hl : ∀ x, (enc x).length = k) (hi : i < ys.length) (hj : j < k) (he : enc m' = (enc ys[i]).set j u) : OutR enc k E base (.slice (some ⟨g, 0, none⟩) n c) (ys.set i m') (w.setCell ⟨g, i * k + j, none⟩ u) := by
  have hn : n = ys.length := by
    rcases h.2 with ⟨h1, _⟩ | ⟨g', cap', cur, h1, _⟩
    · cases h1
    · injection h1
  subst hn
  have := (World.ownsRow.stored h (i * k + j) u).1
  unfold OutR
  rw [List.length_set, ← flat_setR hl hi hj he]
  exact this
end
end Go.Proofs.YtpjnlcppjcnlgaaGreatDoor
namespace Go.Proofs.YtpjnlcppjcnlgaaGreatDoor
set_option linter.unusedVariables false
set_option linter.unusedSimpArgs false
open Go.RowKit
section
variable {lo : Nat} {v v' : Value} {ms : List PageM} {ps : List Page} {w w' : World} {m : PageM} {p : Page}
theorem rd_onePM {b : Nat} {x : PageM} (e0 : w.cell? ⟨b, 0, none⟩ = some (.int .i64 x.id)) (e1 : w.cell? ⟨b, 1, none⟩ = some (.string x.title)) (e2 : w.cell? ⟨b, 2, none⟩ = some (.int .i64 x.under)) (e3 : w.cell? ⟨b, 3, none⟩ = some (.slice x.A x.n x.c)) : Rd encPM 4 w.heap.size w (some ⟨b, 0, none⟩) [x] := fun _ =>
  ⟨b, 0, rfl, cell_lt e0, fun i y hy j v hv => by
    have hi : i = 0 := by have := (List.getElem?_eq_some_iff.1 hy).1; simp at this; omega
    subst hi
    have hy' : y = x := by simpa using hy.symm
    subst hy'
    have hj : j < 4 := by have := (List.getElem?_eq_some_iff.1 hv).1; simpa [encPM] using this
    match j, hj with
    | 0, _ => have hv' : v = .int .i64 y.id := by simpa [encPM] using hv.symm
              subst hv'; exact e0
    | 1, _ => have hv' : v = .string y.title := by simpa [encPM] using hv.symm
              subst hv'; exact e1
    | 2, _ => have hv' : v = .int .i64 y.under := by simpa [encPM] using hv.symm
              subst hv'; exact e2
    | 3, _ => have hv' : v = .slice y.A y.n y.c := by simpa [encPM] using hv.symm
              subst hv'; exact e3⟩
theorem rd_newP {α : Type} {enc : α → List Value} {k q : Nat} {x : α} {vs : List Value} {E : TypeId} (hp : q = w.heap.size) (he : enc x = vs) (hl : (enc x).length = k) : Rd enc k (w.alloc (.cells vs.toArray E)).heap.size (w.alloc (.cells vs.toArray E)) (some ⟨q, 0, none⟩) [x] := by subst hp; exact rd_new he hl
theorem OutR.growA {α : Type} {enc : α → List Value} {k base : Nat} {E : TypeId} {ys : List α} (h : OutR enc k E base v ys w) (hle : base ≤ w.heap.size) (hg : w.grownBy w' v.ownBlock) : Below base w w' := below_grown (Below.refl _ _) hle hg (fun g e => (World.ownsRow.lt h g e).1)
theorem DrP.rdm {A : Option Addr} {n c : Nat} (h : DrP lo (.slice A n c) ms ps w) : Rd encPM 4 w.heap.size w A ms := by
  obtain ⟨A', c', hv, _, ho⟩ := h.1.ownC encPM_len
  injection hv with hA _ _
  subst hA
  exact ho.rd
theorem DrP.next (h : DrP lo v ms ps w) (hl : lo ≤ w.heap.size) (hm : PgIn lo w m p) (hb : Below w.heap.size w w') (ho : OutR encPM 4 56 w.heap.size v' (ms ++ [m]) w') : DrP lo v' (ms ++ [m]) (ps ++ [p]) w' := by
  have hkey : ∀ (x : PageM) (y : Page), PgIn lo w x y → PgIn lo w' x y ∧ (0 < x.n → ∀ b off, x.A = some ⟨b, off, none⟩ → v'.ownBlock ≠ some b) := fun x y h1 =>
    ⟨h1.below_ hb, fun hn b off hA e => by have h2 := h1.lt hn hA; have h3 := ho.from_ b e; omega⟩
  refine ⟨ho.freshR hl, by simp [h.2.1], fun i x y hx hy => ?_⟩
  by_cases hi : i < ms.length
  · rw [List.getElem?_append_left hi] at hx
    rw [List.getElem?_append_left (by rw [← h.2.1]; exact hi)] at hy
    exact hkey x y (h.2.2 i x y hx hy).1
  · have hl := (List.getElem?_eq_some_iff.1 hx).1
    have he : i = ms.length := by simp at hl; omega
    subst he
    rw [List.getElem?_append_right (Nat.le_refl _), Nat.sub_self] at hx
    rw [List.getElem?_append_right (by rw [h.2.1]; exact Nat.le_refl _), h.2.1, Nat.sub_self] at hy
    simp at hx hy
    subst hx hy
    exact hkey _ _ hm
theorem OutR.setPM {g n c i base : Nat} {E : TypeId} (h : OutR encPM 4 E base (.slice (some ⟨g, 0, none⟩) n c) ms w) (hi : i < ms.length) (m : PageM) : OutR encPM 4 E base (.slice (some ⟨g, 0, none⟩) n c) (ms.set i m) ((((w.setCell ⟨g, i * 4, none⟩ (.int .i64 m.id)).setCell ⟨g, i * 4 + 1, none⟩ (.string m.title)).setCell ⟨g, i * 4 + 2, none⟩ (.int .i64 m.under)).setCell ⟨g, i * 4 + 3, none⟩ (.slice m.A m.n m.c)) := by
  have h1 := h.cellSetR (j := 0) (u := .int .i64 m.id) (m' := ⟨m.id, ms[i].title, ms[i].under, ms[i].A, ms[i].n, ms[i].c⟩) encPM_len hi (by omega) rfl
  have h2 := h1.cellSetR (i := i) (j := 1) (u := .string m.title) (m' := ⟨m.id, m.title, ms[i].under, ms[i].A, ms[i].n, ms[i].c⟩) encPM_len (by simpa using hi) (by omega) (by rw [List.getElem_set_self]; rfl)
  have h3 := h2.cellSetR (i := i) (j := 2) (u := .int .i64 m.under) (m' := ⟨m.id, m.title, m.under, ms[i].A, ms[i].n, ms[i].c⟩) encPM_len (by simpa using hi) (by omega) (by rw [List.getElem_set_self]; rfl)
  have h4 := h3.cellSetR (i := i) (j := 3) (u := .slice m.A m.n m.c) (m' := ⟨m.id, m.title, m.under, m.A, m.n, m.c⟩) encPM_len (by simpa using hi) (by omega) (by rw [List.getElem_set_self]; rfl)
  simpa using h4
theorem fr_set4 {g : Nat} (w : World) (a0 a1 a2 a3 : Nat) (u0 u1 u2 u3 : Value) : Fr g (g + 1) w ((((w.setCell ⟨g, a0, none⟩ u0).setCell ⟨g, a1, none⟩ u1).setCell ⟨g, a2, none⟩ u2).setCell ⟨g, a3, none⟩ u3) :=
  ((((Fr.refl g (g + 1) w).setCell (p := ⟨g, a0, none⟩) (Nat.le_refl _) (Nat.lt_succ_self _) u0).setCell (p := ⟨g, a1, none⟩) (Nat.le_refl _) (Nat.lt_succ_self _) u1).setCell (p := ⟨g, a2, none⟩) (Nat.le_refl _) (Nat.lt_succ_self _) u2).setCell (p := ⟨g, a3, none⟩) (Nat.le_refl _) (Nat.lt_succ_self _) u3
theorem fr_setPM {lo hi q i : Nat} {a w : World} (m : PageM) (h : Fr lo hi a w) (hp : a.heap.size ≤ q) : Fr lo hi a ((((w.setCell ⟨q, i * 4, none⟩ (.int .i64 m.id)).setCell ⟨q, i * 4 + 1, none⟩ (.string m.title)).setCell ⟨q, i * 4 + 2, none⟩ (.int .i64 m.under)).setCell ⟨q, i * 4 + 3, none⟩ (.slice m.A m.n m.c)) := fr_set (fr_set (fr_set (fr_set h hp) hp) hp) hp
theorem cur_setPM {g n q i : Nat} {w : World} (m : PageM) (h : Cur g n w) (hp : g < q) : Cur g n ((((w.setCell ⟨q, i * 4, none⟩ (.int .i64 m.id)).setCell ⟨q, i * 4 + 1, none⟩ (.string m.title)).setCell ⟨q, i * 4 + 2, none⟩ (.int .i64 m.under)).setCell ⟨q, i * 4 + 3, none⟩ (.slice m.A m.n m.c)) := cur_set (cur_set (cur_set (cur_set h hp) hp) hp) hp
theorem DrP.setAt {g n c i : Nat} (h : DrP lo (.slice (some ⟨g, 0, none⟩) n c) ms ps w) (hi : i < ps.length) (hm : PgIn lo w m p) (hne : 0 < m.n → ∀ b off, m.A = some ⟨b, off, none⟩ → b ≠ g) :
    DrP lo (.slice (some ⟨g, 0, none⟩) n c) (ms.set i m) (ps.set i p) ((((w.setCell ⟨g, i * 4, none⟩ (.int .i64 m.id)).setCell ⟨g, i * 4 + 1, none⟩ (.string m.title)).setCell ⟨g, i * 4 + 2, none⟩ (.int .i64 m.under)).setCell ⟨g, i * 4 + 3, none⟩ (.slice m.A m.n m.c)) := by
  have hG := fr_grownP (fr_set4 (g := g) w (i * 4) (i * 4 + 1) (i * 4 + 2) (i * 4 + 3) (.int .i64 m.id) (.string m.title) (.int .i64 m.under) (.slice m.A m.n m.c))
  have hob : (Value.slice (some ⟨g, 0, none⟩) n c).ownBlock = some g := rfl
  refine ⟨h.1.setPM (by rw [h.2.1]; exact hi) m, by simp [h.2.1], fun k x y hx hy => ?_⟩
  by_cases hk : i = k
  · subst hk
    rw [List.getElem?_set_self (by rw [h.2.1]; exact hi)] at hx
    rw [List.getElem?_set_self hi] at hy
    injection hx with hx
    injection hy with hy
    subst hx hy
    exact ⟨hm.grown hG fun hn b off hA e => by injection e with e; exact hne hn b off hA e.symm, fun hn b off hA e => by rw [hob] at e; injection e with e; exact hne hn b off hA e.symm⟩
  · rw [List.getElem?_set_ne hk] at hx hy
    obtain ⟨h1, h2⟩ := h.2.2 k x y hx hy
    exact ⟨h1.grown hG fun hn b off hA e => h2 hn b off hA (hob.trans e), h2⟩
theorem DrP.at4 {q n c i : Nat} (h : DrP lo (.slice (some ⟨q, 0, none⟩) n c) ms ps w) (hi : i < ms.length) : lo ≤ q ∧ q < w.heap.size ∧ (∀ o, w.frozen? ⟨q, o, none⟩ = false) ∧ w.cell? ⟨q, i * 4, none⟩ = some (.int .i64 ms[i].id) ∧ w.cell? ⟨q, i * 4 + 1, none⟩ = some (.string ms[i].title) ∧ w.cell? ⟨q, i * 4 + 2, none⟩ = some (.int .i64 ms[i].under) ∧ w.cell? ⟨q, i * 4 + 3, none⟩ = some (.slice ms[i].A ms[i].n ms[i].c) := by
  obtain ⟨q', c', hv, _, hb, hql, hqf, hcell⟩ := h.1.openedR encPM_len (by omega)
  injection hv with hA
  injection hA with hA
  injection hA with hA
  subst hA
  exact ⟨hb, hql, hqf, by simpa using hcell i ms[i] (List.getElem?_eq_getElem hi) 0 _ rfl, hcell i ms[i] (List.getElem?_eq_getElem hi) 1 _ rfl, hcell i ms[i] (List.getElem?_eq_getElem hi) 2 _ rfl, hcell i ms[i] (List.getElem?_eq_getElem hi) 3 _ rfl⟩
theorem pgIn_own {z u : Int} {t : ByteArray} {A : Option Addr} {ys : List Int} {c lo' hi' : Nat} (h : Own encI 1 lo' hi' w A ys) (hl : lo ≤ lo') (hc : ys.length ≤ c) : PgIn lo w ⟨z, t, u, A, ys.length, c⟩ ⟨z, t, u, ys⟩ :=
  ⟨rfl, rfl, rfl, rfl, hc, h.rd, fun hn b off hA => by
    obtain ⟨b', off', hA', h1, _⟩ := h.2 hn
    simp only at hA
    rw [hA'] at hA
    obtain ⟨rfl, _⟩ := addr_eq hA
    omega⟩
theorem PgIn.re {i i' : Int} {t t' : ByteArray} {u u' : Int} {A : Option Addr} {n c : Nat} {ys : List Int} (h : PgIn lo w ⟨i, t, u, A, n, c⟩ ⟨i', t', u', ys⟩) (a : Int) (b : ByteArray) (d : Int) : PgIn lo w ⟨a, b, d, A, n, c⟩ ⟨a, b, d, ys⟩ := ⟨rfl, rfl, rfl, h.2.2.2.1, h.2.2.2.2.1, h.2.2.2.2.2.1, h.2.2.2.2.2.2⟩
theorem pgIn_rd {z u : Int} {t : ByteArray} {A : Option Addr} {ys : List Int} {c : Nat} (h : Rd encI 1 w.heap.size w A ys) (hc : ys.length ≤ c) (hl : ∀ b off, A = some ⟨b, off, none⟩ → lo ≤ b) : PgIn lo w ⟨z, t, u, A, ys.length, c⟩ ⟨z, t, u, ys⟩ := ⟨rfl, rfl, rfl, rfl, hc, h, fun _ => hl⟩
theorem new_neQ {g q : Nat} (h : g < q) : ∀ b off, (some ⟨q, 0, none⟩ : Option Addr) = some ⟨b, off, none⟩ → b ≠ g := fun b off e => by injection e with e; injection e with e1 _; omega
theorem okP_set {xs : List Page} {n : Nat} {y : Page} (h : ∀ x ∈ xs, OkP x) (hy : OkP y) : ∀ x ∈ xs.set n y, OkP x := fun x hx => by
  rcases List.mem_or_eq_of_mem_set hx with h' | rfl
  · exact h x h'
  · exact hy
theorem okP_snoc {xs : List Page} {y : Page} (h : ∀ x ∈ xs, OkP x) (hy : OkP y) : ∀ x ∈ xs ++ [y], OkP x := fun x hx => by
  rcases List.mem_append.1 hx with h' | h'
  · exact h x h'
  · simp at h'; subst h'; exact hy
theorem sumI_8p : ∀ (ps : List Page), (∀ p ∈ ps, p.items.length ≤ 8) → sumI ps ≤ 8 * ps.length
  | [], _ => by simp [sumI]
  | p :: ps, h => by
    have ih := sumI_8p ps (fun q hq => h q (List.mem_cons_of_mem _ hq))
    have := h p (List.mem_cons_self ..)
    rw [sumI_cons, List.length_cons]; omega
theorem sum_okP {xs : List Page} (h : ∀ x ∈ xs, OkP x) : sumI xs ≤ 8 * xs.length := sumI_8p xs fun p hp => (h p hp).2.2.2.1
theorem hw_okP {xs : List Page} (h : ∀ x ∈ xs, OkP x) : ∀ x ∈ xs, x.title.size ≤ 9223372036854775807 ∧ x.items.length ≤ 9223372036854775807 ∧ ∀ z ∈ x.items, Fits z := fun x hx => by
  obtain ⟨_, h2, _, h4, h5⟩ := h x hx
  exact ⟨by omega, by omega, fun z hz => by have := h5 z hz; unfold Fits; omega⟩
end
end Go.Proofs.YtpjnlcppjcnlgaaGreatDoor
