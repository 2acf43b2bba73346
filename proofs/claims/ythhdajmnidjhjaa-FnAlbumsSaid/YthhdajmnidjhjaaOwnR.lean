/- A slice of records of the call's own: its cells, and one cell of one record stored. No condition of its own. -/
import Derived.Test.YthhdajmnidjhjaaApp2
import Derived.Test.YthhdajmnidjhjaaAlDraw
namespace Go.Proofs.Ythhdajmnidjhjaa
set_option linter.unusedVariables false
set_option linter.unusedSimpArgs false
open Go.RowKit
section
variable {α : Type} {enc : α → List Value} {k : Nat} {E : TypeId} {base : Nat} {v : Value} {ys : List α} {w w' : World}
theorem OutR.openedR (h : OutR enc k E base v ys w) (hl : ∀ x, (enc x).length = k) (hn : 0 < ys.length) : ∃ g c, v = .slice (some ⟨g, 0, none⟩) ys.length c ∧ ys.length ≤ c ∧ base ≤ g ∧ g < w.heap.size ∧ (∀ o, w.frozen? ⟨g, o, none⟩ = false) ∧ ∀ (i : Nat) (x : α), ys[i]? = some x → ∀ (j : Nat) (u : Value), (enc x)[j]? = some u → w.cell? ⟨g, i * k + j, none⟩ = some u := by
  obtain ⟨A, c, rfl, ho, hc⟩ := h.own hl
  obtain ⟨b, off, rfl, h1, h2, h3, h4⟩ := ho.2 hn
  have h0 : off = 0 := by
    rcases h.2 with ⟨h5, _⟩ | ⟨g, cap, cur, h5, _⟩
    · cases h5
    · injection h5 with h5; injection h5 with h5; injection h5
  subst h0
  exact ⟨b, c, rfl, hc, h1, h2, h4, fun i x hx j u hu => by simpa using h3 i x hx j u hu⟩
theorem flat_setR {m' : α} : ∀ {ys : List α} {i j : Nat} {u : Value} (_ : ∀ x, (enc x).length = k) (hi : i < ys.length) (_ : j < k) (_ : enc m' = (enc ys[i]).set j u), (ys.flatMap enc).set (i * k + j) u = (ys.set i m').flatMap enc
  | y :: ys, 0, j, u, hl, hi, hj, he => by
    simp only [List.getElem_cons_zero] at he
    simp only [List.set_cons_zero, List.flatMap_cons, Nat.zero_mul, Nat.zero_add]
    rw [List.set_append_left _ _ (by rw [hl]; exact hj), he]
  | y :: ys, i + 1, j, u, hl, hi, hj, he => by
    simp only [List.getElem_cons_succ] at he
    simp only [List.set_cons_succ, List.flatMap_cons]
    have hge : (enc y).length ≤ (i + 1) * k + j := by rw [hl, Nat.add_mul]; omega
    rw [List.set_append_right _ _ hge, hl]
    have : (i + 1) * k + j - k = i * k + j := by rw [Nat.add_mul]; omega
    rw [this, flat_setR hl (by simpa using hi) hj he]
theorem OutR.cellSetR {g n c i j : Nat} {u : Value} {m' : α} (h : OutR enc k E base (.slice (some ⟨g, 0, none⟩) n c) ys w) (hl : ∀ x, (enc x).length = k) (hi : i < ys.length) (hj : j < k) (he : enc m' = (enc ys[i]).set j u) : OutR enc k E base (.slice (some ⟨g, 0, none⟩) n c) (ys.set i m') (w.setCell ⟨g, i * k + j, none⟩ u) := by
  have hn : n = ys.length := by
    rcases h.2 with ⟨h1, _⟩ | ⟨g', cap', cur, h1, _⟩
    · cases h1
    · injection h1
  subst hn
  have := (World.ownsRow.stored h (i * k + j) u).1
  unfold OutR
  rw [List.length_set, ← flat_setR hl hi hj he]
  exact this
end
end Go.Proofs.Ythhdajmnidjhjaa
namespace Go.Proofs.Ythhdajmnidjhjaa
set_option linter.unusedVariables false
set_option linter.unusedSimpArgs false
open Go.RowKit
section
variable {lo : Nat} {v v' : Value} {ms : List PageM} {ps : List Page} {w w' : World} {m : PageM} {p : Page}
theorem rd_onePM {b : Nat} {x : PageM} (e0 : w.cell? ⟨b, 0, none⟩ = some (.int .i64 x.id)) (e1 : w.cell? ⟨b, 1, none⟩ = some (.string x.title)) (e2 : w.cell? ⟨b, 2, none⟩ = some (.int .i64 x.under)) (e3 : w.cell? ⟨b, 3, none⟩ = some (.slice x.A x.n x.c)) : Rd encPM 4 w.heap.size w (some ⟨b, 0, none⟩) [x] := fun _ =>
  ⟨b, 0, rfl, cell_lt e0, fun i y hy j v hv => by
    have hi : i = 0 := by have := (List.getElem?_eq_some_iff.1 hy).1; simp at this; omega
    subst hi
    have hy' : y = x := by simpa using hy.symm
    subst hy'
    have hj : j < 4 := by have := (List.getElem?_eq_some_iff.1 hv).1; simpa [encPM] using this
    match j, hj with
    | 0, _ => have hv' : v = .int .i64 y.id := by simpa [encPM] using hv.symm
              subst hv'; exact e0
    | 1, _ => have hv' : v = .string y.title := by simpa [encPM] using hv.symm
              subst hv'; exact e1
    | 2, _ => have hv' : v = .int .i64 y.under := by simpa [encPM] using hv.symm
              subst hv'; exact e2
    | 3, _ => have hv' : v = .slice y.A y.n y.c := by simpa [encPM] using hv.symm
              subst hv'; exact e3⟩
theorem rd_newP {α : Type} {enc : α → List Value} {k q : Nat} {x : α} {vs : List Value} {E : TypeId} (hp : q = w.heap.size) (he : enc x = vs) (hl : (enc x).length = k) : Rd enc k (w.alloc (.cells vs.toArray E)).heap.size (w.alloc (.cells vs.toArray E)) (some ⟨q, 0, none⟩) [x] := by subst hp; exact rd_new he hl
theorem OutR.growA {α : Type} {enc : α → List Value} {k base : Nat} {E : TypeId} {ys : List α} (h : OutR enc k E base v ys w) (hle : base ≤ w.heap.size) (hg : w.grownBy w' v.ownBlock) : Below base w w' := below_grown (Below.refl _ _) hle hg (fun g e => (World.ownsRow.lt h g e).1)
theorem DrP.rdm {A : Option Addr} {n c : Nat} (h : DrP lo (.slice A n c) ms ps w) : Rd encPM 4 w.heap.size w A ms := by
  obtain ⟨A', c', hv, _, ho⟩ := h.1.ownC encPM_len
  injection hv with hA _ _
  subst hA
  exact ho.rd
theorem DrP.next (h : DrP lo v ms ps w) (hl : lo ≤ w.heap.size) (hm : PgIn lo w m p) (hb : Below w.heap.size w w') (ho : OutR encPM 4 43 w.heap.size v' (ms ++ [m]) w') : DrP lo v' (ms ++ [m]) (ps ++ [p]) w' := by
  have hkey : ∀ (x : PageM) (y : Page), PgIn lo w x y → PgIn lo w' x y ∧ (0 < x.n → ∀ b off, x.A = some ⟨b, off, none⟩ → v'.ownBlock ≠ some b) := fun x y h1 =>
    ⟨h1.below_ hb, fun hn b off hA e => by have h2 := h1.lt hn hA; have h3 := ho.from_ b e; omega⟩
  refine ⟨ho.freshR hl, by simp [h.2.1], fun i x y hx hy => ?_⟩
  by_cases hi : i < ms.length
  · rw [List.getElem?_append_left hi] at hx
    rw [List.getElem?_append_left (by rw [← h.2.1]; exact hi)] at hy
    exact hkey x y (h.2.2 i x y hx hy).1
  · have hl := (List.getElem?_eq_some_iff.1 hx).1
    have he : i = ms.length := by simp at hl; omega
    subst he
    rw [List.getElem?_append_right (Nat.le_refl _), Nat.sub_self] at hx
    rw [List.getElem?_append_right (by rw [h.2.1]; exact Nat.le_refl _), h.2.1, Nat.sub_self] at hy
    simp at hx hy
    subst hx hy
    exact hkey _ _ hm
theorem OutR.setPM {g n c i base : Nat} {E : TypeId} (h : OutR encPM 4 E base (.slice (some ⟨g, 0, none⟩) n c) ms w) (hi : i < ms.length) (m : PageM) : OutR encPM 4 E base (.slice (some ⟨g, 0, none⟩) n c) (ms.set i m) ((((w.setCell ⟨g, i * 4, none⟩ (.int .i64 m.id)).setCell ⟨g, i * 4 + 1, none⟩ (.string m.title)).setCell ⟨g, i * 4 + 2, none⟩ (.int .i64 m.under)).setCell ⟨g, i * 4 + 3, none⟩ (.slice m.A m.n m.c)) := by
  have h1 := h.cellSetR (j := 0) (u := .int .i64 m.id) (m' := ⟨m.id, ms[i].title, ms[i].under, ms[i].A, ms[i].n, ms[i].c⟩) encPM_len hi (by omega) rfl
  have h2 := h1.cellSetR (i := i) (j := 1) (u := .string m.title) (m' := ⟨m.id, m.title, ms[i].under, ms[i].A, ms[i].n, ms[i].c⟩) encPM_len (by simpa using hi) (by omega) (by rw [List.getElem_set_self]; rfl)
  have h3 := h2.cellSetR (i := i) (j := 2) (u := .int .i64 m.under) (m' := ⟨m.id, m.title, m.under, ms[i].A, ms[i].n, ms[i].c⟩) encPM_len (by simpa using hi) (by omega) (by rw [List.getElem_set_self]; rfl)
  have h4 := h3.cellSetR (i := i) (j := 3) (u := .slice m.A m.n m.c) (m' := ⟨m.id, m.title, m.under, m.A, m.n, m.c⟩) encPM_len (by simpa using hi) (by omega) (by rw [List.getElem_set_self]; rfl)
  simpa using h4
theorem fr_set4 {g : Nat} (w : World) (a0 a1 a2 a3 : Nat) (u0 u1 u2 u3 : Value) : Fr g (g + 1) w ((((w.setCell ⟨g, a0, none⟩ u0).setCell ⟨g, a1, none⟩ u1).setCell ⟨g, a2, none⟩ u2).setCell ⟨g, a3, none⟩ u3) :=
  ((((Fr.refl g (g + 1) w).setCell (p := ⟨g, a0, none⟩) (Nat.le_refl _) (Nat.lt_succ_self _) u0).setCell (p := ⟨g, a1, none⟩) (Nat.le_refl _) (Nat.lt_succ_self _) u1).setCell (p := ⟨g, a2, none⟩) (Nat.le_refl _) (Nat.lt_succ_self _) u2).setCell (p := ⟨g, a3, none⟩) (Nat.le_refl _) (Nat.lt_succ_self _) u3
theorem fr_setPM {lo hi q i : Nat} {a w : World} (m : PageM) (h : Fr lo hi a w) (hp : a.heap.size ≤ q) : Fr lo hi a ((((w.setCell ⟨q, i * 4, none⟩ (.int .i64 m.id)).setCell ⟨q, i * 4 + 1, none⟩ (.string m.title)).setCell ⟨q, i * 4 + 2, none⟩ (.int .i64 m.under)).setCell ⟨q, i * 4 + 3, none⟩ (.slice m.A m.n m.c)) := fr_set (fr_set (fr_set (fr_set h hp) hp) hp) hp
theorem cur_setPM {g n q i : Nat} {w : World} (m : PageM) (h : Cur g n w) (hp : g < q) : Cur g n ((((w.setCell ⟨q, i * 4, none⟩ (.int .i64 m.id)).setCell ⟨q, i * 4 + 1, none⟩ (.string m.title)).setCell ⟨q, i * 4 + 2, none⟩ (.int .i64 m.under)).setCell ⟨q, i * 4 + 3, none⟩ (.slice m.A m.n m.c)) := cur_set (cur_set (cur_set (cur_set h hp) hp) hp) hp
theorem DrP.setAt {g n c i : Nat} (h : DrP lo (.slice (some ⟨g, 0, none⟩) n c) ms ps w) (hi : i < ps.length) (hm : PgIn lo w m p) (hne : 0 < m.n → ∀ b off, m.A = some ⟨b, off, none⟩ → b ≠ g) :
    DrP lo (.slice (some ⟨g, 0, none⟩) n c) (ms.set i m) (ps.set i p) ((((w.setCell ⟨g, i * 4, none⟩ (.int .i64 m.id)).setCell ⟨g, i * 4 + 1, none⟩ (.string m.title)).setCell ⟨g, i * 4 + 2, none⟩ (.int .i64 m.under)).setCell ⟨g, i * 4 + 3, none⟩ (.slice m.A m.n m.c)) := by
  have hG := fr_grownP (fr_set4 (g := g) w (i * 4) (i * 4 + 1) (i * 4 + 2) (i * 4 + 3) (.int .i64 m.id) (.string m.title) (.int .i64 m.under) (.slice m.A m.n m.c))
  have hob : (Value.slice (some ⟨g, 0, none⟩) n c).ownBlock = some g := rfl
  refine ⟨h.1.setPM (by rw [h.2.1]; exact hi) m, by simp [h.2.1], fun k x y hx hy => ?_⟩
  by_cases hk : i = k
  · subst hk
    rw [List.getElem?_set_self (by rw [h.2.1]; exact hi)] at hx
    rw [List.getElem?_set_self hi] at hy
    injection hx with hx
    injection hy with hy
    subst hx hy
    exact ⟨hm.grown hG fun hn b off hA e => by injection e with e; exact hne hn b off hA e.symm, fun hn b off hA e => by rw [hob] at e; injection e with e; exact hne hn b off hA e.symm⟩
  · rw [List.getElem?_set_ne hk] at hx hy
    obtain ⟨h1, h2⟩ := h.2.2 k x y hx hy
    exact ⟨h1.grown hG fun hn b off hA e => h2 hn b off hA (hob.trans e), h2⟩
theorem DrP.at4 {q n c i : Nat} (h : DrP lo (.slice (some ⟨q, 0, none⟩) n c) ms ps w) (hi : i < ms.length) : lo ≤ q ∧ q < w.heap.size ∧ (∀ o, w.frozen? ⟨q, o, none⟩ = false) ∧ w.cell? ⟨q, i * 4, none⟩ = some (.int .i64 ms[i].id) ∧ w.cell? ⟨q, i * 4 + 1, none⟩ = some (.string ms[i].title) ∧ w.cell? ⟨q, i * 4 + 2, none⟩ = some (.int .i64 ms[i].under) ∧ w.cell? ⟨q, i * 4 + 3, none⟩ = some (.slice ms[i].A ms[i].n ms[i].c) := by
  obtain ⟨q', c', hv, _, hb, hql, hqf, hcell⟩ := h.1.openedR encPM_len (by omega)
  injection hv with hA
  injection hA with hA
  injection hA with hA
  subst hA
  exact ⟨hb, hql, hqf, by simpa using hcell i ms[i] (List.getElem?_eq_getElem hi) 0 _ rfl, hcell i ms[i] (List.getElem?_eq_getElem hi) 1 _ rfl, hcell i ms[i] (List.getElem?_eq_getElem hi) 2 _ rfl, hcell i ms[i] (List.getElem?_eq_getElem hi) 3 _ rfl⟩
theorem pgIn_own {z u : Int} {t : ByteArray} {A : Option Addr} {ys : List Int} {c lo' hi' : Nat} (h : Own encI 1 lo' hi' w A ys) (hl : lo ≤ lo') (hc : ys.length ≤ c) : PgIn lo w ⟨z, t, u, A, ys.length, c⟩ ⟨z, t, u, ys⟩ :=
  ⟨rfl, rfl, rfl, rfl, hc, h.rd, fun hn b off hA => by
    obtain ⟨b', off', hA', h1, _⟩ := h.2 hn
    simp only at hA
    rw [hA'] at hA
    obtain ⟨rfl, _⟩ := addr_eq hA
    omega⟩
theorem PgIn.re {i i' : Int} {t t' : ByteArray} {u u' : Int} {A : Option Addr} {n c : Nat} {ys : List Int} (h : PgIn lo w ⟨i, t, u, A, n, c⟩ ⟨i', t', u', ys⟩) (a : Int) (b : ByteArray) (d : Int) : PgIn lo w ⟨a, b, d, A, n, c⟩ ⟨a, b, d, ys⟩ := ⟨rfl, rfl, rfl, h.2.2.2.1, h.2.2.2.2.1, h.2.2.2.2.2.1, h.2.2.2.2.2.2⟩
theorem pgIn_rd {z u : Int} {t : ByteArray} {A : Option Addr} {ys : List Int} {c : Nat} (h : Rd encI 1 w.heap.size w A ys) (hc : ys.length ≤ c) (hl : ∀ b off, A = some ⟨b, off, none⟩ → lo ≤ b) : PgIn lo w ⟨z, t, u, A, ys.length, c⟩ ⟨z, t, u, ys⟩ := ⟨rfl, rfl, rfl, rfl, hc, h, fun _ => hl⟩
theorem new_neQ {g q : Nat} (h : g < q) : ∀ b off, (some ⟨q, 0, none⟩ : Option Addr) = some ⟨b, off, none⟩ → b ≠ g := fun b off e => by injection e with e; injection e with e1 _; omega
theorem okP_set {xs : List Page} {n : Nat} {y : Page} (h : ∀ x ∈ xs, OkP x) (hy : OkP y) : ∀ x ∈ xs.set n y, OkP x := fun x hx => by
  rcases List.mem_or_eq_of_mem_set hx with h' | rfl
  · exact h x h'
  · exact hy
theorem okP_snoc {xs : List Page} {y : Page} (h : ∀ x ∈ xs, OkP x) (hy : OkP y) : ∀ x ∈ xs ++ [y], OkP x := fun x hx => by
  rcases List.mem_append.1 hx with h' | h'
  · exact h x h'
  · simp at h'; subst h'; exact hy
theorem sumI_8p : ∀ (ps : List Page), (∀ p ∈ ps, p.items.length ≤ 8) → sumI ps ≤ 8 * ps.length
  | [], _ => by simp [sumI]
  | p :: ps, h => by
    have ih := sumI_8p ps (fun q hq => h q (List.mem_cons_of_mem _ hq))
    have := h p (List.mem_cons_self ..)
    rw [sumI_cons, List.length_cons]; omega
theorem sum_okP {xs : List Page} (h : ∀ x ∈ xs, OkP x) : sumI xs ≤ 8 * xs.length := sumI_8p xs fun p hp => (h p hp).2.2.2.1
theorem hw_okP {xs : List Page} (h : ∀ x ∈ xs, OkP x) : ∀ x ∈ xs, x.title.size ≤ 9223372036854775807 ∧ x.items.length ≤ 9223372036854775807 ∧ ∀ z ∈ x.items, Fits z := fun x hx => by
  obtain ⟨_, h2, _, h4, h5⟩ := h x hx
  exact ⟨by omega, by omega, fun z hz => by have := h5 z hz; unfold Fits; omega⟩
end
end Go.Proofs.Ythhdajmnidjhjaa
