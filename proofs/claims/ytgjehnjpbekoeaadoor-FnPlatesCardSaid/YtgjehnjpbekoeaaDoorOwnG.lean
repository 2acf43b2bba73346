/- A list of lists of numbers that a call builds up: pushed to, one of its lists put to. No condition of its own. -/
import Derived.Test.YtgjehnjpbekoeaaDoorOwnSS
import Derived.Test.YtgjehnjpbekoeaaDoorAppH
import Derived.Test.YtgjehnjpbekoeaaDoorOwnR
namespace Go.Proofs.YtgjehnjpbekoeaaDoor
set_option linter.unusedVariables false
set_option linter.unusedSimpArgs false
open Go.RowKit
def SlM.val (m : SlM) : Value := .slice m.A m.n m.c
/-- The slice value v, made by the call (blocks from base on), holds the slices ms, that read as the lists ps, each in a block of its own. -/
def OwnG (base : Nat) (v : Value) (ms : List SlM) (ps : List (List Int)) (w : World) : Prop :=
  OutR encM 1 31 base v ms w ∧ ms.length = ps.length ∧ (∀ (i : Nat) (m : SlM) (p : List Int), ms[i]? = some m → ps[i]? = some p → OutR encI 1 3 base m.val p w) ∧
  ∃ ix : Nat → Nat, ∀ (i : Nat) (m : SlM) (g : Nat), ms[i]? = some m → m.val.ownBlock = some g → ix g = i ∧ v.ownBlock ≠ some g
theorem oneM_ (m : SlM) : ∀ u ∈ encM m, u.oneCell' = true := by intro u hu; simp [encM] at hu; subst hu; rfl
theorem oneI_ (z : Int) : ∀ u ∈ encI z, u.oneCell' = true := by intro u hu; simp [encI] at hu; subst hu; rfl
section
variable {base : Nat} {v v' : Value} {ms : List SlM} {ps : List (List Int)} {w w' w1 w2 : World}
theorem OwnG.nil (w : World) : OwnG base (.slice none 0 0) [] [] w := ⟨OutR.nil w, rfl, by simp, fun _ => 0, by simp⟩
theorem OwnG.empty (w : World) (h : base ≤ w.heap.size) : OwnG base (.slice (some ⟨w.heap.size, 0, none⟩) 0 0) [] [] (w.alloc (.cells #[] 31)) := ⟨OutR.empty w h, rfl, by simp, fun _ => 0, by simp⟩
theorem OwnG.len (h : OwnG base v ms ps w) : ms.length = ps.length := h.2.1
theorem OwnG.below (h : OwnG base v ms ps w) (hb : Below w.heap.size w w') : OwnG base v ms ps w' := by
  obtain ⟨h1, h2, h3, h4⟩ := h
  exact ⟨h1.below hb, h2, fun i m p hm hp => (h3 i m p hm hp).below hb, h4⟩
theorem OwnG.push {m : SlM} {p : List Int} (h : OwnG base v ms ps w) (hb : Below w.heap.size w w2) (hm : OutR encI 1 3 base m.val p w2) (hmb : ∀ g, m.val.ownBlock = some g → w.heap.size ≤ g)
    (ho : OutR encM 1 31 base v' (ms ++ [m]) w') (hg : w2.grownBy w' v.ownBlock) (hv : v'.ownBlock = v.ownBlock ∨ v'.ownBlock = some w2.heap.size) : OwnG base v' (ms ++ [m]) (ps ++ [p]) w' := by
  obtain ⟨h1, h2, h3, ix, h4⟩ := h
  have hin : ∀ (i : Nat) (m : SlM) (hi : i < ms.length), ms[i]? = some m → ∀ g, m.val.ownBlock = some g → g < w.heap.size := fun i m hi hm' g hg' => (h3 i m ps[i] hm' (List.getElem?_eq_getElem (by omega))).lt_ g hg'
  have hmb2 : ∀ g, m.val.ownBlock = some g → g < w2.heap.size := fun g hg' => hm.lt_ g hg'
  refine ⟨ho, by simp [h2], fun i x p' hx hp' => ?_, fun g => if w.heap.size ≤ g then ms.length else ix g, fun i x g hx hgx => ?_⟩
  · by_cases hi : i < ms.length
    · rw [List.getElem?_append_left hi] at hx
      rw [List.getElem?_append_left (by omega)] at hp'
      exact ((h3 i x p' hx hp').below hb).kept_ hg fun g hg' => (h4 i x g hx hg').2
    · have hl := (List.getElem?_eq_some_iff.1 hx).1
      have he : i = ms.length := by simp at hl; omega
      subst he
      rw [List.getElem?_append_right (Nat.le_refl _), Nat.sub_self] at hx
      rw [List.getElem?_append_right (by omega), h2, Nat.sub_self] at hp'
      simp at hx hp'
      subst hx hp'
      exact hm.kept_ hg fun g hg' e => by
        have := h1.lt_ g e
        have := hmb g hg'
        omega
  · by_cases hi : i < ms.length
    · rw [List.getElem?_append_left hi] at hx
      have hlt := hin i x hi hx g hgx
      obtain ⟨e1, e2⟩ := h4 i x g hx hgx
      refine ⟨(if_neg (by omega)).trans e1, fun e => ?_⟩
      rcases hv with hv | hv
      · rw [hv] at e; exact e2 e
      · rw [hv] at e; injection e with e; have := hb.size; omega
    · have hl := (List.getElem?_eq_some_iff.1 hx).1
      have he : i = ms.length := by simp at hl; omega
      subst he
      rw [List.getElem?_append_right (Nat.le_refl _), Nat.sub_self] at hx
      simp at hx
      subst hx
      have h5 := hmb g hgx
      refine ⟨if_pos h5, fun e => ?_⟩
      rcases hv with hv | hv
      · rw [hv] at e; have := h1.lt_ g e; omega
      · rw [hv] at e; injection e with e; have := hmb2 g hgx; omega
theorem OwnG.mod {q n c i : Nat} {m' : SlM} {p' : List Int} (h : OwnG base (.slice (some ⟨q, 0, none⟩) n c) ms ps w) (hi : i < ms.length) (hb : Below w.heap.size w w1) (ho : OutR encI 1 3 base m'.val p' w2) (hg : w1.grownBy w2 ms[i].val.ownBlock)
    (hv : m'.val.ownBlock = ms[i].val.ownBlock ∨ m'.val.ownBlock = some w1.heap.size) : OwnG base (.slice (some ⟨q, 0, none⟩) n c) (ms.set i m') (ps.set i p') (w2.setCell ⟨q, i, none⟩ m'.val) := by
  obtain ⟨h1, h2, h3, ix, h4⟩ := h
  have hq : q < w.heap.size := h1.lt_ q rfl
  have hqi : ∀ g, ms[i].val.ownBlock = some g → q ≠ g ∧ g < w.heap.size ∧ ix g = i := fun g hg' => by
    obtain ⟨e1, e2⟩ := h4 i _ g (List.getElem?_eq_getElem hi) hg'
    exact ⟨fun e => e2 (by rw [e]; rfl), (h3 i _ ps[i] (List.getElem?_eq_getElem hi) (List.getElem?_eq_getElem (by omega))).lt_ g hg', e1⟩
  have hout : OutR encM 1 31 base (.slice (some ⟨q, 0, none⟩) n c) ms w2 := (h1.below hb).kept_ hg fun g hg' e => by
    obtain ⟨e1, _⟩ := hqi g e
    have : q = g := by injection hg'
    exact e1 this
  have hset := hout.cellSetR (j := 0) (u := m'.val) (m' := m') encM_len hi (by omega) rfl
  rw [Nat.mul_one, Nat.add_zero] at hset
  refine ⟨hset, by simp [h2], fun j x p hx hp => ?_, fun g => if w.heap.size ≤ g then i else ix g, fun j x g hx hgx => ?_⟩
  · by_cases hj : j = i
    · subst hj
      rw [List.getElem?_set_self hi] at hx
      rw [List.getElem?_set_self (by omega)] at hp
      injection hx with hx; injection hp with hp
      subst hx hp
      refine OutR.setO ho fun e => ?_
      rcases hv with hv | hv
      · rw [hv] at e; exact (hqi q e).1 rfl
      · rw [hv] at e; injection e with e; have := hb.size; omega
    · rw [List.getElem?_set_ne (fun e => hj e.symm)] at hx hp
      have hx' := h3 j x p hx hp
      refine OutR.setO ((hx'.below hb).kept_ hg fun g hg' e => ?_) fun e => ?_
      · obtain ⟨e1, _⟩ := h4 j x g hx hg'
        exact hj (e1.symm.trans (hqi g e).2.2)
      · exact (h4 j x q hx e).2 rfl
  · by_cases hj : j = i
    · subst hj
      rw [List.getElem?_set_self hi] at hx
      injection hx with hx
      subst hx
      rcases hv with hv | hv
      · rw [hv] at hgx
        obtain ⟨e1, e2, e3⟩ := hqi g hgx
        exact ⟨(if_neg (by omega)).trans e3, fun e => e1 (by injection e)⟩
      · rw [hv] at hgx
        have hge : w1.heap.size = g := by injection hgx
        have := hb.size
        refine ⟨if_pos (by omega), fun e => ?_⟩
        have hqg : q = g := by injection e
        omega
    · rw [List.getElem?_set_ne (fun e => hj e.symm)] at hx
      have hjl := (List.getElem?_eq_some_iff.1 hx).1
      have hlt := (h3 j x ps[j] hx (List.getElem?_eq_getElem (by omega))).lt_ g hgx
      obtain ⟨e1, e2⟩ := h4 j x g hx hgx
      exact ⟨(if_neg (by omega)).trans e1, e2⟩
theorem OwnG.in_ (h : OwnG base v ms ps w) {i : Nat} (hi : i < ps.length) : ∃ m, ms[i]? = some m ∧ m.n = ps[i].length ∧ m.n ≤ m.c ∧ OutR encI 1 3 base m.val ps[i] w := by
  have hm : i < ms.length := by rw [h.2.1]; exact hi
  have hx := h.2.2.1 i ms[i] ps[i] (List.getElem?_eq_getElem hm) (List.getElem?_eq_getElem hi)
  obtain ⟨A, c, e, h1, _⟩ := hx.ownC encI_len
  unfold SlM.val at e
  injection e with e1 e2 e3
  exact ⟨ms[i], List.getElem?_eq_getElem hm, e2, by omega, hx⟩
theorem OwnG.own (h : OwnG base v ms ps w) : ∃ A c, v = .slice A ps.length c ∧ OwnSS base w.heap.size w A ps := by
  obtain ⟨h1, h2, h3, ix, h4⟩ := h
  obtain ⟨A, c, rfl, hc, hown⟩ := h1.ownC encM_len
  refine ⟨A, c, by rw [h2], Nat.le_refl _, fun hn => ?_⟩
  obtain ⟨b, off, rfl, hl, hb, hcell, hf⟩ := hown.2 (by omega)
  refine ⟨b, off, ix, rfl, hl, hb, hf, fun i p hp => ?_⟩
  have hil := (List.getElem?_eq_some_iff.1 hp).1
  have hm : i < ms.length := by omega
  have hmi := List.getElem?_eq_getElem hm
  obtain ⟨A', c', e, k1, k2⟩ := (h3 i _ p hmi hp).ownC encI_len
  unfold SlM.val at e
  injection e with e1 e2 e3
  have d := hcell i _ hmi 0 _ rfl
  rw [e1, e2, e3] at d
  refine ⟨A', c', by simpa using d, k1, fun hp0 => ?_⟩
  obtain ⟨bi, oi, rfl, q1, q2, q3, q4⟩ := k2.2 hp0
  have hob : ms[i].val.ownBlock = some bi := by unfold SlM.val; rw [e1]; rfl
  obtain ⟨f1, f2⟩ := h4 i _ bi hmi hob
  exact ⟨bi, oi, rfl, q1, q2, fun e => f2 (by rw [e]; rfl), f1, fun j z hz => by simpa using q3 j z hz 0 _ rfl, q4⟩
theorem OwnG.castP {qs : List (List Int)} (h : OwnG base v ms ps w) (e : ps = qs) : OwnG base v ms qs w := e ▸ h
theorem OwnG.rd (h : OwnG base v ms ps w) : ∃ A c, v = .slice A ps.length c ∧ RdSS w.heap.size w A ps := by
  obtain ⟨A, c, h1, h2⟩ := h.own
  exact ⟨A, c, h1, h2.rd⟩
end
end Go.Proofs.YtgjehnjpbekoeaaDoor
