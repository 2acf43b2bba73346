/- A copy of an album of the call's own: its pages written anew. No condition of its own. -/
import Derived.Test.YtpjnlcppjcnlgaaGreatDoorAlCpy2
namespace Go.Proofs.YtpjnlcppjcnlgaaGreatDoor
set_option linter.unusedVariables false
set_option linter.unusedSimpArgs false
open Go.RowKit
section
variable {lo i g n c j : Nat} {ix ix' : Nat → Nat} {v : Value} {ms : List PageM} {ps : List Page} {w w' : World} {m m' : PageM} {p p' : Page}
theorem size_set (w : World) (a : Addr) (u : Value) : (w.setCell a u).heap.size = w.heap.size := by simp [World.setCell]
theorem far_set {b : Nat} {o : Nat} (w : World) (u : Value) (h : b ≠ g) : (w.setCell ⟨g, o, none⟩ u).heap[b]? = w.heap[b]? := by
  have hF := (Fr.refl g (g + 1) w).setCell (p := ⟨g, o, none⟩) (Nat.le_refl _) (Nat.lt_succ_self _) u
  by_cases hb : b < w.heap.size
  · exact hF.block b hb (by omega)
  · rw [Array.getElem?_eq_none (by rw [size_set]; omega), Array.getElem?_eq_none (by omega)]
/-- One cell of page number i written. -/
theorem Cpy.field {u : Value} (h : Cpy lo ix (.slice (some ⟨g, 0, none⟩) n c) ms ps w) (hi : i < ps.length) (hm : ms[i]? = some m) (hj : j < 4) (he : encPM m' = (encPM m).set j u) (hit : ItC lo ix i w m' p') :
    Cpy lo ix (.slice (some ⟨g, 0, none⟩) n c) (ms.set i m') (ps.set i p') (w.setCell ⟨g, i * 4 + j, none⟩ u) := by
  have hg := h.own g rfl
  have hml : i < ms.length := by rw [h.len]; exact hi
  have hmi : ms[i] = m := by rw [List.getElem?_eq_getElem hml] at hm; injection hm
  refine h.set_ (h.out.cellSet encPM_len hml hj (by rw [hmi]; exact he)) (fun b _ hb _ => far_set w u (fun e => hb (by rw [e]; exact hg))) (fun _ _ => rfl) (fun _ => hit.keep (fun b hb => far_set w u (fun e => ?_)) (fun _ _ => rfl)) (fun b hb => h.far b (by rw [size_set] at hb; exact hb))
  have := hit.2.2.2.2.2 b hb
  rw [e, hg] at this
  omega
/-- All cells of page number i written. -/
theorem Cpy.page {A' : Option Addr} {c' : Nat} (h : Cpy lo ix (.slice (some ⟨g, 0, none⟩) n c) ms ps w) (hi : i < ps.length) (p' : Page) (ho : Out (Value.int .i64) 3 lo (.slice A' p'.items.length c') p'.items w) (hx : ∀ b, (Value.slice A' p'.items.length c').ownBlock = some b → ix b = i + 1) :
    Cpy lo ix (.slice (some ⟨g, 0, none⟩) n c) (ms.set i ⟨p'.id, p'.title, p'.under, A', p'.items.length, c'⟩) (ps.set i p') (w.setCells g (i * 4) [.int .i64 p'.id, .string p'.title, .int .i64 p'.under, .slice A' p'.items.length c']) := by
  show Cpy _ _ _ _ _ ((((w.setCell ⟨g, i * 4, none⟩ (.int .i64 p'.id)).setCell ⟨g, i * 4 + 1, none⟩ (.string p'.title)).setCell ⟨g, i * 4 + 2, none⟩ (.int .i64 p'.under)).setCell ⟨g, i * 4 + 3, none⟩ (.slice A' p'.items.length c'))
  have hg := h.own g rfl
  obtain ⟨m, hm, e1, e2, e3, e4, e5, e6⟩ := h.it i _ (List.getElem?_eq_getElem hi)
  have hml : i < ms.length := by rw [h.len]; exact hi
  have kp : ∀ (W : World) (o : Nat) (u : Value) (v2 : Value) (zs : List Int), Out (Value.int .i64) 3 lo v2 zs W → (∀ b, v2.ownBlock = some b → ix b = i + 1) → Out (Value.int .i64) 3 lo v2 zs (W.setCell ⟨g, o, none⟩ u) := fun W o u v2 zs h1 h2 => h1.keep_ fun b hb => far_set W u (fun e => by have := h2 b hb; rw [e, hg] at this; omega)
  have h1 := h.field (u := .int .i64 p'.id) (j := 0) (m' := ⟨p'.id, m.title, m.under, m.A, m.n, m.c⟩) (p' := ⟨p'.id, ps[i].title, ps[i].under, ps[i].items⟩) hi hm (by omega) rfl ⟨rfl, e2, e3, e4, e5, e6⟩
  have o1 := kp _ (i * 4 + 0) (.int .i64 p'.id) _ _ e5 e6
  have h2 := h1.field (i := i) (u := .string p'.title) (j := 1) (m' := ⟨p'.id, p'.title, m.under, m.A, m.n, m.c⟩) (p' := ⟨p'.id, p'.title, ps[i].under, ps[i].items⟩) (by simp [hi]) (List.getElem?_set_self hml) (by omega) rfl ⟨rfl, rfl, e3, e4, o1, e6⟩
  have o2 := kp _ (i * 4 + 1) (.string p'.title) _ _ o1 e6
  rw [List.set_set, List.set_set] at h2
  have h3 := h2.field (i := i) (u := .int .i64 p'.under) (j := 2) (m' := ⟨p'.id, p'.title, p'.under, m.A, m.n, m.c⟩) (p' := ⟨p'.id, p'.title, p'.under, ps[i].items⟩) (by simp [hi]) (List.getElem?_set_self hml) (by omega) rfl ⟨rfl, rfl, rfl, e4, o2, e6⟩
  rw [List.set_set, List.set_set] at h3
  have q3 := kp _ (i * 4 + 2) (.int .i64 p'.under) _ _ (kp _ (i * 4 + 1) (.string p'.title) _ _ (kp _ (i * 4 + 0) (.int .i64 p'.id) _ _ ho hx) hx) hx
  have h4 := h3.field (i := i) (u := .slice A' p'.items.length c') (j := 3) (m' := ⟨p'.id, p'.title, p'.under, A', p'.items.length, c'⟩) (p' := p') (by simp [hi]) (List.getElem?_set_self hml) (by omega) rfl ⟨rfl, rfl, rfl, rfl, q3, hx⟩
  rw [List.set_set, List.set_set] at h4
  exact h4
/-- The items of page number i made anew by a call, and their slice stored. -/
theorem Cpy.items {A' : Option Addr} {c' : Nat} {zs : List Int} (h : Cpy lo ix (.slice (some ⟨g, 0, none⟩) n c) ms ps w) (hi : i < ps.length) (hk : ∀ b, b < w.heap.size → ix b ≠ i + 1 → w'.heap[b]? = w.heap[b]?) (hs : w.heap.size ≤ w'.heap.size)
    (ho : Out (Value.int .i64) 3 lo (.slice A' zs.length c') zs w') (hx : ∀ b, (Value.slice A' zs.length c').ownBlock = some b → ix b = i + 1 ∨ w.heap.size ≤ b) :
    ∃ ix' ms', Cpy lo ix' (.slice (some ⟨g, 0, none⟩) n c) ms' (ps.set i ⟨ps[i].id, ps[i].title, ps[i].under, zs⟩) (w'.setCell ⟨g, i * 4 + 3, none⟩ (.slice A' zs.length c')) := by
  have hg := h.own g rfl
  have hgl := h.out.lt_ g rfl
  obtain ⟨m, hm, e1, e2, e3, e4, e5, e6⟩ := h.it i _ (List.getElem?_eq_getElem hi)
  have hml : i < ms.length := by rw [h.len]; exact hi
  have hmi : ms[i] = m := by rw [List.getElem?_eq_getElem hml] at hm; injection hm
  have hout : OutR encPM 4 56 lo (.slice (some ⟨g, 0, none⟩) n c) ms w' := by
    have := h.out
    refine ⟨this.1, ?_⟩
    rcases this.2 with hn | ⟨g', cap, cur, hv, hb, hg', rest⟩
    · exact .inl hn
    · have hv0 := hv
      injection hv with hv; injection hv with hv; injection hv with hv
      subst hv
      exact .inr ⟨g, cap, cur, hv0, hb, (hk g hgl (by omega)).trans hg', rest⟩
  have hxb : ∀ b, (Value.slice A' zs.length c').ownBlock = some b → (if b < w.heap.size then ix b else if b < w'.heap.size then i + 1 else 0) = i + 1 := fun b hb => by
    have hlt := ho.lt_ b hb
    rcases hx b hb with h1 | h1
    · by_cases hb' : b < w.heap.size
      · rw [if_pos hb', h1]
      · rw [if_neg hb', if_pos hlt]
    · rw [if_neg (by omega), if_pos hlt]
  refine ⟨fun b => if b < w.heap.size then ix b else if b < w'.heap.size then i + 1 else 0, _, h.set_ (m' := ⟨m.id, m.title, m.under, A', zs.length, c'⟩) (hout.cellSet encPM_len hml (by omega) (by rw [hmi]; rfl)) (fun b hb h0 h1 => ?_) (fun b hb => if_pos hb) (fun _ => ⟨e1, e2, e3, rfl, ho.keep_ fun b hb => far_set w' _ (fun e => ?_), hxb⟩) (fun b hb => ?_)⟩
  · rw [far_set w' _ (fun e => h0 (by rw [e]; exact hg))]
    exact hk b hb h1
  · have := hxb b hb
    rw [e, if_pos hgl, hg] at this
    omega
  · rw [size_set] at hb
    rw [if_neg (by omega), if_neg (by omega)]
end
end Go.Proofs.YtpjnlcppjcnlgaaGreatDoor
