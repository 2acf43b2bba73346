/- An append onto a slice of the call's own that also tells which block may have turned, and whether the result's block is new. No condition of its own. -/
import Derived.Test.YtpjnlcppjcnlgaaGreatDoorApp2
namespace Go.Proofs.YtpjnlcppjcnlgaaGreatDoor
set_option linter.unusedVariables false
set_option linter.unusedSimpArgs false
open Go.RowKit
theorem wp_appW {α : Type} {P : Program} {ops : Array Oper} {rest : List Oper} {o : Oper} {a : Act} {Q : Exit → Act → World → Prop} {w : World} (hgd : o.guard = none) (s x : Operand) (t : TypeId)
    (ho : o.op = .call { callee := .builtin .append, args := #[s, x], argTypes := #[t, t] }) (E : TypeId) (z : Value) (k bytes : Nat) (ht : P.underlying t = some (.slice E))
    (hi : (P.info? E).map (fun i => (i.zero, i.size, i.bytes)) = some (some z, k, bytes)) (hzs : z.cells.size = k) (hk : 0 < k)
    {enc : α → List Value} (hl : ∀ x, (enc x).length = k) (h1 : ∀ x, ∀ u ∈ enc x, u.oneCell' = true) {base B : Nat} {v : Value} {ys zs : List α} {A : Option Addr} {m c : Nat} (hs : a.eval s = v) (hx : a.eval x = .slice A m c) (hm : m = zs.length) (hown : OutR enc k E base v ys w) (hr : Rd enc k B w A zs)
    (hlen : (ys.length + m) * bytes ≤ 140737488355328) (hle : ys.length + m ≤ 9223372036854775807) (hbase : base ≤ w.heap.size)
    (h : ∀ v' w', OutR enc k E base v' (ys ++ zs) w' → w.grownBy w' v.ownBlock → (v'.ownBlock = v.ownBlock ∨ v'.ownBlock = some w.heap.size) → wpList P ops Q rest (a.put o.dst v') w') : wpList P ops Q (o :: rest) a w :=
  wpList_plain hgd fun _ hK => by
    obtain ⟨v', w', hrun, h2, h3, h4⟩ : ∃ v' w', (Builtin.append_ #[t, t] o.type #[v, .slice A m c]).run P w = .ok v' w' ∧ OutR enc k E base v' (ys ++ zs) w' ∧ w.grownBy w' v.ownBlock ∧ (v'.ownBlock = v.ownBlock ∨ v'.ownBlock = some w.heap.size) := by
      subst hm
      obtain ⟨i0, hi0, hz0, hz1, hz2⟩ := info_parts hi
      rcases A with _ | ad
      · have hz : zs = [] := by
          cases zs with
          | nil => rfl
          | cons z zs => obtain ⟨b, off, hA, _⟩ := hr (by simp); cases hA
        subst hz
        exact ⟨v, w, run_app_nil base t o.type E i0 k ht hi0 v ys.length (ys.flatMap enc) hown c, by simpa using hown, World.grownBy.refl w _, .inl rfl⟩
      · obtain ⟨v', w', hrun, h2, h3, _, h5⟩ := run_append_own_at (P := P) (w := w) base t o.type E i0 z k bytes ht hi0 hz0 hz1 hz2 hzs hk v ys.length (ys.flatMap enc) hown ad zs.length c (zs.flatMap enc) (flat_len hl zs) (rd_cells hl hk hr)
          (fun u hu => by obtain ⟨x, _, hx⟩ := List.mem_flatMap.1 hu; exact h1 x u hx) (by unfold maxLen; omega) hlen hbase
        refine ⟨v', w', hrun, ?_, h3, h5⟩
        unfold OutR
        rw [List.length_append, List.flatMap_append]
        exact h2
    unfold Oper.wp execOp
    simp only [ho, resolve, invoke, builtin, Sem.run_bind, Sem.run_pure, Result.andThen_ok, List.map_toArray, List.map_cons, List.map_nil, hs, hx, hrun]
    exact hK _ _ (h v' w' h2 h3 h4)
theorem step_appW {α : Type} {P : Program} {ops : Array Oper} {o : Oper} {a : Act} {K : Act → World → Prop} {Q : Exit → Act → World → Prop} {D : Prop} {w : World} (hgd : o.guard = none) (s x : Operand) (t : TypeId)
    (ho : o.op = .call { callee := .builtin .append, args := #[s, x], argTypes := #[t, t] }) (E : TypeId) (z : Value) (k bytes : Nat) (ht : P.underlying t = some (.slice E))
    (hi : (P.info? E).map (fun i => (i.zero, i.size, i.bytes)) = some (some z, k, bytes)) (hzs : z.cells.size = k) (hk : 0 < k)
    {enc : α → List Value} (hl : ∀ x, (enc x).length = k) (h1 : ∀ x, ∀ u ∈ enc x, u.oneCell' = true) {base B : Nat} {v : Value} {ys zs : List α} {A : Option Addr} {m c : Nat} (hs : a.eval s = v) (hx : a.eval x = .slice A m c) (hm : m = zs.length) (hown : OutR enc k E base v ys w) (hr : Rd enc k B w A zs)
    (hlen : (ys.length + m) * bytes ≤ 140737488355328) (hle : ys.length + m ≤ 9223372036854775807) (hbase : base ≤ w.heap.size)
    (h : ∀ v' w', OutR enc k E base v' (ys ++ zs) w' → w.grownBy w' v.ownBlock → (v'.ownBlock = v.ownBlock ∨ v'.ownBlock = some w.heap.size) → K (a.put o.dst v') w') : if Region.wanted o (yielded ops a.tmps) = true then Oper.wp P o a w K Q else D := by
  have hw : Region.wanted o (yielded ops a.tmps) = true := by simp [Region.wanted, hgd]
  rw [if_pos hw]
  obtain ⟨v', w', hrun, h2, h3, h4⟩ : ∃ v' w', (Builtin.append_ #[t, t] o.type #[v, .slice A m c]).run P w = .ok v' w' ∧ OutR enc k E base v' (ys ++ zs) w' ∧ w.grownBy w' v.ownBlock ∧ (v'.ownBlock = v.ownBlock ∨ v'.ownBlock = some w.heap.size) := by
    subst hm
    obtain ⟨i0, hi0, hz0, hz1, hz2⟩ := info_parts hi
    rcases A with _ | ad
    · have hz : zs = [] := by
        cases zs with
        | nil => rfl
        | cons z zs => obtain ⟨b, off, hA, _⟩ := hr (by simp); cases hA
      subst hz
      exact ⟨v, w, run_app_nil base t o.type E i0 k ht hi0 v ys.length (ys.flatMap enc) hown c, by simpa using hown, World.grownBy.refl w _, .inl rfl⟩
    · obtain ⟨v', w', hrun, h2, h3, _, h5⟩ := run_append_own_at (P := P) (w := w) base t o.type E i0 z k bytes ht hi0 hz0 hz1 hz2 hzs hk v ys.length (ys.flatMap enc) hown ad zs.length c (zs.flatMap enc) (flat_len hl zs) (rd_cells hl hk hr)
        (fun u hu => by obtain ⟨x, _, hx⟩ := List.mem_flatMap.1 hu; exact h1 x u hx) (by unfold maxLen; omega) hlen hbase
      refine ⟨v', w', hrun, ?_, h3, h5⟩
      unfold OutR
      rw [List.length_append, List.flatMap_append]
      exact h2
  unfold Oper.wp execOp
  simp only [ho, resolve, invoke, builtin, Sem.run_bind, Sem.run_pure, Result.andThen_ok, List.map_toArray, List.map_cons, List.map_nil, hs, hx, hrun]
  exact h v' w' h2 h3 h4
section
variable {α : Type} {enc : α → List Value} {k : Nat} {E : TypeId} {base : Nat} {v : Value} {ys : List α} {w w' : World}
theorem OutR.kept_ {b : Option Nat} (h : OutR enc k E base v ys w) (hg : w.grownBy w' b) (hne : ∀ g, v.ownBlock = some g → b ≠ some g) : OutR enc k E base v ys w' := by
  refine World.ownsRow.kept h hg ?_
  cases hv : v.ownBlock with
  | none => simp
  | some q => exact .inr (fun e => hne q hv e.symm)
theorem OutR.lt_ (h : OutR enc k E base v ys w) : ∀ g, v.ownBlock = some g → g < w.heap.size := fun g hg => (World.ownsRow.lt h g hg).2
theorem OutR.freshR {lo : Nat} (h : OutR enc k E base v ys w) (hl : lo ≤ base) : OutR enc k E lo v ys w := by
  refine ⟨h.1, ?_⟩
  rcases h.2 with h0 | ⟨g, cap, cur, hv, hb, h2⟩
  · exact .inl h0
  · exact .inr ⟨g, cap, cur, hv, by omega, h2⟩
theorem below_grown {B : Nat} {a : World} (h : Below B a w) (hB : B ≤ a.heap.size) (hg : w.grownBy w' v.ownBlock) (hn : ∀ g, v.ownBlock = some g → B ≤ g) : Below B a w' := grown_below h hB hg hn
end
theorem OutR.castR {α : Type} {enc : α → List Value} {k : Nat} {E : TypeId} {base : Nat} {v : Value} {ys zs : List α} {w : World} (h : OutR enc k E base v ys w) (e : ys = zs) : OutR enc k E base v zs w := e ▸ h
theorem OutR.ownC {α : Type} {enc : α → List Value} {k : Nat} {E : TypeId} {base : Nat} {v : Value} {ys : List α} {w : World} (h : OutR enc k E base v ys w) (hl : ∀ x, (enc x).length = k) : ∃ A c, v = .slice A ys.length c ∧ ys.length ≤ c ∧ Own enc k base w.heap.size w A ys := by
  obtain ⟨A, c, h1, h2, h3⟩ := h.own hl
  exact ⟨A, c, h1, h3, h2⟩
theorem OutR.setO {α : Type} {enc : α → List Value} {k : Nat} {E : TypeId} {base p j : Nat} {v : Value} {ys : List α} {w : World} {u : Value} (h : OutR enc k E base v ys w) (hp : v.ownBlock ≠ some p) : OutR enc k E base v ys (w.setCell ⟨p, j, none⟩ u) := by
  have hgr : w.grownBy (w.setCell ⟨p, j, none⟩ u) (some p) := ⟨rfl, rfl, rfl, by simp [World.setCell], fun k hk hne => Below.heap_setCell _ _ _ _ (by simp only; intro e; exact hne (by rw [e]))⟩
  exact World.ownsRow.kept h hgr (by cases hv : v.ownBlock with
    | none => simp
    | some q => exact .inr (by rw [← hv]; exact hp))
theorem oneB_ (x : Bool) : ∀ u ∈ encB x, u.oneCell' = true := by intro u hu; simp [encB] at hu; subst hu; rfl
end Go.Proofs.YtpjnlcppjcnlgaaGreatDoor
