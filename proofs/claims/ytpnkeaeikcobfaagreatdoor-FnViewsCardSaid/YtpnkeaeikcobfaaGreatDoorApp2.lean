/- Words for a slice of records that a call makes and to which it appends other slices. No condition of its own. -/
import Derived.Test.YtpnkeaeikcobfaaGreatDoorApp
import Derived.Maps.AppendAt
import Derived.Laws.AppendOwnNone
namespace Go.Proofs.YtpnkeaeikcobfaaGreatDoor
set_option linter.unusedVariables false
set_option linter.unusedSimpArgs false
open Go.RowKit

section
variable {α : Type} {enc : α → List Value} {k : Nat}
theorem flat_len (hl : ∀ x, (enc x).length = k) (ys : List α) : (ys.flatMap enc).length = ys.length * k := by
  induction ys with
  | nil => simp
  | cons y ys ih => simp [ih, hl, Nat.add_mul]; omega
theorem flat_get (hl : ∀ x, (enc x).length = k) : ∀ (ys : List α) (i j : Nat), j < k → (ys.flatMap enc)[i * k + j]? = (ys[i]?).bind fun x => (enc x)[j]?
  | [], i, j, _ => by simp
  | y :: ys, 0, j, hj => by simp [List.getElem?_append_left (show j < (enc y).length by rw [hl]; exact hj)]
  | y :: ys, i + 1, j, hj => by
    rw [List.flatMap_cons, List.getElem?_append_right (by rw [hl, Nat.add_mul]; omega), hl]
    have : (i + 1) * k + j - k = i * k + j := by rw [Nat.add_mul]; omega
    rw [this, flat_get hl ys i j hj]
    simp
end
/-- The slice value v, made by the call (blocks from base on), has the records ys, k cells each. -/
def OutR {α : Type} (enc : α → List Value) (k : Nat) (E : TypeId) (base : Nat) (v : Value) (ys : List α) (w : World) : Prop := w.ownsRow base E k v ys.length (ys.flatMap enc)

section
variable {α : Type} {enc : α → List Value} {k : Nat} {E : TypeId} {base : Nat} {v : Value} {ys zs : List α} {w w' : World}
theorem OutR.nil (w : World) : OutR enc k E base (.slice none 0 0) ([] : List α) w := World.ownsRow_nil w base E k
theorem OutR.empty (w : World) (h : base ≤ w.heap.size) : OutR enc k E base (.slice (some ⟨w.heap.size, 0, none⟩) 0 0) ([] : List α) (w.alloc (.cells #[] E)) :=
  World.ownsRow_made w #[] 0 h (Nat.zero_le _) (by simp)
theorem OutR.below (h : OutR enc k E base v ys w) (hb : Below w.heap.size w w') : OutR enc k E base v ys w' := by
  have hg : w.grownBy w' none := ⟨hb.os, hb.tape, hb.output, hb.size, fun k hk _ => hb.block k hk⟩
  exact World.ownsRow.kept h hg (by cases hv : v.ownBlock <;> simp)
theorem OutR.emptyD (w : World) (h : base ≤ w.heap.size) : OutR enc k E base (.slice (some ⟨w.heap.size, 0, none⟩) 0 0) ([] : List α) (w.alloc (.cells #[] E)).drew := OutR.empty w h
theorem OutR.emptyH (w : World) (H : Nat) (hH : w.heap.size = H) (h : base ≤ H) : OutR enc k E base (.slice (some ⟨H, 0, none⟩) 0 0) ([] : List α) (w.alloc (.cells #[] E)) := by
  subst hH; exact OutR.empty w h
theorem OutR.emptyHD (w : World) (H : Nat) (hH : w.heap.size = H) (h : base ≤ H) : OutR enc k E base (.slice (some ⟨H, 0, none⟩) 0 0) ([] : List α) (w.alloc (.cells #[] E)).drew := OutR.emptyH w H hH h
theorem OutR.from_ (h : OutR enc k E base v ys w) : ∀ g, v.ownBlock = some g → base ≤ g := fun g hg => (World.ownsRow.lt h g hg).1
theorem OutR.own (h : OutR enc k E base v ys w) (hl : ∀ x, (enc x).length = k) : ∃ A c, v = .slice A ys.length c ∧ Own enc k base w.heap.size w A ys ∧ ys.length ≤ c := by
  rcases h.2 with ⟨rfl, h0⟩ | ⟨g, cap, cur, rfl, hb, hg, h1, h2, h3, h4⟩
  · have : ys = [] := List.eq_nil_of_length_eq_zero h0
    subst this
    exact ⟨none, 0, rfl, Own.nil (Nat.le_refl _), Nat.le_refl _⟩
  · have hlt : g < w.heap.size := by
      rcases Nat.lt_or_ge g w.heap.size with h | h
      · exact h
      · rw [Array.getElem?_eq_none h] at hg; cases hg
    refine ⟨_, _, rfl, ⟨Nat.le_refl _, fun _ => ⟨g, 0, rfl, hb, hlt, fun i x hx j u hu => ?_, fun o => ?_⟩⟩, h1⟩
    · have hj : j < k := by rw [← hl x]; exact (List.getElem?_eq_some_iff.1 hu).1
      have := h.cells (g := g) rfl (i * k + j) u (by rw [flat_get hl ys i j hj, hx]; exact hu)
      have hadd : (⟨g, 0, none⟩ : Addr).add (i * k + j) = ⟨g, i * k + j, none⟩ := by unfold Addr.add; split <;> simp_all
      rw [hadd] at this
      simpa using this
    · simp [World.frozen?, hg]
theorem Own.of_pure {lo hi lo' hi' : Nat} {A : Option Addr} (h : Own enc k lo hi w A ys) (h1 : lo' ≤ lo) (h2 : hi ≤ hi') (h3 : hi' ≤ w.heap.size) : Own enc k lo' hi' w A ys := h.wide h1 h2 h3
theorem rd_cells {B : Nat} {ad : Addr} (hl : ∀ x, (enc x).length = k) (hk : 0 < k) (hr : Rd enc k B w (some ad) zs) : ∀ j u, (zs.flatMap enc)[j]? = some u → w.cell? (ad.add j) = some u := by
  intro j u hu
  have hj : j < (zs.flatMap enc).length := (List.getElem?_eq_some_iff.1 hu).1
  rw [flat_len hl] at hj
  have hp : 0 < zs.length := by
    rcases Nat.eq_zero_or_pos zs.length with h | h
    · rw [h] at hj; omega
    · exact h
  obtain ⟨b, off, hA, hb, hc⟩ := hr hp
  injection hA with hA
  subst hA
  have hd : j / k * k + j % k = j := by rw [Nat.mul_comm]; exact Nat.div_add_mod j k
  rw [← hd] at hu
  rw [flat_get hl zs (j / k) (j % k) (Nat.mod_lt _ hk)] at hu
  cases hx : zs[j / k]? with
  | none => rw [hx] at hu; cases hu
  | some x =>
    rw [hx] at hu
    have := hc _ x hx _ u hu
    have hadd : (⟨b, off, none⟩ : Addr).add j = ⟨b, off + j / k * k + j % k, none⟩ := by
      have : off + j / k * k + j % k = off + j := by omega
      rw [this]
      unfold Addr.add; split <;> simp_all
    rw [hadd]; exact this
end

theorem run_app_nil {P : Program} {w : World} (base : Nat) (t ty e : TypeId) (i : TypeInfo) (size : Nat) (ht : P.underlying t = some (.slice e)) (hi : P.info? e = some i)
    (v : Value) (n : Nat) (xs : List Value) (hown : w.ownsRow base e size v n xs) (c : Nat) : (Builtin.append_ #[t, t] ty #[v, .slice none 0 c]).run P w = .ok v w := by
  rcases hown.2 with ⟨rfl, rfl⟩ | ⟨g, cap, cur, rfl, _, _, hnc, _⟩
  · simp [Builtin.append_, run_underlying ht, sizeOf, typeInfo, hi, Builtin.lenOf, Builtin.firstCells]
  · simp [Builtin.append_, run_underlying ht, sizeOf, typeInfo, hi, Builtin.lenOf, Builtin.firstCells, hnc, storeCells]
/-- 'append(out, src...)' onto a slice of the call's own, the source nil, empty or not. -/
theorem run_app {α : Type} {P : Program} {w : World} (t ty : TypeId) (E : TypeId) (z : Value) (k bytes : Nat) (ht : P.underlying t = some (.slice E))
    (hi : (P.info? E).map (fun i => (i.zero, i.size, i.bytes)) = some (some z, k, bytes)) (hzs : z.cells.size = k) (hk : 0 < k)
    {enc : α → List Value} (hl : ∀ x, (enc x).length = k) (h1 : ∀ x, ∀ u ∈ enc x, u.oneCell' = true) {base B : Nat} {v : Value} {ys zs : List α} {A : Option Addr} {m c : Nat} (hm : m = zs.length) (hown : OutR enc k E base v ys w) (hr : Rd enc k B w A zs)
    (hlen : (ys.length + m) * bytes ≤ 140737488355328) (hle : ys.length + m ≤ 9223372036854775807) (hbase : base ≤ w.heap.size) :
    ∃ v' w', (Builtin.append_ #[t, t] ty #[v, .slice A m c]).run P w = .ok v' w' ∧ OutR enc k E base v' (ys ++ zs) w' ∧ Below base w w' ∧ w.grownBy w' v.ownBlock := by
  subst hm
  obtain ⟨i0, hi0, hz0, hz1, hz2⟩ := info_parts hi
  rcases A with _ | ad
  · have hz : zs = [] := by
      cases zs with
      | nil => rfl
      | cons z zs => obtain ⟨b, off, hA, _⟩ := hr (by simp); cases hA
    subst hz
    exact ⟨v, w, run_app_nil base t ty E i0 k ht hi0 v ys.length (ys.flatMap enc) hown c, by simpa using hown, Below.refl _ _, World.grownBy.refl w _⟩
  · obtain ⟨v', w', hrun, h2, h3, _, h5⟩ := run_append_own_at (P := P) w base t ty E i0 z k bytes ht hi0 hz0 hz1 hz2 hzs hk v ys.length (ys.flatMap enc) hown ad zs.length c (zs.flatMap enc) (flat_len hl zs) (rd_cells hl hk hr)
      (fun u hu => by obtain ⟨x, _, hx⟩ := List.mem_flatMap.1 hu; exact h1 x u hx) (by unfold maxLen; omega) hlen hbase
    refine ⟨v', w', hrun, ?_, grown_below (Below.refl _ _ |>.mono hbase) hbase h3 hown.from_, h3⟩
    unfold OutR
    rw [List.length_append, List.flatMap_append]
    exact h2
theorem wp_app {α : Type} {P : Program} {o : Oper} {a : Act} {K : Act → World → Prop} {Q : Exit → Act → World → Prop} {w : World} (s x : Operand) (t : TypeId)
    (ho : o.op = .call { callee := .builtin .append, args := #[s, x], argTypes := #[t, t] }) (E : TypeId) (z : Value) (k bytes : Nat) (ht : P.underlying t = some (.slice E))
    (hi : (P.info? E).map (fun i => (i.zero, i.size, i.bytes)) = some (some z, k, bytes)) (hzs : z.cells.size = k) (hk : 0 < k)
    {enc : α → List Value} (hl : ∀ x, (enc x).length = k) (h1 : ∀ x, ∀ u ∈ enc x, u.oneCell' = true) {base B : Nat} {v : Value} {ys zs : List α} {A : Option Addr} {m c : Nat} (hs : a.eval s = v) (hx : a.eval x = .slice A m c) (hm : m = zs.length) (hown : OutR enc k E base v ys w) (hr : Rd enc k B w A zs)
    (hlen : (ys.length + m) * bytes ≤ 140737488355328) (hle : ys.length + m ≤ 9223372036854775807) (hbase : base ≤ w.heap.size)
    (h : ∀ v' w', OutR enc k E base v' (ys ++ zs) w' → Below base w w' → w.grownBy w' v.ownBlock → K (a.put o.dst v') w') : o.wp P a w K Q := by
  obtain ⟨v', w', hrun, h2, h3, h4⟩ := run_app (P := P) (w := w) (c := c) t o.type E z k bytes ht hi hzs hk hl h1 hm hown hr hlen hle hbase
  unfold Oper.wp execOp
  simp only [ho, resolve, invoke, builtin, Sem.run_bind, Sem.run_pure, Result.andThen_ok, List.map_toArray, List.map_cons, List.map_nil, hs, hx, hrun]
  exact h v' w' h2 h3 h4
theorem wpList_app {α : Type} {P : Program} {ops : Array Oper} {rest : List Oper} {o : Oper} {a : Act} {Q : Exit → Act → World → Prop} {w : World} (hgd : o.guard = none) (s x : Operand) (t : TypeId)
    (ho : o.op = .call { callee := .builtin .append, args := #[s, x], argTypes := #[t, t] }) (E : TypeId) (z : Value) (k bytes : Nat) (ht : P.underlying t = some (.slice E))
    (hi : (P.info? E).map (fun i => (i.zero, i.size, i.bytes)) = some (some z, k, bytes)) (hzs : z.cells.size = k) (hk : 0 < k)
    {enc : α → List Value} (hl : ∀ x, (enc x).length = k) (h1 : ∀ x, ∀ u ∈ enc x, u.oneCell' = true) {base B : Nat} {v : Value} {ys zs : List α} {A : Option Addr} {m c : Nat} (hs : a.eval s = v) (hx : a.eval x = .slice A m c) (hm : m = zs.length) (hown : OutR enc k E base v ys w) (hr : Rd enc k B w A zs)
    (hlen : (ys.length + m) * bytes ≤ 140737488355328) (hle : ys.length + m ≤ 9223372036854775807) (hbase : base ≤ w.heap.size)
    (h : ∀ v' w', OutR enc k E base v' (ys ++ zs) w' → Below base w w' → wpList P ops Q rest (a.put o.dst v') w') : wpList P ops Q (o :: rest) a w :=
  wpList_plain hgd fun _ hK => wp_app s x t ho E z k bytes ht hi hzs hk hl h1 hs hx hm hown hr hlen hle hbase fun v' w' h2 h3 _ => hK _ _ (h v' w' h2 h3)
theorem step_app {α : Type} {P : Program} {ops : Array Oper} {o : Oper} {a : Act} {K : Act → World → Prop} {Q : Exit → Act → World → Prop} {D : Prop} {w : World} (hgd : o.guard = none) (s x : Operand) (t : TypeId)
    (ho : o.op = .call { callee := .builtin .append, args := #[s, x], argTypes := #[t, t] }) (E : TypeId) (z : Value) (k bytes : Nat) (ht : P.underlying t = some (.slice E))
    (hi : (P.info? E).map (fun i => (i.zero, i.size, i.bytes)) = some (some z, k, bytes)) (hzs : z.cells.size = k) (hk : 0 < k)
    {enc : α → List Value} (hl : ∀ x, (enc x).length = k) (h1 : ∀ x, ∀ u ∈ enc x, u.oneCell' = true) {base B : Nat} {v : Value} {ys zs : List α} {A : Option Addr} {m c : Nat} (hs : a.eval s = v) (hx : a.eval x = .slice A m c) (hm : m = zs.length) (hown : OutR enc k E base v ys w) (hr : Rd enc k B w A zs)
    (hlen : (ys.length + m) * bytes ≤ 140737488355328) (hle : ys.length + m ≤ 9223372036854775807) (hbase : base ≤ w.heap.size)
    (h : ∀ v' w', OutR enc k E base v' (ys ++ zs) w' → Below base w w' → w.grownBy w' v.ownBlock → K (a.put o.dst v') w') : if Region.wanted o (yielded ops a.tmps) = true then Oper.wp P o a w K Q else D := by
  have hw : Region.wanted o (yielded ops a.tmps) = true := by simp [Region.wanted, hgd]
  rw [if_pos hw]
  exact wp_app s x t ho E z k bytes ht hi hzs hk hl h1 hs hx hm hown hr hlen hle hbase h

section
variable {α : Type} {enc : α → List Value} {k B : Nat} {w : World} {A : Option Addr} {xs : List α}
/-- A piece from the front. -/
theorem Rd.take (h : Rd enc k B w A xs) (i : Nat) : Rd enc k B w A (xs.take i) := fun hn => by
  obtain ⟨b, off, hA, hb, hc⟩ := h (by simp at hn; omega)
  exact ⟨b, off, hA, hb, fun j x hx => hc j x (by rw [List.getElem?_take] at hx; split at hx; exact hx; cases hx)⟩
/-- A piece from place i on: the address is moved on. -/
theorem Rd.drop {b off : Nat} (h : Rd enc k B w (some ⟨b, off, none⟩) xs) (i : Nat) : Rd enc k B w (some ⟨b, off + i * k, none⟩) (xs.drop i) := fun hn => by
  obtain ⟨b', off', hA, hb, hc⟩ := h (by simp at hn; omega)
  injection hA with hA; injection hA with h1 h2
  subst h1 h2
  refine ⟨b, off + i * k, rfl, hb, fun j x hx m v hv => ?_⟩
  have := hc (i + j) x (by rw [List.getElem?_drop] at hx; exact hx) m v hv
  rw [Nat.add_mul] at this
  rw [show off + i * k + j * k + m = off + (i * k + j * k) + m by omega]
  exact this
/-- A new block of one record. -/
theorem rd_new {x : α} {vs : List Value} {E : TypeId} (he : enc x = vs) (hl : (enc x).length = k) : Rd enc k (w.alloc (.cells vs.toArray E)).heap.size (w.alloc (.cells vs.toArray E)) (some ⟨w.heap.size, 0, none⟩) [x] := fun _ =>
  ⟨w.heap.size, 0, rfl, by simp, fun i y hy j v hv => by
    have hi : i = 0 := by have := (List.getElem?_eq_some_iff.1 hy).1; simp at this; omega
    subst hi
    have hy' : y = x := by simpa using hy.symm
    subst hy'
    rw [World.cell?_alloc_new]
    subst he
    simpa using hv⟩
end
theorem oneI (x : Int) : ∀ u ∈ encI x, u.oneCell' = true := by intro u hu; simp [encI] at hu; subst hu; rfl
theorem oneS (x : ByteArray) : ∀ u ∈ encS x, u.oneCell' = true := by intro u hu; simp [encS] at hu; subst hu; rfl
end Go.Proofs.YtpnkeaeikcobfaaGreatDoor
