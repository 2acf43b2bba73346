/- Words for a slice that a call makes and to which it appends in a loop. No condition of its own. -/
import Derived.Test.YtpnkeaeikcobfaaGreatDoorScal
import Derived.Deep.AppendLies
namespace Go.Proofs.YtpnkeaeikcobfaaGreatDoor
set_option linter.unusedVariables false
set_option linter.unusedSimpArgs false
open Go.RowKit
theorem infoI : (Tryz.prog.info? 3).map (fun i => (i.zero, i.size, i.bytes)) = some (some (.int .i64 0), 1, 8) := by kernel_rfl
theorem infoS : (Tryz.prog.info? 9).map (fun i => (i.zero, i.size, i.bytes)) = some (some (.string ⟨#[]⟩), 1, 16) := by kernel_rfl

/-- The slice value v, made by the call (blocks from base on), has the elements ys, each one cell. -/
def Out {α : Type} (V : α → Value) (E : TypeId) (base : Nat) (v : Value) (ys : List α) (w : World) : Prop := w.ownsRow base E 1 v ys.length (ys.map V)

section
variable {α : Type} {V : α → Value} {E : TypeId} {base : Nat} {v : Value} {ys : List α} {w w' : World}
theorem Out.nil (w : World) : Out V E base (.slice none 0 0) ([] : List α) w := World.ownsRow_nil w base E 1
theorem Out.empty (w : World) (h : base ≤ w.heap.size) : Out V E base (.slice (some ⟨w.heap.size, 0, none⟩) 0 0) ([] : List α) (w.alloc (.cells #[] E)) :=
  World.ownsRow_made w #[] 0 h (Nat.zero_le _) (by simp)
theorem Out.below (h : Out V E base v ys w) (hb : Below w.heap.size w w') : Out V E base v ys w' := by
  have hg : w.grownBy w' none := ⟨hb.os, hb.tape, hb.output, hb.size, fun k hk _ => hb.block k hk⟩
  exact World.ownsRow.kept h hg (by cases hv : v.ownBlock <;> simp)
theorem Out.own (h : Out V E base v ys w) : ∃ A c, v = .slice A ys.length c ∧ Own (fun x => [V x]) 1 base w.heap.size w A ys := by
  rcases h.2 with ⟨rfl, h0⟩ | ⟨g, cap, cur, rfl, hb, hg, h1, h2, h3, h4⟩
  · have : ys = [] := List.eq_nil_of_length_eq_zero h0
    subst this
    exact ⟨none, 0, rfl, Own.nil (Nat.le_refl _)⟩
  · have hlt : g < w.heap.size := by
      rcases Nat.lt_or_ge g w.heap.size with h | h
      · exact h
      · rw [Array.getElem?_eq_none h] at hg; cases hg
    refine ⟨_, _, rfl, Nat.le_refl _, fun _ => ⟨g, 0, rfl, hb, hlt, fun i x hx j u hu => ?_, fun o => ?_⟩⟩
    · have hj : j = 0 := by
        have := (List.getElem?_eq_some_iff.1 hu).1
        simp at this; omega
      subst hj
      have hu' : u = V x := by simpa using hu.symm
      subst hu'
      have := h.cells (g := g) rfl i (V x) (by rw [List.getElem?_map, hx]; rfl)
      have hadd : (⟨g, 0, none⟩ : Addr).add i = ⟨g, i, none⟩ := by unfold Addr.add; split <;> simp_all
      rw [hadd] at this
      simpa using this
    · simp [World.frozen?, hg]
theorem Out.fresh {lo : Nat} (h : Out V E base v ys w) (hl : lo ≤ base) : Out V E lo v ys w := by
  refine ⟨h.1, ?_⟩
  rcases h.2 with h | ⟨g, cap, cur, h0, hb, h⟩
  · exact .inl h
  · exact .inr ⟨g, cap, cur, h0, by omega, h⟩
theorem Out.snoc {x : α} {v' : Value} (h : w.ownsRow base E 1 v' (ys.length + 1) (ys.map V ++ [V x])) : Out V E base v' (ys ++ [x]) w := by
  unfold Out
  rw [List.length_append, List.map_append]
  exact h
theorem grown_below {B : Nat} {a w w' : World} (h : Below B a w) (hB : B ≤ a.heap.size) (hg : w.grownBy w' v.ownBlock) (hn : ∀ g, v.ownBlock = some g → B ≤ g) : Below B a w' :=
  ⟨hg.os.trans h.os, hg.tape.trans h.tape, hg.output.trans h.output, Nat.le_trans h.size hg.size, fun k hk => (hg.block k (by have := h.size; omega) (fun e => by have := hn k e.symm; omega)).trans (h.block k hk)⟩
theorem Out.from_ (h : Out V E base v ys w) : ∀ g, v.ownBlock = some g → base ≤ g := fun g hg => (World.ownsRow.lt h g hg).1
end

theorem filt_yes {α β : Type} {p : α → Bool} {f : α → β} {xs : List α} {k : Nat} (hk : k < xs.length) (hp : p xs[k] = true) : ((xs.take (k + 1)).filter p).map f = ((xs.take k).filter p).map f ++ [f xs[k]] := by
  rw [take_succ_get xs k hk, List.filter_append]; simp [hp]
theorem filt_no {α β : Type} {p : α → Bool} {f : α → β} {xs : List α} {k : Nat} (hk : k < xs.length) (hp : p xs[k] = false) : ((xs.take (k + 1)).filter p).map f = ((xs.take k).filter p).map f := by
  rw [take_succ_get xs k hk, List.filter_append]; simp [hp]
theorem filt_len {α β : Type} {p : α → Bool} {f : α → β} {xs : List α} {k : Nat} : (((xs.take k).filter p).map f).length ≤ k := by
  rw [List.length_map]
  exact Nat.le_trans (List.length_filter_le _ _) (by simp; omega)
theorem filt_all {α β : Type} {p : α → Bool} {f : α → β} {xs : List α} {k : Nat} (hk : xs.length ≤ k) : ((xs.take k).filter p).map f = (xs.filter p).map f := by rw [List.take_of_length_le hk]
/-- 'append(out, x)' of one element, onto a slice of the call's own. -/
theorem wpList_push {α : Type} {P : Program} {ops : Array Oper} {rest : List Oper} {o : Oper} {a : Act} {Q : Exit → Act → World → Prop} {w : World} (hgd : o.guard = none) (s x : Operand) (t : TypeId)
    (ho : o.op = .call { callee := .builtin .append, args := #[s, x], argTypes := #[t, t] }) (E : TypeId) (z : Value) (bytes : Nat) (ht : P.underlying t = some (.slice E))
    (hi : (P.info? E).map (fun i => (i.zero, i.size, i.bytes)) = some (some z, 1, bytes)) (hzs : z.cells.size = 1)
    {V : α → Value} {base : Nat} {v : Value} {ys : List α} (xx : α) (hs : a.eval s = v) (hown : Out V E base v ys w) (H : Nat) (hx : a.eval x = .slice (some ⟨H, 0, none⟩) 1 1) (hH : w.heap.size = H)
    (h1 : (V xx).oneCell' = true) (hlen : (ys.length + 1) * bytes ≤ 140737488355328) (hle : ys.length + 1 ≤ 9223372036854775807) (hbase : base ≤ w.heap.size)
    (h : ∀ v' w', Out V E base v' (ys ++ [xx]) w' → Below base w w' → wpList P ops Q rest (a.put o.dst v') w') : wpList P ops Q (o :: rest) a (w.alloc (.cells #[V xx] E)) := by
  subst hH
  obtain ⟨i0, hi0, hz0, hz1, hz2⟩ := info_parts hi
  have ho1 : Out V E base v ys (w.alloc (.cells #[V xx] E)) := hown.below ((Below.refl _ _).alloc (Nat.le_refl _) _)
  refine wpList_append_own (w.alloc (.cells #[V xx] E)) hgd s x t ho base E i0 z 1 bytes ht hi0 hz0 hz1 hz2 hzs (by decide) v ys.length (ys.map V) hs ho1 ⟨w.heap.size, 0, none⟩ 1 1 [V xx] hx rfl ?_ ?_ (by unfold maxLen; omega) hlen (by simp; omega) ?_
  · intro j u hu
    have hj : j = 0 := by have := (List.getElem?_eq_some_iff.1 hu).1; simp at this; omega
    subst hj
    have hu' : u = V xx := by simpa using hu.symm
    subst hu'
    have : (⟨w.heap.size, 0, none⟩ : Addr).add 0 = ⟨w.heap.size, 0, none⟩ := rfl
    rw [this, World.cell?_alloc_new]
    rfl
  · intro u hu
    have hu' : u = V xx := by simpa using hu
    subst hu'
    exact h1
  · intro v' w' hown' hg _
    exact h v' w' (Out.snoc hown') (grown_below ((Below.refl _ _).alloc (Nat.le_refl _) _ |>.mono hbase) hbase hg ho1.from_)
theorem ret_list {b b' : Bool} {A : Option Addr} {n m c : Nat} (hn : n = m) (hb : b = b') : Ending.returned (.tuple #[.slice A n c, .bool b]) = .returned (.tuple #[.slice A m c, .bool b']) := by rw [hn, hb]
/-- The call returns a slice of its own that reads as ys, and b. -/
def RetL {α : Type} (enc : α → List Value) (k : Nat) (ys : List α) (b : Bool) (w : World) (e : Ending) (w' : World) : Prop := ∃ B c', e = .returned (.tuple #[.slice B ys.length c', .bool b]) ∧ Below w.heap.size w w' ∧ Own enc k w.heap.size w'.heap.size w' B ys
/-- The call returns a slice of its own that reads as ys. -/
def RetS {α : Type} (enc : α → List Value) (k : Nat) (ys : List α) (w : World) (e : Ending) (w' : World) : Prop := ∃ B c', e = .returned (.slice B ys.length c') ∧ Below w.heap.size w w' ∧ Own enc k w.heap.size w'.heap.size w' B ys
theorem ret_sl {A : Option Addr} {n m c : Nat} (hn : n = m) : Ending.returned (.slice A n c) = .returned (.slice A m c) := by rw [hn]
theorem Own.none_ {α : Type} {enc : α → List Value} {k lo hi : Nat} {w : World} {A : Option Addr} {ys : List α} (h : ys = []) (hs : hi ≤ w.heap.size) : Own enc k lo hi w A ys := by subst h; exact Own.nil hs
theorem Own.cast {α : Type} {enc : α → List Value} {k lo hi : Nat} {w : World} {A : Option Addr} {xs ys : List α} (h : Own enc k lo hi w A xs) (e : xs = ys) : Own enc k lo hi w A ys := e ▸ h
end Go.Proofs.YtpnkeaeikcobfaaGreatDoor
