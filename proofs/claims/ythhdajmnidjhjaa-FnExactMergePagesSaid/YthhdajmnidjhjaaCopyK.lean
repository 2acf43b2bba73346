/- 'copy' at records of k cells onto a row that is known whole; plain facts on the row behind it. No condition of its own. -/
import Derived.Test.YthhdajmnidjhjaaApp2
import Derived.Laws.CopyRow
import Derived.Laws.CopyOwn
namespace Go.Proofs.Ythhdajmnidjhjaa
set_option linter.unusedVariables false
set_option linter.unusedSimpArgs false
open Go.RowKit
theorem run_copy_rowK {P : Program} (w : World) (dT sT ty elem : TypeId) (k g o dLen dCap : Nat) (a : Addr) (sLen sCap : Nat) (cur : Array Value) (t : TypeId) (cs : List Value)
    (hu : P.underlying dT = some (.slice elem)) (hs : (P.info? elem).map (·.size) = some k)
    (hg : w.heap[g]? = some (.cells cur t (0, 0))) (m : Nat) (hm : m = Nat.min sLen dLen) (hn : cs.length = m * k)
    (hsrc : ∀ j v, cs[j]? = some v → w.cell? (a.add j) = some v) (hfit : o + cs.length ≤ cur.size) (h1 : ∀ v ∈ cs, v.oneCell' = true) :
    (Builtin.copy_ #[dT, sT] ty #[.slice (some ⟨g, o, none⟩) dLen dCap, .slice (some a) sLen sCap]).run P w =
      .ok (goInt m) (w.setRow g (splice cur.toList o cs).toArray) := by
  have hl := run_loadCells_list (P := P) w a cs hsrc
  have hst := run_storeCells_at P g o t cs 0 cur w hg (by simpa using hfit) h1
  subst hm
  cases hq : P.info? elem with
  | none => simp [hq] at hs
  | some i =>
    have hi : i.size = k := by simpa [hq] using hs
    simp only [Nat.add_zero, List.append_assoc] at hst
    simp [Builtin.copy_, run_underlying hu, Builtin.lenOf, Builtin.firstCells, sizeOf, typeInfo, hq, hi, ← hn, hl, hst, splice]
/-- 'copy(dst[..], src[..])' as one step of a region that draws its order. -/
theorem step_copyK {P : Program} {ops : Array Oper} {o : Oper} {a : Act} {w : World} {K : Act → World → Prop} {Q : Exit → Act → World → Prop} {E : Prop} (hgd : o.guard = none) (d s : Operand) (dT sT : TypeId)
    (ho : o.op = .call { callee := .builtin .copy, args := #[d, s], argTypes := #[dT, sT] }) (elem : TypeId) (k : Nat) (hu : P.underlying dT = some (.slice elem)) (hsz : (P.info? elem).map (·.size) = some k)
    (g off dLen dCap : Nat) (ad : Addr) (sLen sCap : Nat) (hd : a.eval d = .slice (some ⟨g, off, none⟩) dLen dCap) (hs : a.eval s = .slice (some ad) sLen sCap)
    (cur : Array Value) (t : TypeId) (hg : w.heap[g]? = some (.cells cur t (0, 0))) (cs : List Value) (m : Nat) (hm : m = Nat.min sLen dLen) (hn : cs.length = m * k)
    (hsrc : ∀ j v, cs[j]? = some v → w.cell? (ad.add j) = some v) (hfit : off + cs.length ≤ cur.size) (h1 : ∀ v ∈ cs, v.oneCell' = true)
    (h : K (a.put o.dst (goInt m)) (w.setRow g (splice cur.toList off cs).toArray)) :
    if Region.wanted o (yielded ops a.tmps) = true then Oper.wp P o a w K Q else E := by
  have hw : Region.wanted o (yielded ops a.tmps) = true := by simp [Region.wanted, hgd]
  rw [if_pos hw]
  have hrun := run_copy_rowK (P := P) w dT sT o.type elem k g off dLen dCap ad sLen sCap cur t cs hu hsz hg m hm hn hsrc hfit h1
  unfold Oper.wp
  simp [execOp, ho, resolve, invoke, builtin, hd, hs, hrun, Result.andThen]
  exact h
theorem wpList_copyK {P : Program} {ops : Array Oper} {rest : List Oper} {o : Oper} {a : Act} {Q : Exit → Act → World → Prop} {w : World} (hgd : o.guard = none) (d s : Operand) (dT sT : TypeId)
    (ho : o.op = .call { callee := .builtin .copy, args := #[d, s], argTypes := #[dT, sT] }) (elem : TypeId) (k : Nat) (hu : P.underlying dT = some (.slice elem)) (hsz : (P.info? elem).map (·.size) = some k)
    (g off dLen dCap : Nat) (ad : Addr) (sLen sCap : Nat) (hd : a.eval d = .slice (some ⟨g, off, none⟩) dLen dCap) (hs : a.eval s = .slice (some ad) sLen sCap)
    (cur : Array Value) (t : TypeId) (hg : w.heap[g]? = some (.cells cur t (0, 0))) (cs : List Value) (m : Nat) (hm : m = Nat.min sLen dLen) (hn : cs.length = m * k)
    (hsrc : ∀ j v, cs[j]? = some v → w.cell? (ad.add j) = some v) (hfit : off + cs.length ≤ cur.size) (h1 : ∀ v ∈ cs, v.oneCell' = true)
    (h : wpList P ops Q rest (a.put o.dst (goInt m)) (w.setRow g (splice cur.toList off cs).toArray)) : wpList P ops Q (o :: rest) a w := by
  refine wpList_plain hgd fun K hK => ?_
  have hrun := run_copy_rowK (P := P) w dT sT o.type elem k g off dLen dCap ad sLen sCap cur t cs hu hsz hg m hm hn hsrc hfit h1
  unfold Oper.wp
  simp [execOp, ho, resolve, invoke, builtin, hd, hs, hrun, Result.andThen]
  exact hK _ _ h
/-- The call returns the records zs in a slice of its own, in blocks from lo on; nothing below lo is turned. -/
def RetG {α : Type} (enc : α → List Value) (k : Nat) (E : TypeId) (lo : Nat) (zs : List α) (w : World) (e : Ending) (w' : World) : Prop := ∃ A' c', e = .returned (.slice A' zs.length c') ∧ OutR enc k E lo (.slice A' zs.length c') zs w' ∧ Below lo w w'
theorem fr_setRow {lo hi g : Nat} {a w : World} (h : Fr lo hi a w) (h1 : lo ≤ g) (h2 : g < hi) (cs : Array Value) : Fr lo hi a (w.setRow g cs) :=
  h.trans ⟨rfl, rfl, rfl, by simp [World.setRow], fun k _ hk => setRow_other w g k cs (by omega)⟩
/-- A row in a block g: what the whole row holds. -/
theorem row_of {α : Type} {enc : α → List Value} {k : Nat} {E : TypeId} {base g n c : Nat} {ys : List α} {w : World} (h : OutR enc k E base (.slice (some ⟨g, 0, none⟩) n c) ys w) :
    n = ys.length ∧ base ≤ g ∧ n ≤ c ∧ c ≤ maxLen ∧ ∃ cur : Array Value, w.heap[g]? = some (.cells cur E (0, 0)) ∧ cur.size = c * k ∧ cur.toList.take (ys.length * k) = ys.flatMap enc := by
  rcases h.2 with ⟨h1, _⟩ | ⟨g', cap', cur, h1, hb, hg, hc, hc2, hc3, hc4⟩
  · cases h1
  · injection h1 with h1 h2 h3
    injection h1 with h1; injection h1 with h1
    subst h1 h3
    exact ⟨h2, hb, by omega, hc2, cur, hg, hc3, hc4⟩
theorem row_to {α : Type} {enc : α → List Value} {k : Nat} {E : TypeId} {base g n c : Nat} {ys : List α} {w : World} (hl : ∀ x, (enc x).length = k) {cur : Array Value} (hn : n = ys.length) (hb : base ≤ g) (hc : n ≤ c) (hm : c ≤ maxLen) (hg : w.heap[g]? = some (.cells cur E (0, 0))) (hs : cur.size = c * k) (ht : cur.toList.take (ys.length * k) = ys.flatMap enc) : OutR enc k E base (.slice (some ⟨g, 0, none⟩) n c) ys w := by
  subst hn
  exact ⟨flat_len hl ys, .inr ⟨g, c, cur, rfl, hb, hg, hc, hm, hs, ht⟩⟩
theorem splice_take_lo {α : Type} {L cs : List α} {o n : Nat} (h : n ≤ o) (ho : o ≤ L.length) : (splice L o cs).take n = L.take n := by
  unfold splice
  rw [List.take_append_of_le_length (by rw [List.length_take]; omega), List.take_take, Nat.min_eq_left h]
theorem splice_take_hi {α : Type} {L cs : List α} {o : Nat} (ho : o ≤ L.length) : (splice L o cs).take (o + cs.length) = L.take o ++ cs := by
  unfold splice
  rw [← List.append_assoc]
  exact List.take_left' (by simp; omega)
theorem splice_drop {α : Type} {L cs : List α} {o : Nat} (ho : o ≤ L.length) : (splice L o cs).drop (o + cs.length) = L.drop (o + cs.length) := by
  unfold splice
  rw [← List.append_assoc]
  exact List.drop_left' (by simp; omega)
theorem splice_len {α : Type} {L cs : List α} {o : Nat} (h : o + cs.length ≤ L.length) : (splice L o cs).length = L.length := length_splice L o cs h
/-- The end moved one record on, then the record put in. -/
theorem splice_ins {α : Type} {L pre one post : List α} (hp : L.take pre.length = pre) (h : pre.length + one.length + post.length ≤ L.length) : (splice (splice L (pre.length + one.length) post) pre.length one).take (pre.length + one.length + post.length) = pre ++ one ++ post := by
  have e1 : (splice L (pre.length + one.length) post).take pre.length = pre := by rw [splice_take_lo (by omega) (by omega)]; exact hp
  have e2 : (splice L (pre.length + one.length) post).drop (pre.length + one.length) = post ++ L.drop (pre.length + one.length + post.length) := by
    unfold splice
    exact List.drop_left' (by rw [List.length_take]; omega)
  have e3 : splice (splice L (pre.length + one.length) post) pre.length one = pre ++ (one ++ (post ++ L.drop (pre.length + one.length + post.length))) := by
    rw [← e2]
    conv => lhs; unfold splice
    rw [show L.take (pre.length + one.length) ++ (post ++ L.drop (pre.length + one.length + post.length)) = splice L (pre.length + one.length) post from rfl, e1]
  rw [e3, ← List.append_assoc, ← List.append_assoc]
  exact List.take_left' (by simp; omega)
/-- A new row: the front as before, then the record, then the end. -/
theorem splice_grow {α : Type} {L pre one post : List α} (hp : L.take pre.length = pre) (h : pre.length + one.length + post.length ≤ L.length) : (splice (splice L pre.length one) (pre.length + one.length) post).take (pre.length + one.length + post.length) = pre ++ one ++ post := by
  have hl := splice_len (L := L) (cs := one) (o := pre.length) (by omega)
  have e1 : (splice L pre.length one).take (pre.length + one.length) = pre ++ one := by rw [splice_take_hi (by omega), hp]
  rw [splice_take_hi (by omega), e1]
end Go.Proofs.Ythhdajmnidjhjaa
