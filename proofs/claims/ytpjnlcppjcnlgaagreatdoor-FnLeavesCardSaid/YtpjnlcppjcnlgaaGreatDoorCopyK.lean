/- 'copy' at records of k cells onto a row that is known whole; plain facts on the row behind it. No condition of its own. -/
import Derived.Test.YtpjnlcppjcnlgaaGreatDoorApp2
import Derived.Laws.CopyRow
import Derived.Laws.CopyOwn
import Derived.Test.YtpjnlcppjcnlgaaGreatDoorAlCpy3
import Derived.Laws.IdiomCopy
import Derived.Deep.RegionLaw
import Derived.Test.YtpjnlcppjcnlgaaGreatDoorAlMgP
import Derived.Test.YtpjnlcppjcnlgaaGreatDoorAlIs
import Derived.Test.YtpjnlcppjcnlgaaGreatDoorAppH
namespace Go.Proofs.YtpjnlcppjcnlgaaGreatDoor
set_option linter.unusedVariables false
set_option linter.unusedSimpArgs false
open Go.RowKit
theorem run_copy_rowK {P : Program} (w : World) (dT sT ty elem : TypeId) (k g o dLen dCap : Nat) (a : Addr) (sLen sCap : Nat) (cur : Array Value) (t : TypeId) (cs : List Value)
    (hu : P.underlying dT = some (.slice elem)) (hs : (P.info? elem).map (·.size) = some k)
    (hg : w.heap[g]? = some (.cells cur t (0, 0))) (m : Nat) (hm : m = Nat.min sLen dLen) (hn : cs.length = m * k)
    (hsrc : ∀ j v, cs[j]? = some v → w.cell? (a.add j) = some v) (hfit : o + cs.length ≤ cur.size) (h1 : ∀ v ∈ cs, v.oneCell' = true) :
    (Builtin.copy_ #[dT, sT] ty #[.slice (some ⟨g, o, none⟩) dLen dCap, .slice (some a) sLen sCap]).run P w =
      .ok (goInt m) (w.setRow g (splice cur.toList o cs).toArray) := by
  have hl := run_loadCells_list (P := P) w a cs hsrc
  have hst := run_storeCells_at P g o t cs 0 cur w hg (by simpa using hfit) h1
  subst hm
  cases hq : P.info? elem with
  | none => simp [hq] at hs
  | some i =>
    have hi : i.size = k := by simpa [hq] using hs
    simp only [Nat.add_zero, List.append_assoc] at hst
    simp [Builtin.copy_, run_underlying hu, Builtin.lenOf, Builtin.firstCells, sizeOf, typeInfo, hq, hi, ← hn, hl, hst, splice]
/-- 'copy(dst[..], src[..])' as one step of a region that draws its order. -/
theorem step_copyK {P : Program} {ops : Array Oper} {o : Oper} {a : Act} {w : World} {K : Act → World → Prop} {Q : Exit → Act → World → Prop} {E : Prop} (hgd : o.guard = none) (d s : Operand) (dT sT : TypeId)
    (ho : o.op = .call { callee := .builtin .copy, args := #[d, s], argTypes := #[dT, sT] }) (elem : TypeId) (k : Nat) (hu : P.underlying dT = some (.slice elem)) (hsz : (P.info? elem).map (·.size) = some k)
    (g off dLen dCap : Nat) (ad : Addr) (sLen sCap : Nat) (hd : a.eval d = .slice (some ⟨g, off, none⟩) dLen dCap) (hs : a.eval s = .slice (some ad) sLen sCap)
    (cur : Array Value) (t : TypeId) (hg : w.heap[g]? = some (.cells cur t (0, 0))) (cs : List Value) (m : Nat) (hm : m = Nat.min sLen dLen) (hn : cs.length = m * k)
    (hsrc : ∀ j v, cs[j]? = some v → w.cell? (ad.add j) = some v) (hfit : off + cs.length ≤ cur.size) (h1 : ∀ v ∈ cs, v.oneCell' = true)
    (h : K (a.put o.dst (goInt m)) (w.setRow g (splice cur.toList off cs).toArray)) :
    if Region.wanted o (yielded ops a.tmps) = true then Oper.wp P o a w K Q else E := by
  have hw : Region.wanted o (yielded ops a.tmps) = true := by simp [Region.wanted, hgd]
  rw [if_pos hw]
  have hrun := run_copy_rowK (P := P) w dT sT o.type elem k g off dLen dCap ad sLen sCap cur t cs hu hsz hg m hm hn hsrc hfit h1
  unfold Oper.wp
  simp [execOp, ho, resolve, invoke, builtin, hd, hs, hrun, Result.andThen]
  exact h
theorem wpList_copyK {P : Program} {ops : Array Oper} {rest : List Oper} {o : Oper} {a : Act} {Q : Exit → Act → World → Prop} {w : World} (hgd : o.guard = none) (d s : Operand) (dT sT : TypeId)
    (ho : o.op = .call { callee := .builtin .copy, args := #[d, s], argTypes := #[dT, sT] }) (elem : TypeId) (k : Nat) (hu : P.underlying dT = some (.slice elem)) (hsz : (P.info? elem).map (·.size) = some k)
    (g off dLen dCap : Nat) (ad : Addr) (sLen sCap : Nat) (hd : a.eval d = .slice (some ⟨g, off, none⟩) dLen dCap) (hs : a.eval s = .slice (some ad) sLen sCap)
    (cur : Array Value) (t : TypeId) (hg : w.heap[g]? = some (.cells cur t (0, 0))) (cs : List Value) (m : Nat) (hm : m = Nat.min sLen dLen) (hn : cs.length = m * k)
    (hsrc : ∀ j v, cs[j]? = some v → w.cell? (ad.add j) = some v) (hfit : off + cs.length ≤ cur.size) (h1 : ∀ v ∈ cs, v.oneCell' = true)
    (h : wpList P ops Q rest (a.put o.dst (goInt m)) (w.setRow g (splice cur.toList off cs).toArray)) : wpList P ops Q (o :: rest) a w := by
  refine wpList_plain hgd fun K hK => ?_
  have hrun := run_copy_rowK (P := P) w dT sT o.type elem k g off dLen dCap ad sLen sCap cur t cs hu hsz hg m hm hn hsrc hfit h1
  unfold Oper.wp
  simp [execOp, ho, resolve, invoke, builtin, hd, hs, hrun, Result.andThen]
  exact hK _ _ h
/-- The call returns the records zs in a slice of its own, in blocks from lo on; nothing below lo is turned. -/
def RetG {α : Type} (enc : α → List Value) (k : Nat) (E : TypeId) (lo : Nat) (zs : List α) (w : World) (e : Ending) (w' : World) : Prop := ∃ A' c', e = .returned (.slice A' zs.length c') ∧ OutR enc k E lo (.slice A' zs.length c') zs w' ∧ Below lo w w'
theorem fr_setRow {lo hi g : Nat} {a w : World} (h : Fr lo hi a w) (h1 : lo ≤ g) (h2 : g < hi) (cs : Array Value) : Fr lo hi a (w.setRow g cs) :=
  h.trans ⟨rfl, rfl, rfl, by simp [World.setRow], fun k _ hk => setRow_other w g k cs (by omega)⟩
/-- A row in a block g: what the whole row holds. -/
theorem row_of {α : Type} {enc : α → List Value} {k : Nat} {E : TypeId} {base g n c : Nat} {ys : List α} {w : World} (h : OutR enc k E base (.slice (some ⟨g, 0, none⟩) n c) ys w) :
    n = ys.length ∧ base ≤ g ∧ n ≤ c ∧ c ≤ maxLen ∧ ∃ cur : Array Value, w.heap[g]? = some (.cells cur E (0, 0)) ∧ cur.size = c * k ∧ cur.toList.take (ys.length * k) = ys.flatMap enc := by
  rcases h.2 with ⟨h1, _⟩ | ⟨g', cap', cur, h1, hb, hg, hc, hc2, hc3, hc4⟩
  · cases h1
  · injection h1 with h1 h2 h3
    injection h1 with h1; injection h1 with h1
    subst h1 h3
    exact ⟨h2, hb, by omega, hc2, cur, hg, hc3, hc4⟩
theorem row_to {α : Type} {enc : α → List Value} {k : Nat} {E : TypeId} {base g n c : Nat} {ys : List α} {w : World} (hl : ∀ x, (enc x).length = k) {cur : Array Value} (hn : n = ys.length) (hb : base ≤ g) (hc : n ≤ c) (hm : c ≤ maxLen) (hg : w.heap[g]? = some (.cells cur E (0, 0))) (hs : cur.size = c * k) (ht : cur.toList.take (ys.length * k) = ys.flatMap enc) : OutR enc k E base (.slice (some ⟨g, 0, none⟩) n c) ys w := by
  subst hn
  exact ⟨flat_len hl ys, .inr ⟨g, c, cur, rfl, hb, hg, hc, hm, hs, ht⟩⟩
theorem splice_take_lo {α : Type} {L cs : List α} {o n : Nat} (h : n ≤ o) (ho : o ≤ L.length) : (splice L o cs).take n = L.take n := by
  unfold splice
  rw [List.take_append_of_le_length (by rw [List.length_take]; omega), List.take_take, Nat.min_eq_left h]
theorem splice_take_hi {α : Type} {L cs : List α} {o : Nat} (ho : o ≤ L.length) : (splice L o cs).take (o + cs.length) = L.take o ++ cs := by
  unfold splice
  rw [← List.append_assoc]
  exact List.take_left' (by simp; omega)
theorem splice_drop {α : Type} {L cs : List α} {o : Nat} (ho : o ≤ L.length) : (splice L o cs).drop (o + cs.length) = L.drop (o + cs.length) := by
  unfold splice
  rw [← List.append_assoc]
  exact List.drop_left' (by simp; omega)
theorem splice_len {α : Type} {L cs : List α} {o : Nat} (h : o + cs.length ≤ L.length) : (splice L o cs).length = L.length := length_splice L o cs h
/-- The end moved one record on, then the record put in. -/
theorem splice_ins {α : Type} {L pre one post : List α} (hp : L.take pre.length = pre) (h : pre.length + one.length + post.length ≤ L.length) : (splice (splice L (pre.length + one.length) post) pre.length one).take (pre.length + one.length + post.length) = pre ++ one ++ post := by
  have e1 : (splice L (pre.length + one.length) post).take pre.length = pre := by rw [splice_take_lo (by omega) (by omega)]; exact hp
  have e2 : (splice L (pre.length + one.length) post).drop (pre.length + one.length) = post ++ L.drop (pre.length + one.length + post.length) := by
    unfold splice
    exact List.drop_left' (by rw [List.length_take]; omega)
  have e3 : splice (splice L (pre.length + one.length) post) pre.length one = pre ++ (one ++ (post ++ L.drop (pre.length + one.length + post.length))) := by
    rw [← e2]
    conv => lhs; unfold splice
    rw [show L.take (pre.length + one.length) ++ (post ++ L.drop (pre.length + one.length + post.length)) = splice L (pre.length + one.length) post from rfl, e1]
  rw [e3, ← List.append_assoc, ← List.append_assoc]
  exact List.take_left' (by simp; omega)
/-- A new row: the front as before, then the record, then the end. -/
theorem splice_grow {α : Type} {L pre one post : List α} (hp : L.take pre.length = pre) (h : pre.length + one.length + post.length ≤ L.length) : (splice (splice L pre.length one) (pre.length + one.length) post).take (pre.length + one.length + post.length) = pre ++ one ++ post := by
  have hl := splice_len (L := L) (cs := one) (o := pre.length) (by omega)
  have e1 : (splice L pre.length one).take (pre.length + one.length) = pre ++ one := by rw [splice_take_hi (by omega), hp]
  rw [splice_take_hi (by omega), e1]
end Go.Proofs.YtpjnlcppjcnlgaaGreatDoor
namespace Go.Proofs.YtpjnlcppjcnlgaaGreatDoor
set_option linter.unusedVariables false
set_option linter.unusedSimpArgs false
open Go.RowKit
attribute [local irreducible] wpQuiet
/-- The call returns the slice that it was given, with ys left; only its block has turned. -/
def RetGF {α : Type} (A : Option Addr) (enc : α → List Value) (k : Nat) (E : TypeId) (base : Nat) (ys : List α) (w : World) (e : Ending) (w' : World) : Prop := ∃ g c', A = some ⟨g, 0, none⟩ ∧ e = .returned (.slice (some ⟨g, 0, none⟩) ys.length c') ∧ OutR enc k E base (.slice (some ⟨g, 0, none⟩) ys.length c') ys w' ∧ Fr g (g + 1) w w'
theorem setCells_row (w : World) (g o : Nat) (cur : Array Value) (t : TypeId) (cs : List Value) (hg : w.heap[g]? = some (.cells cur t (0, 0))) (hfit : o + cs.length ≤ cur.size) (h1 : ∀ v ∈ cs, v.oneCell' = true) : w.setCells g o cs = w.setRow g (splice cur.toList o cs).toArray := by
  have a := run_storeCells_cells (P := Tryz.prog) g o cs 0 w (fun j hj => by
    simp only [World.cell?, hg, Nat.add_zero]
    rw [Array.getElem?_eq_getElem (by omega)]; rfl) (fun j hj => by simp [World.frozen?, hg]) h1
  have b := run_storeCells_at Tryz.prog g o t cs 0 cur w hg (by simpa using hfit) h1
  rw [a] at b
  injection b with _ b
  simpa [splice] using b
theorem run_clear1 (w : World) (t e ty : TypeId) (z : Value) (k : Nat) (ht : Tryz.prog.underlying t = some (.slice e)) (hv : ∀ w, (zeroValue e).run Tryz.prog w = .ok z w) (hk : z.cells.size = k) (h1 : ∀ v ∈ z.cells.toList, v.oneCell' = true) (g o c : Nat) (cur : Array Value) (te : TypeId) (hg : w.heap[g]? = some (.cells cur te (0, 0))) (hfit : o + k ≤ cur.size) :
    (Builtin.clear_ #[t] ty #[.slice (some ⟨g, o, none⟩) 1 c]).run Tryz.prog w = .ok (.tuple #[]) (w.setRow g (splice cur.toList o z.cells.toList).toArray) := by
  have hzc : (Builtin.zeroCells z.cells 1).toList = z.cells.toList := by
    apply List.ext_getElem
    · simp [Builtin.zeroCells]
    · intro i h1 h2
      simp [Builtin.zeroCells]
      have h2' : i < z.cells.size := by simpa using h2
      rw [Nat.mod_eq_of_lt h2']
      simp [h2']
  have hst := run_storeCells_at Tryz.prog g o te z.cells.toList 0 cur w hg (by simp; omega) h1
  simp only [Nat.add_zero] at hst
  simp [Builtin.clear_, run_underlying ht, hv, hzc, hst, splice]
theorem zeroPageM : ∀ w, (zeroValue 56).run Tryz.prog w = .ok (.agg #[.int .i64 0, .string ⟨#[]⟩, .int .i64 0, .slice none 0 0]) w := fun w => by kernel_rfl
set_option maxHeartbeats 1600000 in
set_option maxRecDepth 100000 in
theorem delPageM_c (ys : List PageM) (A : Option Addr) (cap : Nat) (i n lo : Nat) (w : World) (ho : OutR encPM 4 56 lo (.slice A (n + 1) cap) ys w) (hln : ys.length = n + 1) (hi : i < n + 1) (hn : n ≤ 1048576) (hlo : lo ≤ w.heap.size) :
    Calls Tryz.prog 39 #[.slice A (n + 1) cap, .int .i64 i, .int .i64 ((i : Int) + 1)] w (RetGF A encPM 4 56 lo (ys.take i ++ ys.drop (i + 1)) w) := by
  rcases ho.2 with ⟨hA, h0⟩ | ⟨g, cap', cur, hA, hlg, hg, hnc, hcm, hcs, htk⟩
  · omega
  injection hA with hA hA2 hA3
  subst hA hA3
  have hgw : g < w.heap.size := (Array.getElem?_eq_some_iff.1 hg).1
  have hlz : (ys.take i ++ ys.drop (i + 1)).length = n := by simp; omega
  obtain ⟨PRE, hPRE⟩ : ∃ P, P = (ys.take i).flatMap encPM := ⟨_, rfl⟩
  obtain ⟨POST, hPOST⟩ : ∃ P, P = (ys.drop (i + 1)).flatMap encPM := ⟨_, rfl⟩
  obtain ⟨ONE, hONE⟩ : ∃ P, P = encPM (ys[i]'(by omega)) := ⟨_, rfl⟩
  have hpl : PRE.length = i * 4 := by rw [hPRE, flat_len encPM_len, List.length_take]; congr 1; omega
  have hql : POST.length = (n - i) * 4 := by rw [hPOST, flat_len encPM_len, List.length_drop]; congr 1; omega
  have hol : ONE.length = 4 := by rw [hONE]; rfl
  have hysp : ys = ys.take i ++ ([ys[i]'(by omega)] ++ ys.drop (i + 1)) := by
    rw [List.singleton_append, ← List.drop_eq_getElem_cons (by omega), List.take_append_drop]
  have hcut : cur.toList.take ((n + 1) * 4) = PRE ++ (ONE ++ POST) := by
    rw [← hln, htk, hPRE, hPOST, hONE]
    conv => lhs; rw [hysp]
    rw [List.flatMap_append, List.flatMap_append]
    simp
  have hcl : cur.toList.length = cap * 4 := by simpa using hcs
  have hpre : cur.toList.take PRE.length = PRE := by
    have := congrArg (List.take PRE.length) hcut
    rwa [List.take_take, Nat.min_eq_left (by rw [hpl]; omega), List.take_left' rfl] at this
  have h1p : ∀ v ∈ POST, v.oneCell' = true := by
    rw [hPOST]
    intro u hu
    obtain ⟨x, _, hx⟩ := List.mem_flatMap.1 hu
    exact onePM x u hx
  have hall : (ys.take i ++ ys.drop (i + 1)).flatMap encPM = PRE ++ POST := by rw [List.flatMap_append, hPRE, hPOST]
  have hpost : ∀ j v, POST[j]? = some v → cur[(i + 1) * 4 + j]? = some v := fun j v hj => by
    have hjl := (List.getElem?_eq_some_iff.1 hj).1
    have h2 : (cur.toList.take ((n + 1) * 4))[(i + 1) * 4 + j]? = some v := by
      rw [hcut, List.getElem?_append_right (by omega), List.getElem?_append_right (by omega), hpl, hol]
      rw [show (i + 1) * 4 + j - i * 4 - 4 = j by omega]; exact hj
    rw [List.getElem?_take] at h2
    split at h2
    · simpa using h2
    · cases h2
  have mixed : Tryz.prog.follows .mixedOrders = true := by kernel_rfl
  obtain ⟨i0, hi0x, hz0, hzs, hzb⟩ := info_parts infoPage
  obtain ⟨ROW1, hR1⟩ : ∃ R : Array Value, R = (splice cur.toList (i * 4) POST).toArray := ⟨_, rfl⟩
  obtain ⟨ROW2, hR2⟩ : ∃ R : Array Value, R = (splice ROW1.toList (n * 4) (Value.cells (.agg #[.int .i64 0, .string ⟨#[]⟩, .int .i64 0, .slice none 0 0])).toList).toArray := ⟨_, rfl⟩
  have hl1 : ROW1.size = cap * 4 := by rw [hR1, List.size_toArray, splice_len (by omega), hcl]
  have hl1' : ROW1.toList.length = cap * 4 := by simpa using hl1
  have hl2 : ROW2.size = cap * 4 := by rw [hR2, List.size_toArray, splice_len (by simp [Value.cells]; omega), hl1']
  have hrow : ROW2.toList.take (n * 4) = PRE ++ POST := by
    rw [hR2]
    simp only []
    rw [splice_take_lo (Nat.le_refl _) (by omega), hR1]
    simp only []
    have := splice_take_hi (L := cur.toList) (cs := POST) (o := i * 4) (by omega)
    rw [show i * 4 + POST.length = n * 4 by rw [hql]; omega, ← hpl, hpre] at this
    rw [← hpl]; exact this
  have hgd : w.drew.heap[g]? = some (.cells cur 56 (0, 0)) := hg
  have hset : w.drew.setCells g (i * 4) POST = w.drew.setRow g ROW1 := by rw [hR1]; exact setCells_row w.drew g (i * 4) cur _ POST hgd (by omega) h1p
  have hg1 := setRow_heap w.drew g cur ROW1 56 (0, 0) hgd
  have hF1 := fr_setRow (Fr.of_below (Below.refl w.heap.size w).drew : Fr g (g + 1) w w.drew) (Nat.le_refl _) (Nat.lt_succ_self _) ROW1
  have hsrc : ∀ j u, POST[j]? = some u → w.drew.cell? ((⟨g, (i + 1) * 4, none⟩ : Addr).add j) = some u := fun j u hj => by
    rw [Addr.add_lit]; simp [World.cell?, hgd]; exact hpost j u hj
  have hspare : ∀ j, j < POST.length → (w.drew.cell? ⟨g, 0 + i * 4 + j, none⟩).isSome = true ∧ w.drew.frozen? ⟨g, 0 + i * 4 + j, none⟩ = false := fun j hj => by
    refine ⟨?_, by simp [World.frozen?, hgd]⟩
    simp only [World.cell?, hgd]
    rw [Array.getElem?_eq_getElem (by omega)]; rfl
  have hclr : ∀ ty c, (Builtin.clear_ #[24] ty #[.slice (some ⟨g, n * 4, none⟩) 1 c]).run Tryz.prog (w.drew.setRow g ROW1) = .ok (.tuple #[]) ((w.drew.setRow g ROW1).setRow g ROW2) := fun ty c => by
    rw [hR2]
    exact run_clear1 _ _ 56 ty (.agg #[.int .i64 0, .string ⟨#[]⟩, .int .i64 0, .slice none 0 0]) 4 Tryz.underlying24 zeroPageM rfl (by decide) g (n * 4) c ROW1 _ hg1 (by omega)
  have hg2 := setRow_heap (w.drew.setRow g ROW1) g ROW1 ROW2 56 (0, 0) hg1
  have hF2 := fr_setRow hF1 (Nat.le_refl _) (Nat.lt_succ_self _) ROW2
  have HX := Lib.hid (And.intro (row_to (k := 4) (base := lo) (n := (ys.take i ++ ys.drop (i + 1)).length) encPM_len rfl hlg (by omega) hcm hg2 hl2 (by rw [hlz, hrow, hall])) hF2)
  have HLZ := Lib.hid hlz
  have HS := Lib.hid hset
  have hne : ((i : Int) == (i : Int) + 1) = false := by simp; omega
  have a1 : (0 : Int) ≤ (i : Int) := by omega
  have a2 : (i : Int) ≤ (i : Int) + 1 := by omega
  have a3 : (i : Int) + 1 ≤ (n : Int) + 1 := by omega
  have a4 : (n : Int) + 1 ≤ (cap : Int) := by omega
  have a5 : i + (n - i) = n := by omega
  clear hrow hall hpost hcut hpre hR1 hR2 hPRE hPOST hONE hg2 hg1 hl1 hl1' hl2 hF1 hF2 htk hcl hpl hol hlz ho hg hset hysp hgd hA2
  have a6 : i ≤ cap := by omega
  have a8 : (0 : Int) ≤ (i : Int) + 1 := by omega
  have a7 : i + 1 ≤ cap := by omega
  by_cases hce : cap = i + 1
  · obtain rfl : n = i := by omega
    subst hce
    rw [Nat.sub_self] at hql
    have hsrc0 : ∀ j u, POST[j]? = some u → w.drew.cell? ((⟨g, 0, none⟩ : Addr).add j) = some u := fun j u hj => by
      have := (List.getElem?_eq_some_iff.1 hj).1
      omega
    go_enter Tryz.func39, Tryz.ntmps39
    go_wp2_with fail
    go_region_law_o (refine step_append_room rfl (.tmp 22) (.tmp 25) 24 rfl 56 i0 4 Tryz.underlying24 hi0x hzs g 0 n (n + 1) (by simp [Act.eval, Act.put]) ⟨g, 0, none⟩ 0 0 POST (by simp [Act.eval, Act.put]) hql hsrc0 h1p (by omega) hspare ?_)
    rw [HS.out]
    go_wp2_with fail
    go_returns
    exact ⟨g, n + 1, rfl, ret_sl (by have := HLZ.out; omega), HX.out.1, HX.out.2⟩
  · go_enter Tryz.func39, Tryz.ntmps39
    go_wp2_with fail
    go_region_law_o (refine step_append_room rfl (.tmp 22) (.tmp 25) 24 rfl 56 i0 4 Tryz.underlying24 hi0x hzs g 0 i cap (by simp [Act.eval, Act.put]) ⟨g, (i + 1) * 4, none⟩ (n - i) (cap - (i + 1)) POST (by simp [Act.eval, Act.put]) hql hsrc h1p (by omega) hspare ?_)
    rw [HS.out]
    go_wp2_with fail
    go_returns
    exact ⟨g, cap, rfl, ret_sl HLZ.out.symm, HX.out.1, HX.out.2⟩
end Go.Proofs.YtpjnlcppjcnlgaaGreatDoor
namespace Go.Proofs.YtpjnlcppjcnlgaaGreatDoor
set_option linter.unusedVariables false
set_option linter.unusedSimpArgs false
open Go.RowKit Go.Shelf Go.Sort
attribute [local irreducible] wpQuiet
/-- The sort of a slice of the call's own: only its block turns. -/
theorem sortOwnG_c (base : Nat) (v : Value) (zs : List Int) (w : World) (E : TypeId) (ho : Out (Value.int .i64) E base v zs w) (hn : zs.length ≤ 2097152) :
    Calls Tryz.prog 38 #[v] w fun e w' => e = .returned (.tuple #[]) ∧ w.grownBy w' v.ownBlock ∧ Out (Value.int .i64) E base v (zs.mergeSort fun x y => decide (x ≤ y)) w' := by
  have hl2 : (zs.mergeSort fun x y => decide (x ≤ y)).length = zs.length := List.length_mergeSort zs
  rcases ho.2 with ⟨rfl, h0⟩ | ⟨g, cap, cur, rfl, hbase, hg, h1, h2, h3, h4⟩
  · have : zs = [] := List.eq_nil_of_length_eq_zero h0
    subst this
    refine (sort_none _ _ _).mono ?_
    rintro e w' ⟨rfl, rfl⟩
    exact ⟨rfl, World.grownBy.refl _ _, by simpa using ho⟩
  · have hlt : g < w.heap.size := by
      rcases Nat.lt_or_ge g w.heap.size with h | h
      · exact h
      · rw [Array.getElem?_eq_none h] at hg; cases hg
    refine (sort_c g 0 cap zs w (holds_of_blockI hg (by simpa using h4)) hlt hn).mono ?_
    rintro e w' ⟨rfl, n, os, rfl⟩
    refine ⟨rfl, grownBy_sortedI _, ?_⟩
    unfold Out
    rw [hl2]
    exact ownsRow_sortedI hl2 hbase hg h1 h2 h3
theorem oneIM_ (z : Int) : ∀ u ∈ encI z, u.oneCell' = true := by intro u hu; simp [encI] at hu; subst hu; rfl
theorem Out.toR {E : TypeId} {base : Nat} {v : Value} {ys : List Int} {w : World} (h : Out (Value.int .i64) E base v ys w) : OutR encI 1 E base v ys w := by
  unfold Out at h
  unfold OutR
  have : ys.flatMap encI = ys.map (Value.int .i64) := by
    clear h
    induction ys with
    | nil => rfl
    | cons y ys ih => rw [List.flatMap_cons, List.map_cons, ih]; rfl
  rw [this]
  exact h
theorem snip_at {α : Type} {l : List α} {k n : Nat} {x : α} (h : (l.take k ++ l.drop (k + 1))[n]? = some x) : (n < k ∧ l[n]? = some x) ∨ (k ≤ n ∧ l[n + 1]? = some x) := by
  by_cases hk : k ≤ l.length
  · have hl : (l.take k).length = k := by simp; omega
    by_cases hn : n < k
    · rw [List.getElem?_append_left (by omega), List.getElem?_take, if_pos hn] at h
      exact .inl ⟨hn, h⟩
    · rw [List.getElem?_append_right (by omega), hl, List.getElem?_drop] at h
      refine .inr ⟨by omega, ?_⟩
      rw [show n + 1 = k + 1 + (n - k) by omega]; exact h
  · have hl : (l.take k).length = l.length := by simp; omega
    by_cases hn : n < l.length
    · rw [List.getElem?_append_left (by omega), List.getElem?_take, if_pos (by omega)] at h
      exact .inl ⟨by omega, h⟩
    · have := (List.getElem?_eq_some_iff.1 h).1
      simp at this; omega
theorem snip_lo {α : Type} {l : List α} {k n : Nat} {x : α} (hn : n < k) (h : l[n]? = some x) : (l.take k ++ l.drop (k + 1))[n]? = some x := by
  have hl := (List.getElem?_eq_some_iff.1 h).1
  rw [List.getElem?_append_left (by simp; omega), List.getElem?_take, if_pos hn]; exact h
theorem snip_hi {α : Type} {l : List α} {k n : Nat} {x : α} (hn : k ≤ n) (h : l[n + 1]? = some x) : (l.take k ++ l.drop (k + 1))[n]? = some x := by
  have hl := (List.getElem?_eq_some_iff.1 h).1
  have hlk : (l.take k).length = k := by simp; omega
  rw [List.getElem?_append_right (by omega), hlk, List.getElem?_drop, show k + 1 + (n - k) = n + 1 by omega]; exact h
/-- One page taken out. -/
theorem Cpy.del {lo g n c n' c2 k : Nat} {ix : Nat → Nat} {ms : List PageM} {ps : List Page} {w w' : World} (h : Cpy lo ix (.slice (some ⟨g, 0, none⟩) n c) ms ps w) (hf : Fr g (g + 1) w w') (ho : OutR encPM 4 56 lo (.slice (some ⟨g, 0, none⟩) n' c2) (ms.take k ++ ms.drop (k + 1)) w') :
    ∃ ix', Cpy lo ix' (.slice (some ⟨g, 0, none⟩) n' c2) (ms.take k ++ ms.drop (k + 1)) (ps.take k ++ ps.drop (k + 1)) w' := by
  have hg0 := h.own g rfl
  have hkeep : ∀ b, b < w.heap.size → ix b ≠ 0 → w'.heap[b]? = w.heap[b]? := fun b hb hx => by
    have hbg : b ≠ g := fun e => hx (by rw [e]; exact hg0)
    exact hf.block b hb (by omega)
  refine ⟨fun b => if w.heap.size ≤ b then 0 else if ix b ≤ k + 1 then ix b else ix b - 1, ho, by rw [List.length_append, List.length_append, List.length_take, List.length_take, List.length_drop, List.length_drop, h.len], fun j p hp => ?_, fun b hb => if_pos (Nat.le_trans hf.size hb), fun b hb => ?_⟩
  · rcases snip_at hp with ⟨hj, hp'⟩ | ⟨hj, hp'⟩
    · obtain ⟨m, h1, h2⟩ := h.it j p hp'
      refine ⟨m, snip_lo hj h1, h2.1, h2.2.1, h2.2.2.1, h2.2.2.2.1, h2.2.2.2.2.1.keep_ fun b hb => hkeep b (h2.2.2.2.2.1.lt_ b hb) (by rw [h2.2.2.2.2.2 b hb]; omega), fun b hb => ?_⟩
      have e1 := h2.2.2.2.2.2 b hb
      have e2 := h2.2.2.2.2.1.lt_ b hb
      simp only
      rw [if_neg (by omega), if_pos (by omega)]; exact e1
    · obtain ⟨m, h1, h2⟩ := h.it (j + 1) p hp'
      refine ⟨m, snip_hi hj h1, h2.1, h2.2.1, h2.2.2.1, h2.2.2.2.1, h2.2.2.2.2.1.keep_ fun b hb => hkeep b (h2.2.2.2.2.1.lt_ b hb) (by rw [h2.2.2.2.2.2 b hb]; omega), fun b hb => ?_⟩
      have e1 := h2.2.2.2.2.2 b hb
      have e2 := h2.2.2.2.2.1.lt_ b hb
      simp only
      rw [if_neg (by omega), if_neg (by omega), e1]; omega
  · have e1 : ix b = 0 := h.own b hb
    have e2 := h.out.lt_ b hb
    show (if w.heap.size ≤ b then 0 else if ix b ≤ k + 1 then ix b else ix b - 1) = 0
    rw [if_neg (by omega), e1, if_pos (by omega)]
/-- The items of one page turned in their place. -/
theorem Cpy.turn {lo i : Nat} {ix : Nat → Nat} {v : Value} {ms : List PageM} {ps : List Page} {w w' : World} {m : PageM} {zs : List Int} (h : Cpy lo ix v ms ps w) (hi : i < ps.length) (hm : ms[i]? = some m) (hg : w.grownBy w' (Value.slice m.A m.n m.c).ownBlock) (ho : Out (Value.int .i64) 3 lo (.slice m.A m.n m.c) zs w') (hl : m.n = zs.length) :
    Cpy lo ix v ms (ps.set i ⟨ps[i].id, ps[i].title, ps[i].under, zs⟩) w' := by
  obtain ⟨m', hm', e1, e2, e3, e4, e5, e6⟩ := h.it i _ (List.getElem?_eq_getElem hi)
  rw [hm] at hm'; injection hm' with hm'; subst hm'
  have hms : ms.set i m = ms := by
    have hil := (List.getElem?_eq_some_iff.1 hm)
    obtain ⟨h1, h2⟩ := hil
    rw [← h2]; exact List.set_getElem_self h1
  have hne : ∀ b, (Value.slice m.A m.n m.c).ownBlock = some b → ix b = i + 1 := e6
  have := h.set_ (i := i) (m' := m) (ix' := ix) (p' := ⟨ps[i].id, ps[i].title, ps[i].under, zs⟩) (w' := w') (by rw [hms]; exact h.out.kept_ hg fun g hg' e => by have h1 := hne g e; have h2 := h.own g hg'; omega) (fun b hb _ hbx => hg.block b hb (fun e => hbx (hne b e.symm))) (fun _ _ => rfl) (fun _ => ⟨e1, e2, e3, hl, ho, hne⟩) (fun b hb => h.far b (Nat.le_trans hg.size hb))
  rwa [hms] at this
def mixU (id other : Int) (xs : List Page) (j : Nat) : List Page := (xs.take j).map (mgU id other) ++ xs.drop j
theorem mixU_0 {id other : Int} {xs : List Page} : mixU id other xs 0 = xs := by simp [mixU]
theorem mixU_len {id other : Int} {xs : List Page} {j : Nat} : (mixU id other xs j).length = xs.length := by
  unfold mixU; rw [List.length_append, List.length_map, List.length_take, List.length_drop]; omega
theorem mixU_at {id other : Int} {xs : List Page} {j : Nat} (h : j < xs.length) (h' : j < (mixU id other xs j).length) : (mixU id other xs j)[j] = xs[j] := by
  have hl : ((xs.take j).map (mgU id other)).length = j := by simp; omega
  have : (mixU id other xs j)[j]? = some xs[j] := by
    unfold mixU
    rw [List.getElem?_append_right (by omega), hl, Nat.sub_self, List.getElem?_drop, Nat.add_zero, List.getElem?_eq_getElem h]
  rw [List.getElem?_eq_getElem h'] at this
  injection this
theorem mixU_set {id other : Int} {xs : List Page} {j : Nat} (h : j < xs.length) : (mixU id other xs j).set j (mgU id other xs[j]) = mixU id other xs (j + 1) := by
  have hl : ((xs.take j).map (mgU id other)).length = j := by simp; omega
  unfold mixU
  rw [List.set_append_right _ _ (by omega), hl, Nat.sub_self, take_succ_get xs j h, List.map_append, List.append_assoc, List.drop_eq_getElem_cons h]
  rfl
theorem mixU_same {id other : Int} {xs : List Page} {j : Nat} (h : j < xs.length) (hu : xs[j].under ≠ other) : mixU id other xs j = mixU id other xs (j + 1) := by
  rw [← mixU_set h]
  have e : mgU id other xs[j] = xs[j] := by unfold mgU; rw [if_neg hu]
  rw [e]
  have h' : j < (mixU id other xs j).length := by rw [mixU_len]; exact h
  have := mixU_at (id := id) (other := other) h h'
  conv => rhs; rw [← this]
  exact (List.set_getElem_self h').symm
theorem mixU_all {id other : Int} {xs : List Page} : mixU id other xs xs.length = xs.map (mgU id other) := by simp [mixU]
set_option maxRecDepth 100000 in
set_option maxHeartbeats 1600000 in
theorem implMergePages_c (xs : List Page) (A : Option Addr) (c : Nat) (id other : Int) (w : World) (hr : RdP w.heap.size w A xs) (hcap : xs.length ≤ c) (hn : xs.length ≤ 1048576) (hs : sumI xs ≤ 1048576) (hw : ∀ x ∈ xs, x.title.size ≤ 9223372036854775807 ∧ x.items.length ≤ 9223372036854775807 ∧ ∀ z ∈ x.items, Fits z) (hid : -9223372036854775808 ≤ id ∧ id ≤ 9223372036854775807) (hot : -9223372036854775808 ≤ other ∧ other ≤ 9223372036854775807) :
    Calls Tryz.prog 11 #[.slice A xs.length c, .int .i64 id, .int .i64 other] w (RetA (mgV xs id other) (mgB xs id other) w) := by
  have HW := Lib.hid hw
  clear hw
  go_enter Tryz.func11, Tryz.ntmps11
  go_wp2_with fail
  refine (pageAt_c xs _ _ _ _ hr hn).mono ?_
  rintro _ w1 ⟨rfl, hb1⟩
  go_wp2_with fail
  refine (pageAt_c xs _ _ _ _ (hr.go hb1) hn).mono ?_
  rintro _ w2 ⟨rfl, hb2⟩
  have hbg := below_via hb1 hb2
  clear hb1 hb2
  go_wp2_with fail
  refine (isAlbum_c xs _ _ _ (hr.go hbg) hcap hn hs HW.out).mono ?_
  rintro _ w3 ⟨rfl, hb3⟩
  replace hbg := below_via hbg hb3
  clear hb3
  cases hG : goodA xs with
  | false =>
    have HB := Lib.hid (mgB_bad (id := id) (other := other) hG)
    clear hG
    go_wp2_with fail
    go_returns
    exact ⟨_, _, ret_list (by rw [mgV_no HB.out]; rfl) HB.out.symm, hbg, OwnP.none_ (mgV_no HB.out) (Nat.le_refl _)⟩
  | true =>
    have HG := Lib.hid hG
    rcases lv_of xs id hG with ⟨i, hi, ei, exi, hB1, _⟩ | ⟨ei, hB1, _⟩
    · rcases lv_of xs other hG with ⟨k, hk, ek, exk, hB2, _⟩ | ⟨ek, hB2, _⟩
      · by_cases hio : id = other
        · have hik : i = k := good_inj hG hi hk (by rw [← exi, ← exk, hio])
          have HB := Lib.hid (mgB_eq (xs := xs) hio)
          rw [ei, ek]
          subst hik
          clear hG ei ek exi exk hB1 hB2 hio
          have hi0 : ¬ (i : Int) < 0 := by omega
          go_wp2_with fail
          go_returns
          exact ⟨_, _, ret_list (by rw [mgV_no HB.out]; rfl) HB.out.symm, hbg, OwnP.none_ (mgV_no HB.out) (Nat.le_refl _)⟩
        · have hik : i ≠ k := fun e => hio (by rw [exi, exk]; subst e; rfl)
          have HB := Lib.hid (mgB_at hB1 hB2 hio)
          have HQ := Lib.hid (mgL_at (id := id) (other := other) ei ek)
          have HS := Lib.hid (merge_items hG hi hk hik)
          rw [ei, ek]
          clear hG ei ek exi exk hB1 hB2 hio
          have hi0 : ¬ (i : Int) < 0 := by omega
          have hk0 : ¬ (k : Int) < 0 := by omega
          have hik0 : ((i : Int) == (k : Int)) = false := by simp only [beq_eq_false_iff_ne, ne_eq]; omega
          have hi1 : (0 : Int) ≤ (i : Int) := by omega
          have hk1 : (0 : Int) ≤ (k : Int) := by omega
          have hi2 : (i : Int) < (xs.length : Int) := by omega
          have hk2 : (k : Int) < (xs.length : Int) := by omega
          go_wp2_with fail
          refine (copyAlbum_c xs _ _ _ (hr.go hbg) hn hs).mono ?_
          rintro _ w4 ⟨v, ix, ms, rfl, hb4, hC⟩
          obtain ⟨g, c', m, rfl, hcc, hlo, hlt, hg0, hfz, hm, hit, _, _, _, d3⟩ := hC.at_ hi
          obtain ⟨g2, c2, m2, hv2, _, _, _, _, _, hm2, hit2, _, _, _, e3⟩ := hC.at_ hk
          injection hv2 with hA2 _ hc2
          injection hA2 with hA2
          injection hA2 with hA2
          subst hA2 hc2
          have hil : xs[i].items.length ≤ 8 := (good_base HG.out hi).2.2.2.1
          have hkl : xs[k].items.length ≤ 8 := (good_base HG.out hk).2.2.2.1
          have hlen := goodA_len HG.out
          have hO := hit.2.2.2.2.1
          have hxI := hit.2.2.2.2.2
          have hO2 := hit2.2.2.2.2.1
          rw [hit.2.2.2.1] at hO hxI
          rw [hit2.2.2.2.1] at hO2
          have hri : Rd encI 1 w4.heap.size w4 m2.A xs[k].items := by
            obtain ⟨A', c3, hv, hOw⟩ := hO2.own
            injection hv with hv _ _
            rw [hv]
            exact hOw.rd
          have HOR := Lib.hid (show OutR encI 1 3 w3.heap.size (.slice m.A xs[i].items.length m.c) xs[i].items w4.drew from hO.toR)
          have HRI := Lib.hid (show Rd encI 1 w4.drew.heap.size w4.drew m2.A xs[k].items from hri)
          have hgne : ∀ b, (Value.slice m.A xs[i].items.length m.c).ownBlock = some b → b ≠ g := fun b hb e => by have := hxI b hb; rw [e, hg0] at this; omega
          have HNE := Lib.hid hgne
          have HFZ := Lib.hid hfz
          have HC := Lib.hid hC
          have hbw := hb4.size
          clear hit hit2 hO hO2 hri hgne hm hm2 hC hfz
          have hbQ := below_via hbg hb4
          have hlw := hbg.size
          go_upto_region 5 with fail
          go_cut [] (fun wx => ∃ ix ms, Cpy w3.heap.size ix (.slice (some ⟨g, 0, none⟩) xs.length c') ms (xs.set i ⟨xs[i].id, xs[i].title, xs[i].under, xs[i].items ++ xs[k].items⟩) wx ∧ Below w.heap.size w wx)
          case first =>
            go_region_law (refine step_appW (o := ⟨some 48, _, _, _, _, _⟩) (by rfl) (.tmp 42) (.tmp 47) _ (by rfl) 3 (.int .i64 0) 1 8 Tryz.underlying36 infoI (by rfl) (by decide) encI_len oneIM_ (base := w3.heap.size) (m := xs[k].items.length) (ys := xs[i].items) (zs := xs[k].items) (by rfl) (by rfl) rfl HOR.out HRI.out (by omega) (by omega) hbw ?_; intro v6 w6 ho6 hg6 hd6; obtain ⟨A6, c6, hv6, hle6, _⟩ := ho6.ownC encI_len; subst hv6; have d6 := hg6.cell (a := ⟨g, i * 4 + 3, none⟩) d3 (fun e => HNE.out g e.symm rfl); have f6 : ∀ o, w6.frozen? ⟨g, o, none⟩ = false := fun o => (World.frozen?_of_block (w := w4) (a := ⟨g, o, none⟩) (hg6.block g hlt (fun e => HNE.out g e.symm rfl))).trans (HFZ.out o))
            all_goals
              have hs6 : w4.heap.size ≤ w6.heap.size := hg6.size
              obtain ⟨ix', ms', hC6⟩ := HC.out.items (w' := w6) hi (fun b hb hbx => hg6.block b hb (fun e => hbx (hxI b e.symm))) hs6 ho6.toOut (fun b hb => hd6.elim (fun e => .inl (hxI b (e ▸ hb))) (fun e => .inr (by rw [e] at hb; injection hb with hb; exact Nat.le_of_eq hb)))
              have hb6 := (Below.grown hbQ (show w4.grownBy w6 (Value.slice m.A xs[i].items.length m.c).ownBlock from ⟨hg6.os, hg6.tape, hg6.output, hg6.size, hg6.block⟩) hbQ.size (fun b hb => Nat.le_trans hlw (HOR.out.from_ b hb))).setCell (p := ⟨g, i * 4 + 3, none⟩) (Nat.le_trans hlw hlo) (.slice A6 (xs[i].items ++ xs[k].items).length c6)
              rw [List.length_append] at hC6 hb6
              go_wp2_with fail
              go_meet
              exact ⟨ix', ms', hC6, hb6⟩
          case rest =>
            obtain ⟨ix5, ms5, hC5, hb5⟩ := hcut
            clear HC HOR HRI HNE HFZ hxI d3 e3 hbQ hb4 hg0 hlt
            obtain ⟨xs1, hxs1⟩ : ∃ X, X = xs.set i ⟨xs[i].id, xs[i].title, xs[i].under, xs[i].items ++ xs[k].items⟩ := ⟨_, rfl⟩
            have hl1 : xs1.length = xs.length := by rw [hxs1, List.length_set]
            have hi5 : i < xs1.length := by omega
            have hp5 : xs1[i] = ⟨xs[i].id, xs[i].title, xs[i].under, xs[i].items ++ xs[k].items⟩ := by subst hxs1; simp
            rw [← hxs1] at hC5
            obtain ⟨g3, c3, m5, hv3, _, _, hlt5, hg05, hfz5, hm5, hit5, _, _, _, d5⟩ := hC5.at_ hi5
            injection hv3 with hA3 hnn3 hc3
            injection hA3 with hA3
            injection hA3 with hA3
            subst hA3 hc3
            have hO5 := hit5.2.2.2.2.1
            have hmn := hit5.2.2.2.1
            rw [hp5] at d5 hO5 hmn
            simp only at d5 hO5 hmn
            have hX1 : xs1.set i ⟨xs1[i].id, xs1[i].title, xs1[i].under, xs[k].items.foldl putI xs[i].items⟩ = xs.set i (mgI xs[k].items xs[i]) := by rw [hp5, hxs1, List.set_set]; rfl
            have hfl : (xs[k].items.foldl putI xs[i].items).length = (xs[i].items ++ xs[k].items).length := by rw [← HS.out, List.length_mergeSort]
            have hsrt := sortOwnG_c w3.heap.size (.slice m5.A m5.n m5.c) (xs[i].items ++ xs[k].items) wc 3 hO5 (by rw [List.length_append]; omega)
            rw [HS.out, hmn] at hsrt
            rw [List.length_append] at hsrt d5
            have HC5 := Lib.hid hC5
            have HSR := Lib.hid hsrt
            have hb5s := hb5.size
            clear hC5 hit5 hO5 hsrt hnn3 hp5 hxs1 hl1 HS
            go_wp2_with fail
            refine HSR.out.mono ?_
            rintro _ w7 ⟨rfl, hg7, hO7⟩
            have hC7 := HC5.out.turn (w' := w7) (zs := xs[k].items.foldl putI xs[i].items) hi5 hm5 (by rw [hmn, List.length_append]; exact hg7) (by rw [hmn, List.length_append]; exact hO7) (by rw [hmn, hfl])
            rw [hX1] at hC7
            have hb7 := Below.grown hb5 hg7 hb5s (fun b hb => Nat.le_trans hlw (hO7.from_ b hb))
            clear HC5 HSR hg7 hO7 hm5 hmn d5 hX1 hfl hfz5 hlt5 hg05
            obtain ⟨X, hX⟩ : ∃ X, X = xs.set i (mgI xs[k].items xs[i]) := ⟨_, rfl⟩
            have hXl : X.length = xs.length := by rw [hX, List.length_set]
            rw [← hX] at hC7
            have HX := Lib.hid hX
            have HXL := Lib.hid hXl
            clear hX hXl
            go_wp2_with fail
            go_loopw [59] (fun i wr => ∃ (j : Nat) (ix : Nat → Nat) (ms : List PageM), j ≤ xs.length ∧ i = .int .i64 j ∧ Cpy w3.heap.size ix (.slice (some ⟨g, 0, none⟩) xs.length c') ms (mixU id other X j) wr ∧ Below w.heap.size w wr) (fun i _ => xs.length - (intOf i).toNat)
            case atStart => exact ⟨0, ix5, ms5, Nat.zero_le _, rfl, by rw [mixU_0]; exact hC7, hb7⟩
            case round =>
              obtain ⟨j, ix8, ms8, hj, rfl, hC8, hb8⟩ := hrel
              clear hC7 hb7
              by_cases hjl : j < xs.length
              · have hjX : j < X.length := by rw [HXL.out]; exact hjl
                have hjM : j < (mixU id other X j).length := by rw [mixU_len]; exact hjX
                have hpj := mixU_at hjX hjM
                obtain ⟨g3, c3, m8, hv3, _, hlo8, hlt8, _, hfz8, hm8, hit8, _, _, d8, _⟩ := hC8.at_ hjM
                injection hv3 with hA3 hnn3 hc3
                injection hA3 with hA3
                injection hA3 with hA3
                subst hA3 hc3
                clear hnn3
                rw [hpj] at d8 hit8
                have hj0 : (0 : Int) ≤ (j : Int) := by omega
                have hj1 : (j : Int) < (xs.length : Int) := by omega
                by_cases hu : X[j].under = other
                · have hF := hC8.field (u := .int .i64 id) (j := 2) (m' := ⟨m8.id, m8.title, id, m8.A, m8.n, m8.c⟩) (p' := ⟨X[j].id, X[j].title, id, X[j].items⟩) hjM hm8 (by omega) rfl ⟨hit8.1, hit8.2.1, rfl, hit8.2.2.2⟩
                  have hmg : mgU id other X[j] = ⟨X[j].id, X[j].title, id, X[j].items⟩ := by unfold mgU; rw [if_pos hu]
                  rw [← hmg, mixU_set hjX] at hF
                  have HF := Lib.hid hF
                  have hu' : (X[j].under == other) = true := by simpa using hu
                  have hb9 := hb8.setCell (p := ⟨g, j * 4 + 2, none⟩) (Nat.le_trans hlw hlo8) (.int .i64 id)
                  clear hC8 hit8 hF hmg hu hm8 hpj
                  go_wp2_with fail
                  go_roundw
                  case rel => exact ⟨j + 1, _, _, by omega, by go_num, HF.out, hb9⟩
                  case measure => simp [intOf]; omega
                · have HE := Lib.hid (mixU_same (id := id) hjX hu)
                  have hu' : (X[j].under == other) = false := by simpa using hu
                  have HC8 := Lib.hid hC8
                  clear hC8 hit8 hu hm8 hpj
                  go_wp2_with fail
                  go_roundw
                  case rel => exact ⟨j + 1, ix8, ms8, by omega, by go_num, by rw [← HE.out]; exact HC8.out, hb8⟩
                  case measure => simp [intOf]; omega
              · obtain rfl : j = xs.length := by omega
                have hY : mixU id other X xs.length = mgX xs i k id other := by rw [← HXL.out, mixU_all, HX.out, mgX_at hi hk]
                rw [hY] at hC8
                obtain ⟨n, hn1⟩ : ∃ n, xs.length = n + 1 := ⟨xs.length - 1, by omega⟩
                have hml : ms8.length = n + 1 := by rw [hC8.len, mgX_len hi hk]; exact hn1
                have hDel := delPageM_c ms8 (some ⟨g, 0, none⟩) c' k n w3.heap.size wr (by rw [← hn1]; exact hC8.out) hml (by omega) (by omega) (by have h1 := hC8.out.lt_ g rfl; have h2 := hC8.out.from_ g rfl; omega)
                rw [← hn1] at hDel
                have HDEL := Lib.hid hDel
                have HC8 := Lib.hid hC8
                have HHW := Lib.hid (mgW_hw (id := id) (other := other) HG.out hi hk HW.out)
                have HWL := Lib.hid (mgW_len (id := id) (other := other) hi hk)
                clear hDel hC8 hY hml HX HXL hjl hn1
                go_wp2_with fail
                refine HDEL.out.mono ?_
                rintro _ w8 ⟨g4, c4, hA4, rfl, ho8, hf8⟩
                injection hA4 with hA4
                injection hA4 with hA4
                subst hA4
                obtain ⟨ix9, hC9⟩ := HC8.out.del (k := k) hf8 ho8
                change Cpy _ _ _ _ (mgW xs i k id other) _ at hC9
                have hb9 := hb8.trans (hf8.below (Nat.le_trans hlw hlo) hb8.size)
                obtain ⟨A5, c5, hv5, hcap5, hOw⟩ := hC9.shape
                have hll := hC9.len
                obtain ⟨Q, hQ⟩ : ∃ Q, mgW xs i k id other = Q := ⟨_, rfl⟩
                have HPQ := Lib.hid (HQ.out.trans hQ)
                rw [hQ] at HHW HWL hcap5 hOw hv5 hll
                injection hv5 with e5 e6 e7
                subst e5 e7
                rw [e6]
                have hQl : Q.length ≤ 12 := by have := HWL.out; omega
                have hsQ : sumI Q ≤ 1048576 := by
                  have h1 := sumI_bd Q 16 HHW.out.2
                  have h2 : Q.length * 16 ≤ 12 * 16 := Nat.mul_le_mul_right 16 hQl
                  omega
                clear hC9 ho8 hf8 HC8 HDEL hQ e6 hll
                go_wp2_with fail
                refine (albumResult_c Q _ c4 w8 hOw.rd hcap5 (by omega) hsQ HHW.out.1).mono ?_
                rintro _ w9 ⟨hb10, hcs⟩
                replace hOw := hOw.go hb10
                have hbl := below_via hb9 hb10
                rcases hcs with ⟨hgd, rfl⟩ | ⟨hgd, rfl⟩
                · have HB := Lib.hid (HB.out.trans ((congrArg goodA HPQ.out).trans hgd))
                  go_wp2_with fail
                  go_returns
                  exact ⟨_, _, ret_list (by rw [mgV_yes HB.out, HPQ.out]) HB.out.symm, hbl, (hOw.wide hlw hb10.size (Nat.le_refl _)).cast (by rw [mgV_yes HB.out, HPQ.out])⟩
                · have HB := Lib.hid (HB.out.trans ((congrArg goodA HPQ.out).trans hgd))
                  go_wp2_with fail
                  go_returns
                  exact ⟨_, _, ret_list (by rw [mgV_no HB.out]; rfl) HB.out.symm, hbl, OwnP.none_ (mgV_no HB.out) (Nat.le_refl _)⟩
      · have HB := Lib.hid (mgB_lv2 (id := id) hB2)
        rw [ei, ek]
        clear hG ei ek exi hB1 hB2
        have hi0 : ¬ (i : Int) < 0 := by omega
        go_wp2_with fail
        go_returns
        exact ⟨_, _, ret_list (by rw [mgV_no HB.out]; rfl) HB.out.symm, hbg, OwnP.none_ (mgV_no HB.out) (Nat.le_refl _)⟩
    · have HB := Lib.hid (mgB_lv1 (other := other) hB1)
      rw [ei]
      clear hG ei hB1
      go_wp2_with fail
      go_returns
      exact ⟨_, _, ret_list (by rw [mgV_no HB.out]; rfl) HB.out.symm, hbg, OwnP.none_ (mgV_no HB.out) (Nat.le_refl _)⟩
end Go.Proofs.YtpjnlcppjcnlgaaGreatDoor
