/- The names that a map counts, collected and sorted by the library, by the shelf's contracts. No condition but the sizes. -/
import Derived.Test.YtlienlflapeghaaExMap
import Derived.Test.YtlienlflapeghaaCmp
import Derived.Test.YtlienlflapeghaaApp
import Derived.Shelf.SlGeneric
import Derived.Shelf.SlIter.Collect
import Derived.Shelf.SlSortCmp.NoneTotal
import Derived.Ground.GgzProg
import Derived.Ground.SlsfProg
namespace Go.Proofs.Ytlienlflapeghaa
set_option linter.unusedVariables false
set_option linter.unusedSimpArgs false
open Go.RowKit Go.Maps Go.Shelf Go.Sort
def laysKeys_ren : Go.Shelf.Ren := ⟨fun | 7 => 19 | 10 => 33 | n => n, fun | 23 => 41 | 26 => 9 | 3 => 3 | 28 => 44 | 0 => 0 | 27 => 43 | 33 => 54 | 4 => 4 | n => n, fun | n => n⟩
theorem laysKeys : Go.Proofs.SlLaysZ.n7 Try.prog laysKeys_ren := {
  mixed := by kernel_rfl
  f7 := ⟨Try.f19.name, by decide, Try.func19.trans (congrArg some (by kernel_rfl))⟩
  f10 := ⟨Try.f33.name, by decide, Try.func33.trans (congrArg some (by kernel_rfl))⟩
  t0 := Try.underlying0
  a0 := Try.isAgg0
  z0 := Try.sizeOf0
  v0 := Try.zeroValue0
  t4 := Try.underlying4
  a4 := Try.isAgg4
  z4 := Try.sizeOf4
  v4 := Try.zeroValue4
  t23 := Try.underlying41
  a23 := Try.isAgg41
  z23 := Try.sizeOf41
  v23 := Try.zeroValue41
  t26 := Try.underlying9
  a26 := Try.isAgg9
  z26 := Try.sizeOf9
  v26 := Try.zeroValue9
  t27 := Try.underlying43
  a27 := Try.isAgg43
  z27 := Try.sizeOf43
  v27 := Try.zeroValue43
  t28 := Try.underlying44
  a28 := Try.isAgg44
  z28 := Try.sizeOf44
  v28 := Try.zeroValue44
  t33 := Try.underlying54
  a33 := Try.isAgg54
  z33 := Try.sizeOf54
  v33 := Try.zeroValue54 }
def laysColl_ren : Go.Shelf.Ren := ⟨fun | 8 => 31 | 11 => 40 | n => n, fun | 26 => 9 | 28 => 44 | 24 => 24 | 0 => 0 | 33 => 54 | 4 => 4 | n => n, fun | n => n⟩
theorem laysColl : Go.Proofs.SlLaysZ.n8 Try.prog laysColl_ren := {
  mixed := by kernel_rfl
  f8 := ⟨Try.f31.name, by decide, Try.func31.trans (congrArg some (by kernel_rfl))⟩
  f11 := ⟨Try.f40.name, by decide, Try.func40.trans (congrArg some (by kernel_rfl))⟩
  t0 := Try.underlying0
  a0 := Try.isAgg0
  z0 := Try.sizeOf0
  v0 := Try.zeroValue0
  t24 := Try.underlying24
  a24 := Try.isAgg24
  z24 := Try.sizeOf24
  v24 := Try.zeroValue24
  t26 := Try.underlying9
  a26 := Try.isAgg9
  z26 := Try.sizeOf9
  v26 := Try.zeroValue9
  t28 := Try.underlying44
  a28 := Try.isAgg44
  z28 := Try.sizeOf44
  v28 := Try.zeroValue44
  i26 := by kernel_rfl }
def laysSortF_ren : Go.Shelf.Ren := ⟨fun | 6 => 32 | 15 => 42 | 14 => 41 | 28 => 51 | 29 => 52 | 20 => 43 | 21 => 44 | 22 => 45 | 23 => 46 | 24 => 47 | 25 => 48 | 26 => 49 | 27 => 50 | 46 => 53 | 47 => 54 | 48 => 55 | 49 => 56 | 50 => 57 | 57 => 58 | n => n, fun | 22 => 24 | 24 => 9 | 25 => 48 | 3 => 3 | 39 => 63 | 0 => 0 | 53 => 73 | 55 => 75 | 4 => 4 | 46 => 66 | 45 => 65 | 50 => 70 | 5 => 5 | 9 => 9 | 66 => 76 | 70 => 80 | 76 => 82 | 77 => 83 | n => n, fun | n => n⟩
theorem laysSortF : Go.Proofs.SlLaysF.n6 Try.prog laysSortF_ren := {
  mixed := by kernel_rfl
  f6 := ⟨Try.f32.name, by decide, Try.func32.trans (congrArg some (by kernel_rfl))⟩
  f14 := ⟨Try.f41.name, by decide, Try.func41.trans (congrArg some (by kernel_rfl))⟩
  f15 := Try.func42.trans (congrArg some (by kernel_rfl))
  f20 := ⟨Try.f43.name, by decide, Try.func43.trans (congrArg some (by kernel_rfl))⟩
  f21 := ⟨Try.f44.name, by decide, Try.func44.trans (congrArg some (by kernel_rfl))⟩
  f22 := ⟨Try.f45.name, by decide, Try.func45.trans (congrArg some (by kernel_rfl))⟩
  f23 := ⟨Try.f46.name, by decide, Try.func46.trans (congrArg some (by kernel_rfl))⟩
  f24 := ⟨Try.f47.name, by decide, Try.func47.trans (congrArg some (by kernel_rfl))⟩
  f25 := ⟨Try.f48.name, by decide, Try.func48.trans (congrArg some (by kernel_rfl))⟩
  f26 := ⟨Try.f49.name, by decide, Try.func49.trans (congrArg some (by kernel_rfl))⟩
  f27 := ⟨Try.f50.name, by decide, Try.func50.trans (congrArg some (by kernel_rfl))⟩
  f28 := Try.func51.trans (congrArg some (by kernel_rfl))
  f29 := Try.func52.trans (congrArg some (by kernel_rfl))
  f46 := ⟨Try.f53.name, by decide, Try.func53.trans (congrArg some (by kernel_rfl))⟩
  f47 := Try.func54.trans (congrArg some (by kernel_rfl))
  f48 := Try.func55.trans (congrArg some (by kernel_rfl))
  f49 := ⟨Try.f56.name, by decide, Try.func56.trans (congrArg some (by kernel_rfl))⟩
  f50 := ⟨Try.f57.name, by decide, Try.func57.trans (congrArg some (by kernel_rfl))⟩
  f57 := ⟨Try.f58.name, by decide, Try.func58.trans (congrArg some (by kernel_rfl))⟩
  t0 := Try.underlying0
  a0 := Try.isAgg0
  z0 := Try.sizeOf0
  v0 := Try.zeroValue0
  t3 := Try.underlying3
  a3 := Try.isAgg3
  z3 := Try.sizeOf3
  v3 := Try.zeroValue3
  t4 := Try.underlying4
  a4 := Try.isAgg4
  z4 := Try.sizeOf4
  v4 := Try.zeroValue4
  t5 := Try.underlying5
  a5 := Try.isAgg5
  z5 := Try.sizeOf5
  v5 := Try.zeroValue5
  t9 := Try.underlying9
  a9 := Try.isAgg9
  z9 := Try.sizeOf9
  v9 := Try.zeroValue9
  t22 := Try.underlying24
  a22 := Try.isAgg24
  z22 := Try.sizeOf24
  v22 := Try.zeroValue24
  a24 := Try.isAgg9
  z24 := Try.sizeOf9
  t25 := Try.underlying48
  a25 := Try.isAgg48
  z25 := Try.sizeOf48
  v25 := Try.zeroValue48
  t39 := Try.underlying63
  a39 := Try.isAgg63
  z39 := Try.sizeOf63
  v39 := Try.zeroValue63
  t45 := Try.underlying65
  a45 := Try.isAgg65
  z45 := Try.sizeOf65
  v45 := Try.zeroValue65
  t46 := Try.underlying66
  a46 := Try.isAgg66
  z46 := Try.sizeOf66
  v46 := Try.zeroValue66
  t50 := Try.underlying70
  a50 := Try.isAgg70
  z50 := Try.sizeOf70
  v50 := Try.zeroValue70
  t53 := Try.underlying73
  a53 := Try.isAgg73
  z53 := Try.sizeOf73
  v53 := Try.zeroValue73
  t55 := Try.underlying75
  a55 := Try.isAgg75
  z55 := Try.sizeOf75
  v55 := Try.zeroValue75
  t66 := Try.underlying76
  a66 := Try.isAgg76
  z66 := Try.sizeOf76
  v66 := Try.zeroValue76
  t70 := Try.underlying80
  a70 := Try.isAgg80
  z70 := Try.sizeOf80
  v70 := Try.zeroValue80
  t76 := Try.underlying82
  a76 := Try.isAgg82
  z76 := Try.sizeOf82
  v76 := Try.zeroValue82
  t77 := Try.underlying83
  a77 := Try.isAgg83
  z77 := Try.sizeOf83
  v77 := Try.zeroValue83 }
/-- A name of a length that Go's strings have. -/
abbrev NmE := { b : ByteArray // b.size ≤ maxLen }
instance : Inhabited NmE := ⟨⟨⟨#[]⟩, by decide⟩⟩
def encN (x : NmE) : Value := .string x.1
/-- How the program compares two names. -/
def cfE (xs : List Opinion) (a b : ByteArray) : Int := orI [cmpI (cntE xs b) (cntE xs a), cmpS a b]
theorem cfE_lt (xs : List Opinion) (a b : ByteArray) : decide (cfE xs a b < 0) = befE xs a b := by
  unfold cfE cmpS cmpI befE
  rw [Bool.eq_iff_iff]
  simp only [decide_eq_true_eq, Bool.or_eq_true, Bool.and_eq_true]
  by_cases h1 : cntE xs b < cntE xs a
  · have h1' : (cntE xs b : Int) < (cntE xs a : Int) := by omega
    rw [if_pos h1']
    simp [orI, h1]
  · have h1' : ¬ (cntE xs b : Int) < (cntE xs a : Int) := by omega
    rw [if_neg h1']
    by_cases h2 : cntE xs a < cntE xs b
    · have h2' : (cntE xs a : Int) < (cntE xs b : Int) := by omega
      rw [if_pos h2']
      simp only [orI]
      simp
      omega
    · have h2' : ¬ (cntE xs a : Int) < (cntE xs b : Int) := by omega
      rw [if_neg h2']
      have h3 : cntE xs a = cntE xs b := by omega
      by_cases h4 : sLt a b = true
      · simp [orI, h3, h4]
      · by_cases h5 : a = b
        · subst h5
          have h6 := sLt_irrE a
          simp [orI, h6]
        · simp [orI, h4, h5]
          omega
section
variable {α : Type} [Inhabited α] {enc : α → Value} {w : World} {g n : Nat} {os : Array Obj} {cur : Array Value} {e : TypeId}
theorem holds_of_blockE {ss : List α} (hb : w.heap[g]? = some (.cells cur e (0, 0))) (ht : cur.toList.take ss.length = ss.map enc) : Holds enc w g 0 ss.toArray := by
  intro j hj
  have hj' : j < ss.length := by simpa using hj
  refine ⟨?_, by simp [World.frozen?, hb]⟩
  have h1 : (cur.toList.take ss.length)[j]? = (ss.map enc)[j]? := by rw [ht]
  rw [List.getElem?_take_of_lt hj'] at h1
  simp only [World.cell?, hb, Nat.zero_add]
  simp only [Option.isSome_none, Bool.false_eq_true, if_false]
  rw [← Array.getElem?_toList, h1]
  simp [hj']
theorem heap_sortedE {fr : Nat × Nat} (d : Array α) (hb : w.heap[g]? = some (.cells cur e fr)) :
    (sortWorld enc w g 0 n d os).heap[g]? = some (.cells (putCells enc 0 d cur) e fr) := by
  have hg : g < w.heap.size := (Array.getElem?_eq_some_iff.1 hb).1
  unfold sortWorld
  rw [heap_grow_old _ _ (by simpa using hg)]
  simp [putRow, mapBlock, Sort.ahead, Array.getElem?_modify, hb, onCells]
theorem grownBy_sortedE (d : Array α) : w.grownBy (sortWorld enc w g 0 n d os) (some g) := by
  unfold sortWorld
  refine ⟨rfl, rfl, rfl, by simp, fun k hk hne => ?_⟩
  rw [heap_grow_old _ _ (by simpa using hk)]
  have : g ≠ k := fun e => hne (by rw [e])
  simp [putRow, mapBlock, Sort.ahead, Array.getElem?_modify, this]
theorem take_putCellsE (ts : List α) (h : ts.length ≤ cur.size) : (putCells enc 0 ts.toArray cur).toList.take ts.length = ts.map enc := by
  apply List.ext_getElem?
  intro j
  by_cases hj : j < ts.length
  · rw [List.getElem?_take_of_lt hj, Array.getElem?_toList]
    simp [putCells, hj, show j < cur.size by omega]
  · rw [List.getElem?_take_eq_none (by omega), List.getElem?_eq_none (by simp; omega)]
theorem ownsRow_sortedE {base cap : Nat} {ss ts : List α} (hl : ts.length = ss.length) (hbase : base ≤ g) (hb : w.heap[g]? = some (.cells cur e (0, 0)))
    (h1 : ss.length ≤ cap) (h2 : cap ≤ maxLen) (h3 : cur.size = cap * 1) :
    (sortWorld enc w g 0 n ts.toArray os).ownsRow base e 1 (.slice (some ⟨g, 0, none⟩) ss.length cap) ss.length (ts.map enc) :=
  ⟨by simp [hl], .inr ⟨g, cap, _, rfl, hbase, heap_sortedE _ hb, h1, h2, by simp [putCells, h3], by rw [Nat.mul_one, ← hl]; exact take_putCellsE ts (by omega)⟩⟩
end
/-- Texts as names. -/
theorem names_of : ∀ (ss : List (List UInt8)), (∀ s ∈ ss, s.length ≤ maxLen) → ∃ ts : List NmE, ts.map encN = ss.map encStr ∧ ts.map (fun x => x.1.data.toList) = ss
  | [], _ => ⟨[], rfl, rfl⟩
  | s :: ss, h => by
    obtain ⟨ts, h1, h2⟩ := names_of ss fun x hx => h x (List.mem_cons_of_mem _ hx)
    refine ⟨⟨⟨s.toArray⟩, by have := h s (List.mem_cons_self ..); simpa [ByteArray.size] using this⟩ :: ts, ?_, ?_⟩
    · rw [List.map_cons, List.map_cons, h1]; rfl
    · rw [List.map_cons, h2]
section
variable {w : World} {B n : Nat} {ys : List Opinion}
theorem CntB.keys (h : CntB B n ys w) : ∃ D : DataW Unit, w.ownsMap Try.prog 9 (plainElem Try.prog 3) B n D ∧ Maps.size D ≤ n ∧ (strKeys D).Nodup ∧ (∀ l ∈ strKeys D, l.length ≤ maxLen) ∧ ∀ l, l ∈ strKeys D ↔ ∃ y ∈ ys, y.expert.data.toList = l := by
  obtain ⟨D, h1, _, h3⟩ := h
  obtain ⟨es, hD, hpw, _⟩ := h1.entries lawStr
  obtain ⟨es', hD', hko⟩ := h1.keysOf
  obtain rfl : es = es' := by rw [hD] at hD'; simpa using hD'
  have hk : ∀ p ∈ es, ∃ x, p.1 = .string x := fun p hp => by
    obtain ⟨v, hv⟩ := hko p hp
    obtain ⟨x, _, hx, _⟩ := Maps.keyOf_str Try.underlying9 hv
    exact ⟨x, hx⟩
  refine ⟨D, h1, h1.size_le, ?_, strKeys_le h1 Try.underlying9, fun l => ?_⟩
  · subst hD
    show (es.map fun p => strOf p.1).Nodup
    refine List.pairwise_map.2 (hpw.imp_of_mem fun {p q} hp' hq' hne e => hne ?_)
    obtain ⟨a, ha⟩ := hk p hp'
    obtain ⟨b, hb⟩ := hk q hq'
    rw [ha, hb] at e ⊢
    exact congrArg _ e
  · rw [← h3 l]
    subst hD
    rw [has_eq, List.any_eq_true]
    show l ∈ es.map (fun p => strOf p.1) ↔ _
    constructor
    · intro hl
      obtain ⟨p, hp, rfl⟩ := List.mem_map.1 hl
      obtain ⟨x, hx⟩ := hk p hp
      refine ⟨p, hp, ?_⟩
      rw [hx]
      exact WideAt.sameKey_self (show WideAt.IsKeyLit (.string x) from trivial)
    · rintro ⟨p, hp, hs⟩
      obtain ⟨x, hx⟩ := hk p hp
      rw [hx] at hs
      refine List.mem_map.2 ⟨p, hp, ?_⟩
      rw [hx]
      show x = l
      by_cases e : x = l
      · exact e
      · rw [sameKey_ne (by intro e2; injection e2 with e2; exact e e2)] at hs; cases hs
end
/-- The names of ys, each once, in the program's order: the reference's list. -/
theorem names_law {xs : List Opinion} {ts : List NmE} {ss : List (List UInt8)} (h2 : ts.map (fun x => x.1.data.toList) = ss) (hn : ss.Nodup) (hm : ∀ l, l ∈ ss ↔ ∃ y ∈ xs, y.expert.data.toList = l) :
    ((ts.mergeSort fun x y => !(ltOf (fun x y : NmE => cfE xs x.1 y.1) y x)).map fun x => x.1) = exF xs xs.length := by
  have ho := befE_ord xs
  have hlt : ∀ x y : NmE, ltOf (fun x y : NmE => cfE xs x.1 y.1) y x = befE xs y.1 x.1 := fun x y => cfE_lt xs _ _
  have hnt : (ts.map fun x => x.1).Nodup := by
    have h3 : (ts.map fun x => x.1.data.toList).Nodup := h2 ▸ hn
    have h4 : ts.map (fun x => x.1.data.toList) = (ts.map fun x => x.1).map fun b => b.data.toList := by rw [List.map_map]; rfl
    rw [h4] at h3
    exact List.Pairwise.of_map _ (fun a b h e => h (by rw [e])) h3
  refine sorted_one ho ?_ (exF_sorted ho (Nat.le_refl _)) fun e => ?_
  · have h1 := List.pairwise_mergeSort (le := fun (x y : NmE) => !(ltOf (fun x y : NmE => cfE xs x.1 y.1) y x)) (fun a b c h1 h2 => by
        simp only [hlt, Bool.not_eq_true'] at *
        cases hc : befE xs c.1 a.1 with
        | false => rfl
        | true =>
          cases hb : befE xs b.1 c.1 with
          | true => rw [ho.trans _ _ _ hb hc] at h1; cases h1
          | false => have e := ho.total _ _ h2 hb; rw [e, h1] at hc; cases hc) (fun a b => by
        simp only [hlt, Bool.or_eq_true, Bool.not_eq_true']
        cases hc : befE xs b.1 a.1 with
        | false => exact .inl rfl
        | true =>
          right
          cases hb : befE xs a.1 b.1 with
          | false => rfl
          | true => have := ho.trans _ _ _ hc hb; rw [ho.irr] at this; cases this) ts
    have h3 : ((ts.mergeSort fun x y => !(ltOf (fun x y : NmE => cfE xs x.1 y.1) y x)).map fun x => x.1).Nodup := ((List.mergeSort_perm ts _).map _).nodup_iff.2 hnt
    have h4 : (ts.mergeSort fun x y => !(ltOf (fun x y : NmE => cfE xs x.1 y.1) y x)).Pairwise fun x y => x.1 ≠ y.1 := List.pairwise_map.1 h3
    unfold sortedE
    refine List.pairwise_map.2 ((h1.and h4).imp fun {x y} h => ?_)
    obtain ⟨h5, h6⟩ := h
    simp only [hlt, Bool.not_eq_true'] at h5
    cases hc : befE xs x.1 y.1 with
    | true => rfl
    | false => exact absurd (ho.total _ _ hc h5) h6
  · rw [exF_mem (Nat.le_refl _), List.take_length, List.mem_map, List.mem_map]
    constructor
    · rintro ⟨x, hx, rfl⟩
      have h3 := (List.mergeSort_perm ts _).mem_iff.1 hx
      obtain ⟨y, hy, e⟩ := (hm x.1.data.toList).1 (h2 ▸ List.mem_map.2 ⟨x, h3, rfl⟩)
      exact ⟨y, hy, data_inj e⟩
    · rintro ⟨y, hy, rfl⟩
      have h3 : y.expert.data.toList ∈ ts.map (fun x => x.1.data.toList) := h2 ▸ (hm _).2 ⟨y, hy, rfl⟩
      obtain ⟨x, hx, e⟩ := List.mem_map.1 h3
      exact ⟨x, (List.mergeSort_perm ts _).mem_iff.2 hx, data_inj e⟩
end Go.Proofs.Ytlienlflapeghaa
