/- The names that a map counts, collected and sorted by the library, by the shelf's contracts. No condition but the sizes. -/
import Derived.Test.YtpnkeaeikcobfaaGreatDoorExMap
import Derived.Test.YtpnkeaeikcobfaaGreatDoorCmp
import Derived.Test.YtpnkeaeikcobfaaGreatDoorApp
import Derived.Shelf.SlGeneric
import Derived.Shelf.SlIter.Collect
import Derived.Shelf.SlSortCmp.NoneTotal
import Derived.Ground.GgzProg
import Derived.Ground.SlsfProg
namespace Go.Proofs.YtpnkeaeikcobfaaGreatDoor
set_option linter.unusedVariables false
set_option linter.unusedSimpArgs false
open Go.RowKit Go.Maps Go.Shelf Go.Sort
def laysKeys_ren : Go.Shelf.Ren := ⟨fun | 7 => 52 | 10 => 71 | n => n, fun | 23 => 67 | 26 => 9 | 3 => 3 | 28 => 70 | 0 => 0 | 27 => 69 | 33 => 61 | 4 => 4 | n => n, fun | n => n⟩
theorem laysKeys : Go.Proofs.SlLaysZ.n7 Tryz.prog laysKeys_ren := {
  mixed := by kernel_rfl
  f7 := ⟨Tryz.f52.name, by decide, Tryz.func52.trans (congrArg some (by kernel_rfl))⟩
  f10 := ⟨Tryz.f71.name, by decide, Tryz.func71.trans (congrArg some (by kernel_rfl))⟩
  t0 := Tryz.underlying0
  a0 := Tryz.isAgg0
  z0 := Tryz.sizeOf0
  v0 := Tryz.zeroValue0
  t4 := Tryz.underlying4
  a4 := Tryz.isAgg4
  z4 := Tryz.sizeOf4
  v4 := Tryz.zeroValue4
  t23 := Tryz.underlying67
  a23 := Tryz.isAgg67
  z23 := Tryz.sizeOf67
  v23 := Tryz.zeroValue67
  t26 := Tryz.underlying9
  a26 := Tryz.isAgg9
  z26 := Tryz.sizeOf9
  v26 := Tryz.zeroValue9
  t27 := Tryz.underlying69
  a27 := Tryz.isAgg69
  z27 := Tryz.sizeOf69
  v27 := Tryz.zeroValue69
  t28 := Tryz.underlying70
  a28 := Tryz.isAgg70
  z28 := Tryz.sizeOf70
  v28 := Tryz.zeroValue70
  t33 := Tryz.underlying61
  a33 := Tryz.isAgg61
  z33 := Tryz.sizeOf61
  v33 := Tryz.zeroValue61 }
def laysColl_ren : Go.Shelf.Ren := ⟨fun | 8 => 69 | 11 => 86 | n => n, fun | 26 => 9 | 28 => 70 | 24 => 41 | 0 => 0 | 33 => 61 | 4 => 4 | n => n, fun | n => n⟩
theorem laysColl : Go.Proofs.SlLaysZ.n8 Tryz.prog laysColl_ren := {
  mixed := by kernel_rfl
  f8 := ⟨Tryz.f69.name, by decide, Tryz.func69.trans (congrArg some (by kernel_rfl))⟩
  f11 := ⟨Tryz.f86.name, by decide, Tryz.func86.trans (congrArg some (by kernel_rfl))⟩
  t0 := Tryz.underlying0
  a0 := Tryz.isAgg0
  z0 := Tryz.sizeOf0
  v0 := Tryz.zeroValue0
  t24 := Tryz.underlying41
  a24 := Tryz.isAgg41
  z24 := Tryz.sizeOf41
  v24 := Tryz.zeroValue41
  t26 := Tryz.underlying9
  a26 := Tryz.isAgg9
  z26 := Tryz.sizeOf9
  v26 := Tryz.zeroValue9
  t28 := Tryz.underlying70
  a28 := Tryz.isAgg70
  z28 := Tryz.sizeOf70
  v28 := Tryz.zeroValue70
  i26 := by kernel_rfl }
def laysSortF_ren : Go.Shelf.Ren := ⟨fun | 6 => 70 | 15 => 64 | 14 => 87 | 28 => 84 | 29 => 85 | 20 => 94 | 21 => 95 | 22 => 96 | 23 => 97 | 24 => 98 | 25 => 99 | 26 => 100 | 27 => 101 | 46 => 107 | 47 => 90 | 48 => 91 | 49 => 108 | 50 => 109 | 57 => 114 | n => n, fun | 22 => 41 | 24 => 9 | 25 => 74 | 3 => 3 | 39 => 82 | 0 => 0 | 53 => 95 | 55 => 55 | 4 => 4 | 46 => 88 | 45 => 87 | 50 => 27 | 5 => 5 | 9 => 9 | 66 => 100 | 70 => 104 | 76 => 115 | 77 => 116 | n => n, fun | n => n⟩
theorem laysSortF : Go.Proofs.SlLaysF.n6 Tryz.prog laysSortF_ren := {
  mixed := by kernel_rfl
  f6 := ⟨Tryz.f70.name, by decide, Tryz.func70.trans (congrArg some (by kernel_rfl))⟩
  f14 := ⟨Tryz.f87.name, by decide, Tryz.func87.trans (congrArg some (by kernel_rfl))⟩
  f15 := Tryz.func64.trans (congrArg some (by kernel_rfl))
  f20 := ⟨Tryz.f94.name, by decide, Tryz.func94.trans (congrArg some (by kernel_rfl))⟩
  f21 := ⟨Tryz.f95.name, by decide, Tryz.func95.trans (congrArg some (by kernel_rfl))⟩
  f22 := ⟨Tryz.f96.name, by decide, Tryz.func96.trans (congrArg some (by kernel_rfl))⟩
  f23 := ⟨Tryz.f97.name, by decide, Tryz.func97.trans (congrArg some (by kernel_rfl))⟩
  f24 := ⟨Tryz.f98.name, by decide, Tryz.func98.trans (congrArg some (by kernel_rfl))⟩
  f25 := ⟨Tryz.f99.name, by decide, Tryz.func99.trans (congrArg some (by kernel_rfl))⟩
  f26 := ⟨Tryz.f100.name, by decide, Tryz.func100.trans (congrArg some (by kernel_rfl))⟩
  f27 := ⟨Tryz.f101.name, by decide, Tryz.func101.trans (congrArg some (by kernel_rfl))⟩
  f28 := Tryz.func84.trans (congrArg some (by kernel_rfl))
  f29 := Tryz.func85.trans (congrArg some (by kernel_rfl))
  f46 := ⟨Tryz.f107.name, by decide, Tryz.func107.trans (congrArg some (by kernel_rfl))⟩
  f47 := Tryz.func90.trans (congrArg some (by kernel_rfl))
  f48 := Tryz.func91.trans (congrArg some (by kernel_rfl))
  f49 := ⟨Tryz.f108.name, by decide, Tryz.func108.trans (congrArg some (by kernel_rfl))⟩
  f50 := ⟨Tryz.f109.name, by decide, Tryz.func109.trans (congrArg some (by kernel_rfl))⟩
  f57 := ⟨Tryz.f114.name, by decide, Tryz.func114.trans (congrArg some (by kernel_rfl))⟩
  t0 := Tryz.underlying0
  a0 := Tryz.isAgg0
  z0 := Tryz.sizeOf0
  v0 := Tryz.zeroValue0
  t3 := Tryz.underlying3
  a3 := Tryz.isAgg3
  z3 := Tryz.sizeOf3
  v3 := Tryz.zeroValue3
  t4 := Tryz.underlying4
  a4 := Tryz.isAgg4
  z4 := Tryz.sizeOf4
  v4 := Tryz.zeroValue4
  t5 := Tryz.underlying5
  a5 := Tryz.isAgg5
  z5 := Tryz.sizeOf5
  v5 := Tryz.zeroValue5
  t9 := Tryz.underlying9
  a9 := Tryz.isAgg9
  z9 := Tryz.sizeOf9
  v9 := Tryz.zeroValue9
  t22 := Tryz.underlying41
  a22 := Tryz.isAgg41
  z22 := Tryz.sizeOf41
  v22 := Tryz.zeroValue41
  a24 := Tryz.isAgg9
  z24 := Tryz.sizeOf9
  t25 := Tryz.underlying74
  a25 := Tryz.isAgg74
  z25 := Tryz.sizeOf74
  v25 := Tryz.zeroValue74
  t39 := Tryz.underlying82
  a39 := Tryz.isAgg82
  z39 := Tryz.sizeOf82
  v39 := Tryz.zeroValue82
  t45 := Tryz.underlying87
  a45 := Tryz.isAgg87
  z45 := Tryz.sizeOf87
  v45 := Tryz.zeroValue87
  t46 := Tryz.underlying88
  a46 := Tryz.isAgg88
  z46 := Tryz.sizeOf88
  v46 := Tryz.zeroValue88
  t50 := Tryz.underlying27
  a50 := Tryz.isAgg27
  z50 := Tryz.sizeOf27
  v50 := Tryz.zeroValue27
  t53 := Tryz.underlying95
  a53 := Tryz.isAgg95
  z53 := Tryz.sizeOf95
  v53 := Tryz.zeroValue95
  t55 := Tryz.underlying55
  a55 := Tryz.isAgg55
  z55 := Tryz.sizeOf55
  v55 := Tryz.zeroValue55
  t66 := Tryz.underlying100
  a66 := Tryz.isAgg100
  z66 := Tryz.sizeOf100
  v66 := Tryz.zeroValue100
  t70 := Tryz.underlying104
  a70 := Tryz.isAgg104
  z70 := Tryz.sizeOf104
  v70 := Tryz.zeroValue104
  t76 := Tryz.underlying115
  a76 := Tryz.isAgg115
  z76 := Tryz.sizeOf115
  v76 := Tryz.zeroValue115
  t77 := Tryz.underlying116
  a77 := Tryz.isAgg116
  z77 := Tryz.sizeOf116
  v77 := Tryz.zeroValue116 }
/-- A name of a length that Go's strings have. -/
abbrev NmE := { b : ByteArray // b.size ≤ maxLen }
instance : Inhabited NmE := ⟨⟨⟨#[]⟩, by decide⟩⟩
def encN (x : NmE) : Value := .string x.1
/-- How the program compares two names. -/
def cfE (xs : List Opinion) (a b : ByteArray) : Int := orI [cmpI (cntE xs b) (cntE xs a), cmpS a b]
theorem cfE_lt (xs : List Opinion) (a b : ByteArray) : decide (cfE xs a b < 0) = befE xs a b := by
  unfold cfE cmpS cmpI befE
  rw [Bool.eq_iff_iff]
  simp only [decide_eq_true_eq, Bool.or_eq_true, Bool.and_eq_true]
  by_cases h1 : cntE xs b < cntE xs a
  · have h1' : (cntE xs b : Int) < (cntE xs a : Int) := by omega
    rw [if_pos h1']
    simp [orI, h1]
  · have h1' : ¬ (cntE xs b : Int) < (cntE xs a : Int) := by omega
    rw [if_neg h1']
    by_cases h2 : cntE xs a < cntE xs b
    · have h2' : (cntE xs a : Int) < (cntE xs b : Int) := by omega
      rw [if_pos h2']
      simp only [orI]
      simp
      omega
    · have h2' : ¬ (cntE xs a : Int) < (cntE xs b : Int) := by omega
      rw [if_neg h2']
      have h3 : cntE xs a = cntE xs b := by omega
      by_cases h4 : sLt a b = true
      · simp [orI, h3, h4]
      · by_cases h5 : a = b
        · subst h5
          have h6 := sLt_irrE a
          simp [orI, h6]
        · simp [orI, h4, h5]
          omega
section
variable {α : Type} [Inhabited α] {enc : α → Value} {w : World} {g n : Nat} {os : Array Obj} {cur : Array Value} {e : TypeId}
theorem holds_of_blockE {ss : List α} (hb : w.heap[g]? = some (.cells cur e (0, 0))) (ht : cur.toList.take ss.length = ss.map enc) : Holds enc w g 0 ss.toArray := by
  intro j hj
  have hj' : j < ss.length := by simpa using hj
  refine ⟨?_, by simp [World.frozen?, hb]⟩
  have h1 : (cur.toList.take ss.length)[j]? = (ss.map enc)[j]? := by rw [ht]
  rw [List.getElem?_take_of_lt hj'] at h1
  simp only [World.cell?, hb, Nat.zero_add]
  simp only [Option.isSome_none, Bool.false_eq_true, if_false]
  rw [← Array.getElem?_toList, h1]
  simp [hj']
theorem heap_sortedE {fr : Nat × Nat} (d : Array α) (hb : w.heap[g]? = some (.cells cur e fr)) :
    (sortWorld enc w g 0 n d os).heap[g]? = some (.cells (putCells enc 0 d cur) e fr) := by
  have hg : g < w.heap.size := (Array.getElem?_eq_some_iff.1 hb).1
  unfold sortWorld
  rw [heap_grow_old _ _ (by simpa using hg)]
  simp [putRow, mapBlock, Sort.ahead, Array.getElem?_modify, hb, onCells]
theorem grownBy_sortedE (d : Array α) : w.grownBy (sortWorld enc w g 0 n d os) (some g) := by
  unfold sortWorld
  refine ⟨rfl, rfl, rfl, by simp, fun k hk hne => ?_⟩
  rw [heap_grow_old _ _ (by simpa using hk)]
  have : g ≠ k := fun e => hne (by rw [e])
  simp [putRow, mapBlock, Sort.ahead, Array.getElem?_modify, this]
theorem take_putCellsE (ts : List α) (h : ts.length ≤ cur.size) : (putCells enc 0 ts.toArray cur).toList.take ts.length = ts.map enc := by
  apply List.ext_getElem?
  intro j
  by_cases hj : j < ts.length
  · rw [List.getElem?_take_of_lt hj, Array.getElem?_toList]
    simp [putCells, hj, show j < cur.size by omega]
  · rw [List.getElem?_take_eq_none (by omega), List.getElem?_eq_none (by simp; omega)]
theorem ownsRow_sortedE {base cap : Nat} {ss ts : List α} (hl : ts.length = ss.length) (hbase : base ≤ g) (hb : w.heap[g]? = some (.cells cur e (0, 0)))
    (h1 : ss.length ≤ cap) (h2 : cap ≤ maxLen) (h3 : cur.size = cap * 1) :
    (sortWorld enc w g 0 n ts.toArray os).ownsRow base e 1 (.slice (some ⟨g, 0, none⟩) ss.length cap) ss.length (ts.map enc) :=
  ⟨by simp [hl], .inr ⟨g, cap, _, rfl, hbase, heap_sortedE _ hb, h1, h2, by simp [putCells, h3], by rw [Nat.mul_one, ← hl]; exact take_putCellsE ts (by omega)⟩⟩
end
/-- Texts as names. -/
theorem names_of : ∀ (ss : List (List UInt8)), (∀ s ∈ ss, s.length ≤ maxLen) → ∃ ts : List NmE, ts.map encN = ss.map encStr ∧ ts.map (fun x => x.1.data.toList) = ss
  | [], _ => ⟨[], rfl, rfl⟩
  | s :: ss, h => by
    obtain ⟨ts, h1, h2⟩ := names_of ss fun x hx => h x (List.mem_cons_of_mem _ hx)
    refine ⟨⟨⟨s.toArray⟩, by have := h s (List.mem_cons_self ..); simpa [ByteArray.size] using this⟩ :: ts, ?_, ?_⟩
    · rw [List.map_cons, List.map_cons, h1]; rfl
    · rw [List.map_cons, h2]
section
variable {w : World} {B n : Nat} {ys : List Opinion}
theorem CntB.keys (h : CntB B n ys w) : ∃ D : DataW Unit, w.ownsMap Tryz.prog 9 (plainElem Tryz.prog 3) B n D ∧ Maps.size D ≤ n ∧ (strKeys D).Nodup ∧ (∀ l ∈ strKeys D, l.length ≤ maxLen) ∧ ∀ l, l ∈ strKeys D ↔ ∃ y ∈ ys, y.expert.data.toList = l := by
  obtain ⟨D, h1, _, h3⟩ := h
  obtain ⟨es, hD, hpw, _⟩ := h1.entries lawStr
  obtain ⟨es', hD', hko⟩ := h1.keysOf
  obtain rfl : es = es' := by rw [hD] at hD'; simpa using hD'
  have hk : ∀ p ∈ es, ∃ x, p.1 = .string x := fun p hp => by
    obtain ⟨v, hv⟩ := hko p hp
    obtain ⟨x, _, hx, _⟩ := Maps.keyOf_str Tryz.underlying9 hv
    exact ⟨x, hx⟩
  refine ⟨D, h1, h1.size_le, ?_, strKeys_le h1 Tryz.underlying9, fun l => ?_⟩
  · subst hD
    show (es.map fun p => strOf p.1).Nodup
    refine List.pairwise_map.2 (hpw.imp_of_mem fun {p q} hp' hq' hne e => hne ?_)
    obtain ⟨a, ha⟩ := hk p hp'
    obtain ⟨b, hb⟩ := hk q hq'
    rw [ha, hb] at e ⊢
    exact congrArg _ e
  · rw [← h3 l]
    subst hD
    rw [has_eq, List.any_eq_true]
    show l ∈ es.map (fun p => strOf p.1) ↔ _
    constructor
    · intro hl
      obtain ⟨p, hp, rfl⟩ := List.mem_map.1 hl
      obtain ⟨x, hx⟩ := hk p hp
      refine ⟨p, hp, ?_⟩
      rw [hx]
      exact WideAt.sameKey_self (show WideAt.IsKeyLit (.string x) from trivial)
    · rintro ⟨p, hp, hs⟩
      obtain ⟨x, hx⟩ := hk p hp
      rw [hx] at hs
      refine List.mem_map.2 ⟨p, hp, ?_⟩
      rw [hx]
      show x = l
      by_cases e : x = l
      · exact e
      · rw [sameKey_ne (by intro e2; injection e2 with e2; exact e e2)] at hs; cases hs
end
/-- The names of ys, each once, in the program's order: the reference's list. -/
theorem names_law {xs : List Opinion} {ts : List NmE} {ss : List (List UInt8)} (h2 : ts.map (fun x => x.1.data.toList) = ss) (hn : ss.Nodup) (hm : ∀ l, l ∈ ss ↔ ∃ y ∈ xs, y.expert.data.toList = l) :
    ((ts.mergeSort fun x y => !(ltOf (fun x y : NmE => cfE xs x.1 y.1) y x)).map fun x => x.1) = exF xs xs.length := by
  have ho := befE_ord xs
  have hlt : ∀ x y : NmE, ltOf (fun x y : NmE => cfE xs x.1 y.1) y x = befE xs y.1 x.1 := fun x y => cfE_lt xs _ _
  have hnt : (ts.map fun x => x.1).Nodup := by
    have h3 : (ts.map fun x => x.1.data.toList).Nodup := h2 ▸ hn
    have h4 : ts.map (fun x => x.1.data.toList) = (ts.map fun x => x.1).map fun b => b.data.toList := by rw [List.map_map]; rfl
    rw [h4] at h3
    exact List.Pairwise.of_map _ (fun a b h e => h (by rw [e])) h3
  refine sorted_one ho ?_ (exF_sorted ho (Nat.le_refl _)) fun e => ?_
  · have h1 := List.pairwise_mergeSort (le := fun (x y : NmE) => !(ltOf (fun x y : NmE => cfE xs x.1 y.1) y x)) (fun a b c h1 h2 => by
        simp only [hlt, Bool.not_eq_true'] at *
        cases hc : befE xs c.1 a.1 with
        | false => rfl
        | true =>
          cases hb : befE xs b.1 c.1 with
          | true => rw [ho.trans _ _ _ hb hc] at h1; cases h1
          | false => have e := ho.total _ _ h2 hb; rw [e, h1] at hc; cases hc) (fun a b => by
        simp only [hlt, Bool.or_eq_true, Bool.not_eq_true']
        cases hc : befE xs b.1 a.1 with
        | false => exact .inl rfl
        | true =>
          right
          cases hb : befE xs a.1 b.1 with
          | false => rfl
          | true => have := ho.trans _ _ _ hc hb; rw [ho.irr] at this; cases this) ts
    have h3 : ((ts.mergeSort fun x y => !(ltOf (fun x y : NmE => cfE xs x.1 y.1) y x)).map fun x => x.1).Nodup := ((List.mergeSort_perm ts _).map _).nodup_iff.2 hnt
    have h4 : (ts.mergeSort fun x y => !(ltOf (fun x y : NmE => cfE xs x.1 y.1) y x)).Pairwise fun x y => x.1 ≠ y.1 := List.pairwise_map.1 h3
    unfold sortedE
    refine List.pairwise_map.2 ((h1.and h4).imp fun {x y} h => ?_)
    obtain ⟨h5, h6⟩ := h
    simp only [hlt, Bool.not_eq_true'] at h5
    cases hc : befE xs x.1 y.1 with
    | true => rfl
    | false => exact absurd (ho.total _ _ hc h5) h6
  · rw [exF_mem (Nat.le_refl _), List.take_length, List.mem_map, List.mem_map]
    constructor
    · rintro ⟨x, hx, rfl⟩
      have h3 := (List.mergeSort_perm ts _).mem_iff.1 hx
      obtain ⟨y, hy, e⟩ := (hm x.1.data.toList).1 (h2 ▸ List.mem_map.2 ⟨x, h3, rfl⟩)
      exact ⟨y, hy, data_inj e⟩
    · rintro ⟨y, hy, rfl⟩
      have h3 : y.expert.data.toList ∈ ts.map (fun x => x.1.data.toList) := h2 ▸ (hm _).2 ⟨y, hy, rfl⟩
      obtain ⟨x, hx, e⟩ := List.mem_map.1 h3
      exact ⟨x, (List.mergeSort_perm ts _).mem_iff.2 hx, data_inj e⟩
end Go.Proofs.YtpnkeaeikcobfaaGreatDoor
