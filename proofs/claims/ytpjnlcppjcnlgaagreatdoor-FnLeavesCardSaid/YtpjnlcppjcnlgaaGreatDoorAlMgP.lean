/- MergePages: the plain words. No program in sight. -/
import Derived.Test.YtpjnlcppjcnlgaaGreatDoorAlTop
import Derived.Test.YtpjnlcppjcnlgaaGreatDoorAlRes
import Derived.Test.YtpjnlcppjcnlgaaGreatDoorAlItP
import Derived.Test.YtpjnlcppjcnlgaaGreatDoorAlSort
namespace Go.Proofs.YtpjnlcppjcnlgaaGreatDoor
set_option linter.unusedVariables false
set_option linter.unusedSimpArgs false
open Go.RowKit
/-- The pages under other lie under id now. -/
def mgU (id other : Int) (p : Page) : Page := if p.under = other then ⟨p.id, p.title, id, p.items⟩ else p
def mgI (zs : List Int) (p : Page) : Page := ⟨p.id, p.title, p.under, zs.foldl putI p.items⟩
/-- Page k's items put onto page i, all pages hung anew. -/
def mgX (xs : List Page) (i k : Nat) (id other : Int) : List Page := match xs[k]? with
  | some q => (match xs[i]? with | some p => xs.set i (mgI q.items p) | none => xs).map (mgU id other)
  | none => []
def mgW (xs : List Page) (i k : Nat) (id other : Int) : List Page := (mgX xs i k id other).take k ++ (mgX xs i k id other).drop (k + 1)
def mgL (xs : List Page) (id other : Int) : List Page := mgW xs (idxI (idP id) xs).toNat (idxI (idP other) xs).toNat id other
def mgB (xs : List Page) (id other : Int) : Bool := lvB xs id && lvB xs other && !decide (id = other) && goodA (mgL xs id other)
def mgV (xs : List Page) (id other : Int) : List Page := ifA (mgL xs id other) (mgB xs id other)
section
variable {xs : List Page} {id other : Int} {i k : Nat}
theorem mgB_bad (h : goodA xs = false) : mgB xs id other = false := by simp [mgB, lvB, h]
theorem mgB_lv1 (h : lvB xs id = false) : mgB xs id other = false := by simp [mgB, h]
theorem mgB_lv2 (h : lvB xs other = false) : mgB xs id other = false := by simp [mgB, h]
theorem mgB_eq (h : id = other) : mgB xs id other = false := by simp [mgB, h]
theorem mgB_at (h1 : lvB xs id = true) (h2 : lvB xs other = true) (h3 : id ≠ other) : mgB xs id other = goodA (mgL xs id other) := by simp [mgB, h1, h2, h3]
theorem mgV_no (h : mgB xs id other = false) : mgV xs id other = [] := by simp [mgV, ifA, h]
theorem mgV_yes (h : mgB xs id other = true) : mgV xs id other = mgL xs id other := by simp [mgV, ifA, h]
theorem mgX_at (hi : i < xs.length) (hk : k < xs.length) : mgX xs i k id other = (xs.set i (mgI xs[k].items xs[i])).map (mgU id other) := by
  unfold mgX
  rw [List.getElem?_eq_getElem hi, List.getElem?_eq_getElem hk]
theorem mgL_at (h1 : idxI (idP id) xs = (i : Int)) (h2 : idxI (idP other) xs = (k : Int)) : mgL xs id other = mgW xs i k id other := by
  unfold mgL
  rw [h1, h2]; rfl
theorem mgX_len (hi : i < xs.length) (hk : k < xs.length) : (mgX xs i k id other).length = xs.length := by rw [mgX_at hi hk]; simp
theorem mgW_len (hi : i < xs.length) (hk : k < xs.length) : (mgW xs i k id other).length + 1 = xs.length := by
  have := mgX_len (id := id) (other := other) hi hk
  unfold mgW
  rw [List.length_append, List.length_take, List.length_drop]
  omega
theorem good_one_lt (hg : goodA xs = true) (hk : k < xs.length) (hik : i < k) {z : Int} (h1 : z ∈ (xs[i]'(by omega)).items) (h2 : z ∈ xs[k].items) : False := by
  have hok := goodA_at hg hk
  rw [okA_val hk] at hok
  simp only [Bool.and_eq_true] at hok
  have hfree := hok.2
  unfold freeA at hfree
  have h3 := List.all_eq_true.1 hfree z h2
  have h4 : (xs.take k).any (hasP z) = true := List.any_eq_true.2 ⟨xs[i]'(by omega), List.mem_iff_getElem?.2 ⟨i, by rw [List.getElem?_take, if_pos hik]; exact List.getElem?_eq_getElem (by omega)⟩, by simp [hasP, h1]⟩
  rw [h4] at h3
  simp at h3
theorem good_one (hg : goodA xs = true) (hi : i < xs.length) (hk : k < xs.length) (hik : i ≠ k) {z : Int} (h1 : z ∈ xs[i].items) (h2 : z ∈ xs[k].items) : False := by
  rcases Nat.lt_or_gt_of_ne hik with h | h
  · exact good_one_lt hg hk h h1 h2
  · exact good_one_lt hg hi h h2 h1
/-- The items of two pages of an album, sorted, are what comes of putting the one's onto the other's. -/
theorem merge_items (hg : goodA xs = true) (hi : i < xs.length) (hk : k < xs.length) (hik : i ≠ k) : ((xs[i].items ++ xs[k].items).mergeSort fun x y => decide (x ≤ y)) = xs[k].items.foldl putI xs[i].items := by
  have hasc : ∀ j (hj : j < xs.length), asc xs[j].items := fun j hj => List.pairwise_iff_getElem.2 fun a b ha hb hab => ascL_lt (good_base hg hj).2.2.2.2.1 b a hb hab
  have hdis : ∀ z ∈ xs[i].items, z ∉ xs[k].items := fun z h1 h2 => good_one hg hi hk hik h1 h2
  have hP := puts_asc_from xs[k].items xs[i].items (hasc i hi)
  refine asc_ext _ _ ?_ hP.1 fun x => ?_
  · have h1 := List.pairwise_mergeSort (le := fun (x y : Int) => decide (x ≤ y)) (fun a b c h1 h2 => by simp only [decide_eq_true_eq] at *; omega) (fun a b => by simp only [Bool.or_eq_true, decide_eq_true_eq]; omega) (xs[i].items ++ xs[k].items)
    have hn : (xs[i].items ++ xs[k].items).Nodup := List.nodup_append.2 ⟨(hasc i hi).imp fun h => by omega, (hasc k hk).imp fun h => by omega, fun a ha b hb e => hdis a ha (e ▸ hb)⟩
    have h2 : ((xs[i].items ++ xs[k].items).mergeSort fun x y => decide (x ≤ y)).Nodup := (List.mergeSort_perm _ _).nodup_iff.2 hn
    unfold asc
    exact (h1.and h2).imp fun h => by have := h.1; simp only [decide_eq_true_eq] at this; have := h.2; omega
  · rw [List.mem_mergeSort, List.mem_append, hP.2]
theorem fold_len : ∀ (zs ys : List Int), (zs.foldl putI ys).length ≤ ys.length + zs.length
  | [], ys => by simp
  | z :: zs, ys => by
    have h1 := fold_len zs (putI ys z)
    have h2 := putI_len ys z
    simp only [List.foldl_cons, List.length_cons]
    omega
theorem mgB_good (h : mgB xs id other = true) : goodA (mgL xs id other) = true := by
  simp only [mgB, Bool.and_eq_true] at h; exact h.2
theorem mgV_len (xs : List Page) (id other : Int) : (mgV xs id other).length ≤ 2097152 := ifA_len mgB_good
theorem mgV_sum (xs : List Page) (id other : Int) : sumI (mgV xs id other) ≤ 2097152 := ifA_sum mgB_good
theorem mem_fold : ∀ (zs ys : List Int) (x : Int), x ∈ zs.foldl putI ys ↔ x ∈ ys ∨ x ∈ zs
  | [], ys, x => by simp
  | z :: zs, ys, x => by
    rw [List.foldl_cons, mem_fold zs, putI_mem, List.mem_cons, or_assoc]
theorem mgW_mem {x : Page} (hi : i < xs.length) (hk : k < xs.length) (h : x ∈ mgW xs i k id other) : ∃ p, (p ∈ xs ∨ p = mgI xs[k].items xs[i]) ∧ x.title = p.title ∧ x.items = p.items := by
  unfold mgW at h
  have h1 : x ∈ mgX xs i k id other := by
    rcases List.mem_append.1 h with h | h
    · exact List.mem_of_mem_take h
    · exact List.mem_of_mem_drop h
  rw [mgX_at hi hk] at h1
  obtain ⟨p, hp, rfl⟩ := List.mem_map.1 h1
  refine ⟨p, List.mem_or_eq_of_mem_set hp, ?_, ?_⟩ <;> (unfold mgU; split <;> rfl)
theorem mgW_hw (hg : goodA xs = true) (hi : i < xs.length) (hk : k < xs.length) (hw : ∀ x ∈ xs, x.title.size ≤ 9223372036854775807 ∧ x.items.length ≤ 9223372036854775807 ∧ ∀ z ∈ x.items, Fits z) : (∀ x ∈ mgW xs i k id other, x.title.size ≤ 9223372036854775807 ∧ x.items.length ≤ 9223372036854775807 ∧ ∀ z ∈ x.items, Fits z) ∧ ∀ x ∈ mgW xs i k id other, x.items.length ≤ 16 := by
  have h8 := good_len8 hg
  have hfl := fold_len xs[k].items xs[i].items
  have h8i := h8 _ (List.getElem_mem hi)
  have h8k := h8 _ (List.getElem_mem hk)
  have hall : ∀ p, (p ∈ xs ∨ p = mgI xs[k].items xs[i]) → p.title.size ≤ 9223372036854775807 ∧ p.items.length ≤ 16 ∧ ∀ z ∈ p.items, Fits z := fun p hp => by
    rcases hp with hp | rfl
    · have h1 := hw p hp
      have h2 := h8 p hp
      exact ⟨h1.1, by omega, h1.2.2⟩
    · refine ⟨(hw _ (List.getElem_mem hi)).1, show (xs[k].items.foldl putI xs[i].items).length ≤ 16 by omega, fun z hz => ?_⟩
      rcases (mem_fold _ _ z).1 hz with h | h
      · exact (hw _ (List.getElem_mem hi)).2.2 z h
      · exact (hw _ (List.getElem_mem hk)).2.2 z h
  refine ⟨fun x hx => ?_, fun x hx => ?_⟩
  · obtain ⟨p, hp, e1, e2⟩ := mgW_mem hi hk hx
    obtain ⟨a1, a2, a3⟩ := hall p hp
    rw [e1, e2]
    exact ⟨a1, by omega, a3⟩
  · obtain ⟨p, hp, e1, e2⟩ := mgW_mem hi hk hx
    rw [e2]; exact (hall p hp).2.1
theorem sumI_bd : ∀ (l : List Page) (m : Nat), (∀ p ∈ l, p.items.length ≤ m) → sumI l ≤ l.length * m
  | [], m, _ => by simp [sumI]
  | p :: l, m, h => by
    have h1 := sumI_bd l m fun q hq => h q (List.mem_cons_of_mem _ hq)
    have h2 := h p (List.mem_cons_self ..)
    rw [sumI_cons, List.length_cons, Nat.add_mul]
    omega
end
end Go.Proofs.YtpjnlcppjcnlgaaGreatDoor
