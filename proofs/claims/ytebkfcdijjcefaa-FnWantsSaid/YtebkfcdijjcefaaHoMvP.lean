/- Plain facts on moving pieces: what is taken from one owner and put to another, and how often each owner has each item afterwards. No condition, and no program in sight. -/
import Derived.Test.YtebkfcdijjcefaaHoPlain
import Derived.Test.YtebkfcdijjcefaaHoCnt
namespace Go.Proofs.Ytebkfcdijjcefaa
set_option linter.unusedVariables false
set_option linter.unusedSimpArgs false
open Go.RowKit
/-- The holds lie in order, each owner and item once. -/
def OrdH (xs : List Hold) : Prop := xs.Pairwise (fun a b => a.bef b = true)
theorem good_ord {xs : List Hold} (h : goodH xs = true) : OrdH xs := List.pairwise_iff_getElem.2 fun i j hi hj hij => goodH_lt' h hij hj
def Hold.plus (h : Hold) (n : Int) : Hold := ⟨h.owner, h.item, h.count + n⟩
def keepZ (h : Hold) : List Hold := if h.count = 0 then [] else [h]
/-- One round of the reference's loop. -/
def addS (o : ByteArray) (z n : Int) (acc : List Hold × Bool) (h : Hold) : List Hold × Bool :=
  if acc.2 = false ∧ h.pre o z = false then (if h.at_ o z = true then (acc.1 ++ keepZ (h.plus n), true) else (acc.1 ++ [⟨o, z, n⟩] ++ keepZ h, true)) else (acc.1 ++ keepZ h, acc.2)
def addF (xs : List Hold) (o : ByteArray) (z n : Int) (k : Nat) : List Hold × Bool := (xs.take k).foldl (addS o z n) ([], false)
theorem addF_next {xs : List Hold} {o : ByteArray} {z n : Int} {k : Nat} (h : k < xs.length) : addF xs o z n (k + 1) = addS o z n (addF xs o z n k) xs[k] := by
  unfold addF
  rw [take_succ_get xs k h, List.foldl_append]; rfl
def addH (xs : List Hold) (o : ByteArray) (z n : Int) : List Hold := (addF xs o z n xs.length).1 ++ (if (addF xs o z n xs.length).2 = true then [] else [⟨o, z, n⟩])
def nzH (xs : List Hold) : Prop := ∀ h ∈ xs, 1 ≤ h.count
theorem keepZ_nz {h : Hold} (hc : 1 ≤ h.count) : keepZ h = [h] := by unfold keepZ; rw [if_neg (by omega)]
theorem fold_put {o : ByteArray} {z n : Int} : ∀ (t : List Hold) (a : List Hold), nzH t → t.foldl (addS o z n) (a, true) = (a ++ t, true)
  | [], a, _ => by simp
  | h :: t, a, hz => by
    rw [List.foldl_cons]
    have e : addS o z n (a, true) h = (a ++ [h], true) := by simp [addS, keepZ_nz (hz h (List.mem_cons_self ..))]
    rw [e, fold_put t _ (fun x hx => hz x (List.mem_cons_of_mem _ hx))]
    simp
theorem fold_pre {o : ByteArray} {z n : Int} : ∀ (t : List Hold) (a : List Hold), nzH t → (∀ x ∈ t, x.pre o z = true) → t.foldl (addS o z n) (a, false) = (a ++ t, false)
  | [], a, _, _ => by simp
  | h :: t, a, hz, hp => by
    rw [List.foldl_cons]
    have e : addS o z n (a, false) h = (a ++ [h], false) := by simp [addS, hp h (List.mem_cons_self ..), keepZ_nz (hz h (List.mem_cons_self ..))]
    rw [e, fold_pre t _ (fun x hx => hz x (List.mem_cons_of_mem _ hx)) (fun x hx => hp x (List.mem_cons_of_mem _ hx))]
    simp
/-- The hold of an owner and an item with n more, in its place; a new one if there is none. -/
def incH (xs : List Hold) (o : ByteArray) (z n : Int) : List Hold := match xs[posH xs o z]? with
  | none => xs ++ [⟨o, z, n⟩]
  | some h => if h.at_ o z = true then xs.take (posH xs o z) ++ keepZ (h.plus n) ++ xs.drop (posH xs o z + 1) else xs.take (posH xs o z) ++ [⟨o, z, n⟩] ++ xs.drop (posH xs o z)
theorem mem_tw {α : Type} {p : α → Bool} {x : α} : ∀ {l : List α}, x ∈ l.takeWhile p → p x = true
  | [], h => by cases h
  | y :: l, h => by
    rw [List.takeWhile_cons] at h
    split at h
    · rename_i hy
      rcases List.mem_cons.1 h with rfl | h
      · exact hy
      · exact mem_tw h
    · cases h
theorem head_dw {α : Type} {p : α → Bool} {x : α} {t : List α} : ∀ {l : List α}, l.dropWhile p = x :: t → p x = false
  | [], h => by cases h
  | y :: l, h => by
    rw [List.dropWhile_cons] at h
    split at h
    · exact head_dw h
    · rename_i hy
      injection h with h1 h2
      subst h1
      simpa using hy
theorem pos_take (xs : List Hold) (o : ByteArray) (z : Int) : ∀ x ∈ xs.take (posH xs o z), x.pre o z = true := by
  intro x hx
  have e : xs.take (posH xs o z) = xs.takeWhile (Hold.pre o z) := by
    unfold posH
    exact (List.prefix_iff_eq_take.1 (List.takeWhile_prefix _)).symm
  rw [e] at hx
  exact mem_tw hx
theorem pos_get {xs : List Hold} {o : ByteArray} {z : Int} (h : posH xs o z < xs.length) : xs[posH xs o z].pre o z = false := by
  have hd : xs.dropWhile (Hold.pre o z) = xs.drop (posH xs o z) := by
    have h1 : xs.takeWhile (Hold.pre o z) ++ xs.dropWhile (Hold.pre o z) = xs := List.takeWhile_append_dropWhile
    have h2 : xs.drop (posH xs o z) = (xs.takeWhile (Hold.pre o z) ++ xs.dropWhile (Hold.pre o z)).drop (xs.takeWhile (Hold.pre o z)).length := by rw [h1]; rfl
    rw [h2, List.drop_left]
  have hc := List.drop_eq_getElem_cons h
  rw [← hd] at hc
  exact head_dw hc
theorem add_inc {xs : List Hold} (hz : nzH xs) (o : ByteArray) (z n : Int) : addH xs o z n = incH xs o z n := by
  have hx : addF xs o z n xs.length = xs.foldl (addS o z n) ([], false) := by unfold addF; rw [List.take_length]
  have hsp : xs = xs.take (posH xs o z) ++ xs.drop (posH xs o z) := (List.take_append_drop ..).symm
  have hp := pos_take xs o z
  have hzt : nzH (xs.take (posH xs o z)) := fun x hx => hz x (List.mem_of_mem_take hx)
  have h1 : (xs.take (posH xs o z)).foldl (addS o z n) ([], false) = (xs.take (posH xs o z), false) := by rw [fold_pre _ _ hzt hp]; simp
  unfold incH
  cases hg : xs[posH xs o z]? with
  | none =>
    have hl : xs.length ≤ posH xs o z := List.getElem?_eq_none_iff.1 hg
    have he : xs.take (posH xs o z) = xs := List.take_of_length_le hl
    rw [he] at h1
    unfold addH
    rw [hx, h1]
    simp
  | some h =>
    obtain ⟨hl, rfl⟩ := List.getElem?_eq_some_iff.1 hg
    have hf := pos_get hl
    have hd : xs.drop (posH xs o z) = xs[posH xs o z] :: xs.drop (posH xs o z + 1) := List.drop_eq_getElem_cons hl
    have hc := hz _ (List.getElem_mem hl)
    have hzd : nzH (xs.drop (posH xs o z + 1)) := fun x hx => hz x (List.mem_of_mem_drop hx)
    have h2 : xs.foldl (addS o z n) ([], false) = (xs.drop (posH xs o z + 1)).foldl (addS o z n) (addS o z n (xs.take (posH xs o z), false) xs[posH xs o z]) := by
      conv => lhs; rw [hsp, List.foldl_append, h1, hd, List.foldl_cons]
    unfold addH
    rw [hx, h2]
    by_cases ha : xs[posH xs o z].at_ o z = true
    · simp only [addS, hf, ha, and_self, if_true]
      rw [fold_put _ _ hzd]
      simp
    · simp only [addS, hf, and_self, if_true, if_neg ha]
      rw [fold_put _ _ hzd, keepZ_nz hc, hd]
      simp
/-- What pos parts: all before, what stands there (if it is the place's own), all behind. -/
theorem sLt_tot {a b : ByteArray} (h : sLt a b = false) (hne : a ≠ b) : sLt b a = true := by
  unfold sLt at *
  simp only [Go.Proofs.bytesLess_eq, decide_eq_true_eq, decide_eq_false_iff_not] at *
  have hl : a.toList ≠ b.toList := fun e => hne (by
    have := (toList_beq a b).symm
    rw [beq_iff_eq.2 e] at this
    exact of_decide_eq_true this)
  exact Decidable.byContradiction fun h2 => hl (List.le_antisymm (List.not_lt.1 h2) (List.not_lt.1 h))
theorem bef_tot {a o : ByteArray} {i j : Int} (h : ¬ befI a o i j < 0) (hne : ¬ (a = o ∧ i = j)) : befI o a j i < 0 := by
  rw [befI_lt] at h ⊢
  by_cases e : a = o
  · subst e
    refine .inr ⟨rfl, ?_⟩
    have h1 : ¬ i < j := fun h2 => h (.inr ⟨rfl, h2⟩)
    have h2 : i ≠ j := fun h2 => hne ⟨rfl, h2⟩
    omega
  · refine .inl (sLt_tot ?_ e)
    cases hs : sLt a o with
    | false => rfl
    | true => exact absurd (.inl hs) h
theorem at_iff {h : Hold} {o : ByteArray} {z : Int} : h.at_ o z = true ↔ h.owner = o ∧ h.item = z := by simp [Hold.at_]
theorem bef_iff {a b : Hold} : a.bef b = true ↔ befI a.owner b.owner a.item b.item < 0 := by simp [Hold.bef]
theorem pre_iff {h : Hold} {o : ByteArray} {z : Int} : h.pre o z = true ↔ befI h.owner o h.item z < 0 := by simp [Hold.pre]
theorem pre_no {h : Hold} {o : ByteArray} {z : Int} (hp : h.pre o z = true) : h.at_ o z = false := by
  cases ha : h.at_ o z with
  | false => rfl
  | true => rw [at_pre ha] at hp; cases hp
/-- The three ways in which a place and a list in order can lie. -/
theorem pos_cases {xs : List Hold} (hs : OrdH xs) (o : ByteArray) (z : Int) : ∃ p, p.length = posH xs o z ∧ (∀ x ∈ p, x.pre o z = true) ∧
    ((∃ h t, xs = p ++ h :: t ∧ h.at_ o z = true ∧ (∀ x ∈ t, befI o x.owner z x.item < 0) ∧ hasH xs o z = true ∧ ∀ n, incH xs o z n = p ++ keepZ (h.plus n) ++ t) ∨
     (∃ r, xs = p ++ r ∧ (∀ x ∈ r, befI o x.owner z x.item < 0) ∧ hasH xs o z = false ∧ ∀ n, incH xs o z n = p ++ [⟨o, z, n⟩] ++ r)) := by
  refine ⟨xs.take (posH xs o z), by rw [List.length_take]; have := posH_le xs o z; omega, pos_take xs o z, ?_⟩
  have hsp : xs = xs.take (posH xs o z) ++ xs.drop (posH xs o z) := (List.take_append_drop ..).symm
  cases hg : xs[posH xs o z]? with
  | none =>
    have hl : xs.length ≤ posH xs o z := List.getElem?_eq_none_iff.1 hg
    have he : xs.take (posH xs o z) = xs := List.take_of_length_le hl
    refine .inr ⟨[], by simp [he], by simp, by simp [hasH, hg], fun n => ?_⟩
    simp [incH, hg, he]
  | some h =>
    obtain ⟨hl, hh⟩ := List.getElem?_eq_some_iff.1 hg
    have hf := pos_get hl
    have hd : xs.drop (posH xs o z) = xs[posH xs o z] :: xs.drop (posH xs o z + 1) := List.drop_eq_getElem_cons hl
    have hpw : (xs.drop (posH xs o z)).Pairwise (fun a b => a.bef b = true) := hs.sublist (List.drop_sublist ..)
    rw [hh] at hf hd
    rw [hd, List.pairwise_cons] at hpw
    by_cases ha : h.at_ o z = true
    · obtain ⟨rfl, rfl⟩ := at_iff.1 ha
      refine .inl ⟨h, _, by rw [← hd]; exact hsp, ha, fun x hx => bef_iff.1 (hpw.1 x hx), by simp only [hasH, hg]; exact ha, fun n => ?_⟩
      simp only [incH, hg]
      rw [if_pos ha]
    · have hb : befI o h.owner z h.item < 0 := bef_tot (by rw [← pre_iff, hf]; exact Bool.false_ne_true) (fun e => ha (at_iff.2 e))
      refine .inr ⟨_, hsp, fun x hx => ?_, by simp only [hasH, hg]; simpa using ha, fun n => ?_⟩
      · rw [hd] at hx
        rcases List.mem_cons.1 hx with rfl | hx
        · exact hb
        · exact bef_trans hb (bef_iff.1 (hpw.1 x hx))
      · simp only [incH, hg]
        rw [if_neg ha]
theorem after_no {x : Hold} {o : ByteArray} {z : Int} (h : befI o x.owner z x.item < 0) : x.at_ o z = false := by
  cases ha : x.at_ o z with
  | false => rfl
  | true => obtain ⟨rfl, rfl⟩ := at_iff.1 ha; exact absurd h (bef_irrefl _ _)
theorem cnt_skip {p r : List Hold} {o : ByteArray} {z : Int} (h : ∀ x ∈ p, x.at_ o z = false) : cntH (p ++ r) o z = cntH r o z := by
  unfold cntH
  rw [List.find?_append, List.find?_eq_none.2 (fun x hx => by rw [h x hx]; exact Bool.false_ne_true)]
  rfl
theorem cnt_none {p : List Hold} {o : ByteArray} {z : Int} (h : ∀ x ∈ p, x.at_ o z = false) : cntH p o z = 0 := by
  unfold cntH
  rw [List.find?_eq_none.2 (fun x hx => by rw [h x hx]; exact Bool.false_ne_true)]
theorem cnt_cons {h : Hold} {r : List Hold} {o : ByteArray} {z : Int} : cntH (h :: r) o z = if h.at_ o z = true then h.count else cntH r o z := by
  unfold cntH
  by_cases hh : h.at_ o z = true
  · rw [List.find?_cons_of_pos hh, if_pos hh]
  · rw [List.find?_cons_of_neg hh, if_neg hh]
theorem cnt_app {p r r' : List Hold} {o : ByteArray} {z : Int} (h : cntH r o z = cntH r' o z) : cntH (p ++ r) o z = cntH (p ++ r') o z := by
  unfold cntH at *
  rw [List.find?_append, List.find?_append]
  cases p.find? (Hold.at_ o z) with
  | none => simpa using h
  | some x => rfl
/-- How often each owner has each item behind a change. -/
theorem cnt_inc {xs : List Hold} (hs : OrdH xs) (o : ByteArray) (z n : Int) (o' : ByteArray) (y : Int) : cntH (incH xs o z n) o' y = cntH xs o' y + (if o' = o ∧ y = z then n else 0) := by
  obtain ⟨p, _, hp, hc⟩ := pos_cases hs o z
  by_cases e : o' = o ∧ y = z
  · obtain ⟨rfl, rfl⟩ := e
    rw [if_pos ⟨rfl, rfl⟩]
    have hpn : ∀ x ∈ p, x.at_ o' y = false := fun x hx => pre_no (hp x hx)
    rcases hc with ⟨h, t, hxs, ha, ht, _, hi⟩ | ⟨r, hxs, hr, _, hi⟩
    · rw [hi, hxs, List.append_assoc, cnt_skip hpn, cnt_skip hpn, cnt_cons, if_pos ha]
      have htn := cnt_none (o := o') (z := y) (fun x hx => after_no (ht x hx))
      unfold keepZ
      by_cases h0 : (h.plus n).count = 0
      · rw [if_pos h0, List.nil_append, htn]; exact h0.symm
      · rw [if_neg h0, List.singleton_append, cnt_cons, if_pos (show (h.plus n).at_ o' y = true from ha)]; rfl
    · rw [hi, hxs, List.append_assoc, cnt_skip hpn, cnt_skip hpn, List.singleton_append, cnt_cons, if_pos (show (⟨o', y, n⟩ : Hold).at_ o' y = true by simp [Hold.at_]), cnt_none (fun x hx => after_no (hr x hx))]
      simp
  · rw [if_neg e, Int.add_zero]
    rcases hc with ⟨h, t, hxs, ha, ht, _, hi⟩ | ⟨r, hxs, hr, _, hi⟩
    · rw [hi, hxs, List.append_assoc]
      refine cnt_app ?_
      have hn : ¬ h.at_ o' y = true := fun h' => e (by rw [at_iff] at ha h'; exact ⟨h'.1.symm.trans ha.1, h'.2.symm.trans ha.2⟩)
      rw [cnt_cons, if_neg hn]
      unfold keepZ
      split
      · rfl
      · rw [List.singleton_append, cnt_cons, if_neg (show ¬ (h.plus n).at_ o' y = true from hn)]
    · rw [hi, hxs, List.append_assoc]
      refine cnt_app ?_
      rw [List.singleton_append, cnt_cons, if_neg (fun h' => e (by rw [at_iff] at h'; exact ⟨h'.1.symm, h'.2.symm⟩))]
theorem ord_inc {xs : List Hold} (hs : OrdH xs) (o : ByteArray) (z n : Int) : OrdH (incH xs o z n) := by
  obtain ⟨p, _, hp, hc⟩ := pos_cases hs o z
  rcases hc with ⟨h, t, hxs, ha, ht, _, hi⟩ | ⟨r, hxs, hr, _, hi⟩
  · rw [hi, List.append_assoc]
    have hs' := hs
    unfold OrdH at hs' ⊢
    rw [hxs, List.pairwise_append, List.pairwise_cons] at hs'
    obtain ⟨h1, ⟨h2, h3⟩, h4⟩ := hs'
    rw [List.pairwise_append]
    unfold keepZ
    split
    · rw [List.nil_append]
      exact ⟨h1, h3, fun a ha b hb => h4 a ha b (List.mem_cons_of_mem _ hb)⟩
    · rw [List.singleton_append, List.pairwise_cons]
      refine ⟨h1, ⟨h2, h3⟩, fun a ha b hb => ?_⟩
      rcases List.mem_cons.1 hb with rfl | hb
      · exact h4 a ha h (List.mem_cons_self ..)
      · exact h4 a ha b (List.mem_cons_of_mem _ hb)
  · rw [hi, List.append_assoc]
    have hs' := hs
    unfold OrdH at hs' ⊢
    rw [hxs, List.pairwise_append] at hs'
    obtain ⟨h1, h3, h4⟩ := hs'
    rw [List.pairwise_append, List.singleton_append, List.pairwise_cons]
    refine ⟨h1, ⟨fun x hx => bef_iff.2 (hr x hx), h3⟩, fun a ha b hb => ?_⟩
    rcases List.mem_cons.1 hb with rfl | hb
    · exact bef_iff.2 (pre_iff.1 (hp a ha))
    · exact h4 a ha b hb
def sumC (xs : List Hold) : Int := (xs.map (·.count)).sum
theorem sumC_app (xs ys : List Hold) : sumC (xs ++ ys) = sumC xs + sumC ys := by simp [sumC]
theorem sumC_cons (x : Hold) (ys : List Hold) : sumC (x :: ys) = x.count + sumC ys := by simp [sumC]
theorem sumC_keep (h : Hold) : sumC (keepZ h) = h.count := by
  unfold keepZ
  split
  · rename_i h0; rw [h0]; rfl
  · simp [sumC]
theorem sum_inc {xs : List Hold} (hs : OrdH xs) (o : ByteArray) (z n : Int) : sumC (incH xs o z n) = sumC xs + n := by
  obtain ⟨p, _, hp, hc⟩ := pos_cases hs o z
  rcases hc with ⟨h, t, hxs, ha, ht, _, hi⟩ | ⟨r, hxs, hr, _, hi⟩
  · rw [hi, hxs, sumC_app, sumC_app, sumC_keep, sumC_app, sumC_cons]
    show sumC p + (h.count + n) + sumC t = _
    omega
  · rw [hi, hxs, sumC_app, sumC_app, sumC_app]
    have : sumC [⟨o, z, n⟩] = n := by simp [sumC]
    omega
/-- Behind a change all are there at least once, if the changed one is. -/
theorem nz_inc {xs : List Hold} (hs : OrdH xs) (hz : nzH xs) {o : ByteArray} {z n : Int} (h : 0 ≤ cntH xs o z + n) (hh : hasH xs o z = true ∨ 1 ≤ n) : nzH (incH xs o z n) := by
  obtain ⟨p, _, hp, hc⟩ := pos_cases hs o z
  have hpn : ∀ x ∈ p, x.at_ o z = false := fun x hx => pre_no (hp x hx)
  rcases hc with ⟨k, t, hxs, ha, ht, _, hi⟩ | ⟨r, hxs, hr, hno, hi⟩
  · rw [hi]
    have hk : cntH xs o z = k.count := by rw [hxs, cnt_skip hpn, cnt_cons, if_pos ha]
    intro x hx
    rw [List.mem_append, List.mem_append] at hx
    rcases hx with (hx | hx) | hx
    · exact hz x (by rw [hxs]; exact List.mem_append_left _ hx)
    · unfold keepZ at hx
      split at hx
      · cases hx
      · rename_i h0
        obtain rfl : x = k.plus n := by simpa using hx
        show 1 ≤ k.count + n
        have h0 : ¬ k.count + n = 0 := h0
        omega
    · exact hz x (by rw [hxs]; exact List.mem_append_right _ (List.mem_cons_of_mem _ hx))
  · rw [hi]
    have h1 : 1 ≤ n := by
      rcases hh with hh | hh
      · rw [hno] at hh; cases hh
      · exact hh
    intro x hx
    rw [List.mem_append, List.mem_append] at hx
    rcases hx with (hx | hx) | hx
    · exact hz x (by rw [hxs]; exact List.mem_append_left _ hx)
    · obtain rfl : x = ⟨o, z, n⟩ := by simpa using hx
      exact h1
    · exact hz x (by rw [hxs]; exact List.mem_append_right _ hx)
theorem has_cnt {xs : List Hold} (hs : OrdH xs) (hz : nzH xs) (o : ByteArray) (z : Int) : hasH xs o z = decide (1 ≤ cntH xs o z) := by
  obtain ⟨p, _, hp, hc⟩ := pos_cases hs o z
  have hpn : ∀ x ∈ p, x.at_ o z = false := fun x hx => pre_no (hp x hx)
  rcases hc with ⟨k, t, hxs, ha, ht, hh, hi⟩ | ⟨r, hxs, hr, hh, hi⟩
  · have hk : cntH xs o z = k.count := by rw [hxs, cnt_skip hpn, cnt_cons, if_pos ha]
    have := hz k (by rw [hxs]; exact List.mem_append_right _ (List.mem_cons_self ..))
    rw [hh, hk]; exact (decide_eq_true this).symm
  · have hk : cntH xs o z = 0 := by rw [hxs, cnt_skip hpn, cnt_none (fun x hx => after_no (hr x hx))]
    rw [hh, hk]; rfl
theorem len_inc {xs : List Hold} (hs : OrdH xs) (hz : nzH xs) (o : ByteArray) (z n : Int) (h : cntH xs o z + n ≠ 0) : (incH xs o z n).length = xs.length + (if hasH xs o z = true then 0 else 1) := by
  obtain ⟨p, _, hp, hc⟩ := pos_cases hs o z
  have hpn : ∀ x ∈ p, x.at_ o z = false := fun x hx => pre_no (hp x hx)
  rcases hc with ⟨k, t, hxs, ha, ht, hh, hi⟩ | ⟨r, hxs, hr, hh, hi⟩
  · have hk : cntH xs o z = k.count := by rw [hxs, cnt_skip hpn, cnt_cons, if_pos ha]
    have h0 : ¬ (k.plus n).count = 0 := by show ¬ k.count + n = 0; omega
    have e : keepZ (k.plus n) = [k.plus n] := by unfold keepZ; rw [if_neg h0]
    rw [hi, hh, e, if_pos rfl, hxs]
    simp
  · rw [hi, hh, hxs]
    simp
    omega
theorem len_inc_le {xs : List Hold} (hs : OrdH xs) (o : ByteArray) (z n : Int) : (incH xs o z n).length ≤ xs.length + 1 := by
  obtain ⟨p, _, hp, hc⟩ := pos_cases hs o z
  rcases hc with ⟨k, t, hxs, ha, ht, hh, hi⟩ | ⟨r, hxs, hr, hh, hi⟩
  · rw [hi, hxs]
    unfold keepZ
    split <;> simp <;> omega
  · rw [hi, hxs]
    simp
    omega
end Go.Proofs.Ytebkfcdijjcefaa
