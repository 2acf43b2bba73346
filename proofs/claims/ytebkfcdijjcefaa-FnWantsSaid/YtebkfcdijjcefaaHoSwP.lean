/- Plain facts on swaps: what is given is never more than there is; nothing is lost. No condition, and no program in sight. -/
import Derived.Test.YtebkfcdijjcefaaHoMv
import Derived.Test.YtebkfcdijjcefaaHoPair
namespace Go.Proofs.Ytebkfcdijjcefaa
set_option linter.unusedVariables false
set_option linter.unusedSimpArgs false
open Go.RowKit
theorem cnt_nn {xs : List Hold} (hz : nzH xs) (o : ByteArray) (y : Int) : 0 ≤ cntH xs o y := by
  unfold cntH
  cases hf : xs.find? (Hold.at_ o y) with
  | none => exact Int.le_refl _
  | some h => have := hz h (List.mem_of_find?_eq_some hf); show 0 ≤ h.count; omega
theorem good_nz {xs : List Hold} (h : goodH xs = true) : nzH xs := by
  intro x hx
  obtain ⟨i, hi, rfl⟩ := List.getElem_of_mem hx
  have := goodH_ok h hi
  simp only [Hold.ok, Bool.and_eq_true, inR_iff] at this
  exact this.2.1
theorem mem_inc {xs : List Hold} (hs : OrdH xs) {o : ByteArray} {z n : Int} {y : Hold} (hy : y ∈ incH xs o z n) : (∃ x ∈ xs, y.owner = x.owner ∧ (y.count = x.count ∨ y.count = x.count + n)) ∨ (y.owner = o ∧ y.count = n) := by
  obtain ⟨p, _, hp, hc⟩ := pos_cases hs o z
  rcases hc with ⟨h, t, hxs, ha, ht, _, hi⟩ | ⟨r, hxs, hr, _, hi⟩
  · rw [hi, List.mem_append, List.mem_append] at hy
    rcases hy with (hy | hy) | hy
    · exact .inl ⟨y, by rw [hxs]; exact List.mem_append_left _ hy, rfl, .inl rfl⟩
    · unfold keepZ at hy
      split at hy
      · cases hy
      · obtain rfl : y = h.plus n := by simpa using hy
        exact .inl ⟨h, by rw [hxs]; exact List.mem_append_right _ (List.mem_cons_self ..), rfl, .inr rfl⟩
    · exact .inl ⟨y, by rw [hxs]; exact List.mem_append_right _ (List.mem_cons_of_mem _ hy), rfl, .inl rfl⟩
  · rw [hi, List.mem_append, List.mem_append] at hy
    rcases hy with (hy | hy) | hy
    · exact .inl ⟨y, by rw [hxs]; exact List.mem_append_left _ hy, rfl, .inl rfl⟩
    · obtain rfl : y = ⟨o, z, n⟩ := by simpa using hy
      exact .inr ⟨rfl, rfl⟩
    · exact .inl ⟨y, by rw [hxs]; exact List.mem_append_right _ hy, rfl, .inl rfl⟩
theorem ord_mv {xs : List Hold} (hs : OrdH xs) (a b : ByteArray) (z : Int) : OrdH (mvH xs a b z) := ord_inc (ord_inc hs a z (-1)) b z 1
theorem cnt_mv {xs : List Hold} (hs : OrdH xs) (a b : ByteArray) (z : Int) (o : ByteArray) (y : Int) : cntH (mvH xs a b z) o y = cntH xs o y + (if o = a ∧ y = z then -1 else 0) + (if o = b ∧ y = z then 1 else 0) := by
  unfold mvH
  rw [cnt_inc (ord_inc hs a z (-1)), cnt_inc hs]
theorem nz_mv1 {xs : List Hold} (hs : OrdH xs) (hz : nzH xs) {a : ByteArray} {z : Int} (h : hasH xs a z = true) : nzH (incH xs a z (-1)) := by
  have h1 := has_cnt hs hz a z
  rw [h] at h1
  have := of_decide_eq_true h1.symm
  exact nz_inc hs hz (by omega) (.inl h)
theorem nz_mv {xs : List Hold} (hs : OrdH xs) (hz : nzH xs) {a : ByteArray} {z : Int} (b : ByteArray) (h : hasH xs a z = true) : nzH (mvH xs a b z) := by
  have h1 := nz_mv1 hs hz h
  exact nz_inc (ord_inc hs a z (-1)) h1 (by have := cnt_nn h1 b z; omega) (.inr (by decide))
theorem sum_mv {xs : List Hold} (hs : OrdH xs) (a b : ByteArray) (z : Int) : sumC (mvH xs a b z) = sumC xs := by
  unfold mvH
  rw [sum_inc (ord_inc hs a z (-1)), sum_inc hs]
  omega
/-- Moved by the reference's two steps. -/
theorem mv_add {xs : List Hold} (hs : OrdH xs) (hz : nzH xs) {a : ByteArray} {z : Int} (b : ByteArray) (h : hasH xs a z = true) : addH (addH xs a z (-1)) b z 1 = mvH xs a b z := by
  rw [add_inc hz, add_inc (nz_mv1 hs hz h)]; rfl
theorem len_mv {xs : List Hold} (hs : OrdH xs) (hz : nzH xs) {a b : ByteArray} {z : Int} (hne : a ≠ b) (h1 : 2 ≤ cntH xs a z) (h2 : cntH xs b z = 0) : (mvH xs a b z).length = xs.length + 1 := by
  have hh : hasH xs a z = true := by rw [has_cnt hs hz]; exact decide_eq_true (by omega)
  have hz1 := nz_mv1 hs hz hh
  have c1 : cntH (incH xs a z (-1)) b z = 0 := by
    rw [cnt_inc hs, h2, if_neg (fun e => hne e.1.symm)]; rfl
  have hn : hasH (incH xs a z (-1)) b z = false := by rw [has_cnt (ord_inc hs a z (-1)) hz1, c1]; rfl
  unfold mvH
  rw [len_inc (ord_inc hs a z (-1)) hz1 b z 1 (by rw [c1]; decide), hn, len_inc hs hz a z (-1) (by omega), hh]
  simp
/-- The swaps: round by round. -/
def swF (xs : List Hold) (a b : ByteArray) (ts us : List Int) : Nat → List Hold
  | 0 => xs
  | i + 1 => mvH (mvH (swF xs a b ts us i) a b (ts.getD i 0)) b a (us.getD i 0)
structure SwI (xs : List Hold) (a b : ByteArray) (ts us : List Int) (i : Nat) (ys : List Hold) : Prop where
  ord : OrdH ys
  nz : nzH ys
  a2 : ∀ j, i ≤ j → ∀ h : j < ts.length, 2 ≤ cntH ys a ts[j]
  b0 : ∀ j, i ≤ j → ∀ h : j < ts.length, cntH ys b ts[j] = 0
  b2 : ∀ j, i ≤ j → ∀ h : j < us.length, 2 ≤ cntH ys b us[j]
  a0 : ∀ j, i ≤ j → ∀ h : j < us.length, cntH ys a us[j] = 0
  sum : sumC ys = sumC xs
  len : ys.length = xs.length + 2 * i
  old : ∀ o y, 1 ≤ cntH xs o y → 1 ≤ cntH ys o y
theorem getD_at {α : Type} {l : List α} {i : Nat} (h : i < l.length) (d : α) : l.getD i d = l[i] := by simp [h]
theorem asc_ne {l : List Int} (h : l.Pairwise (· < ·)) {i j : Nat} (hij : i < j) (hj : j < l.length) : l[j] ≠ l[i] := by
  have := List.pairwise_iff_getElem.1 h i j (by omega) hj hij
  omega
theorem sw_half {xs ys : List Hold} {a b : ByteArray} {ts us : List Int} {i : Nat} (hne : a ≠ b) (hI : SwI xs a b ts us i ys) (ht : i < ts.length) (hu : i < us.length) : hasH ys a ts[i] = true ∧ hasH (mvH ys a b ts[i]) b us[i] = true ∧ ts[i] ≠ us[i] ∧ OrdH (mvH ys a b ts[i]) ∧ nzH (mvH ys a b ts[i]) ∧ 2 ≤ cntH (mvH ys a b ts[i]) b us[i] ∧ cntH (mvH ys a b ts[i]) a us[i] = 0 := by
  have h2 := hI.a2 i (Nat.le_refl _) ht
  have h0 := hI.b0 i (Nat.le_refl _) ht
  have g2 := hI.b2 i (Nat.le_refl _) hu
  have g0 := hI.a0 i (Nat.le_refl _) hu
  have hh : hasH ys a ts[i] = true := by rw [has_cnt hI.ord hI.nz]; exact decide_eq_true (by omega)
  have hd : ts[i] ≠ us[i] := fun e => by rw [e] at h0; omega
  have ho := ord_mv hI.ord a b ts[i]
  have hz := nz_mv hI.ord hI.nz b hh
  have c1 : cntH (mvH ys a b ts[i]) b us[i] = cntH ys b us[i] := by
    rw [cnt_mv hI.ord, if_neg (fun e => hd e.2.symm), if_neg (fun e => hd e.2.symm)]; omega
  have c2 : cntH (mvH ys a b ts[i]) a us[i] = cntH ys a us[i] := by
    rw [cnt_mv hI.ord, if_neg (fun e => hd e.2.symm), if_neg (fun e => hd e.2.symm)]; omega
  refine ⟨hh, ?_, hd, ho, hz, by rw [c1]; exact g2, by rw [c2]; exact g0⟩
  rw [has_cnt ho hz, c1]
  exact decide_eq_true (by omega)
theorem sw_step {xs ys : List Hold} {a b : ByteArray} {ts us : List Int} {i : Nat} (hne : a ≠ b) (hts : ts.Pairwise (· < ·)) (hus : us.Pairwise (· < ·)) (hI : SwI xs a b ts us i ys) (ht : i < ts.length) (hu : i < us.length) : SwI xs a b ts us (i + 1) (mvH (mvH ys a b ts[i]) b a us[i]) := by
  obtain ⟨hh, hh2, hd, ho, hz, g2', g0'⟩ := sw_half hne hI ht hu
  have h2 := hI.a2 i (Nat.le_refl _) ht
  have h0 := hI.b0 i (Nat.le_refl _) ht
  have cc : ∀ o y, cntH (mvH (mvH ys a b ts[i]) b a us[i]) o y = cntH ys o y + (if o = a ∧ y = ts[i] then -1 else 0) + (if o = b ∧ y = ts[i] then 1 else 0) + (if o = b ∧ y = us[i] then -1 else 0) + (if o = a ∧ y = us[i] then 1 else 0) := fun o y => by
    rw [cnt_mv ho, cnt_mv hI.ord]
  have ab : b ≠ a := fun e => hne e.symm
  have g2 := hI.b2 i (Nat.le_refl _) hu
  have g0 := hI.a0 i (Nat.le_refl _) hu
  refine ⟨ord_mv ho b a us[i], nz_mv ho hz a hh2, fun j hj hl => ?_, fun j hj hl => ?_, fun j hj hl => ?_, fun j hj hl => ?_, ?_, ?_, fun o y h => ?_⟩
  · have e1 := asc_ne hts (show i < j by omega) hl
    have := hI.a2 j (by omega) hl
    rw [cc, if_neg (fun e => e1 e.2), if_neg (fun e => e1 e.2), if_neg (fun e => hne e.1)]
    split <;> omega
  · have e1 := asc_ne hts (show i < j by omega) hl
    have := hI.b0 j (by omega) hl
    have e2 : ts[j] ≠ us[i] := fun e => by rw [e] at this; omega
    rw [cc, if_neg (fun e => e1 e.2), if_neg (fun e => e1 e.2), if_neg (fun e => e2 e.2), if_neg (fun e => e2 e.2)]
    omega
  · have e1 := asc_ne hus (show i < j by omega) hl
    have := hI.b2 j (by omega) hl
    have t1 : ¬ (b = a ∧ us[j] = ts[i]) := fun e => ab e.1
    have t3 : ¬ (b = b ∧ us[j] = us[i]) := fun e => e1 e.2
    have t4 : ¬ (b = a ∧ us[j] = us[i]) := fun e => ab e.1
    rw [cc, if_neg t1, if_neg t3, if_neg t4]
    split <;> omega
  · have e1 := asc_ne hus (show i < j by omega) hl
    have := hI.a0 j (by omega) hl
    have e2 : us[j] ≠ ts[i] := fun e => by rw [e] at this; omega
    rw [cc, if_neg (fun e => e2 e.2), if_neg (fun e => e2 e.2), if_neg (fun e => e1 e.2), if_neg (fun e => e1 e.2)]
    omega
  · rw [sum_mv ho, sum_mv hI.ord, hI.sum]
  · rw [len_mv ho hz ab g2' g0', len_mv hI.ord hI.nz hne h2 h0, hI.len]
    omega
  · have hy := hI.old o y h
    rw [cc]
    by_cases e1 : o = a ∧ y = ts[i]
    · obtain ⟨rfl, rfl⟩ := e1
      rw [if_pos ⟨rfl, rfl⟩, if_neg (fun e => hne e.1), if_neg (fun e => hne e.1), if_neg (fun e => hd e.2)]
      omega
    · by_cases e2 : o = b ∧ y = us[i]
      · obtain ⟨rfl, rfl⟩ := e2
        rw [if_neg e1, if_neg (fun e => hd e.2.symm), if_pos ⟨rfl, rfl⟩, if_neg (fun e => ab e.1)]
        omega
      · rw [if_neg e1, if_neg e2]
        split <;> split <;> omega
theorem give_asc {xs : List Hold} (h : goodH xs = true) (a b : ByteArray) : (giveH xs a b).Pairwise (· < ·) := by
  unfold giveH
  rw [List.pairwise_map]
  have hp : (xs.filter (giveP xs a b)).Pairwise (fun x y => x.bef y = true) := List.Pairwise.filter _ (good_ord h)
  refine List.Pairwise.imp_of_mem ?_ hp
  intro x y hx hy hxy
  have h1 := (List.mem_filter.1 hx).2
  have h2 := (List.mem_filter.1 hy).2
  simp only [giveP, Bool.and_eq_true, decide_eq_true_eq] at h1 h2
  have := bef_iff.1 hxy
  rw [h1.1, h2.1, befI_lt] at this
  rcases this with h3 | h3
  · rw [sLt_irrefl] at h3; cases h3
  · exact h3.2
theorem give_cnt {xs : List Hold} (h : goodH xs = true) {a b : ByteArray} {z : Int} (hz : z ∈ giveH xs a b) : 2 ≤ cntH xs a z ∧ cntH xs b z = 0 := by
  unfold giveH at hz
  obtain ⟨x, hx, rfl⟩ := List.mem_map.1 hz
  obtain ⟨hm, hp⟩ := List.mem_filter.1 hx
  simp only [giveP, Bool.and_eq_true, decide_eq_true_eq] at hp
  refine ⟨?_, hp.2.2⟩
  obtain ⟨i, hi, rfl⟩ := List.getElem_of_mem hm
  have : cntH xs a xs[i].item = xs[i].count := by
    unfold cntH
    rw [find_snoc _ xs i hi (fun y hy => ?_) (by rw [at_iff]; exact ⟨hp.1, rfl⟩)]
    obtain ⟨m, hm2, rfl⟩ := List.mem_take_iff_getElem.1 hy
    have h1 := goodH_lt' h (show m < i by omega) hi
    cases hc : (xs[m]).at_ a xs[i].item with
    | false => rfl
    | true =>
      obtain ⟨e1, e2⟩ := at_iff.1 hc
      have h2 := bef_iff.1 h1
      rw [e1, e2, hp.1] at h2
      exact absurd h2 (bef_irrefl _ _)
  omega
theorem sw_zero {xs : List Hold} (h : goodH xs = true) (a b : ByteArray) : SwI xs a b (giveH xs a b) (giveH xs b a) 0 xs :=
  ⟨good_ord h, good_nz h, fun j _ hl => (give_cnt h (List.getElem_mem hl)).1, fun j _ hl => (give_cnt h (List.getElem_mem hl)).2, fun j _ hl => (give_cnt h (List.getElem_mem hl)).1, fun j _ hl => (give_cnt h (List.getElem_mem hl)).2, rfl, by omega, fun _ _ h => h⟩
theorem sw_all {xs : List Hold} (h : goodH xs = true) {a b : ByteArray} (hne : a ≠ b) : ∀ i, i ≤ (giveH xs a b).length → i ≤ (giveH xs b a).length → SwI xs a b (giveH xs a b) (giveH xs b a) i (swF xs a b (giveH xs a b) (giveH xs b a) i)
  | 0, _, _ => sw_zero h a b
  | i + 1, h1, h2 => by
    have ih := sw_all h hne i (by omega) (by omega)
    have := sw_step hne (give_asc h a b) (give_asc h b a) ih (by omega) (by omega)
    unfold swF
    rw [getD_at (by omega), getD_at (by omega)]
    exact this
theorem sumC_le {xs : List Hold} (hz : nzH xs) : ∀ x ∈ xs, x.count ≤ sumC xs := by
  induction xs with
  | nil => intro x hx; cases hx
  | cons y ys ih =>
    intro x hx
    have hy := hz y (List.mem_cons_self ..)
    have hs : 0 ≤ sumC ys := by
      clear ih hx
      have : ∀ l : List Hold, nzH l → 0 ≤ sumC l := by
        intro l
        induction l with
        | nil => intro _; exact Int.le_refl _
        | cons u us ih => intro hl; rw [sumC_cons]; have := ih (fun v hv => hl v (List.mem_cons_of_mem _ hv)); have := hl u (List.mem_cons_self ..); omega
      exact this ys (fun v hv => hz v (List.mem_cons_of_mem _ hv))
    rw [sumC_cons]
    rcases List.mem_cons.1 hx with rfl | hx
    · omega
    · have := ih (fun v hv => hz v (List.mem_cons_of_mem _ hv)) x hx; omega
theorem good_sum {xs : List Hold} (h : goodH xs = true) : sumC xs ≤ 1980 := by
  have hl := goodH_len h
  have hb : ∀ x ∈ xs, x.count ≤ 99 := by
    intro x hx
    obtain ⟨i, hi, rfl⟩ := List.getElem_of_mem hx
    have := goodH_ok h hi
    simp only [Hold.ok, Bool.and_eq_true, inR_iff] at this
    exact this.2.2
  have : ∀ l : List Hold, (∀ x ∈ l, x.count ≤ 99) → sumC l ≤ 99 * l.length := by
    intro l
    induction l with
    | nil => intro _; exact Int.le_refl _
    | cons u us ih => intro hu; rw [sumC_cons]; have := ih (fun v hv => hu v (List.mem_cons_of_mem _ hv)); have := hu u (List.mem_cons_self ..); simp only [List.length_cons]; omega
  have := this xs hb
  omega
end Go.Proofs.Ytebkfcdijjcefaa
