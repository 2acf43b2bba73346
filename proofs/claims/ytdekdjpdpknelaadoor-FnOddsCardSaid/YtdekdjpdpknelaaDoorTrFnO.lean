/- The plain law on odds: the odds after trials do not depend on their order; chances lie between 0 and 1. No condition, and no program in sight. -/
import Derived.Test.YtdekdjpdpknelaaDoorTrOdds2
import Derived.Test.YtdekdjpdpknelaaDoorTrChance
namespace Go.Proofs.YtdekdjpdpknelaaDoor
set_option linter.unusedVariables false
set_option linter.unusedSimpArgs false
def redO (o : Odds) : Odds := ⟨o.real / gc o.real o.fake, o.fake / gc o.real o.fake⟩
theorem gc_mul {g a b : Int} (hg : 0 < g) : gc (g * a) (g * b) = g * gc a b := by
  unfold gc
  rw [Int.gcd_mul_left, Int.natCast_mul, Int.natAbs_of_nonneg (by omega)]
theorem gc_posL {a : Int} (b : Int) (h : 1 ≤ a) : 0 < gc a b := by
  unfold gc
  have := Int.gcd_pos_of_ne_zero_left b (show a ≠ 0 by omega)
  omega
theorem redO_mul {g a b : Int} (hg : 0 < g) : redO ⟨g * a, g * b⟩ = redO ⟨a, b⟩ := by
  unfold redO
  simp only [gc_mul hg, Int.mul_ediv_mul_of_pos _ _ hg]
theorem redO_one {o : Odds} (h : gc o.real o.fake = 1) : redO o = o := by
  unfold redO
  rw [h]
  simp
def prR (l : List (Trial × Bool)) : Int := l.foldr (fun p a => chance p.1.real p.2 * a) 1
def prF (l : List (Trial × Bool)) : Int := l.foldr (fun p a => chance p.1.fake p.2 * a) 1
theorem prR_app (l m : List (Trial × Bool)) : prR (l ++ m) = prR l * prR m := by
  induction l with
  | nil => simp [prR]
  | cons p l ih => simp only [prR, List.cons_append, List.foldr_cons] at *; rw [ih, Int.mul_assoc]
theorem prF_app (l m : List (Trial × Bool)) : prF (l ++ m) = prF l * prF m := by
  induction l with
  | nil => simp [prF]
  | cons p l ih => simp only [prF, List.cons_append, List.foldr_cons] at *; rw [ih, Int.mul_assoc]
theorem prR_rev (l : List (Trial × Bool)) : prR l.reverse = prR l := by
  induction l with
  | nil => rfl
  | cons p l ih => rw [List.reverse_cons, prR_app, ih]; simp only [prR, List.foldr_cons, List.foldr_nil]; rw [Int.mul_one, Int.mul_comm]
theorem prF_rev (l : List (Trial × Bool)) : prF l.reverse = prF l := by
  induction l with
  | nil => rfl
  | cons p l ih => rw [List.reverse_cons, prF_app, ih]; simp only [prF, List.foldr_cons, List.foldr_nil]; rw [Int.mul_one, Int.mul_comm]
theorem after_red (a b : Int) (t : Trial) (w : Bool) (ha : 1 ≤ a) : (redO ⟨a, b⟩).after t w = redO ⟨a * chance t.real w, b * chance t.fake w⟩ := by
  have hg := gc_posL b ha
  have e1 : gc a b * (a / gc a b) = a := Int.mul_ediv_cancel' (gc_dvd_left a b)
  have e2 : gc a b * (b / gc a b) = b := Int.mul_ediv_cancel' (gc_dvd_right a b)
  have h : redO ⟨a * chance t.real w, b * chance t.fake w⟩ = redO ⟨gc a b * (a / gc a b * chance t.real w), gc a b * (b / gc a b * chance t.fake w)⟩ := by
    rw [← Int.mul_assoc, ← Int.mul_assoc, e1, e2]
  rw [h, redO_mul hg]
  rfl
theorem zip_take_s {xs : List Trial} {bs : List Bool} {k : Nat} (h : k < xs.length) (h' : k < bs.length) : (xs.zip bs).take (k + 1) = (xs.zip bs).take k ++ [(xs[k], bs[k])] := by
  have hl : k < (xs.zip bs).length := by simp; omega
  rw [List.take_succ_eq_append_getElem hl]
  simp
theorem prR_pos (l : List (Trial × Bool)) (h : ∀ p ∈ l, p.1.ok = true) : 1 ≤ prR l := by
  induction l with
  | nil => decide
  | cons p l ih =>
    have h1 := ih (fun q hq => h q (List.mem_cons_of_mem _ hq))
    obtain ⟨t1, t2, _⟩ := ok_bd (h p (List.mem_cons_self ..))
    have h2 := chance_bd t1 t2 p.2
    have := Int.mul_le_mul h2.1 h1 (by omega) (by omega)
    simp only [prR, List.foldr_cons] at *
    simpa using this
theorem oddsF_red {xs : List Trial} {o : Odds} {bs : List Bool} (hg : ∀ (i : Nat) (h : i < xs.length), xs[i].ok = true) (hl : bs.length = xs.length) (h1 : 1 ≤ o.real) (hc : gc o.real o.fake = 1) :
    ∀ k, k ≤ xs.length → oddsF xs o bs k = redO ⟨o.real * prR ((xs.zip bs).take k), o.fake * prF ((xs.zip bs).take k)⟩
  | 0, _ => by
    have : redO ⟨o.real * 1, o.fake * 1⟩ = o := by rw [Int.mul_one, Int.mul_one]; exact redO_one hc
    simpa [oddsF, prR, prF] using this.symm
  | k + 1, h => by
    have hk : k < xs.length := by omega
    have hk' : k < bs.length := by omega
    rw [oddsF_succ xs o bs hk hk', oddsF_red hg hl h1 hc k (by omega), zip_take_s hk hk', prR_app, prF_app]
    have hp : 1 ≤ prR ((xs.zip bs).take k) := prR_pos _ (fun p hp => by
      have hm := List.mem_of_mem_take hp
      obtain ⟨i, hi, rfl⟩ := List.getElem_of_mem hm
      rw [List.getElem_zip]
      exact hg i (by simp at hi; omega))
    have hm := Int.mul_le_mul h1 hp (by omega) (by omega)
    rw [after_red _ _ _ _ (by simpa using hm)]
    simp only [prR, prF, List.foldr_cons, List.foldr_nil, Int.mul_one, Int.mul_assoc]
theorem zip_rev {xs : List Trial} {bs : List Bool} (hl : bs.length = xs.length) : xs.reverse.zip bs.reverse = (xs.zip bs).reverse := by
  unfold List.zip
  exact (List.reverse_zipWith hl.symm).symm
theorem goodT_rev {xs : List Trial} (h : goodT xs = true) : goodT xs.reverse = true := by
  simpa [goodT] using h
theorem odds_rev {xs : List Trial} {o : Odds} {bs : List Bool} (h : oddsOk xs o bs = true) : oddsOk xs.reverse o bs.reverse = true ∧ oddsF xs.reverse o bs.reverse xs.reverse.length = oddsF xs o bs xs.length := by
  unfold oddsOk at h
  simp only [Bool.and_eq_true, decide_eq_true_eq] at h
  obtain ⟨⟨h1, h2⟩, h3⟩ := h
  have hr := goodT_rev h1
  refine ⟨by simp [oddsOk, hr, h2, h3], ?_⟩
  have hb := isOd_bd h2
  have hc : gc o.real o.fake = 1 := by unfold isOd at h2; simp only [Bool.and_eq_true, beq_iff_eq] at h2; exact h2.2
  rw [oddsF_red (fun i hi => good_all hr hi) (by simp [h3]) hb.1 hc _ (Nat.le_refl _), oddsF_red (fun i hi => good_all h1 hi) h3 hb.1 hc _ (Nat.le_refl _)]
  have e1 : (xs.reverse.zip bs.reverse).take xs.reverse.length = (xs.zip bs).reverse := by
    rw [zip_rev h3, List.take_of_length_le (by simp; omega)]
  have e2 : (xs.zip bs).take xs.length = xs.zip bs := List.take_of_length_le (by simp; omega)
  rw [e1, e2, prR_rev, prF_rev]
theorem odds_pos {xs : List Trial} {o : Odds} {bs : List Bool} (h : oddsOk xs o bs = true) : 1 ≤ (oddsF xs o bs xs.length).real ∧ 1 ≤ (oddsF xs o bs xs.length).fake := by
  unfold oddsOk at h
  simp only [Bool.and_eq_true, decide_eq_true_eq] at h
  obtain ⟨⟨h1, h2⟩, h3⟩ := h
  obtain ⟨a, _, b, _⟩ := oddsF_upto xs o bs (isOd_upto h2) (fun i hi => good_all h1 hi) h3 xs.length (Nat.le_refl _)
  exact ⟨a, b⟩
theorem chX_bd {r : Int} (h1 : 1 ≤ r) (h2 : r ≤ 99) (b : Bool) : 1 ≤ chX r b ∧ chX r b ≤ 99 := by
  unfold chX; split <;> omega
theorem chS_bd {xs : List Trial} {o : Odds} {bs : List Bool} (hg : ∀ (i : Nat) (h : i < xs.length), xs[i].ok = true) (hl : bs.length = xs.length) (h1 : 1 ≤ o.real) (h2 : 1 ≤ o.fake) :
    ∀ k, k ≤ xs.length → 1 ≤ (chS xs o bs k).1 ∧ 1 ≤ (chS xs o bs k).2.1 ∧ (chS xs o bs k).1 + (chS xs o bs k).2.1 ≤ (chS xs o bs k).2.2
  | 0, _ => ⟨h1, h2, Int.le_refl _⟩
  | k + 1, h => by
    have hk : k < xs.length := by omega
    obtain ⟨a, b, s⟩ := chS_bd hg hl h1 h2 k (by omega)
    obtain ⟨t1, t2, t3, t4, _⟩ := ok_bd (hg k hk)
    have c1 := chX_bd t1 t2 (bs[k]'(by omega))
    have c2 := chX_bd t3 t4 (bs[k]'(by omega))
    rw [chS_next hk (by omega)]
    have m1 := mulM a (Int.le_refl _) c1.1 c1.2
    have m2 := mulM b (Int.le_refl _) c2.1 c2.2
    refine ⟨m1.1, m2.1, ?_⟩
    simp only [chStep]
    omega
theorem chance_law {xs : List Trial} {o : Odds} {bs : List Bool} (h : chOk xs o bs = true) : 1 ≤ chV1 xs o bs ∧ chV1 xs o bs ≤ chV2 xs o bs := by
  have h' := h
  unfold chOk at h'
  simp only [Bool.and_eq_true, decide_eq_true_eq] at h'
  obtain ⟨⟨⟨h1, h2⟩, h3⟩, _⟩ := h'
  have hb := isOd_bd h2
  obtain ⟨a, b, s⟩ := chS_bd (fun i hi => good_all h1 hi) h3 hb.1 hb.2.2.1 xs.length (Nat.le_refl _)
  have hP : 1 ≤ chP xs o bs := by unfold chP; omega
  have hPA : chP xs o bs ≤ chA xs o bs := by unfold chP chA; omega
  unfold chV1 chV2
  rw [if_pos h, if_pos h]
  generalize chP xs o bs = P at *
  generalize chA xs o bs = Q at *
  have hg := gc_pos P Q (by omega)
  exact ⟨(div_bd hP hg (gc_dvd_left _ _)).1, Int.ediv_le_ediv hg hPA⟩
theorem share_law (a b : Int) : (a / gc a (a + b)) * (a + b) = ((a + b) / gc a (a + b)) * a := by
  have e1 : gc a (a + b) * (a / gc a (a + b)) = a := Int.mul_ediv_cancel' (gc_dvd_left _ _)
  have e2 : gc a (a + b) * ((a + b) / gc a (a + b)) = a + b := Int.mul_ediv_cancel' (gc_dvd_right _ _)
  generalize gc a (a + b) = g at *
  generalize a / g = x at *
  generalize (a + b) / g = y at *
  rw [← e2, ← e1]
  rw [Int.mul_left_comm, Int.mul_comm x y, Int.mul_left_comm]
theorem help_law {a b c : Int} (h : isTr a b c = true) : oddsOk [⟨a, b, c⟩] ⟨1, 1⟩ [true] = true ∧ (decide (b < a)) = decide ((oddsF [⟨a, b, c⟩] ⟨1, 1⟩ [true] 1).fake < (oddsF [⟨a, b, c⟩] ⟨1, 1⟩ [true] 1).real) := by
  have ho : isOd 1 1 = true := by decide
  refine ⟨by simp [oddsOk, goodT, Trial.ok, h, ho], ?_⟩
  have hb := ok_bd (t := ⟨a, b, c⟩) h
  simp only [] at hb
  have e : oddsF [⟨a, b, c⟩] ⟨1, 1⟩ [true] 1 = redO ⟨a, b⟩ := by
    simp [oddsF, List.range_succ, Odds.after, chance, redO]
  rw [e]
  have hg := gc_pos a b (by omega)
  have e1 : gc a b * (a / gc a b) = a := Int.mul_ediv_cancel' (gc_dvd_left _ _)
  have e2 : gc a b * (b / gc a b) = b := Int.mul_ediv_cancel' (gc_dvd_right _ _)
  have hd : b < a ↔ b / gc a b < a / gc a b :=
    ⟨fun h => Int.lt_of_mul_lt_mul_left (a := gc a b) (by rw [e1, e2]; exact h) (by omega), fun h => by
      have := Int.mul_lt_mul_of_pos_left h hg
      rwa [e1, e2] at this⟩
  exact decide_eq_decide.2 hd
end Go.Proofs.YtdekdjpdpknelaaDoor
