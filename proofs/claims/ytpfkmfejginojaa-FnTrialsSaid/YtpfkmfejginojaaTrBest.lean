/- The best trials: the plain words and the plain law. No program in sight. -/
import Derived.Test.YtpfkmfejginojaaTrOdds2
import Derived.Test.YtpfkmfejginojaaCmp
namespace Go.Proofs.Ytpfkmfejginojaa
set_option linter.unusedVariables false
set_option linter.unusedSimpArgs false
/-- The trials of set number s, among the first k. -/
def whichK (s : Nat) : Nat → List Int
  | 0 => []
  | k + 1 => if s.testBit k = true then whichK s k ++ [(k : Int)] else whichK s k
theorem whichK_yes {s k : Nat} (h : s.testBit k = true) : whichK s (k + 1) = whichK s k ++ [(k : Int)] := by
  conv => lhs; unfold whichK
  rw [if_pos h]
theorem whichK_no {s k : Nat} (h : s.testBit k = false) : whichK s (k + 1) = whichK s k := by
  conv => lhs; unfold whichK
  rw [if_neg (by rw [h]; decide)]
theorem whichK_len (s : Nat) : ∀ k, (whichK s k).length ≤ k
  | 0 => by simp [whichK]
  | k + 1 => by
    have := whichK_len s k
    unfold whichK; split
    · simp; omega
    · omega
theorem whichK_mem {s : Nat} : ∀ {k : Nat}, ∀ x ∈ whichK s k, 0 ≤ x ∧ x < (k : Int)
  | k + 1, x, h => by
    unfold whichK at h
    split at h
    · rcases List.mem_append.1 h with h | h
      · have := whichK_mem x h; omega
      · simp at h; omega
    · have := whichK_mem x h; omega
/-- The odds after the trials of set number s, among the first k. -/
def oddsS (xs : List Trial) (o : Odds) (s : Nat) : Nat → Odds
  | 0 => o
  | k + 1 => match xs[k]? with
    | none => oddsS xs o s k
    | some t => if s.testBit k = true then (oddsS xs o s k).after t true else oddsS xs o s k
theorem oddsS_yes {xs : List Trial} {o : Odds} {s k : Nat} (hk : k < xs.length) (h : s.testBit k = true) : oddsS xs o s (k + 1) = (oddsS xs o s k).after xs[k] true := by
  conv => lhs; unfold oddsS
  simp only [List.getElem?_eq_getElem hk]; rw [if_pos h]
theorem oddsS_no {xs : List Trial} {o : Odds} {s k : Nat} (hk : k < xs.length) (h : s.testBit k = false) : oddsS xs o s (k + 1) = oddsS xs o s k := by
  conv => lhs; unfold oddsS
  simp only [List.getElem?_eq_getElem hk]; rw [if_neg (by rw [h]; decide)]
theorem upto_mono {o : Odds} {n m : Nat} (h : o.upto n) (hm : n ≤ m) : o.upto m := by
  obtain ⟨h1, h2, h3, h4⟩ := h
  have hp : (1000 * 100 ^ n : Int) ≤ 1000 * 100 ^ m := by
    have : (100 ^ n : Nat) ≤ 100 ^ m := Nat.pow_le_pow_right (by omega) hm
    have h5 : ((100 ^ n : Nat) : Int) ≤ ((100 ^ m : Nat) : Int) := by exact_mod_cast this
    push_cast at h5
    omega
  exact ⟨h1, Int.le_trans h2 hp, h3, Int.le_trans h4 hp⟩
theorem oddsS_upto {xs : List Trial} {o : Odds} (h0 : o.upto 0) (hg : ∀ (i : Nat) (h : i < xs.length), xs[i].ok = true) (s : Nat) : ∀ k, k ≤ xs.length → (oddsS xs o s k).upto k
  | 0, _ => h0
  | k + 1, hk => by
    have ih := oddsS_upto h0 hg s k (by omega)
    cases h : s.testBit k with
    | true => rw [oddsS_yes (by omega) h]; exact after_upto ih (hg k (by omega)) _
    | false => rw [oddsS_no (by omega) h]; exact upto_mono ih (by omega)
/-- The prices of some trials. -/
def priceL (xs : List Trial) : List Int → Int
  | [] => 0
  | i :: w => (match xs[i.toNat]? with | some t => t.price | none => 0) + priceL xs w
theorem priceL_app (xs : List Trial) : ∀ (a b : List Int), priceL xs (a ++ b) = priceL xs a + priceL xs b
  | [], b => by simp [priceL]
  | x :: a, b => by rw [List.cons_append, priceL, priceL, priceL_app xs a b]; omega
theorem priceL_one {xs : List Trial} {k : Nat} (hk : k < xs.length) : priceL xs [(k : Int)] = xs[k].price := by
  simp [priceL, hk]
theorem priceL_bd {xs : List Trial} (hg : ∀ (i : Nat) (h : i < xs.length), xs[i].ok = true) : ∀ w : List Int, 0 ≤ priceL xs w ∧ priceL xs w ≤ 1000 * w.length
  | [] => by simp [priceL]
  | x :: w => by
    have ih := priceL_bd hg w
    unfold priceL
    rw [List.length_cons]
    cases h : xs[x.toNat]? with
    | none => simp only; omega
    | some t =>
      obtain ⟨hi, e⟩ := List.getElem?_eq_some_iff.1 h
      have := ok_bd (hg _ hi)
      rw [e] at this
      simp only; omega
def enough (o : Odds) (num den : Int) : Bool := decide (o.fake * num ≤ o.real * (den - num))
theorem enough_spec (o : Odds) (num den : Int) : decide (o.real * den < num * (o.real + o.fake)) = !enough o num den := by
  unfold enough
  rw [Int.mul_sub, Int.mul_add, Int.mul_comm num o.real, Int.mul_comm num o.fake]
  generalize o.real * den = a
  generalize o.real * num = b
  generalize o.fake * num = c
  by_cases h : c ≤ a - b
  · rw [decide_eq_true h, decide_eq_false (by omega)]; rfl
  · rw [decide_eq_false h, decide_eq_true (by omega)]; rfl
/-- The lexicographic order of lists as long as each other. -/
def lexB : List Int → List Int → Bool
  | x :: a, y :: b => if x = y then lexB a b else decide (x < y)
  | _, _ => false
def compL : List Int → List Int → Int
  | [], [] => 0
  | [], _ :: _ => -1
  | _ :: _, [] => 1
  | x :: a, y :: b => if cmpI x y = 0 then compL a b else cmpI x y
def beforeL (a b : List Int) : Bool := if a.length = b.length then lexB a b else decide (a.length < b.length)
theorem cmpI_0 {x y : Int} : cmpI x y = 0 ↔ x = y := by unfold cmpI; split <;> (try split) <;> omega
theorem cmpI_lt {x y : Int} : cmpI x y < 0 ↔ x < y := by unfold cmpI; split <;> (try split) <;> omega
theorem compL_lex : ∀ (a b : List Int), a.length = b.length → decide (compL a b < 0) = lexB a b
  | [], [], _ => by simp [compL, lexB]
  | x :: a, y :: b, h => by
    unfold compL lexB
    by_cases hx : x = y
    · rw [if_pos hx, if_pos (cmpI_0.2 hx)]; exact compL_lex a b (by simpa using h)
    · rw [if_neg hx, if_neg (fun e => hx (cmpI_0.1 e))]; congr 1; exact propext cmpI_lt
theorem before_impl (a b : List Int) : decide (orI [cmpI a.length b.length, compL a b] < 0) = beforeL a b := by
  unfold beforeL orI
  by_cases h : a.length = b.length
  · rw [if_pos h, if_pos (cmpI_0.2 (by rw [h])), ← compL_lex a b h]
    unfold orI
    by_cases h2 : compL a b = 0
    · rw [if_pos h2, h2]; rfl
    · rw [if_neg h2]
  · rw [if_neg h, if_neg (fun e => h (by have := cmpI_0.1 e; omega))]
    congr 1
    exact propext (cmpI_lt.trans (by omega))
theorem lexB_ne : ∀ {a b : List Int} {i : Nat} (ha : i < a.length) (hb : i < b.length), a.take i = b.take i → a[i] ≠ b[i] → lexB a b = decide (a[i] < b[i])
  | x :: a, y :: b, 0, _, _, _, h => by simp only [List.getElem_cons_zero] at h ⊢; unfold lexB; rw [if_neg h]
  | x :: a, y :: b, i + 1, ha, hb, ht, h => by
    simp only [List.take_succ_cons, List.cons.injEq] at ht
    simp only [List.getElem_cons_succ] at h ⊢
    unfold lexB
    rw [if_pos ht.1]
    exact lexB_ne _ _ ht.2 h
theorem lexB_self : ∀ (a : List Int), lexB a a = false
  | [] => rfl
  | x :: a => by unfold lexB; rw [if_pos rfl]; exact lexB_self a
/-- The best set among the first k: the list, and whether there is one. -/
def bestG (xs : List Trial) (o : Odds) (num den : Int) (lt : List Int → List Int → Bool) : Nat → List Int × Bool
  | 0 => ([], false)
  | s + 1 => if (enough (oddsS xs o s xs.length) num den && (!(bestG xs o num den lt s).2 || lt (whichK s xs.length) (bestG xs o num den lt s).1)) = true then (whichK s xs.length, true) else bestG xs o num den lt s
section
variable {xs : List Trial} {o : Odds} {num den : Int} {lt : List Int → List Int → Bool} {s : Nat}
theorem bestG_yes (h : (enough (oddsS xs o s xs.length) num den && (!(bestG xs o num den lt s).2 || lt (whichK s xs.length) (bestG xs o num den lt s).1)) = true) : bestG xs o num den lt (s + 1) = (whichK s xs.length, true) := by
  conv => lhs; unfold bestG
  rw [if_pos h]
theorem bestG_no (h : (enough (oddsS xs o s xs.length) num den && (!(bestG xs o num den lt s).2 || lt (whichK s xs.length) (bestG xs o num den lt s).1)) = false) : bestG xs o num den lt (s + 1) = bestG xs o num den lt s := by
  conv => lhs; unfold bestG
  rw [if_neg (by rw [h]; decide)]
theorem bestG_len : ∀ s, (bestG xs o num den lt s).1.length ≤ xs.length
  | 0 => by simp [bestG]
  | s + 1 => by
    have ih := bestG_len s
    unfold bestG; split
    · exact whichK_len s xs.length
    · exact ih
theorem bestG_mem : ∀ s, ∀ x ∈ (bestG xs o num den lt s).1, 0 ≤ x ∧ x < (xs.length : Int)
  | 0, x, h => by simp [bestG] at h
  | s + 1, x, h => by
    unfold bestG at h; split at h
    · exact whichK_mem x h
    · exact bestG_mem s x h
end
end Go.Proofs.Ytpfkmfejginojaa
