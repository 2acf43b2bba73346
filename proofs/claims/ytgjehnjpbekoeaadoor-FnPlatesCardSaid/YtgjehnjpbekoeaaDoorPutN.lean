/- Contract of the reference's l1Put for a number that the list lacks: the list given back lies in a new block. No condition but the sizes. -/
import Derived.Test.YtgjehnjpbekoeaaDoorPut
import Derived.Test.YtgjehnjpbekoeaaDoorLaImp
namespace Go.Proofs.YtgjehnjpbekoeaaDoor
set_option linter.unusedVariables false
set_option linter.unusedSimpArgs false
open Go.RowKit
set_option maxRecDepth 100000 in
set_option maxHeartbeats 2000000 in
theorem l1PutN_c (ys : List Int) (A : Option Addr) (c : Nat) (n : Int) (w : World) (lo hi : Nat) (o : Own encI 1 lo hi w A ys) (hlo : lo ≤ w.heap.size) (hc : ys.length ≤ c) (hn : ys.length ≤ 2097152) (hnot : ¬ n ∈ ys) :
    Calls Tryd.prog 39 #[.slice A ys.length c, .int .i64 n] w fun e w' => ∃ B c', e = .returned (.slice B (putI ys n).length c') ∧ Below w.heap.size w w' ∧ Own encI 1 w.heap.size w'.heap.size w' B (putI ys n) ∧ (putI ys n).length ≤ c' := by
  have hr := o.rd
  go_enter Tryd.func39, Tryd.ntmps39
  go_wp2_with fail
  go_loop [5] (fun i => ∃ k : Nat, k ≤ ys.length ∧ i = .int .i64 k ∧ (∀ y ∈ ys.take k, decide (y < n) = true)) (fun i => ys.length - (intOf i).toNat)
  case atStart => exact ⟨0, Nat.zero_le _, rfl, by simp⟩
  case round =>
    obtain ⟨k, hk, rfl, hall⟩ := hrel
    have HA := Lib.hid hall
    clear hall
    by_cases hlt : k < ys.length
    · obtain ⟨b, off, rfl, hbs, d0⟩ := hr.int hlt
      by_cases h0 : ys[k] < n
      · have h0' : decide (ys[k] < n) = true := decide_eq_true h0
        have HT := Lib.hid (show ∀ y ∈ ys.take (k + 1), decide (y < n) = true by
          rw [take_succ_get ys k hlt]; intro x hx; rcases List.mem_append.1 hx with h | h
          · exact HA.out x h
          · simp at h; subst h; exact h0')
        clear h0
        go_wp2_with fail
        go_round
        case rel => exact ⟨k + 1, by omega, by go_num, HT.out⟩
        case measure => simp [intOf]; omega
      · have h0' : decide (ys[k] < n) = false := decide_eq_false h0
        have HK := Lib.hid (show putK ys n = k from takeWhile_len' _ ys k HA.out hk (fun _ => h0'))
        by_cases h1 : ys[k] = n
        · exact absurd (h1 ▸ List.getElem_mem hlt) hnot
        · have HP := Lib.hid (show putI ys n = ys.take k ++ [n] ++ ys.drop k by unfold putI; rw [HK.out, if_neg (by rw [List.getElem?_eq_getElem hlt]; simpa using h1)])
          have h1' : (ys[k] == n) = false := by simpa using h1
          clear h0 h1
          go_wp2_with fail
          have hkc : (k : Int) ≤ c := by omega
          have hkc2 : (k : Int) < c := by omega
          have hkc3 : ¬ c = k := by omega
          have hk0 : (0 : Int) ≤ k := by omega
          have hkl : (k : Int) ≤ ys.length := by omega
          go_region_held3 (fun _ => True) (trivial) (first
            | ((refine step_app (o := ⟨some 37, _, _, _, _, _⟩) (by rfl) (.tmp 33) (.tmp 36) _ (by rfl) 3 (.int .i64 0) 1 8 Tryd.underlying31 infoI (by rfl) (by decide) encI_len oneI (base := w.heap.size) (zs := ys.take k) (by rfl) (by rfl) (by simp; omega) (by first | exact OutR.emptyH _ _ (by simp) (by first | (simp; done) | (simp; omega)) | exact OutR.emptyHD _ _ (by simp) (by first | (simp; done) | (simp; omega)) | exact (OutR.emptyH w _ rfl (Nat.le_refl _)).below (by go_grown)) ((hr.go (by go_grown)).take k) (by simp; omega) (by simp; omega) (by first | (simp; done) | (simp; omega)) ?_; intro v1 W1 ho1 hb1 hg1; have hB1 : Below w.heap.size w W1 := Below.trans (by go_grown) hb1))
            | ((refine step_app (o := ⟨some 40, _, _, _, _, _⟩) (by rfl) (.tmp 37) (.tmp 39) _ (by rfl) 3 (.int .i64 0) 1 8 Tryd.underlying31 infoI (by rfl) (by decide) encI_len oneI (base := w.heap.size) (zs := [n]) (by rfl) (by rfl) rfl (by first | exact ho1 | exact ho1.below ((Below.refl _ _).alloc (Nat.le_refl _) _)) (by first | exact rd_new (x := n) (vs := [.int .i64 n]) rfl rfl | exact rd_one (hg1.cell (by simp) (by simp [Value.ownBlock, go_sem]))) (by simp; omega) (by simp; omega) (by have := hB1.size; simp; omega) ?_; intro v2 W2 ho2 hb2 hg2; have hB2 : Below w.heap.size w W2 := (by first | exact hB1.trans hb2 | exact (hB1.alloc hB1.size _).trans hb2)))
            | ((refine step_app (o := ⟨some 44, _, _, _, _, _⟩) (by rfl) (.tmp 40) (.tmp 43) _ (by rfl) 3 (.int .i64 0) 1 8 Tryd.underlying31 infoI (by rfl) (by decide) encI_len oneI (base := w.heap.size) (zs := ys.drop k) (by rfl) (by rfl) (by simp) ho2 (((hr.go hB2).drop k).mul1) (by simp; omega) (by simp; omega) hB2.size ?_; intro v3 W3 ho3 hb3 hg3; have hB3 : Below w.heap.size w W3 := hB2.trans hb3)))
          all_goals
            obtain ⟨B, c', rfl, hO, hcl⟩ := ho3.own encI_len
            go_wp2_with fail
            go_returns
            exact ⟨B, c', ret_sl (by rw [HP.out]; simp), hB3, ((hO.cast (by rw [HP.out]; simp)).wide (Nat.le_refl _) (Nat.le_refl _) (Nat.le_refl _)), by rw [HP.out]; simpa using hcl⟩
    · have hke : k = ys.length := by omega
      have HK := Lib.hid (show putK ys n = ys.length from takeWhile_len' _ ys ys.length (by have := HA.out; rwa [hke] at this) (Nat.le_refl _) (fun h => absurd h (by omega)))
      have HP := Lib.hid (show putI ys n = ys.take k ++ [n] ++ ys.drop k by unfold putI; rw [HK.out, if_neg (by rw [List.getElem?_eq_none (Nat.le_refl _)]; simp), hke])
      have hl0 : ¬ (k : Int) < (ys.length : Int) := by omega
      have hkc : (k : Int) ≤ c := by omega
      have hk0 : (0 : Int) ≤ k := by omega
      have hkl : (k : Int) ≤ ys.length := by omega
      have hdr : ys.drop k = [] := by rw [hke]; simp
      have HDR := Lib.hid hdr
      clear hke hdr
      go_wp2_with fail
      by_cases hck : c = k
      · go_region_held3 (fun _ => True) (trivial) (first
          | ((refine step_app (o := ⟨some 37, _, _, _, _, _⟩) (by rfl) (.tmp 33) (.tmp 36) _ (by rfl) 3 (.int .i64 0) 1 8 Tryd.underlying31 infoI (by rfl) (by decide) encI_len oneI (base := w.heap.size) (zs := ys.take k) (by rfl) (by rfl) (by simp; omega) (by first | exact OutR.emptyH _ _ (by simp) (by first | (simp; done) | (simp; omega)) | exact OutR.emptyHD _ _ (by simp) (by first | (simp; done) | (simp; omega)) | exact (OutR.emptyH w _ rfl (Nat.le_refl _)).below (by go_grown)) ((hr.go (by go_grown)).take k) (by simp; omega) (by simp; omega) (by first | (simp; done) | (simp; omega)) ?_; intro v1 W1 ho1 hb1 hg1; have hB1 : Below w.heap.size w W1 := Below.trans (by go_grown) hb1))
          | ((refine step_app (o := ⟨some 40, _, _, _, _, _⟩) (by rfl) (.tmp 37) (.tmp 39) _ (by rfl) 3 (.int .i64 0) 1 8 Tryd.underlying31 infoI (by rfl) (by decide) encI_len oneI (base := w.heap.size) (zs := [n]) (by rfl) (by rfl) rfl (by first | exact ho1 | exact ho1.below ((Below.refl _ _).alloc (Nat.le_refl _) _)) (by first | exact rd_new (x := n) (vs := [.int .i64 n]) rfl rfl | exact rd_one (hg1.cell (by simp) (by simp [Value.ownBlock, go_sem]))) (by simp; omega) (by simp; omega) (by have := hB1.size; simp; omega) ?_; intro v2 W2 ho2 hb2 hg2; have hB2 : Below w.heap.size w W2 := (by first | exact hB1.trans hb2 | exact (hB1.alloc hB1.size _).trans hb2)))
          | ((refine step_app (o := ⟨some 44, _, _, _, _, _⟩) (by rfl) (.tmp 40) (.tmp 43) _ (by rfl) 3 (.int .i64 0) 1 8 Tryd.underlying31 infoI (by rfl) (by decide) encI_len oneI (base := w.heap.size) (zs := ([] : List Int)) (B := 0) (by rfl) (by rfl) (by simp; try omega) ho2 Rd.nil (by simp; omega) (by simp; omega) hB2.size ?_; intro v3 W3 ho3 hb3 hg3; have hB3 : Below w.heap.size w W3 := hB2.trans hb3)))
        all_goals
          obtain ⟨B, c', rfl, hO, hcl⟩ := ho3.own encI_len
          go_wp2_with fail
          go_returns
          exact ⟨B, c', ret_sl (by rw [HP.out]; simp [HDR.out]), hB3, ((hO.cast (by rw [HP.out]; simp [HDR.out])).wide (Nat.le_refl _) (Nat.le_refl _) (Nat.le_refl _)), by rw [HP.out]; simpa [HDR.out] using hcl⟩
      · go_region_held3 (fun _ => True) (trivial) (first
          | ((refine step_app (o := ⟨some 37, _, _, _, _, _⟩) (by rfl) (.tmp 33) (.tmp 36) _ (by rfl) 3 (.int .i64 0) 1 8 Tryd.underlying31 infoI (by rfl) (by decide) encI_len oneI (base := w.heap.size) (zs := ys.take k) (by rfl) (by rfl) (by simp; omega) (by first | exact OutR.emptyH _ _ (by simp) (by first | (simp; done) | (simp; omega)) | exact OutR.emptyHD _ _ (by simp) (by first | (simp; done) | (simp; omega)) | exact (OutR.emptyH w _ rfl (Nat.le_refl _)).below (by go_grown)) ((hr.go (by go_grown)).take k) (by simp; omega) (by simp; omega) (by first | (simp; done) | (simp; omega)) ?_; intro v1 W1 ho1 hb1 hg1; have hB1 : Below w.heap.size w W1 := Below.trans (by go_grown) hb1))
          | ((refine step_app (o := ⟨some 40, _, _, _, _, _⟩) (by rfl) (.tmp 37) (.tmp 39) _ (by rfl) 3 (.int .i64 0) 1 8 Tryd.underlying31 infoI (by rfl) (by decide) encI_len oneI (base := w.heap.size) (zs := [n]) (by rfl) (by rfl) rfl (by first | exact ho1 | exact ho1.below ((Below.refl _ _).alloc (Nat.le_refl _) _)) (by first | exact rd_new (x := n) (vs := [.int .i64 n]) rfl rfl | exact rd_one (hg1.cell (by simp) (by simp [Value.ownBlock, go_sem]))) (by simp; omega) (by simp; omega) (by have := hB1.size; simp; omega) ?_; intro v2 W2 ho2 hb2 hg2; have hB2 : Below w.heap.size w W2 := (by first | exact hB1.trans hb2 | exact (hB1.alloc hB1.size _).trans hb2)))
          | ((refine step_app (o := ⟨some 44, _, _, _, _, _⟩) (by rfl) (.tmp 40) (.tmp 43) _ (by rfl) 3 (.int .i64 0) 1 8 Tryd.underlying31 infoI (by rfl) (by decide) encI_len oneI (base := w.heap.size) (zs := ([] : List Int)) (B := 0) (by rfl) (by rfl) (by simp; try omega) ho2 Rd.nil (by simp; omega) (by simp; omega) hB2.size ?_; intro v3 W3 ho3 hb3 hg3; have hB3 : Below w.heap.size w W3 := hB2.trans hb3)))
        all_goals
          obtain ⟨B, c', rfl, hO, hcl⟩ := ho3.own encI_len
          go_wp2_with fail
          go_returns
          exact ⟨B, c', ret_sl (by rw [HP.out]; simp [HDR.out]), hB3, ((hO.cast (by rw [HP.out]; simp [HDR.out])).wide (Nat.le_refl _) (Nat.le_refl _) (Nat.le_refl _)), by rw [HP.out]; simpa [HDR.out] using hcl⟩
end Go.Proofs.YtgjehnjpbekoeaaDoor
namespace Go.Proofs.YtgjehnjpbekoeaaDoor
set_option linter.unusedVariables false
set_option linter.unusedSimpArgs false
def asc (l : List Int) : Prop := l.Pairwise (· < ·)
theorem asc_ext : ∀ (a b : List Int), asc a → asc b → (∀ x, x ∈ a ↔ x ∈ b) → a = b
  | [], [], _, _, _ => rfl
  | [], y :: b, _, _, h => absurd ((h y).2 (by simp)) (by simp)
  | x :: a, [], _, _, h => absurd ((h x).1 (by simp)) (by simp)
  | x :: a, y :: b, ha, hb, h => by
    unfold asc at ha hb
    rw [List.pairwise_cons] at ha hb
    have hxy : x = y := by
      rcases List.mem_cons.1 ((h x).1 (by simp)) with h1 | h1
      · exact h1
      · rcases List.mem_cons.1 ((h y).2 (by simp)) with h2 | h2
        · exact h2.symm
        · have := hb.1 x h1
          have := ha.1 y h2
          omega
    subst hxy
    rw [asc_ext a b ha.2 hb.2 (fun z => by
      constructor
      · intro hz
        rcases List.mem_cons.1 ((h z).1 (by simp [hz])) with h1 | h1
        · subst h1; have := ha.1 _ hz; omega
        · exact h1
      · intro hz
        rcases List.mem_cons.1 ((h z).2 (by simp [hz])) with h1 | h1
        · subst h1; have := hb.1 _ hz; omega
        · exact h1)]
theorem putK_le (ys : List Int) (n : Int) : putK ys n ≤ ys.length := by unfold putK; exact List.Sublist.length_le (List.takeWhile_sublist _)
theorem putK_before (ys : List Int) (n : Int) : ∀ x ∈ ys.take (putK ys n), x < n := by
  intro x hx
  unfold putK at hx
  have : ys.take (ys.takeWhile fun y => decide (y < n)).length = ys.takeWhile fun y => decide (y < n) := by
    have h := List.takeWhile_append_dropWhile (p := fun y => decide (y < n)) (l := ys)
    have h2 := List.take_left' (l₁ := ys.takeWhile fun y => decide (y < n)) (l₂ := ys.dropWhile fun y => decide (y < n)) rfl
    rw [h] at h2
    exact h2
  rw [this] at hx
  have := List.all_eq_true.1 (List.all_takeWhile (p := fun y => decide (y < n)) (l := ys)) x hx
  simpa using this
theorem putK_at (ys : List Int) (n : Int) (h : putK ys n < ys.length) : ¬ ys[putK ys n] < n := by
  unfold putK at h ⊢
  induction ys with
  | nil => simp at h
  | cons y ys ih =>
    by_cases hy : y < n
    · simp only [List.takeWhile_cons, hy, decide_true, if_true, List.length_cons, List.getElem_cons_succ] at h ⊢
      exact ih (by omega)
    · simp [hy]
theorem putI_mem (ys : List Int) (n x : Int) : x ∈ putI ys n ↔ x ∈ ys ∨ x = n := by
  unfold putI
  split
  · rename_i h
    have := List.mem_of_getElem? h
    constructor
    · exact .inl
    · rintro (h | rfl)
      · exact h
      · exact this
  · have e : x ∈ ys ↔ x ∈ ys.take (putK ys n) ∨ x ∈ ys.drop (putK ys n) := by
      conv => lhs; rw [← List.take_append_drop (putK ys n) ys]
      exact List.mem_append
    rw [List.append_assoc, List.mem_append, List.mem_append, e]
    simp only [List.mem_singleton]
    constructor
    · rintro (h | h | h)
      · exact .inl (.inl h)
      · exact .inr h
      · exact .inl (.inr h)
    · rintro ((h | h) | h)
      · exact .inl h
      · exact .inr (.inr h)
      · exact .inr (.inl h)
theorem putI_asc {ys : List Int} (n : Int) (h : asc ys) : asc (putI ys n) := by
  unfold putI
  split
  · exact h
  · rename_i hne
    unfold asc at h ⊢
    have h' := h
    rw [← List.take_append_drop (putK ys n) ys, List.pairwise_append] at h'
    obtain ⟨h1, h2, h3⟩ := h'
    have hdrop : ∀ y ∈ ys.drop (putK ys n), n < y := by
      intro y hy
      rcases Nat.lt_or_ge (putK ys n) ys.length with hlt | hge
      · have ha := putK_at ys n hlt
        have hne' : ys[putK ys n] ≠ n := by intro e; apply hne; rw [List.getElem?_eq_getElem hlt, e]
        rw [List.drop_eq_getElem_cons hlt] at hy h2
        rw [List.pairwise_cons] at h2
        rcases List.mem_cons.1 hy with rfl | hy
        · omega
        · have := h2.1 y hy; omega
      · rw [List.drop_eq_nil_of_le hge] at hy; cases hy
    rw [List.append_assoc, List.pairwise_append]
    refine ⟨h1, ?_, ?_⟩
    · simp only [List.cons_append, List.nil_append, List.pairwise_cons]
      exact ⟨hdrop, h2⟩
    · intro x hx y hy
      have hxn := putK_before ys n x hx
      simp only [List.cons_append, List.nil_append, List.mem_cons] at hy
      rcases hy with rfl | hy
      · exact hxn
      · exact h3 x hx y hy
theorem putI_len (ys : List Int) (n : Int) : (putI ys n).length ≤ ys.length + 1 := by
  unfold putI
  split
  · omega
  · have := putK_le ys n
    simp; omega
/-- Numbers put into a list, one after another. -/
def puts (l : List Int) : List Int := l.foldl putI []
theorem puts_snoc (l : List Int) (n : Int) : puts (l ++ [n]) = putI (puts l) n := by unfold puts; rw [List.foldl_append]; rfl
theorem puts_asc_from : ∀ (l a : List Int), asc a → asc (l.foldl putI a) ∧ ∀ x, x ∈ l.foldl putI a ↔ x ∈ a ∨ x ∈ l
  | [], a, h => ⟨h, by simp⟩
  | y :: l, a, h => by
    obtain ⟨h1, h2⟩ := puts_asc_from l (putI a y) (putI_asc y h)
    refine ⟨h1, fun x => ?_⟩
    show x ∈ l.foldl putI (putI a y) ↔ _
    rw [h2, putI_mem, List.mem_cons, or_assoc]
theorem puts_asc (l : List Int) : asc (puts l) := (puts_asc_from l [] List.Pairwise.nil).1
theorem puts_mem (l : List Int) (x : Int) : x ∈ puts l ↔ x ∈ l := by
  have := (puts_asc_from l [] List.Pairwise.nil).2 x
  simpa [puts] using this
theorem puts_len (l : List Int) : (puts l).length ≤ l.length := by
  have : ∀ (l a : List Int), (l.foldl putI a).length ≤ a.length + l.length := by
    intro l
    induction l with
    | nil => simp
    | cons y l ih =>
      intro a
      have h1 := ih (putI a y)
      have h2 := putI_len a y
      simp only [List.foldl_cons, List.length_cons]
      omega
  simpa [puts] using this l []
theorem asc_range (n : Nat) (p : Nat → Bool) (f : Nat → Int) (hf : ∀ i j, i < j → f i < f j) : asc (((List.range n).filter p).map f) := by
  unfold asc
  rw [List.pairwise_map]
  have : (List.range n).Pairwise (· < ·) := List.pairwise_lt_range
  exact (this.filter p).imp fun h => hf _ _ h
end Go.Proofs.YtgjehnjpbekoeaaDoor
namespace Go.Proofs.YtgjehnjpbekoeaaDoor
set_option linter.unusedVariables false
set_option linter.unusedSimpArgs false
open Go.RowKit
attribute [local irreducible] wpQuiet
theorem l1Has_c (ys : List Int) (A : Option Addr) (c : Nat) (n : Int) (w : World) (hr : Rd encI 1 w.heap.size w A ys) (hn : ys.length ≤ 2097152) :
    Calls Tryd.prog 37 #[.slice A ys.length c, .int .i64 n] w (Pure (.bool (decide (n ∈ ys))) w) := by
  go_enter Tryd.func37, Tryd.ntmps37
  go_wp2_with fail
  go_loop [5] (fun i => ∃ k : Nat, k ≤ ys.length ∧ i = .int .i64 k ∧ (∀ y ∈ ys.take k, y ≠ n)) (fun i => ys.length - (intOf i).toNat)
  case atStart => exact ⟨0, Nat.zero_le _, rfl, by simp⟩
  case round =>
    obtain ⟨k, hk, rfl, hall⟩ := hrel
    have HA := Lib.hid hall
    clear hall
    by_cases hlt : k < ys.length
    · obtain ⟨b, off, rfl, hbs, d0⟩ := hr.int hlt
      by_cases h0 : ys[k] = n
      · have HV := Lib.hid (show decide (n ∈ ys) = true from decide_eq_true (h0 ▸ List.getElem_mem hlt))
        have h0' : (ys[k] == n) = true := by simpa using h0
        clear h0
        go_wp2_with fail
        go_returns
        exact ⟨ret_bool HV.out.symm, rfl⟩
      · have HT := Lib.hid (show ∀ y ∈ ys.take (k + 1), y ≠ n by
          rw [take_succ_get ys k hlt]; intro x hx; rcases List.mem_append.1 hx with h | h
          · exact HA.out x h
          · simp at h; subst h; exact h0)
        have h0' : (ys[k] == n) = false := by simpa using h0
        clear h0
        go_wp2_with fail
        go_round
        case rel => exact ⟨k + 1, by omega, by go_num, HT.out⟩
        case measure => simp [intOf]; omega
    · have HV := Lib.hid (show decide (n ∈ ys) = false from decide_eq_false fun h => HA.out n (by rw [List.take_of_length_le (by omega)]; exact h) rfl)
      go_wp2_with fail
      go_returns
      exact ⟨ret_bool HV.out.symm, rfl⟩
/-- The slice v does not lie in the block of the slice at A. -/
def apart (v : Value) (A : Option Addr) (n : Nat) : Prop := 0 < n → ∀ b off, A = some ⟨b, off, none⟩ → v.ownBlock ≠ some b
theorem own_grown {base hi : Nat} {w w' : World} {A : Option Addr} {ys : List Int} {b : Option Nat} (h : Own encI 1 base hi w A ys) (hg : w.grownBy w' b) (hne : 0 < ys.length → ∀ q off, A = some ⟨q, off, none⟩ → b ≠ some q) : Own encI 1 base w'.heap.size w' A ys := ⟨Nat.le_refl _, fun hn => by
  obtain ⟨q, off, hA, h1, h2, h3, h4⟩ := h.2 hn
  have hq : w'.heap[q]? = w.heap[q]? := hg.block q (Nat.lt_of_lt_of_le h2 h.1) (fun e => hne hn q off hA e.symm)
  exact ⟨q, off, hA, h1, Nat.lt_of_lt_of_le (Nat.lt_of_lt_of_le h2 h.1) hg.size, fun i x hx j v hv => (World.cell?_of_block (w := w) (a := ⟨q, _, none⟩) hq).trans (h3 i x hx j v hv), fun o => (World.frozen?_of_block (w := w) (a := ⟨q, o, none⟩) hq).trans (h4 o)⟩⟩
theorem kn_not {xs : List Flaw} {st : Int} {a b : Nat} {K : List Int} (h : KnB xs st a b K) (hf : fstB xs st a = true) (hc : cdN xs st b = cdN xs st a) : ¬ (b : Int) ∈ K := fun hm => by
  rcases (h b).1 hm with ⟨f, h1, h2, _, _, h5⟩ | ⟨_, h2, _⟩
  · exact (fstB_iff.1 hf).2 f h1 (h5.symm.trans hc)
  · omega
set_option maxRecDepth 100000 in
set_option maxHeartbeats 1600000 in
theorem specLookAlikes_c (xs : List Flaw) (A : Option Addr) (c : Nat) (st : Int) (w : World) (hr : Rd encFlaw 4 w.heap.size w A xs) (hn : xs.length ≤ 1048576) (hz : -9223372036854775808 ≤ st ∧ st ≤ 9223372036854775807) :
    Calls Tryd.prog 7 #[.slice A xs.length c, .int .i64 st] w (RetSS (laV xs st) (laB xs st) w) := by
  have hb1 := (Below.refl w.heap.size w).alloc (Nat.le_refl _) (.cells #[] 31)
  by_cases hB0 : laB xs st = false
  · have HB := Lib.hid hB0
    have HL := Lib.hid (la_no hB0)
    go_enter Tryd.func7, Tryd.ntmps7
    go_wp2_with fail
    generalize w.alloc (.cells #[] 31) = W at *
    refine (l15Good_c xs A c _ (hr.go hb1) hn).mono ?_
    by_cases hg0 : goodFl xs = false
    · rw [hg0]
      rintro e w1 ⟨rfl, hb⟩
      have hbx := below_via hb1 hb
      go_wp2_with fail
      go_returns
      exact ⟨_, _, ret_list (by rw [HL.out]; rfl) HB.out.symm, hbx, OwnSS.none_ HL.out (Nat.le_refl _)⟩
    · have hg : goodFl xs = true := by simpa using hg0
      have hs : inR st 1 9 = false := by simpa [laB, hg] using hB0
      clear hB0 hg0
      rw [hg]
      rintro e w1 ⟨rfl, hb⟩
      have hbx := below_via hb1 hb
      go_wp2_with fail
      refine (l15State_c st _).mono ?_
      rw [hs]
      rintro e w2 ⟨rfl, rfl⟩
      go_wp2_with fail
      go_returns
      exact ⟨_, _, ret_list (by rw [HL.out]; rfl) HB.out.symm, hbx, OwnSS.none_ HL.out (Nat.le_refl _)⟩
  have hB : laB xs st = true := by simpa using hB0
  have HB := Lib.hid hB
  have HV := Lib.hid (show laV xs st = grpS xs st 100 by unfold laV; rw [hB, if_pos rfl])
  simp only [laB, Bool.and_eq_true] at hB
  obtain ⟨hg, hs⟩ := hB
  have HG := Lib.hid hg
  have hxl := goodFl_len hg
  clear hB0
  have hG0 : OwnG w.heap.size (.slice (some ⟨w.heap.size, 0, none⟩) 0 0) [] [] (w.alloc (.cells #[] 31)) := OwnG.empty w (Nat.le_refl _)
  go_enter Tryd.func7, Tryd.ntmps7
  go_wp2_with fail
  generalize w.alloc (.cells #[] 31) = W at *
  refine (l15Good_c xs A c _ (hr.go hb1) hn).mono ?_
  rw [hg]
  rintro e w1 ⟨rfl, hb⟩
  replace hb1 := below_via hb1 hb
  replace hG0 := hG0.below hb
  clear hb hg
  go_wp2_with fail
  refine (l15State_c st _).mono ?_
  rw [hs]
  rintro e w2 ⟨rfl, hww⟩
  subst hww
  have hal := (Below.refl w1.heap.size w1).alloc (Nat.le_refl _) (.cells #[] 3)
  go_wp2_with fail
  replace hb1 := below_via hb1 hal
  replace hG0 := hG0.below hal
  have hwW := hb1.size
  clear hal
  generalize (w1.alloc (.cells #[] 3)) = W at *
  go_loopw [6, 7, 8] (fun v u i wr => ∃ (a : Nat) (ms : List SlM) (AK : Option Addr) (cK : Nat) (K : List Int), a ≤ 100 ∧ i = .int .i64 a ∧ u = .slice AK K.length cK ∧ K.length ≤ cK ∧ K.length ≤ 100 * a ∧ Hid (KnA xs st a K) ∧ Own encI 1 w.heap.size wr.heap.size wr AK K ∧ OwnG w.heap.size v ms (grpS xs st a) wr ∧ apart v AK K.length ∧ Below w.heap.size w wr) (fun _ _ i _ => 100 - (intOf i).toNat)
  case atStart => exact ⟨0, [], _, 0, [], Nat.zero_le _, rfl, rfl, Nat.le_refl _, by simp, Lib.hid KnA.start, Own.nil (Nat.le_refl _), hG0, fun h => absurd h (by simp), hb1⟩
  case round =>
    obtain ⟨a, ms, AK, cK, K, ha, rfl, rfl, hKc, hKl, hKn, hK, hG, hav, hbr⟩ := hrel
    have hrR := hr.go hbr
    have hszr := hbr.size
    clear hG0
    by_cases hlt : a < 100
    · go_wp2_with fail
      refine (l15Codes_c xs A c a st _ hrR HG.out).mono ?_
      rintro e v1 ⟨C, cc, rfl, hv1, hown⟩
      have hcl := codesL_len xs (a : Int) st
      obtain ⟨cs, hcs⟩ : ∃ cs, codesL xs (a : Int) st = cs := ⟨_, rfl⟩
      rw [hcs] at hown hcl ⊢
      have HCS := Lib.hid (show cdN xs st a = cs from hcs)
      clear hcs
      replace hrR := hrR.go hv1
      replace hG := hG.below hv1
      replace hK := (hK.go hv1).wide (Nat.le_refl _) hv1.size (Nat.le_refl _)
      replace hbr := below_step hbr hv1
      have hrC := hown.rd
      clear hv1 hown
      by_cases hce : cs.length = 0
      · have hce' : ((cs.length : Int) == 0) = true := by simp [hce]
        have hfs : fstB xs st a = false := fst_empty (by rw [HCS.out]; exact List.eq_nil_of_length_eq_zero hce)
        have HS := Lib.hid (grpS_no hfs).symm
        have HK := Lib.hid (hKn.out.skip hfs)
        clear hfs hce
        go_wp2_with fail
        go_roundw
        case rel => exact ⟨a + 1, ms, AK, cK, K, by omega, by go_num, rfl, hKc, by omega, HK, hK, hG.castP HS.out, hav, hbr⟩
        case measure => simp [intOf]; omega
      have hce' : ((cs.length : Int) == 0) = false := by simp only [beq_eq_false_iff_ne, ne_eq]; omega
      have HNE := Lib.hid (show cdN xs st a ≠ [] by rw [HCS.out]; intro e; rw [e] at hce; exact hce rfl)
      go_wp2_with fail
      refine (l1Has_c K AK cK a _ hK.rd (by omega)).mono ?_
      rw [hKn.out.at_ hlt HNE.out]
      rintro e v2 ⟨rfl, hww⟩
      subst hww
      by_cases hfs : fstB xs st a = false
      · have HS := Lib.hid (grpS_no hfs).symm
        have HK := Lib.hid (hKn.out.skip hfs)
        rw [hfs]
        clear hfs
        go_wp2_with fail
        go_roundw
        case rel => exact ⟨a + 1, ms, AK, cK, K, by omega, by go_num, rfl, hKc, by omega, HK, hK, hG.castP HS.out, hav, hbr⟩
        case measure => simp [intOf]; omega
      have hft : fstB xs st a = true := by simpa using hfs
      rw [hft]
      have HF := Lib.hid hft
      clear hfs hft
      have hone := outI_one (base := v1.heap.size) v1 (a : Int) (Nat.le_refl _)
      have hal := (Below.refl v1.heap.size v1).alloc (Nat.le_refl _) (.cells #[.int .i64 a] 3)
      have hsn : v1.heap.size + 1 = (v1.alloc (.cells #[.int .i64 a] 3)).heap.size := by simp
      have hap : apart (.slice (some ⟨v1.heap.size, 0, none⟩) 1 1) AK K.length := fun hn b off e => by
        obtain ⟨b', off', e', _, h2, _⟩ := hK.2 hn
        rw [e] at e'
        injection e' with e'; injection e' with e1 _
        intro e3
        have h9 : v1.heap.size = b := by injection e3
        have h8 : b' < v1.heap.size := h2
        omega
      replace hK := (hK.go hal).wide (Nat.le_refl _) hal.size (Nat.le_refl _)
      go_wp2_with fail
      generalize hVV : v1.alloc (.cells #[.int .i64 a] 3) = V at *
      have hgrp0 : samG xs st (a + 1) a = [(a : Int)] := by rw [samG_yes rfl, samG_self HF.out]; rfl
      have HG0 := Lib.hid (hone.castR hgrp0.symm)
      clear hgrp0 hone
      go_loopw [7, 10, 11] (fun u g i wx => ∃ (b : Nat) (AK : Option Addr) (cK : Nat) (K : List Int), b ≤ 100 ∧ a < b ∧ i = .int .i64 b ∧ u = .slice AK K.length cK ∧ K.length ≤ cK ∧ K.length ≤ 100 * a + b ∧ Hid (KnB xs st a b K) ∧ Own encI 1 w.heap.size wx.heap.size wx AK K ∧ OutR encI 1 3 v1.heap.size g (samG xs st b a) wx ∧ apart g AK K.length ∧ apart u6 AK K.length ∧ Below v1.heap.size v1 wx) (fun _ _ i _ => 100 - (intOf i).toNat)
      case atStart => exact ⟨a + 1, AK, cK, K, by omega, by omega, by go_num, rfl, hKc, by omega, Lib.hid hKn.out.begin_, hK, HG0.out, hap, hav, hal⟩
      case round =>
        obtain ⟨b, AK', cK', K', hb100, hab, rfl, rfl, hKc', hKl', hKn', hK', hg', hap', hav', hbx⟩ := hrel
        have hszx := hbx.size
        have hwv : w.heap.size ≤ v1.heap.size := hbr.size
        clear HG0 hap hal hK hKn hKc hKl hVV hsn hav
        by_cases hlt2 : b < 100
        · go_wp2_with fail
          refine (l15Codes_c xs A c b st _ (hrR.go hbx) HG.out).mono ?_
          rintro e x1 ⟨D, dc, rfl, hx1, hown⟩
          have hdl := codesL_len xs (b : Int) st
          obtain ⟨ds, hds⟩ : ∃ ds, codesL xs (b : Int) st = ds := ⟨_, rfl⟩
          rw [hds] at hown hdl ⊢
          have HDS := Lib.hid (show cdN xs st b = ds from hds)
          clear hds
          have hrD := hown.rd
          clear hown
          go_wp2_with fail
          refine (l15Same_c ds cs _ _ _ _ _ hrD ((hrC.go hbx).go hx1) (by omega) (by omega)).mono ?_
          rintro e x2 ⟨rfl, hx2⟩
          have hx12 := hx1.trans (hx2.mono hx1.size)
          replace hK' := (hK'.go hx12).wide (Nat.le_refl _) hx12.size (Nat.le_refl _)
          replace hg' := hg'.below hx12
          replace hbx := hbx.trans (hx12.mono hszx)
          have hszy := hbx.size
          clear hx1 hx2 hx12 hrD
          by_cases hsame : ds = cs
          · have hcc : cdN xs st b = cdN xs st a := by rw [HDS.out, HCS.out, hsame]
            have HCC := Lib.hid hcc
            rw [decide_eq_true hsame]
            have hgl := samG_len (xs := xs) (st := st) (n := b) (a := a)
            have hal4 := (Below.refl x2.heap.size x2).alloc (Nat.le_refl _) (.cells #[.int .i64 b] 3)
            have hK4 := (hK'.go hal4).wide (Nat.le_refl _) hal4.size (Nat.le_refl _)
            have hg4 := hg'.below hal4
            have HGN := Lib.hid (show samG xs st b a ++ [(b : Int)] = samG xs st (b + 1) a from (samG_yes hcc).symm)
            have hbx4 := hbx.trans (hal4.mono hszy)
            clear hsame hcc HDS hK' hg'
            go_wp2_with (at_builtin; refine wp_appW rfl _ _ _ rfl 3 (.int .i64 0) 1 8 Tryd.underlying31 infoI rfl (by decide) encI_len oneI_ (base := v1.heap.size) (m := 1) (ys := samG xs st b a) (zs := [(b : Int)]) rfl rfl rfl hg4 (rd_new (x := (b : Int)) (vs := [.int .i64 b]) rfl rfl) (by first | omega | (simp; omega)) (by first | omega | (simp; omega)) (by simp; omega) ?_; intro v6 w6 ho6 hg6 hd6)
            have hK6 := own_grown hK4 hg6 hap'
            have hb6 := below_grown hbx4 (Nat.le_refl _) hg6 (fun g hg => hg4.from_ g hg)
            have hsz6 := hb6.size
            rw [HGN.out] at ho6
            clear hK4 hg4 hbx4 hg6 hd6 hal4 hap'
            refine (l1PutN_c K' AK' cK' b _ _ _ hK6 (by omega) hKc' (by omega) (kn_not hKn'.out HF.out HCC.out)).mono ?_
            rintro e x7 ⟨B, cB, rfl, hb7, hK7, hB7⟩
            have hpl := putI_len K' (b : Int)
            have HKN := Lib.hid (hKn'.out.yes hab HCC.out (fun z => putI_mem K' (b : Int) z))
            have hg7 := ho6.below hb7
            have hap7 : apart v6 B (putI K' (b : Int)).length := fun hn q off e e2 => by
              obtain ⟨q', off', e', h1, _⟩ := hK7.2 hn
              rw [e] at e'
              injection e' with e'; injection e' with e1 _
              have h9 := ho6.lt_ q e2
              omega
            have hav7 : apart u6 B (putI K' (b : Int)).length := fun hn q off e e2 => by
              obtain ⟨q', off', e', h1, _⟩ := hK7.2 hn
              rw [e] at e'
              injection e' with e'; injection e' with e1 _
              have h9 := hG.1.lt_ q e2
              omega
            have hK8 := hK7.wide (lo' := w.heap.size) (by omega) (Nat.le_refl _) (Nat.le_refl _)
            have hb8 := hb6.trans (hb7.mono hsz6)
            clear hK7 hK6 ho6 hb7 hb6
            go_wp2_with fail
            go_roundw
            case rel => exact ⟨b + 1, B, cB, _, by omega, by omega, by go_num, rfl, hB7, by omega, HKN, hK8, hg7, hap7, hav7, hb8⟩
            case measure => simp [intOf]; omega
          · have hcc : cdN xs st b ≠ cdN xs st a := by rw [HDS.out, HCS.out]; exact hsame
            have HGN := Lib.hid (samG_no hcc).symm
            have HKN := Lib.hid (hKn'.out.no hcc)
            rw [decide_eq_false hsame]
            clear hcc hsame
            go_wp2_with fail
            go_roundw
            case rel => exact ⟨b + 1, AK', cK', K', by omega, by omega, by go_num, rfl, hKc', by omega, HKN, hK', hg'.castR HGN.out, hap', hav', hbx⟩
            case measure => simp [intOf]; omega
        · obtain rfl : b = 100 := by omega
          have HKN := Lib.hid (hKn'.out.end_ HF.out)
          obtain ⟨Ag, cg, rfl, hcg, hog⟩ := hg'.ownC encI_len
          have hgl := samG_len (xs := xs) (st := st) (n := 100) (a := a)
          have hGX := hG.below hbx
          have hbrx := hbr.trans (hbx.mono hbr.size)
          have hszX := hbrx.size
          by_cases h2 : 2 ≤ (samG xs st 100 a).length
          · have HS := Lib.hid (grpS_yes HF.out h2).symm
            have hd2 : decide ((1 : Int) < ((samG xs st 100 a).length : Int)) = true := decide_eq_true (by omega)
            have hd3 : decide (1 < (samG xs st 100 a).length) = true := decide_eq_true (by omega)
            have hgsl := grpS_len (xs := xs) (st := st) (k := a)
            have hml := hGX.len
            have hmb : ms.length ≤ 100 := by omega
            have hal5 := (Below.refl wr.heap.size wr).alloc (Nat.le_refl _) (.cells #[.slice Ag (samG xs st 100 a).length cg] 31)
            have hK5 := (hK'.go hal5).wide (Nat.le_refl _) hal5.size (Nat.le_refl _)
            have hg5 := hg'.below hal5
            have HGG := Lib.hid hG
            have HGX := Lib.hid hGX
            have hbx5 := hbx.trans (hal5.mono hszx)
            have hrn : Rd encM 1 (wr.alloc (.cells #[.slice Ag (samG xs st 100 a).length cg] 31)).heap.size (wr.alloc (.cells #[.slice Ag (samG xs st 100 a).length cg] 31)) (some ⟨wr.heap.size, 0, none⟩) [(⟨Ag, (samG xs st 100 a).length, cg⟩ : SlM)] := rd_new rfl rfl
            have hG1 := hGX.1.below hal5
            clear h2 hml hG hGX hog
            go_wp2_with (at_builtin; refine wp_appW rfl _ _ _ rfl 31 (.slice none 0 0) 1 24 Tryd.underlying27 infoSS rfl (by decide) encM_len oneM_ (base := w.heap.size) (m := 1) (ys := ms) (zs := [(⟨Ag, (samG xs st 100 a).length, cg⟩ : SlM)]) rfl rfl rfl hG1 hrn (by first | omega | (simp; omega)) (by first | omega | (simp; omega)) (by simp; omega) ?_; intro v6 w6 ho6 hg6 hd6)
            have hG6 := HGG.out.push (m := ⟨Ag, (samG xs st 100 a).length, cg⟩) (p := samG xs st 100 a) hbx5 (hg5.freshR (lo := w.heap.size) hwv) (fun g hg => hg5.from_ g hg) ho6 hg6 hd6
            have hK6 := own_grown hK5 hg6 hav'
            have hb6 := below_grown (hbrx.trans (hal5.mono hszX)) (Nat.le_refl _) hg6 (fun g hg => hG1.from_ g hg)
            have hav6 : apart v6 AK' K'.length := fun hn q off e e2 => by
              rcases hd6 with h | h
              · rw [h] at e2; exact hav' hn q off e e2
              · obtain ⟨q', off', e', _, h1, _⟩ := hK5.2 hn
                rw [e] at e'
                injection e' with e'; injection e' with e1 _
                rw [h] at e2
                injection e2 with e2
                omega
            clear hg5 hG1 hbx5 ho6 hg6 hd6 hK5 hg'
            go_roundw
            case rel => exact ⟨a + 1, _, AK', cK', K', by omega, by go_num, rfl, hKc', by omega, HKN, hK6, hG6.castP HS.out, hav6, hb6⟩
            case measure => simp [intOf]; omega
          · have HS := Lib.hid (grpS_one HF.out h2).symm
            have hd2 : decide ((1 : Int) < ((samG xs st 100 a).length : Int)) = false := decide_eq_false (by omega)
            have hd3 : decide (1 < (samG xs st 100 a).length) = false := decide_eq_false (by omega)
            clear h2
            go_wp2_with fail
            go_roundw
            case rel => exact ⟨a + 1, ms, AK', cK', K', by omega, by go_num, rfl, hKc', by omega, HKN, hK', hGX.castP HS.out, hav', hbrx⟩
            case measure => simp [intOf]; omega
    · obtain rfl : a = 100 := by omega
      obtain ⟨A4, c4, rfl, hss⟩ := hG.own
      have hbx := hbr
      go_wp2_with fail
      go_returns
      exact ⟨A4, c4, ret_list (by rw [HV.out]) HB.out.symm, hbx, by rw [HV.out]; exact hss⟩
theorem laV_len2 (xs : List Flaw) (st : Int) : (laV xs st).length ≤ 2097152 := Nat.le_trans (laV_len xs st) (by decide)
theorem laV_sum2 (xs : List Flaw) (st : Int) : sumS (laV xs st) ≤ 2097152 := Nat.le_trans (laV_sum xs st) (by decide)
end Go.Proofs.YtgjehnjpbekoeaaDoor
