/- Contract of l1Put: a number is put into an ascending list. No condition but the size. -/
import Derived.Test.YtpnkeaeikcobfaaGreatDoorApp2
import Derived.Deep.RegionHeld3
import Derived.Deep.RegionLaw
namespace Go.Proofs.YtpnkeaeikcobfaaGreatDoor
set_option linter.unusedVariables false
set_option linter.unusedSimpArgs false
open Go.RowKit
def putK (ys : List Int) (n : Int) : Nat := (ys.takeWhile fun y => decide (y < n)).length
def putI (ys : List Int) (n : Int) : List Int := if ys[putK ys n]? = some n then ys else ys.take (putK ys n) ++ [n] ++ ys.drop (putK ys n)
theorem takeWhile_len' {α : Type} (p : α → Bool) (xs : List α) (i : Nat) (h1 : ∀ x ∈ xs.take i, p x = true) (hi : i ≤ xs.length) (h2 : ∀ h : i < xs.length, p xs[i] = false) : (xs.takeWhile p).length = i := by
  induction xs generalizing i with
  | nil => simp at hi; simp [hi]
  | cons x xs ih =>
    cases i with
    | zero => have := h2 (by simp); simp at this; simp [this]
    | succ i =>
      have hx : p x = true := h1 x (by simp)
      rw [List.takeWhile_cons_of_pos hx]
      simp only [List.length_cons]
      rw [ih i (fun y hy => h1 y (by simp [hy])) (by simpa using hi) (fun h => by have h3 := h2 (by simpa using h); rwa [List.getElem_cons_succ] at h3)]
theorem rd_one {w : World} {b : Nat} {n : Int} (h : w.cell? ⟨b, 0, none⟩ = some (.int .i64 n)) : Rd encI 1 w.heap.size w (some ⟨b, 0, none⟩) [n] := fun _ =>
  ⟨b, 0, rfl, cell_lt h, fun i y hy j v hv => by
    have hi : i = 0 := by have := (List.getElem?_eq_some_iff.1 hy).1; simp at this; omega
    subst hi
    have hj : j = 0 := by have := (List.getElem?_eq_some_iff.1 hv).1; simp [encI] at this; omega
    subst hj
    have hy' : y = n := by simpa using hy.symm
    subst hy'
    have hv' : v = .int .i64 y := by simpa [encI] using hv.symm
    subst hv'
    exact h⟩
theorem Rd.mul1 {B : Nat} {w : World} {b off k : Nat} {xs : List Int} (h : Rd encI 1 B w (some ⟨b, off + k * 1, none⟩) xs) : Rd encI 1 B w (some ⟨b, off + k, none⟩) xs := by rwa [Nat.mul_one] at h
set_option maxRecDepth 100000 in
set_option maxHeartbeats 2000000 in
theorem l1Put_c (ys : List Int) (A : Option Addr) (c : Nat) (n : Int) (w : World) (lo hi : Nat) (o : Own encI 1 lo hi w A ys) (hlo : lo ≤ w.heap.size) (hc : ys.length ≤ c) (hn : ys.length ≤ 2097152) :
    Calls Tryz.prog 36 #[.slice A ys.length c, .int .i64 n] w fun e w' => ∃ B c', e = .returned (.slice B (putI ys n).length c') ∧ Below w.heap.size w w' ∧ Own encI 1 lo w'.heap.size w' B (putI ys n) ∧ (putI ys n).length ≤ c' := by
  have hr := o.rd
  go_enter Tryz.func36, Tryz.ntmps36
  go_wp2_with fail
  go_loop [5] (fun i => ∃ k : Nat, k ≤ ys.length ∧ i = .int .i64 k ∧ (∀ y ∈ ys.take k, decide (y < n) = true)) (fun i => ys.length - (intOf i).toNat)
  case atStart => exact ⟨0, Nat.zero_le _, rfl, by simp⟩
  case round =>
    obtain ⟨k, hk, rfl, hall⟩ := hrel
    have HA := Lib.hid hall
    clear hall
    by_cases hlt : k < ys.length
    · obtain ⟨b, off, rfl, hbs, d0⟩ := hr.int hlt
      by_cases h0 : ys[k] < n
      · have h0' : decide (ys[k] < n) = true := decide_eq_true h0
        have HT := Lib.hid (show ∀ y ∈ ys.take (k + 1), decide (y < n) = true by
          rw [take_succ_get ys k hlt]; intro x hx; rcases List.mem_append.1 hx with h | h
          · exact HA.out x h
          · simp at h; subst h; exact h0')
        clear h0
        go_wp2_with fail
        go_round
        case rel => exact ⟨k + 1, by omega, by go_num, HT.out⟩
        case measure => simp [intOf]; omega
      · have h0' : decide (ys[k] < n) = false := decide_eq_false h0
        have HK := Lib.hid (show putK ys n = k from takeWhile_len' _ ys k HA.out hk (fun _ => h0'))
        by_cases h1 : ys[k] = n
        · have HP := Lib.hid (show putI ys n = ys by unfold putI; rw [HK.out, if_pos (by rw [List.getElem?_eq_getElem hlt, h1])])
          have h1' : (ys[k] == n) = true := by simpa using h1
          clear h0 h1
          go_wp2_with fail
          go_returns
          exact ⟨_, c, ret_sl (by rw [HP.out]), Below.refl _ _, by rw [HP.out]; exact o.wide (Nat.le_refl _) o.1 (Nat.le_refl _), by rw [HP.out]; exact hc⟩
        · have HP := Lib.hid (show putI ys n = ys.take k ++ [n] ++ ys.drop k by unfold putI; rw [HK.out, if_neg (by rw [List.getElem?_eq_getElem hlt]; simpa using h1)])
          have h1' : (ys[k] == n) = false := by simpa using h1
          clear h0 h1
          go_wp2_with fail
          have hkc : (k : Int) ≤ c := by omega
          have hkc2 : (k : Int) < c := by omega
          have hkc3 : ¬ c = k := by omega
          have hk0 : (0 : Int) ≤ k := by omega
          have hkl : (k : Int) ≤ ys.length := by omega
          go_region_held3 (fun _ => True) (trivial) (first
            | ((refine step_app (o := ⟨some 37, _, _, _, _, _⟩) (by rfl) (.tmp 33) (.tmp 36) _ (by rfl) 3 (.int .i64 0) 1 8 Tryz.underlying29 infoI (by rfl) (by decide) encI_len oneI (base := w.heap.size) (zs := ys.take k) (by rfl) (by rfl) (by simp; omega) (by first | exact OutR.emptyH _ _ (by simp) (by first | (simp; done) | (simp; omega)) | exact OutR.emptyHD _ _ (by simp) (by first | (simp; done) | (simp; omega)) | exact (OutR.emptyH w _ rfl (Nat.le_refl _)).below (by go_grown)) ((hr.go (by go_grown)).take k) (by simp; omega) (by simp; omega) (by first | (simp; done) | (simp; omega)) ?_; intro v1 W1 ho1 hb1 hg1; have hB1 : Below w.heap.size w W1 := Below.trans (by go_grown) hb1))
            | ((refine step_app (o := ⟨some 40, _, _, _, _, _⟩) (by rfl) (.tmp 37) (.tmp 39) _ (by rfl) 3 (.int .i64 0) 1 8 Tryz.underlying29 infoI (by rfl) (by decide) encI_len oneI (base := w.heap.size) (zs := [n]) (by rfl) (by rfl) rfl (by first | exact ho1 | exact ho1.below ((Below.refl _ _).alloc (Nat.le_refl _) _)) (by first | exact rd_new (x := n) (vs := [.int .i64 n]) rfl rfl | exact rd_one (hg1.cell (by simp) (by simp [Value.ownBlock, go_sem]))) (by simp; omega) (by simp; omega) (by have := hB1.size; simp; omega) ?_; intro v2 W2 ho2 hb2 hg2; have hB2 : Below w.heap.size w W2 := (by first | exact hB1.trans hb2 | exact (hB1.alloc hB1.size _).trans hb2)))
            | ((refine step_app (o := ⟨some 44, _, _, _, _, _⟩) (by rfl) (.tmp 40) (.tmp 43) _ (by rfl) 3 (.int .i64 0) 1 8 Tryz.underlying29 infoI (by rfl) (by decide) encI_len oneI (base := w.heap.size) (zs := ys.drop k) (by rfl) (by rfl) (by simp) ho2 (((hr.go hB2).drop k).mul1) (by simp; omega) (by simp; omega) hB2.size ?_; intro v3 W3 ho3 hb3 hg3; have hB3 : Below w.heap.size w W3 := hB2.trans hb3)))
          all_goals
            obtain ⟨B, c', rfl, hO, hcl⟩ := ho3.own encI_len
            go_wp2_with fail
            go_returns
            exact ⟨B, c', ret_sl (by rw [HP.out]; simp), hB3, ((hO.cast (by rw [HP.out]; simp)).wide hlo (Nat.le_refl _) (Nat.le_refl _)), by rw [HP.out]; simpa using hcl⟩
    · have hke : k = ys.length := by omega
      have HK := Lib.hid (show putK ys n = ys.length from takeWhile_len' _ ys ys.length (by have := HA.out; rwa [hke] at this) (Nat.le_refl _) (fun h => absurd h (by omega)))
      have HP := Lib.hid (show putI ys n = ys.take k ++ [n] ++ ys.drop k by unfold putI; rw [HK.out, if_neg (by rw [List.getElem?_eq_none (Nat.le_refl _)]; simp), hke])
      have hl0 : ¬ (k : Int) < (ys.length : Int) := by omega
      have hkc : (k : Int) ≤ c := by omega
      have hk0 : (0 : Int) ≤ k := by omega
      have hkl : (k : Int) ≤ ys.length := by omega
      have hdr : ys.drop k = [] := by rw [hke]; simp
      have HDR := Lib.hid hdr
      clear hke hdr
      go_wp2_with fail
      by_cases hck : c = k
      · go_region_held3 (fun _ => True) (trivial) (first
          | ((refine step_app (o := ⟨some 37, _, _, _, _, _⟩) (by rfl) (.tmp 33) (.tmp 36) _ (by rfl) 3 (.int .i64 0) 1 8 Tryz.underlying29 infoI (by rfl) (by decide) encI_len oneI (base := w.heap.size) (zs := ys.take k) (by rfl) (by rfl) (by simp; omega) (by first | exact OutR.emptyH _ _ (by simp) (by first | (simp; done) | (simp; omega)) | exact OutR.emptyHD _ _ (by simp) (by first | (simp; done) | (simp; omega)) | exact (OutR.emptyH w _ rfl (Nat.le_refl _)).below (by go_grown)) ((hr.go (by go_grown)).take k) (by simp; omega) (by simp; omega) (by first | (simp; done) | (simp; omega)) ?_; intro v1 W1 ho1 hb1 hg1; have hB1 : Below w.heap.size w W1 := Below.trans (by go_grown) hb1))
          | ((refine step_app (o := ⟨some 40, _, _, _, _, _⟩) (by rfl) (.tmp 37) (.tmp 39) _ (by rfl) 3 (.int .i64 0) 1 8 Tryz.underlying29 infoI (by rfl) (by decide) encI_len oneI (base := w.heap.size) (zs := [n]) (by rfl) (by rfl) rfl (by first | exact ho1 | exact ho1.below ((Below.refl _ _).alloc (Nat.le_refl _) _)) (by first | exact rd_new (x := n) (vs := [.int .i64 n]) rfl rfl | exact rd_one (hg1.cell (by simp) (by simp [Value.ownBlock, go_sem]))) (by simp; omega) (by simp; omega) (by have := hB1.size; simp; omega) ?_; intro v2 W2 ho2 hb2 hg2; have hB2 : Below w.heap.size w W2 := (by first | exact hB1.trans hb2 | exact (hB1.alloc hB1.size _).trans hb2)))
          | ((refine step_app (o := ⟨some 44, _, _, _, _, _⟩) (by rfl) (.tmp 40) (.tmp 43) _ (by rfl) 3 (.int .i64 0) 1 8 Tryz.underlying29 infoI (by rfl) (by decide) encI_len oneI (base := w.heap.size) (zs := ([] : List Int)) (B := 0) (by rfl) (by rfl) (by simp; try omega) ho2 Rd.nil (by simp; omega) (by simp; omega) hB2.size ?_; intro v3 W3 ho3 hb3 hg3; have hB3 : Below w.heap.size w W3 := hB2.trans hb3)))
        all_goals
          obtain ⟨B, c', rfl, hO, hcl⟩ := ho3.own encI_len
          go_wp2_with fail
          go_returns
          exact ⟨B, c', ret_sl (by rw [HP.out]; simp [HDR.out]), hB3, ((hO.cast (by rw [HP.out]; simp [HDR.out])).wide hlo (Nat.le_refl _) (Nat.le_refl _)), by rw [HP.out]; simpa [HDR.out] using hcl⟩
      · go_region_held3 (fun _ => True) (trivial) (first
          | ((refine step_app (o := ⟨some 37, _, _, _, _, _⟩) (by rfl) (.tmp 33) (.tmp 36) _ (by rfl) 3 (.int .i64 0) 1 8 Tryz.underlying29 infoI (by rfl) (by decide) encI_len oneI (base := w.heap.size) (zs := ys.take k) (by rfl) (by rfl) (by simp; omega) (by first | exact OutR.emptyH _ _ (by simp) (by first | (simp; done) | (simp; omega)) | exact OutR.emptyHD _ _ (by simp) (by first | (simp; done) | (simp; omega)) | exact (OutR.emptyH w _ rfl (Nat.le_refl _)).below (by go_grown)) ((hr.go (by go_grown)).take k) (by simp; omega) (by simp; omega) (by first | (simp; done) | (simp; omega)) ?_; intro v1 W1 ho1 hb1 hg1; have hB1 : Below w.heap.size w W1 := Below.trans (by go_grown) hb1))
          | ((refine step_app (o := ⟨some 40, _, _, _, _, _⟩) (by rfl) (.tmp 37) (.tmp 39) _ (by rfl) 3 (.int .i64 0) 1 8 Tryz.underlying29 infoI (by rfl) (by decide) encI_len oneI (base := w.heap.size) (zs := [n]) (by rfl) (by rfl) rfl (by first | exact ho1 | exact ho1.below ((Below.refl _ _).alloc (Nat.le_refl _) _)) (by first | exact rd_new (x := n) (vs := [.int .i64 n]) rfl rfl | exact rd_one (hg1.cell (by simp) (by simp [Value.ownBlock, go_sem]))) (by simp; omega) (by simp; omega) (by have := hB1.size; simp; omega) ?_; intro v2 W2 ho2 hb2 hg2; have hB2 : Below w.heap.size w W2 := (by first | exact hB1.trans hb2 | exact (hB1.alloc hB1.size _).trans hb2)))
          | ((refine step_app (o := ⟨some 44, _, _, _, _, _⟩) (by rfl) (.tmp 40) (.tmp 43) _ (by rfl) 3 (.int .i64 0) 1 8 Tryz.underlying29 infoI (by rfl) (by decide) encI_len oneI (base := w.heap.size) (zs := ([] : List Int)) (B := 0) (by rfl) (by rfl) (by simp; try omega) ho2 Rd.nil (by simp; omega) (by simp; omega) hB2.size ?_; intro v3 W3 ho3 hb3 hg3; have hB3 : Below w.heap.size w W3 := hB2.trans hb3)))
        all_goals
          obtain ⟨B, c', rfl, hO, hcl⟩ := ho3.own encI_len
          go_wp2_with fail
          go_returns
          exact ⟨B, c', ret_sl (by rw [HP.out]; simp [HDR.out]), hB3, ((hO.cast (by rw [HP.out]; simp [HDR.out])).wide hlo (Nat.le_refl _) (Nat.le_refl _)), by rw [HP.out]; simpa [HDR.out] using hcl⟩
end Go.Proofs.YtpnkeaeikcobfaaGreatDoor
