/- l1Put of a number that is not there: the slice returned is a new one that may grow. No condition but the size. -/
import Derived.Test.YtpjnlcppjcnlgaaGreatDoorAlCpy2
import Derived.Test.YtpjnlcppjcnlgaaGreatDoorPut
namespace Go.Proofs.YtpjnlcppjcnlgaaGreatDoor
set_option linter.unusedVariables false
set_option linter.unusedSimpArgs false
open Go.RowKit
set_option maxRecDepth 100000 in
set_option maxHeartbeats 2000000 in
theorem l1PutO_c (ys : List Int) (A : Option Addr) (c : Nat) (n : Int) (w : World) (hr : Rd encI 1 w.heap.size w A ys) (hc : ys.length ≤ c) (hnot : ¬ n ∈ ys) (hn : ys.length ≤ 2097152) :
    Calls Tryz.prog 42 #[.slice A ys.length c, .int .i64 n] w (RetO (putI ys n) w) := by
  go_enter Tryz.func42, Tryz.ntmps42
  go_wp2_with fail
  go_loop [5] (fun i => ∃ k : Nat, k ≤ ys.length ∧ i = .int .i64 k ∧ (∀ y ∈ ys.take k, decide (y < n) = true)) (fun i => ys.length - (intOf i).toNat)
  case atStart => exact ⟨0, Nat.zero_le _, rfl, by simp⟩
  case round =>
    obtain ⟨k, hk, rfl, hall⟩ := hrel
    have HA := Lib.hid hall
    clear hall
    by_cases hlt : k < ys.length
    · obtain ⟨b, off, rfl, hbs, d0⟩ := hr.int hlt
      by_cases h0 : ys[k] < n
      · have h0' : decide (ys[k] < n) = true := decide_eq_true h0
        have HT := Lib.hid (show ∀ y ∈ ys.take (k + 1), decide (y < n) = true by
          rw [take_succ_get ys k hlt]; intro x hx; rcases List.mem_append.1 hx with h | h
          · exact HA.out x h
          · simp at h; subst h; exact h0')
        clear h0
        go_wp2_with fail
        go_round
        case rel => exact ⟨k + 1, by omega, by go_num, HT.out⟩
        case measure => simp [intOf]; omega
      · have h0' : decide (ys[k] < n) = false := decide_eq_false h0
        have HK := Lib.hid (show putK ys n = k from takeWhile_len' _ ys k HA.out hk (fun _ => h0'))
        by_cases h1 : ys[k] = n
        · exact absurd (h1 ▸ List.getElem_mem hlt) hnot
        · have HP := Lib.hid (show putI ys n = ys.take k ++ [n] ++ ys.drop k by unfold putI; rw [HK.out, if_neg (by rw [List.getElem?_eq_getElem hlt]; simpa using h1)])
          have h1' : (ys[k] == n) = false := by simpa using h1
          clear h0 h1
          go_wp2_with fail
          have hkc : (k : Int) ≤ c := by omega
          have hkc2 : (k : Int) < c := by omega
          have hkc3 : ¬ c = k := by omega
          have hk0 : (0 : Int) ≤ k := by omega
          have hkl : (k : Int) ≤ ys.length := by omega
          go_region_held3 (fun _ => True) (trivial) (first
            | ((refine step_app (o := ⟨some 37, _, _, _, _, _⟩) (by rfl) (.tmp 33) (.tmp 36) _ (by rfl) 3 (.int .i64 0) 1 8 Tryz.underlying36 infoI (by rfl) (by decide) encI_len oneI (base := w.heap.size) (zs := ys.take k) (by rfl) (by rfl) (by simp; omega) (by first | exact OutR.emptyH _ _ (by simp) (by first | (simp; done) | (simp; omega)) | exact OutR.emptyHD _ _ (by simp) (by first | (simp; done) | (simp; omega)) | exact (OutR.emptyH w _ rfl (Nat.le_refl _)).below (by go_grown)) ((hr.go (by go_grown)).take k) (by simp; omega) (by simp; omega) (by first | (simp; done) | (simp; omega)) ?_; intro v1 W1 ho1 hb1 hg1; have hB1 : Below w.heap.size w W1 := Below.trans (by go_grown) hb1))
            | ((refine step_app (o := ⟨some 40, _, _, _, _, _⟩) (by rfl) (.tmp 37) (.tmp 39) _ (by rfl) 3 (.int .i64 0) 1 8 Tryz.underlying36 infoI (by rfl) (by decide) encI_len oneI (base := w.heap.size) (zs := [n]) (by rfl) (by rfl) rfl (by first | exact ho1 | exact ho1.below ((Below.refl _ _).alloc (Nat.le_refl _) _)) (by first | exact rd_new (x := n) (vs := [.int .i64 n]) rfl rfl | exact rd_one (hg1.cell (by simp) (by simp [Value.ownBlock, go_sem]))) (by simp; omega) (by simp; omega) (by have := hB1.size; simp; omega) ?_; intro v2 W2 ho2 hb2 hg2; have hB2 : Below w.heap.size w W2 := (by first | exact hB1.trans hb2 | exact (hB1.alloc hB1.size _).trans hb2)))
            | ((refine step_app (o := ⟨some 44, _, _, _, _, _⟩) (by rfl) (.tmp 40) (.tmp 43) _ (by rfl) 3 (.int .i64 0) 1 8 Tryz.underlying36 infoI (by rfl) (by decide) encI_len oneI (base := w.heap.size) (zs := ys.drop k) (by rfl) (by rfl) (by simp) ho2 (((hr.go hB2).drop k).mul1) (by simp; omega) (by simp; omega) hB2.size ?_; intro v3 W3 ho3 hb3 hg3; have hB3 : Below w.heap.size w W3 := hB2.trans hb3)))
          all_goals
            have hO := ho3.toOut_
            obtain ⟨B, c', rfl, _⟩ := hO.cap
            go_wp2_with fail
            go_returns
            exact ⟨B, c', ret_sl (by rw [HP.out]; simp), hB3, by rw [HP.out]; simpa using hO⟩
    · have hke : k = ys.length := by omega
      have HK := Lib.hid (show putK ys n = ys.length from takeWhile_len' _ ys ys.length (by have := HA.out; rwa [hke] at this) (Nat.le_refl _) (fun h => absurd h (by omega)))
      have HP := Lib.hid (show putI ys n = ys.take k ++ [n] ++ ys.drop k by unfold putI; rw [HK.out, if_neg (by rw [List.getElem?_eq_none (Nat.le_refl _)]; simp), hke])
      have hl0 : ¬ (k : Int) < (ys.length : Int) := by omega
      have hkc : (k : Int) ≤ c := by omega
      have hk0 : (0 : Int) ≤ k := by omega
      have hkl : (k : Int) ≤ ys.length := by omega
      have hdr : ys.drop k = [] := by rw [hke]; simp
      have HDR := Lib.hid hdr
      clear hke hdr
      go_wp2_with fail
      by_cases hck : c = k
      · go_region_held3 (fun _ => True) (trivial) (first
          | ((refine step_app (o := ⟨some 37, _, _, _, _, _⟩) (by rfl) (.tmp 33) (.tmp 36) _ (by rfl) 3 (.int .i64 0) 1 8 Tryz.underlying36 infoI (by rfl) (by decide) encI_len oneI (base := w.heap.size) (zs := ys.take k) (by rfl) (by rfl) (by simp; omega) (by first | exact OutR.emptyH _ _ (by simp) (by first | (simp; done) | (simp; omega)) | exact OutR.emptyHD _ _ (by simp) (by first | (simp; done) | (simp; omega)) | exact (OutR.emptyH w _ rfl (Nat.le_refl _)).below (by go_grown)) ((hr.go (by go_grown)).take k) (by simp; omega) (by simp; omega) (by first | (simp; done) | (simp; omega)) ?_; intro v1 W1 ho1 hb1 hg1; have hB1 : Below w.heap.size w W1 := Below.trans (by go_grown) hb1))
          | ((refine step_app (o := ⟨some 40, _, _, _, _, _⟩) (by rfl) (.tmp 37) (.tmp 39) _ (by rfl) 3 (.int .i64 0) 1 8 Tryz.underlying36 infoI (by rfl) (by decide) encI_len oneI (base := w.heap.size) (zs := [n]) (by rfl) (by rfl) rfl (by first | exact ho1 | exact ho1.below ((Below.refl _ _).alloc (Nat.le_refl _) _)) (by first | exact rd_new (x := n) (vs := [.int .i64 n]) rfl rfl | exact rd_one (hg1.cell (by simp) (by simp [Value.ownBlock, go_sem]))) (by simp; omega) (by simp; omega) (by have := hB1.size; simp; omega) ?_; intro v2 W2 ho2 hb2 hg2; have hB2 : Below w.heap.size w W2 := (by first | exact hB1.trans hb2 | exact (hB1.alloc hB1.size _).trans hb2)))
          | ((refine step_app (o := ⟨some 44, _, _, _, _, _⟩) (by rfl) (.tmp 40) (.tmp 43) _ (by rfl) 3 (.int .i64 0) 1 8 Tryz.underlying36 infoI (by rfl) (by decide) encI_len oneI (base := w.heap.size) (zs := ([] : List Int)) (B := 0) (by rfl) (by rfl) (by simp; try omega) ho2 Rd.nil (by simp; omega) (by simp; omega) hB2.size ?_; intro v3 W3 ho3 hb3 hg3; have hB3 : Below w.heap.size w W3 := hB2.trans hb3)))
        all_goals
          have hO := ho3.toOut_
          obtain ⟨B, c', rfl, _⟩ := hO.cap
          go_wp2_with fail
          go_returns
          exact ⟨B, c', ret_sl (by rw [HP.out]; simp [HDR.out]), hB3, by rw [HP.out, HDR.out]; simpa using hO⟩
      · go_region_held3 (fun _ => True) (trivial) (first
          | ((refine step_app (o := ⟨some 37, _, _, _, _, _⟩) (by rfl) (.tmp 33) (.tmp 36) _ (by rfl) 3 (.int .i64 0) 1 8 Tryz.underlying36 infoI (by rfl) (by decide) encI_len oneI (base := w.heap.size) (zs := ys.take k) (by rfl) (by rfl) (by simp; omega) (by first | exact OutR.emptyH _ _ (by simp) (by first | (simp; done) | (simp; omega)) | exact OutR.emptyHD _ _ (by simp) (by first | (simp; done) | (simp; omega)) | exact (OutR.emptyH w _ rfl (Nat.le_refl _)).below (by go_grown)) ((hr.go (by go_grown)).take k) (by simp; omega) (by simp; omega) (by first | (simp; done) | (simp; omega)) ?_; intro v1 W1 ho1 hb1 hg1; have hB1 : Below w.heap.size w W1 := Below.trans (by go_grown) hb1))
          | ((refine step_app (o := ⟨some 40, _, _, _, _, _⟩) (by rfl) (.tmp 37) (.tmp 39) _ (by rfl) 3 (.int .i64 0) 1 8 Tryz.underlying36 infoI (by rfl) (by decide) encI_len oneI (base := w.heap.size) (zs := [n]) (by rfl) (by rfl) rfl (by first | exact ho1 | exact ho1.below ((Below.refl _ _).alloc (Nat.le_refl _) _)) (by first | exact rd_new (x := n) (vs := [.int .i64 n]) rfl rfl | exact rd_one (hg1.cell (by simp) (by simp [Value.ownBlock, go_sem]))) (by simp; omega) (by simp; omega) (by have := hB1.size; simp; omega) ?_; intro v2 W2 ho2 hb2 hg2; have hB2 : Below w.heap.size w W2 := (by first | exact hB1.trans hb2 | exact (hB1.alloc hB1.size _).trans hb2)))
          | ((refine step_app (o := ⟨some 44, _, _, _, _, _⟩) (by rfl) (.tmp 40) (.tmp 43) _ (by rfl) 3 (.int .i64 0) 1 8 Tryz.underlying36 infoI (by rfl) (by decide) encI_len oneI (base := w.heap.size) (zs := ([] : List Int)) (B := 0) (by rfl) (by rfl) (by simp; try omega) ho2 Rd.nil (by simp; omega) (by simp; omega) hB2.size ?_; intro v3 W3 ho3 hb3 hg3; have hB3 : Below w.heap.size w W3 := hB2.trans hb3)))
        all_goals
          have hO := ho3.toOut_
          obtain ⟨B, c', rfl, _⟩ := hO.cap
          go_wp2_with fail
          go_returns
          exact ⟨B, c', ret_sl (by rw [HP.out]; simp [HDR.out]), hB3, by rw [HP.out, HDR.out]; simpa using hO⟩
end Go.Proofs.YtpjnlcppjcnlgaaGreatDoor
