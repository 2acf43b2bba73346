/- Contract of isAlbum: the program's loop that asks whether a list of pages is an album. No condition but the sizes. -/
import Derived.Test.YtpjnlcppjcnlgaaGreatDoorAlIdx
import Derived.Test.YtpjnlcppjcnlgaaGreatDoorAlSet
namespace Go.Proofs.YtpjnlcppjcnlgaaGreatDoor
set_option linter.unusedVariables false
set_option linter.unusedSimpArgs false
open Go.RowKit
attribute [local irreducible] wpQuiet
theorem below_put {base B : Nat} {w wr w' : World} (h : Below base w wr) (hg : wr.grownBy w' (some B)) (hB : base ≤ B) (hle : base ≤ wr.heap.size) : Below base w w' :=
  ⟨hg.os.trans h.os, hg.tape.trans h.tape, hg.output.trans h.output, Nat.le_trans h.size hg.size, fun k hk => (hg.block k (by omega) (by intro e; injection e; omega)).trans (h.block k hk)⟩
theorem idx_neg {α : Type} (p : α → Bool) (xs : List α) : decide (idxI p xs < 0) = !xs.any p := by
  rw [← idxI_any]
  by_cases h : 0 ≤ idxI p xs
  · rw [decide_eq_true h, decide_eq_false (by omega)]; rfl
  · rw [decide_eq_false h, decide_eq_true (by omega)]; rfl
set_option maxRecDepth 100000 in
set_option maxHeartbeats 4000000 in
theorem isAlbum_c (xs : List Page) (A : Option Addr) (c : Nat) (w : World) (hr : RdP w.heap.size w A xs) (hcap : xs.length ≤ c) (hn : xs.length ≤ 1048576) (hs : sumI xs ≤ 1048576) (hw : ∀ x ∈ xs, x.title.size ≤ 9223372036854775807 ∧ x.items.length ≤ 9223372036854775807 ∧ ∀ z ∈ x.items, Fits z) :
    Calls Tryz.prog 31 #[.slice A xs.length c] w (Ret (.bool (goodA xs)) w) := by
  have HW := Lib.hid (fun (i : Nat) (h : i < xs.length) => hw xs[i] (List.getElem_mem h))
  have HI := Lib.hid (fun (k : Nat) (h : k < xs.length) => Nat.le_trans (sumI_mem (List.getElem_mem h)) hs)
  clear hw
  have hS0 := SetB.made w
  have hB0 : Below w.heap.size w (w.alloc (.map #[] 0)) := ((Below.refl _ _).alloc (Nat.le_refl _) _)
  have hmm := @run_makeMap Tryz.prog
  go_enter Tryz.func31, Tryz.ntmps31
  go_wp2_with fail
  clear hmm
  go_loopw [13] (fun i wr => ∃ (k n : Nat) (S : List Int), k ≤ xs.length ∧ i = .int .i64 k ∧ (List.range k).all (okA xs) = true ∧ SetB w.heap.size n S wr ∧ n ≤ sumI (xs.take k) ∧ (∀ z, z ∈ S ↔ (xs.take k).any (hasP z) = true) ∧ Below w.heap.size w wr) (fun i _ => xs.length - (intOf i).toNat)
  case atStart => exact ⟨0, 0, [], Nat.zero_le _, rfl, rfl, hS0, Nat.zero_le _, by simp, hB0⟩
  case round =>
    obtain ⟨k, n, S, hk, rfl, hall, hO, hnS, hSm, hb⟩ := hrel
    have HA := Lib.hid hall
    have HM := Lib.hid hSm
    have HNS := Lib.hid hnS
    clear hall hS0 hB0 hSm hnS
    by_cases hlt : k < xs.length
    · obtain ⟨b, off, Ai, ci, rfl, hbs, d0, d1, d2, d3, hci, hri⟩ := (hr.below hb).page hlt
      have hil := HI.out k hlt
      have HN := Lib.hid (fun h => goodA_no hlt h)
      have HO := Lib.hid (okA_val hlt)
      have HX := Lib.hid (HW.out k hlt)
      go_upto_region 5 with fail
      clear d0 d1 d2 d3
      have hW := New.of wr [.int .i64 xs[k].id, .string xs[k].title, .int .i64 xs[k].under, .slice Ai xs[k].items.length ci] 56
      generalize wr.alloc (.cells #[.int .i64 xs[k].id, .string xs[k].title, .int .i64 xs[k].under, .slice Ai xs[k].items.length ci] 56) = W at *
      obtain ⟨hWb, hWl, hWc⟩ := hW
      have e0 := hWc 0 _ rfl
      have e1 := hWc 1 _ rfl
      have e2 := hWc 2 _ rfl
      have e3 := hWc 3 _ rfl
      clear hWc
      have hbW := hb.trans (hWb.mono hb.size)
      have hO := hO.go hWb
      have hri := hri.below (hWb.mono hb.size)
      obtain ⟨hp, hhp⟩ : ∃ hp, wr.heap.size = hp := ⟨_, rfl⟩
      have hwp : w.heap.size ≤ hp := by have := hb.size; omega
      rw [hhp] at hWl e0 e1 e2 e3 ⊢
      clear hhp hWb hb
      have hbw : b < W.heap.size := Nat.lt_of_lt_of_le hbs hbW.size
      have hov := over_cell W
      obtain ⟨T5, hT5⟩ : ∃ T5 : Bool, ((inR xs[k].id 1 99 && isW xs[k].title) && (decide (xs[k].items.length ≤ 8) && (ascL xs[k].items && ordA xs k xs[k]))) = T5 := ⟨_, rfl⟩
      have H5 := Lib.hid hT5
      clear hT5
      go_cut [54] (fun v wx => v = .bool (!T5) ∧ Below W.heap.size W wx)
      case first =>
        have H1 : Hid (∀ x : World, Calls Tryz.prog 54 #[.int .i64 xs[k].id, .int .i64 1, .int .i64 99] (over W x) (Pure (.bool (inR xs[k].id 1 99)) (over W x))) := Lib.hid (fun x => inRange_c _ _ _ _)
        have H2 : Hid (∀ x : World, Calls Tryz.prog 55 #[.string xs[k].title] (over W x) (Pure (.bool (isW xs[k].title)) (over W x))) := Lib.hid (fun x => isWord_c _ _ HX.out.1)
        have H4 : Hid (∀ x : World, Calls Tryz.prog 56 #[.slice Ai xs[k].items.length ci] (over W x) (Ret (.bool (ascL xs[k].items)) (over W x))) := Lib.hid (fun x => ascending_c _ _ _ _ ((hri.more hbW.size).go (over_below W x)) (by omega))
        clear hri
        cases h1 : inR xs[k].id 1 99 with
        | false =>
          rw [h1] at H1
          have HV := Lib.hid (show (!T5) = true by rw [← H5.out]; rw [h1]; rfl)
          refine wp_region_over (by kernel_rfl) (by kernel_rfl) ?_
          repeat (go_big_quiet_step (((first | (go_at_call 54; exact Calls.over_pure (H1.out _)) | (go_at_call 55; exact Calls.over_pure (H2.out _)) | (go_at_call 56; exact Calls.over_of (H4.out _))))))
          refine wpQuiet_nil ?_
          intro _ hwx1
          obtain ⟨x1, hwx1⟩ := hwx1
          subst hwx1
          go_wp2_with fail
          go_meet
          exact ⟨vb HV.out.symm, over_below W x1⟩
        | true =>
          rw [h1] at H1
          cases h2 : isW xs[k].title with
          | false =>
            rw [h2] at H2
            have HV := Lib.hid (show (!T5) = true by rw [← H5.out]; rw [h1, h2]; rfl)
            refine wp_region_over (by kernel_rfl) (by kernel_rfl) ?_
            repeat (go_big_quiet_step (((first | (go_at_call 54; exact Calls.over_pure (H1.out _)) | (go_at_call 55; exact Calls.over_pure (H2.out _)) | (go_at_call 56; exact Calls.over_of (H4.out _))))))
            refine wpQuiet_nil ?_
            intro _ hwx1
            obtain ⟨x1, hwx1⟩ := hwx1
            subst hwx1
            go_wp2_with fail
            go_meet
            exact ⟨vb HV.out.symm, over_below W x1⟩
          | true =>
            rw [h2] at H2
            by_cases h3 : xs[k].items.length ≤ 8
            · have h3a : decide ((8 : Int) < (xs[k].items.length : Int)) = false := decide_eq_false (by omega)
              have h3b : decide (8 < xs[k].items.length) = false := decide_eq_false (by omega)
              have h3c : decide (xs[k].items.length ≤ 8) = true := decide_eq_true h3
              clear h3
              cases h4 : ascL xs[k].items with
              | false =>
                rw [h4] at H4
                have HV := Lib.hid (show (!T5) = true by rw [← H5.out]; rw [h1, h2, h4, Bool.false_and, Bool.and_false, Bool.and_false]; rfl)
                refine wp_region_over (by kernel_rfl) (by kernel_rfl) ?_
                repeat (go_big_quiet_step (((first | (go_at_call 54; exact Calls.over_pure (H1.out _)) | (go_at_call 55; exact Calls.over_pure (H2.out _)) | (go_at_call 56; exact Calls.over_of (H4.out _))))))
                refine wpQuiet_nil ?_
                intro _ hwx1
                obtain ⟨x1, hwx1⟩ := hwx1
                subst hwx1
                go_wp2_with fail
                go_meet
                exact ⟨vb HV.out.symm, over_below W x1⟩
              | true =>
                rw [h4] at H4
                by_cases hk0 : k = 0
                · have hkz : decide (0 < (k : Int)) = false := decide_eq_false (by omega)
                  have hkz1 : decide (0 < k) = false := decide_eq_false (by omega)
                  have HP := Lib.hid (show ordA xs k xs[k] = true by subst hk0; exact ordA_0 _ _)
                  have H3 := Lib.hid h3c
                  clear hk0 h3c
                  have HV := Lib.hid (show (!T5) = false by rw [← H5.out]; rw [h1, h2, h4, HP.out, H3.out]; rfl)
                  refine wp_region_over (by kernel_rfl) (by kernel_rfl) ?_
                  repeat (go_big_quiet_step (((first | (go_at_call 54; exact Calls.over_pure (H1.out _)) | (go_at_call 55; exact Calls.over_pure (H2.out _)) | (go_at_call 56; exact Calls.over_of (H4.out _))))))
                  refine wpQuiet_nil ?_
                  intro _ hwx1
                  obtain ⟨x1, hwx1⟩ := hwx1
                  subst hwx1
                  go_wp2_with fail
                  go_meet
                  exact ⟨vb HV.out.symm, over_below W x1⟩
                · obtain ⟨j, hj⟩ : ∃ j, k = j + 1 := ⟨k - 1, by omega⟩
                  have hj' : j < xs.length := by omega
                  obtain ⟨b', off', Aj, cj, hA, hbs', g0, g1, g2, g3, _⟩ := (hr.below hbW).page hj'
                  obtain ⟨rfl, rfl⟩ := addr_eq hA
                  clear hbs' hA
                  have hkz : decide (0 < (k : Int)) = true := decide_eq_true (by omega)
                  have hkz1 : decide (0 < k) = true := decide_eq_true (by omega)
                  have hkz2 : 0 < k := by omega
                  have hsub : IntKind.i64.wrap ((k : Int) - 1) = (j : Int) := by
                    rw [IntWalk.i64_in _ (by omega)]; omega
                  have hj0 : (0 : Int) ≤ j := by omega
                  have hj1 : (j : Int) ≤ xs.length := by omega
                  have hj2 : (j : Int) < xs.length := by omega
                  have HP := Lib.hid (show ordA xs k xs[k] = decide (xs[j].id < xs[k].id) by subst hj; exact ordA_s hj' _)
                  have H3 := Lib.hid h3c
                  clear hk0 hj h3c
                  by_cases hd : xs[j].id < xs[k].id
                  · have hd' : decide (xs[k].id ≤ xs[j].id) = false := decide_eq_false (by omega)
                    have HD := Lib.hid (decide_eq_true hd)
                    clear hd
                    have HV := Lib.hid (show (!T5) = false by rw [← H5.out]; rw [h1, h2, h4, HP.out, HD.out, H3.out]; rfl)
                    refine wp_region_over (by kernel_rfl) (by kernel_rfl) ?_
                    repeat (go_big_quiet_step (((first | (go_at_call 54; exact Calls.over_pure (H1.out _)) | (go_at_call 55; exact Calls.over_pure (H2.out _)) | (go_at_call 56; exact Calls.over_of (H4.out _))))))
                    refine wpQuiet_nil ?_
                    intro _ hwx1
                    obtain ⟨x1, hwx1⟩ := hwx1
                    subst hwx1
                    go_wp2_with fail
                    go_meet
                    exact ⟨vb HV.out.symm, over_below W x1⟩
                  · have hd' : decide (xs[k].id ≤ xs[j].id) = true := decide_eq_true (by omega)
                    have HD := Lib.hid (decide_eq_false hd)
                    clear hd
                    have HV := Lib.hid (show (!T5) = true by rw [← H5.out]; rw [h1, h2, h4, HP.out, HD.out, H3.out]; rfl)
                    refine wp_region_over (by kernel_rfl) (by kernel_rfl) ?_
                    repeat (go_big_quiet_step (((first | (go_at_call 54; exact Calls.over_pure (H1.out _)) | (go_at_call 55; exact Calls.over_pure (H2.out _)) | (go_at_call 56; exact Calls.over_of (H4.out _))))))
                    refine wpQuiet_nil ?_
                    intro _ hwx1
                    obtain ⟨x1, hwx1⟩ := hwx1
                    subst hwx1
                    go_wp2_with fail
                    go_meet
                    exact ⟨vb HV.out.symm, over_below W x1⟩
            · have h3a : decide ((8 : Int) < (xs[k].items.length : Int)) = true := decide_eq_true (by omega)
              have h3b : decide (8 < xs[k].items.length) = true := decide_eq_true (by omega)
              have H3 := Lib.hid (decide_eq_false h3)
              clear h3
              have HV := Lib.hid (show (!T5) = true by rw [← H5.out]; rw [h1, h2, H3.out]; rfl)
              refine wp_region_over (by kernel_rfl) (by kernel_rfl) ?_
              repeat (go_big_quiet_step (((first | (go_at_call 54; exact Calls.over_pure (H1.out _)) | (go_at_call 55; exact Calls.over_pure (H2.out _)) | (go_at_call 56; exact Calls.over_of (H4.out _))))))
              refine wpQuiet_nil ?_
              intro _ hwx1
              obtain ⟨x1, hwx1⟩ := hwx1
              subst hwx1
              go_wp2_with fail
              go_meet
              exact ⟨vb HV.out.symm, over_below W x1⟩
      case rest =>
        obtain ⟨rfl, hbX⟩ := hcut
        have hbW2 := hbW.trans (hbX.mono hbW.size)
        have hO := hO.go hbX
        have e0 := (hbX.cell (p := ⟨hp, 0, none⟩) hWl).trans e0
        have e1 := (hbX.cell (p := ⟨hp, 1, none⟩) hWl).trans e1
        have e2 := (hbX.cell (p := ⟨hp, 2, none⟩) hWl).trans e2
        have e3 := (hbX.cell (p := ⟨hp, 3, none⟩) hWl).trans e3
        have hWl := Nat.lt_of_lt_of_le hWl hbX.size
        have hri := hri.below (hbX.mono hbW.size)
        clear hov hbw hbX hbW
        cases T5 with
        | false =>
          have HV := Lib.hid (show goodA xs = false by
            refine HN.out ?_
            rw [HO.out]
            have h5 := H5.out
            unfold Page.base
            simp only [Bool.and_eq_false_iff] at h5 ⊢
            rcases h5 with (h | h) | (h | (h | h))
            · exact .inl (.inl (.inl (.inl (.inl (.inl (.inl (.inl h)))))))
            · exact .inl (.inl (.inl (.inl (.inl (.inl (.inl (.inr h)))))))
            · exact .inl (.inl (.inl (.inl (.inl (.inl (.inr h))))))
            · exact .inl (.inl (.inl (.inl (.inl (.inr h)))))
            · exact .inl (.inl (.inl (.inr h))))
          go_wp2_with fail
          go_returns
          exact ⟨ret_bool HV.out.symm, hbW2⟩
        | true =>
          obtain ⟨⟨G1, G2⟩, G3, G4, G5⟩ : (inR xs[k].id 1 99 = true ∧ isW xs[k].title = true) ∧ decide (xs[k].items.length ≤ 8) = true ∧ ascL xs[k].items = true ∧ ordA xs k xs[k] = true := by simpa only [Bool.and_eq_true] using H5.out
          have HG := Lib.hid (And.intro (And.intro G1 G2) (And.intro G3 (And.intro G4 G5)))
          clear G1 G2 G3 G4 G5 H5
          go_upto_region 7 with fail
          have hov := over_cell wc
          have hlk : (xs.take k).length = k := by simp; omega
          have H7 : Hid (∀ x : World, Calls Tryz.prog 36 #[.slice (some ⟨b, off, none⟩) k c, .int .i64 xs[k].under] (over wc x) (Ret (.int .i64 (idxI (idP xs[k].under) (xs.take k))) (over wc x))) := Lib.hid (fun x => by
            have h := pageAt_c (xs.take k) (some ⟨b, off, none⟩) c xs[k].under (over wc x) ((((hr.below hbW2).more hbW2.size).go (over_below wc x)).take k) (by rw [hlk]; omega)
            rwa [hlk] at h)
          have H8 := Lib.hid (idx_neg (idP xs[k].under) (xs.take k))
          have hk0' : (0 : Int) ≤ (k : Int) := by omega
          have hk1' : (k : Int) ≤ (xs.length : Int) := by omega
          have hk2' : (k : Int) < (xs.length : Int) := by omega
          have hk3' : (k : Int) ≤ (c : Int) := by omega
          have hk4' : k ≤ c := by omega
          go_cut [66] (fun v wx => v = .bool (!undA xs k xs[k]) ∧ Below wc.heap.size wc wx)
          case first =>
            by_cases hu : xs[k].under = 0
            · have hu' : (xs[k].under != 0) = false := by simp [hu]
              have HV := Lib.hid (show (!undA xs k xs[k]) = false by unfold undA; rw [decide_eq_true hu]; rfl)
              clear hu
              refine wp_region_over (by kernel_rfl) (by kernel_rfl) ?_
              repeat (go_big_quiet_step (fail))
              refine wpQuiet_nil ?_
              intro _ hwx1
              obtain ⟨x1, hwx1⟩ := hwx1
              subst hwx1
              go_wp2_with fail
              go_meet
              exact ⟨vb HV.out.symm, over_below wc x1⟩
            · have hu' : (xs[k].under != 0) = true := by simp [hu]
              have HV := Lib.hid (show decide (idxI (idP xs[k].under) (xs.take k) < 0) = !undA xs k xs[k] by unfold undA; rw [H8.out, decide_eq_false hu, Bool.false_or])
              clear hu
              generalize idxI (idP xs[k].under) (xs.take k) = q at *
              refine wp_region_over (by kernel_rfl) (by kernel_rfl) ?_
              repeat (go_big_quiet_step (((go_at_call 36; exact Calls.over_of (H7.out _)))))
              refine wpQuiet_nil ?_
              intro _ hwx1
              obtain ⟨x1, hwx1⟩ := hwx1
              subst hwx1
              go_wp2_with fail
              go_meet
              exact ⟨vb HV.out, over_below wc x1⟩
          case rest =>
            obtain ⟨rfl, hbX⟩ := hcut
            have hbW3 := hbW2.trans (hbX.mono hbW2.size)
            have hO := hO.go hbX
            have e0 := (hbX.cell (p := ⟨hp, 0, none⟩) hWl).trans e0
            have e1 := (hbX.cell (p := ⟨hp, 1, none⟩) hWl).trans e1
            have e2 := (hbX.cell (p := ⟨hp, 2, none⟩) hWl).trans e2
            have e3 := (hbX.cell (p := ⟨hp, 3, none⟩) hWl).trans e3
            have hWl := Nat.lt_of_lt_of_le hWl hbX.size
            have hri := hri.below (hbX.mono hbW2.size)
            clear hov hbX hbW2 H7 H8
            cases hU : undA xs k xs[k] with
            | false =>
              have HV := Lib.hid (HN.out (by rw [HO.out, hU]; simp))
              go_wp2_with fail
              go_returns
              exact ⟨ret_bool HV.out.symm, hbW3⟩
            | true =>
              have HU := Lib.hid hU
              clear hU
              rw [Bool.not_true]
              go_wp2_with fail
              go_loopw [71] (fun i wr2 => ∃ j : Nat, j ≤ k ∧ i = .int .i64 j ∧ (∀ q ∈ (xs.take k).take j, twinP xs[k] q = false) ∧ Below wc.heap.size wc wr2) (fun i _ => k - (intOf i).toNat)
              case atStart => exact ⟨0, Nat.zero_le _, rfl, by simp, Below.refl _ _⟩
              case round =>
                obtain ⟨j, hj, rfl, hno, hb2⟩ := hrel
                have HT := Lib.hid hno
                clear hno
                have e0 := (hb2.cell (p := ⟨hp, 0, none⟩) hWl).trans e0
                have e1 := (hb2.cell (p := ⟨hp, 1, none⟩) hWl).trans e1
                have e2 := (hb2.cell (p := ⟨hp, 2, none⟩) hWl).trans e2
                have e3 := (hb2.cell (p := ⟨hp, 3, none⟩) hWl).trans e3
                have hWl2 := Nat.lt_of_lt_of_le hWl hb2.size
                by_cases hjk : j < k
                · have hjl : j < xs.length := by omega
                  have hjt : j < (xs.take k).length := by rw [hlk]; exact hjk
                  have hjg : (xs.take k)[j] = xs[j] := List.getElem_take
                  obtain ⟨b', off', Aj, cj, hA, hbs', g0, g1, g2, g3, _⟩ := (hr.below (hbW3.trans (hb2.mono hbW3.size))).page hjl
                  obtain ⟨rfl, rfl⟩ := addr_eq hA
                  clear hA hbs'
                  by_cases h1 : xs[j].under = xs[k].under
                  · by_cases h2 : xs[j].title = xs[k].title
                    · have h1' : (xs[j].under == xs[k].under) = true := by simpa using h1
                      have h2' : (xs[j].title.toList == xs[k].title.toList) = true := by rw [toList_beq]; simpa using h2
                      have HV := Lib.hid (show goodA xs = false from HN.out (by
                        rw [HO.out]
                        have : soloA xs k xs[k] = false := by
                          unfold soloA
                          rw [List.any_eq_true.2 ⟨(xs.take k)[j], List.getElem_mem hjt, by rw [hjg]; simp [twinP, h1, h2]⟩]; rfl
                        rw [this]; simp))
                      clear h1 h2
                      go_wp2_with fail
                      go_returns
                      exact ⟨ret_bool HV.out.symm, hbW3.trans ((hb2.alloc hb2.size _).mono hbW3.size)⟩
                    · have h1' : (xs[j].under == xs[k].under) = true := by simpa using h1
                      have h2' : (xs[j].title.toList == xs[k].title.toList) = false := by rw [toList_beq]; simpa using h2
                      have HV := Lib.hid (take_no hjt HT.out (show twinP xs[k] (xs.take k)[j] = false by rw [hjg]; simp [twinP, h2]))
                      clear h1 h2
                      go_wp2_with fail
                      go_roundw
                      case rel => exact ⟨j + 1, by omega, by go_num, HV.out, hb2.alloc hb2.size _⟩
                      case measure => simp [intOf]; omega
                  · have h1' : (xs[j].under == xs[k].under) = false := by simpa using h1
                    have HV := Lib.hid (take_no hjt HT.out (show twinP xs[k] (xs.take k)[j] = false by rw [hjg]; simp [twinP, h1]))
                    clear h1
                    go_wp2_with fail
                    go_roundw
                    case rel => exact ⟨j + 1, by omega, by go_num, HV.out, hb2.alloc hb2.size _⟩
                    case measure => simp [intOf]; omega
                · have HSO := Lib.hid (show soloA xs k xs[k] = true by
                    unfold soloA
                    rw [List.any_eq_false.2 (fun q hq => by
                      have h := HT.out
                      rw [List.take_of_length_le (by rw [hlk]; omega)] at h
                      rw [h q hq]; exact Bool.false_ne_true)]; rfl)
                  have hb3 := hbW3.trans (hb2.mono hbW3.size)
                  have hO := hO.go hb2
                  have hri := hri.below (hb2.mono hbW3.size)
                  clear HT hb2 hbW3
                  go_wp2_with fail
                  have hfit := Lib.hid HX.out.2.2
                  go_loopw [91] (fun i wr3 => ∃ (m n3 : Nat) (S3 : List Int), m ≤ xs[k].items.length ∧ i = .int .i64 m ∧ SetB w.heap.size n3 S3 wr3 ∧ n3 ≤ n + m ∧ (∀ z, z ∈ S3 ↔ z ∈ S ∨ z ∈ xs[k].items.take m) ∧ (∀ z ∈ xs[k].items.take m, inR z 1 999 = true ∧ ¬ z ∈ S) ∧ Below w.heap.size wr wr3) (fun i _ => xs[k].items.length - (intOf i).toNat)
                  case atStart => exact ⟨0, n, S, Nat.zero_le _, rfl, hO, Nat.le_refl _, by simp, by simp, (Below.refl _ _).mono hb3.size⟩
                  case round =>
                    obtain ⟨m, n3, S3, hm, rfl, hO3, hn3, hS3, hok3, hb4⟩ := hrel
                    have H3 := Lib.hid hS3
                    have HK := Lib.hid hok3
                    have HN3 := Lib.hid hn3
                    clear hS3 hok3 hn3
                    have hb5 := hb3.trans (hb4.mono (Nat.le_refl _))
                    by_cases hml : m < xs[k].items.length
                    · obtain ⟨bi, oi, hAi, hbi, z0⟩ := (hri.below hb4).int hml
                      subst hAi
                      have hfz : Fits xs[k].items[m] := hfit.out _ (List.getElem_mem hml)
                      have HZN := Lib.hid (show ¬ xs[k].items[m] ∈ xs[k].items.take m from fun hz => by
                        obtain ⟨i, hi, he⟩ := List.mem_take_iff_getElem.1 hz
                        have := ascL_lt HG.out.2.2.1 m i hml (by omega)
                        omega)
                      have HZM := Lib.hid (List.getElem_mem hml)
                      have HTK := Lib.hid (take_succ_get xs[k].items m hml)
                      generalize xs[k].items[m] = z at *
                      have hm0 : (0 : Int) ≤ (m : Int) := by omega
                      have hm1 : (m : Int) < (xs[k].items.length : Int) := by omega
                      cases hz : inR z 1 999 with
                      | false =>
                        have HV := Lib.hid (show goodA xs = false from HN.out (by
                          rw [HO.out]
                          have : xs[k].base = false := by
                            unfold Page.base
                            rw [List.all_eq_false.2 ⟨z, HZM.out, by rw [hz]; exact Bool.false_ne_true⟩, Bool.and_false]
                          rw [this]; simp))
                        go_wp2_with fail
                        refine (isItem_c _ _).mono ?_
                        rw [hz]
                        rintro _ _ ⟨rfl, rfl⟩
                        go_wp2_with fail
                        go_returns
                        exact ⟨ret_bool HV.out.symm, hb5⟩
                      | true =>
                        by_cases hzS : z ∈ S
                        · have HD := Lib.hid (show decide (z ∈ S3) = true from decide_eq_true ((H3.out z).2 (.inl hzS)))
                          have HV := Lib.hid (show goodA xs = false from HN.out (by
                            rw [HO.out]
                            have : freeA xs k xs[k] = false := by
                              unfold freeA
                              exact List.all_eq_false.2 ⟨z, HZM.out, by rw [(HM.out z).1 hzS]; exact Bool.false_ne_true⟩
                            rw [this]; simp))
                          clear hzS
                          go_wp2_with fail
                          refine (isItem_c _ _).mono ?_
                          rw [hz]
                          rintro _ _ ⟨rfl, rfl⟩
                          have hrun := hO3.run hfz
                          rw [HD.out] at hrun
                          go_wp2_with fail
                          go_returns
                          exact ⟨ret_bool HV.out.symm, hb5⟩
                        · have HD := Lib.hid (show decide (z ∈ S3) = false from decide_eq_false (fun h => ((H3.out z).1 h).elim hzS HZN.out))
                          have HZS := Lib.hid hzS
                          clear hzS
                          have hlim : n3 < maxLen := by
                            have h1 := HN3.out
                            have h2 := HNS.out
                            have h3 := sumI_take_le xs k
                            unfold maxLen; omega
                          go_wp2_with fail
                          refine (isItem_c _ _).mono ?_
                          rw [hz]
                          rintro _ _ ⟨rfl, rfl⟩
                          have hrun := hO3.run hfz
                          rw [HD.out] at hrun
                          go_wp2_with ((at_mapUpdate; refine wpList_put (by rfl) _ _ _ (by rfl) (by rfl) hO3 hlim z (by rfl) (by rfl) hfz ?_; intro w6 hO6 hg6))
                          have hb6 := below_put hb4 hg6 (Nat.le_refl _) hb5.size
                          go_roundw
                          case rel => exact ⟨m + 1, n3 + 1, z :: S3, by omega, by go_num, hO6, by have := HN3.out; omega, fun y => by
                            rw [HTK.out, List.mem_append, List.mem_cons, H3.out y, List.mem_singleton]
                            constructor
                            · rintro (h | h | h)
                              · exact .inr (.inr h)
                              · exact .inl h
                              · exact .inr (.inl h)
                            · rintro (h | h | h)
                              · exact .inr (.inl h)
                              · exact .inr (.inr h)
                              · exact .inl h, fun y hy => by
                            rw [HTK.out] at hy
                            rcases List.mem_append.1 hy with h | h
                            · exact HK.out y h
                            · simp at h; subst h; exact ⟨hz, HZS.out⟩, hb6⟩
                          case measure => simp [intOf]; omega
                    · have hme : xs[k].items.take m = xs[k].items := List.take_of_length_le (by omega)
                      have HOK := Lib.hid (show okA xs k = true by
                        rw [HO.out, HU.out, HSO.out, HG.out.2.2.2]
                        have hbase : xs[k].base = true := by
                          unfold Page.base
                          rw [HG.out.1.1, HG.out.1.2, HG.out.2.1, HG.out.2.2.1, List.all_eq_true.2 (fun z hz => (HK.out z (by rw [hme]; exact hz)).1)]; rfl
                        have hfree : freeA xs k xs[k] = true := by
                          unfold freeA
                          refine List.all_eq_true.2 fun z hz => ?_
                          have h1 := (HK.out z (by rw [hme]; exact hz)).2
                          cases h2 : (xs.take k).any (hasP z) with
                          | false => rfl
                          | true => exact absurd ((HM.out z).2 h2) h1
                        rw [hbase, hfree]; rfl)
                      have HSM := Lib.hid (show ∀ z, z ∈ S3 ↔ (xs.take (k + 1)).any (hasP z) = true from fun z => by
                        rw [take_succ_get xs k hlt, List.any_append, Bool.or_eq_true, ← HM.out z, H3.out z, hme]
                        simp [hasP])
                      have HNN := Lib.hid (show n3 ≤ sumI (xs.take (k + 1)) by
                        rw [sumI_take_succ hlt]
                        have h1 := HN3.out
                        have h2 := HNS.out
                        omega)
                      clear hme
                      go_wp2_with fail
                      go_roundw
                      case rel => exact ⟨k + 1, n3, S3, by omega, by go_num, range_next HA.out HOK.out, hO3, HNN.out, HSM.out, hb5⟩
                      case measure => simp [intOf]; omega
    · have hke : xs.length ≤ k := by omega
      have HV := Lib.hid (goodA_all (ps := xs) (by have := HA.out; rwa [show k = xs.length by omega] at this))
      go_wp2_with fail
      go_returns
      exact ⟨ret_bool HV.out, hb⟩
end Go.Proofs.YtpjnlcppjcnlgaaGreatDoor
