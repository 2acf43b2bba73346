/- Contract of l19Add: the reference's function that gives an owner some more of an item, or fewer. No condition but the sizes. -/
import Derived.Test.YtebkfcdijjcefaaHoMv
import Derived.Test.YtebkfcdijjcefaaAppH
namespace Go.Proofs.Ytebkfcdijjcefaa
set_option linter.unusedVariables false
set_option linter.unusedSimpArgs false
open Go.RowKit
attribute [local irreducible] wpQuiet
theorem keepZ_len (h : Hold) : (keepZ h).length ≤ 1 := by unfold keepZ; split <;> simp
theorem addF_len (xs : List Hold) (o : ByteArray) (z n : Int) : ∀ k, k ≤ xs.length → (addF xs o z n k).1.length ≤ 2 * k
  | 0, _ => by simp [addF]
  | k + 1, h => by
    have ih := addF_len xs o z n k (by omega)
    rw [addF_next (by omega)]
    unfold addS
    have h1 := keepZ_len (xs[k]'(by omega))
    have h2 := keepZ_len ((xs[k]'(by omega)).plus n)
    split
    · split
      · simp only [List.length_append]; omega
      · simp only [List.length_append, List.length_cons, List.length_nil]; omega
    · simp only [List.length_append]; omega
theorem OutR.setO {α : Type} {enc : α → List Value} {k : Nat} {E : TypeId} {base p j : Nat} {v : Value} {ys : List α} {w : World} {u : Value} (h : OutR enc k E base v ys w) (hp : v.ownBlock ≠ some p) : OutR enc k E base v ys (w.setCell ⟨p, j, none⟩ u) := by
  have hgr : w.grownBy (w.setCell ⟨p, j, none⟩ u) (some p) := ⟨rfl, rfl, rfl, by simp [World.setCell], fun k hk hne => Below.heap_setCell _ _ _ _ (by simp only; intro e; exact hne (by rw [e]))⟩
  exact h.kept_ hgr (fun g hg e => by injection e with e; subst e; exact hp hg)
theorem cell_grown {w w' : World} {b : Option Nat} {p j : Nat} {u : Value} (hg : w.grownBy w' b) (hp : p < w.heap.size) (hne : b ≠ some p) (h : w.cell? ⟨p, j, none⟩ = some u) : w'.cell? ⟨p, j, none⟩ = some u :=
  (World.cell?_of_block (w := w) (a := ⟨p, j, none⟩) (hg.block p hp (fun e => hne e.symm))).trans h
set_option maxRecDepth 100000 in
set_option maxHeartbeats 1600000 in
theorem l19Add_c (xs : List Hold) (A : Option Addr) (c : Nat) (o : ByteArray) (z n : Int) (w : World) (hr : Rd encHold 3 w.heap.size w A xs) (hn : xs.length ≤ 100000) (hcb : ∀ x ∈ xs, -1000000000 ≤ x.count ∧ x.count ≤ 1000000000) (hn0 : -10 ≤ n) (hn1 : n ≤ 10) :
    Calls Try.prog 34 #[.slice A xs.length c, .string o, .int .i64 z, .int .i64 n] w (RetG encHold 3 41 w.heap.size (addH xs o z n) w) := by
  have HB := Lib.hid hcb
  clear hcb
  have HV := Lib.hid (show addH xs o z n = (addF xs o z n xs.length).1 ++ (if (addF xs o z n xs.length).2 = true then [] else [⟨o, z, n⟩]) from rfl)
  go_enter Try.func34, Try.ntmps34
  have hO0 := OutR.empty (enc := encHold) (k := 3) (E := 41) (base := w.heap.size) w (Nat.le_refl _)
  have hb0 := (Below.refl w.heap.size w).alloc (Nat.le_refl _) (.cells #[] 41)
  go_wp2_with fail
  go_loopw [9, 10, 11] (fun u v i wr => ∃ k : Nat, k ≤ xs.length ∧ i = .int .i64 k ∧ OutR encHold 3 41 w.heap.size u (addF xs o z n k).1 wr ∧ v = .bool (addF xs o z n k).2 ∧ Below w.heap.size w wr) (fun _ _ i _ => xs.length - (intOf i).toNat)
  case atStart => exact ⟨0, Nat.zero_le _, rfl, hO0, rfl, hb0⟩
  case round =>
    obtain ⟨k, hk, rfl, ho, rfl, hb⟩ := hrel
    clear hO0 hb0
    by_cases hlt : k < xs.length
    · obtain ⟨bk, off, rfl, hbs, d0, d1, d2⟩ := (hr.below hb).atHold hlt
      have hl := addF_len xs o z n k hk
      have hcx := HB.out _ (List.getElem_mem hlt)
      have HN := Lib.hid (addF_next (o := o) (z := z) (n := n) hlt)
      generalize addF xs o z n k = acc at *
      obtain ⟨L, P⟩ := acc
      simp only at ho hl HN ⊢
      obtain ⟨X, hX⟩ : ∃ X, xs[k] = X := ⟨_, rfl⟩
      rw [hX] at d0 d1 d2 hcx HN
      clear hX
      obtain ⟨hc0, hc1⟩ := hcx
      have hi0 : (0 : Int) ≤ (k : Int) := by omega
      have hi1 : (k : Int) < (xs.length : Int) := by omega
      go_upto_region 7 with fail
      have hW := New.of wr [.string X.owner, .int .i64 X.item, .int .i64 X.count] 41
      have hfz := fun q => World.frozen?_alloc_new wr #[.string X.owner, .int .i64 X.item, .int .i64 X.count] 41 q
      have hlo := ho.lt_
      have hbz := hb.size
      generalize wr.alloc (.cells #[.string X.owner, .int .i64 X.item, .int .i64 X.count] 41) = W at *
      obtain ⟨hWb, hWl, hWc⟩ := hW
      have e0 := hWc 0 _ rfl
      have e1 := hWc 1 _ rfl
      have e2 := hWc 2 _ rfl
      have f2 := hfz 2
      have ho := ho.below hWb
      have hb := hb.trans (hWb.mono hb.size)
      obtain ⟨p, hp⟩ : ∃ p, wr.heap.size = p := ⟨_, rfl⟩
      rw [hp] at hWl e0 e1 e2 f2 hlo hbz ⊢
      clear hWc hfz hWb hp d0 d1 d2
      have hup : u9.ownBlock ≠ some p := fun e => by have := hlo p e; omega
      clear hlo
      go_cut [32] (fun v wx => v = .bool (!P && !(X.pre o z)) ∧ Below W.heap.size W wx)
      case first =>
        have HP := Lib.hid (show X.pre o z = decide (befI X.owner o X.item z < 0) from rfl)
        cases P
        · obtain ⟨q, hq⟩ : ∃ q, X.pre o z = q := ⟨_, rfl⟩
          have HQ := Lib.hid hq
          rw [HP.out] at hq
          cases q
          · go_wp2_with (go_at_call 54; refine (l19Before_c X o z _).mono ?_; rw [hq]; rintro e w2 ⟨rfl, hb2⟩)
            go_meet
            exact ⟨by rw [HQ.out]; rfl, hb2⟩
          · go_wp2_with (go_at_call 54; refine (l19Before_c X o z _).mono ?_; rw [hq]; rintro e w2 ⟨rfl, hb2⟩)
            go_meet
            exact ⟨by rw [HQ.out]; rfl, hb2⟩
        · go_wp2_with fail
          go_meet
          exact ⟨rfl, Below.refl _ _⟩
      case rest =>
      obtain ⟨hcv, hb2⟩ := hcut
      subst hcv
      have e0 := (hb2.cell (p := ⟨p, 0, none⟩) hWl).trans e0
      have e1 := (hb2.cell (p := ⟨p, 1, none⟩) hWl).trans e1
      have e2 := (hb2.cell (p := ⟨p, 2, none⟩) hWl).trans e2
      have f2 := (hb2.frozen (p := ⟨p, 2, none⟩) hWl).trans f2
      have ho := ho.below hb2
      have hb := below_step hb hb2
      have hpl := Nat.lt_of_lt_of_le hWl hb2.size
      have hbz2 := hb.size
      clear hb2 hWl
      obtain ⟨T, hT⟩ : ∃ T, (!P && !(X.pre o z)) = T := ⟨_, rfl⟩
      rw [hT]
      have HT := Lib.hid hT
      clear hT
      obtain ⟨w2, hw2⟩ : ∃ w2, wc = w2 := ⟨_, rfl⟩
      rw [hw2] at e0 e1 e2 f2 ho hb hpl hbz2 ⊢
      clear hw2
      go_upto_if 32 with fail
      go_cut [9, 10] (fun u v wx => ∃ (L1 : List Hold) (b' : Bool) (C : Int), OutR encHold 3 41 w.heap.size u L1 wx ∧ v = .bool b' ∧ wx.cell? ⟨p, 0, none⟩ = some (.string X.owner) ∧ wx.cell? ⟨p, 1, none⟩ = some (.int .i64 X.item) ∧ wx.cell? ⟨p, 2, none⟩ = some (.int .i64 C) ∧ p < wx.heap.size ∧ Hid (addF xs o z n (k + 1) = (L1 ++ keepZ ⟨X.owner, X.item, C⟩, b')) ∧ L1.length ≤ 2 * k + 1 ∧ Below w.heap.size w wx ∧ u.ownBlock ≠ some p)
      case first =>
        cases T
        · have HE := Lib.hid (show addF xs o z n (k + 1) = (L ++ keepZ ⟨X.owner, X.item, X.count⟩, P) by
            rw [HN.out]
            have h := HT.out
            have : ¬ (P = false ∧ X.pre o z = false) := by rintro ⟨h1, h2⟩; rw [h1, h2] at h; cases h
            simp only [addS]
            rw [if_neg this])
          go_wp2_with fail
          go_meet
          exact ⟨L, P, X.count, ho, rfl, e0, e1, e2, hpl, HE.out, by omega, hb, hup⟩
        · have HQ : Hid (X.pre o z = false) := Lib.hid (by have := HT.out; simp at this; exact this.2)
          have hP : P = false := by have := HT.out; simp at this; exact this.1
          subst hP
          by_cases h0 : X.owner = o
          · have h0' : (X.owner.toList == o.toList) = true := by rw [toList_beq]; simpa using h0
            by_cases h1 : X.item = z
            · have h1' : (X.item == z) = true := by simpa using h1
              have HE := Lib.hid (show addF xs o z n (k + 1) = (L ++ keepZ ⟨X.owner, X.item, X.count + n⟩, true) by
                rw [HN.out]
                have ha : X.at_ o z = true := at_iff.2 ⟨h0, h1⟩
                simp [addS, HQ.out, ha, Hold.plus])
              clear h0 h1
              go_wp2_with fail
              have hs2 := World.cell?_setCell_same w2 ⟨p, 2, none⟩ (.int .i64 (X.count + n)) e2
              have hs0 := (World.cell?_setCell_other w2 ⟨p, 2, none⟩ ⟨p, 0, none⟩ (.int .i64 (X.count + n)) (by simp)).trans e0
              have hs1 := (World.cell?_setCell_other w2 ⟨p, 2, none⟩ ⟨p, 1, none⟩ (.int .i64 (X.count + n)) (by simp)).trans e1
              go_meet
              exact ⟨L, true, X.count + n, ho.setO hup, rfl, hs0, hs1, hs2, by simpa [World.setCell] using hpl, HE.out, by omega, hb.setCell (p := ⟨p, 2, none⟩) hbz _, hup⟩
            · have h1' : (X.item == z) = false := by simpa using h1
              have HE := Lib.hid (show addF xs o z n (k + 1) = (L ++ [⟨o, z, n⟩] ++ keepZ ⟨X.owner, X.item, X.count⟩, true) by
                rw [HN.out]
                have ha : ¬ X.at_ o z = true := fun h => h1 (at_iff.1 h).2
                simp [addS, HQ.out, ha])
              clear h0 h1
              go_wp2_with (at_builtin; refine wp_appW rfl (.tmp 48) (.tmp 53) _ rfl 41 (.agg #[.string ⟨#[]⟩, .int .i64 0, .int .i64 0]) 3 32 Try.underlying24 infoHold rfl (by decide) encHold_len oneHold_ (base := w.heap.size) (m := 1) (ys := L) (zs := [(⟨o, z, n⟩ : Hold)]) rfl rfl rfl (ho.below ((Below.refl _ _).alloc (Nat.le_refl _) _)) (rd_new (x := (⟨o, z, n⟩ : Hold)) (vs := [.string o, .int .i64 z, .int .i64 n]) rfl rfl) (by omega) (by omega) (by simp; omega) ?_; intro v6 w6 ho6 hg6 hd6)
              have hA := (Below.refl w2.heap.size w2).alloc (Nat.le_refl _) (.cells #[.string o, .int .i64 z, .int .i64 n] 41)
              have hq := Nat.lt_of_lt_of_le hpl hA.size
              have g0 := cell_grown hg6 hq hup ((hA.cell (p := ⟨p, 0, none⟩) hpl).trans e0)
              have g1 := cell_grown hg6 hq hup ((hA.cell (p := ⟨p, 1, none⟩) hpl).trans e1)
              have g2 := cell_grown hg6 hq hup ((hA.cell (p := ⟨p, 2, none⟩) hpl).trans e2)
              have hb6 := below_grown (hb.alloc hbz2 (.cells #[.string o, .int .i64 z, .int .i64 n] 41)) (Nat.le_refl _) hg6 ho.from_
              have hsz6 := hg6.size
              have hu6 : v6.ownBlock ≠ some p := fun e => by
                rcases hd6 with hd | hd
                · exact hup (hd ▸ e)
                · have h2 := e.symm.trans hd
                  injection h2 with h2
                  simp at h2
                  omega
              go_wp2_with fail
              go_meet
              exact ⟨_, true, X.count, ho6, rfl, g0, g1, g2, Nat.lt_of_lt_of_le hq hsz6, HE.out, by simp; omega, hb6, hu6⟩
          · have h0' : (X.owner.toList == o.toList) = false := by rw [toList_beq]; simpa using h0
            have HE := Lib.hid (show addF xs o z n (k + 1) = (L ++ [⟨o, z, n⟩] ++ keepZ ⟨X.owner, X.item, X.count⟩, true) by
              rw [HN.out]
              have ha : ¬ X.at_ o z = true := fun h => h0 (at_iff.1 h).1
              simp [addS, HQ.out, ha])
            clear h0
            go_wp2_with (at_builtin; refine wp_appW rfl (.tmp 48) (.tmp 53) _ rfl 41 (.agg #[.string ⟨#[]⟩, .int .i64 0, .int .i64 0]) 3 32 Try.underlying24 infoHold rfl (by decide) encHold_len oneHold_ (base := w.heap.size) (m := 1) (ys := L) (zs := [(⟨o, z, n⟩ : Hold)]) rfl rfl rfl (ho.below ((Below.refl _ _).alloc (Nat.le_refl _) _)) (rd_new (x := (⟨o, z, n⟩ : Hold)) (vs := [.string o, .int .i64 z, .int .i64 n]) rfl rfl) (by omega) (by omega) (by simp; omega) ?_; intro v6 w6 ho6 hg6 hd6)
            have hA := (Below.refl w2.heap.size w2).alloc (Nat.le_refl _) (.cells #[.string o, .int .i64 z, .int .i64 n] 41)
            have hq := Nat.lt_of_lt_of_le hpl hA.size
            have g0 := cell_grown hg6 hq hup ((hA.cell (p := ⟨p, 0, none⟩) hpl).trans e0)
            have g1 := cell_grown hg6 hq hup ((hA.cell (p := ⟨p, 1, none⟩) hpl).trans e1)
            have g2 := cell_grown hg6 hq hup ((hA.cell (p := ⟨p, 2, none⟩) hpl).trans e2)
            have hb6 := below_grown (hb.alloc hbz2 (.cells #[.string o, .int .i64 z, .int .i64 n] 41)) (Nat.le_refl _) hg6 ho.from_
            have hsz6 := hg6.size
            have hu6 : v6.ownBlock ≠ some p := fun e => by
              rcases hd6 with hd | hd
              · exact hup (hd ▸ e)
              · have h2 := e.symm.trans hd
                injection h2 with h2
                simp at h2
                omega
            go_wp2_with fail
            go_meet
            exact ⟨_, true, X.count, ho6, rfl, g0, g1, g2, Nat.lt_of_lt_of_le hq hsz6, HE.out, by simp; omega, hb6, hu6⟩
      case rest =>
        have hpl2 := hpl
        clear hpl
        obtain ⟨L1, b', C, ho1, hv, g0, g1, g2, hpl, HE, hl1, hb1, hu1⟩ := hcut
        subst hv
        clear ho hb e0 e1 e2 f2 hpl2 hup hbz2 hl
        have hbz1 := hb1.size
        by_cases hC : C = 0
        · have hk0 : keepZ ⟨X.owner, X.item, C⟩ = [] := by unfold keepZ; rw [if_pos hC]
          have HE2 := Lib.hid (show addF xs o z n (k + 1) = (L1, b') by rw [HE.out, hk0, List.append_nil])
          have hC' : (C != 0) = false := by simpa using hC
          clear hk0 hC
          go_wp2_with fail
          go_roundw
          case rel => exact ⟨k + 1, by omega, by go_num, by rw [HE2.out]; exact ho1, by rw [HE2.out], hb1⟩
          case measure => simp [intOf]; omega
        · have hk0 : keepZ ⟨X.owner, X.item, C⟩ = [⟨X.owner, X.item, C⟩] := by unfold keepZ; rw [if_neg hC]
          have HE2 := Lib.hid (show addF xs o z n (k + 1) = (L1 ++ [⟨X.owner, X.item, C⟩], b') by rw [HE.out, hk0])
          have hC' : (C != 0) = true := by simpa using hC
          clear hk0 hC
          go_wp2_with (at_builtin; refine wpList_app rfl (.tmp 58) (.tmp 60) _ rfl 41 (.agg #[.string ⟨#[]⟩, .int .i64 0, .int .i64 0]) 3 32 Try.underlying24 infoHold rfl (by decide) encHold_len oneHold_ (base := w.heap.size) (m := 1) (ys := L1) (zs := [(⟨X.owner, X.item, C⟩ : Hold)]) rfl rfl rfl (ho1.below ((Below.refl _ _).alloc (Nat.le_refl _) _)) (rd_new (x := (⟨X.owner, X.item, C⟩ : Hold)) (vs := [.string X.owner, .int .i64 X.item, .int .i64 C]) rfl rfl) (by omega) (by omega) (by simp; omega) ?_; intro v7 w7 ho7 hb7)
          have hb7 := (hb1.alloc hbz1 (.cells #[.string X.owner, .int .i64 X.item, .int .i64 C] 41)).trans hb7
          go_roundw
          case rel => exact ⟨k + 1, by omega, by go_num, by rw [HE2.out]; exact ho7, by rw [HE2.out], hb7⟩
          case measure => simp [intOf]; omega
    · obtain rfl : k = xs.length := by omega
      have hl := addF_len xs o z n xs.length (Nat.le_refl _)
      generalize addF xs o z n xs.length = acc at *
      obtain ⟨L, P⟩ := acc
      simp only at ho hl HV ⊢
      have hbz := hb.size
      cases P
      · have HV2 := Lib.hid (show addH xs o z n = L ++ [⟨o, z, n⟩] by rw [HV.out]; simp)
        go_wp2_with (at_builtin; refine wpList_app rfl (.tmp 64) (.tmp 69) _ rfl 41 (.agg #[.string ⟨#[]⟩, .int .i64 0, .int .i64 0]) 3 32 Try.underlying24 infoHold rfl (by decide) encHold_len oneHold_ (base := w.heap.size) (m := 1) (ys := L) (zs := [(⟨o, z, n⟩ : Hold)]) rfl rfl rfl (ho.below ((Below.refl _ _).alloc (Nat.le_refl _) _)) (rd_new (x := (⟨o, z, n⟩ : Hold)) (vs := [.string o, .int .i64 z, .int .i64 n]) rfl rfl) (by omega) (by omega) (by simp; omega) ?_; intro v7 w7 ho7 hb7)
        have hb7 := (hb.alloc hbz (.cells #[.string o, .int .i64 z, .int .i64 n] 41)).trans hb7
        rw [← HV2.out] at ho7
        obtain ⟨A8, c8, rfl, _, _⟩ := ho7.own encHold_len
        go_wp2_with fail
        go_returns
        exact ⟨A8, c8, rfl, ho7, hb7⟩
      · have HV2 := Lib.hid (show addH xs o z n = L by rw [HV.out]; simp)
        rw [← HV2.out] at ho
        obtain ⟨A8, c8, rfl, _, _⟩ := ho.own encHold_len
        go_wp2_with fail
        go_returns
        exact ⟨A8, c8, rfl, ho, hb⟩
end Go.Proofs.Ytebkfcdijjcefaa
