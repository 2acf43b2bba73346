/- Contract of the draw of holdings: some within bounds; only the reader's own block is turned. No condition. -/
import Derived.Test.YtebkfcdijjcefaaDoorHoDraw
import Derived.Test.YtebkfcdijjcefaaDoorOwnR
import Derived.Test.YtebkfcdijjcefaaDoorAppH
import Derived.Deep.CutBlock
import Derived.Deep.RegionHeld3
namespace Go.Proofs.YtebkfcdijjcefaaDoor
set_option linter.unusedVariables false
set_option linter.unusedSimpArgs false
open Go.RowKit
attribute [local irreducible] wpQuiet
theorem step_appW {α : Type} {P : Program} {ops : Array Oper} {o : Oper} {a : Act} {K : Act → World → Prop} {Q : Exit → Act → World → Prop} {D : Prop} {w : World} (hgd : o.guard = none) (s x : Operand) (t : TypeId)
    (ho : o.op = .call { callee := .builtin .append, args := #[s, x], argTypes := #[t, t] }) (E : TypeId) (z : Value) (k bytes : Nat) (ht : P.underlying t = some (.slice E))
    (hi : (P.info? E).map (fun i => (i.zero, i.size, i.bytes)) = some (some z, k, bytes)) (hzs : z.cells.size = k) (hk : 0 < k)
    {enc : α → List Value} (hl : ∀ x, (enc x).length = k) (h1 : ∀ x, ∀ u ∈ enc x, u.oneCell' = true) {base B : Nat} {v : Value} {ys zs : List α} {A : Option Addr} {m c : Nat} (hs : a.eval s = v) (hx : a.eval x = .slice A m c) (hm : m = zs.length) (hown : OutR enc k E base v ys w) (hr : Rd enc k B w A zs)
    (hlen : (ys.length + m) * bytes ≤ 140737488355328) (hle : ys.length + m ≤ 9223372036854775807) (hbase : base ≤ w.heap.size)
    (h : ∀ v' w', OutR enc k E base v' (ys ++ zs) w' → w.grownBy w' v.ownBlock → (v'.ownBlock = v.ownBlock ∨ v'.ownBlock = some w.heap.size) → K (a.put o.dst v') w') : if Region.wanted o (yielded ops a.tmps) = true then Oper.wp P o a w K Q else D := by
  have hw : Region.wanted o (yielded ops a.tmps) = true := by simp [Region.wanted, hgd]
  rw [if_pos hw]
  obtain ⟨v', w', hrun, h2, h3, h4⟩ : ∃ v' w', (Builtin.append_ #[t, t] o.type #[v, .slice A m c]).run P w = .ok v' w' ∧ OutR enc k E base v' (ys ++ zs) w' ∧ w.grownBy w' v.ownBlock ∧ (v'.ownBlock = v.ownBlock ∨ v'.ownBlock = some w.heap.size) := by
    subst hm
    obtain ⟨i0, hi0, hz0, hz1, hz2⟩ := info_parts hi
    rcases A with _ | ad
    · have hz : zs = [] := by
        cases zs with
        | nil => rfl
        | cons z zs => obtain ⟨b, off, hA, _⟩ := hr (by simp); cases hA
      subst hz
      exact ⟨v, w, run_app_nil base t o.type E i0 k ht hi0 v ys.length (ys.flatMap enc) hown c, by simpa using hown, World.grownBy.refl w _, .inl rfl⟩
    · obtain ⟨v', w', hrun, h2, h3, _, h5⟩ := run_append_own_at (P := P) (w := w) base t o.type E i0 z k bytes ht hi0 hz0 hz1 hz2 hzs hk v ys.length (ys.flatMap enc) hown ad zs.length c (zs.flatMap enc) (flat_len hl zs) (rd_cells hl hk hr)
        (fun u hu => by obtain ⟨x, _, hx⟩ := List.mem_flatMap.1 hu; exact h1 x u hx) (by unfold maxLen; omega) hlen hbase
      refine ⟨v', w', hrun, ?_, h3, h5⟩
      unfold OutR
      rw [List.length_append, List.flatMap_append]
      exact h2
  unfold Oper.wp execOp
  simp only [ho, resolve, invoke, builtin, Sem.run_bind, Sem.run_pure, Result.andThen_ok, List.map_toArray, List.map_cons, List.map_nil, hs, hx, hrun]
  exact h v' w' h2 h3 h4
section
variable {α : Type} {enc : α → List Value} {k : Nat} {E : TypeId} {base : Nat} {v : Value} {ys : List α} {w w' : World}
theorem OutR.grow (h : OutR enc k E base v ys w) (hle : base ≤ w.heap.size) (hg : w.grownBy w' v.ownBlock) : Below base w w' := below_grown (Below.refl _ _) hle hg (fun g e => (World.ownsRow.lt h g e).1)
end
theorem rd_grown {α : Type} {enc : α → List Value} {k q : Nat} {w w' : World} {b : Option Nat} {zs : List α} (h : Rd enc k w.heap.size w (some ⟨q, 0, none⟩) zs) (hg : w.grownBy w' b) (hne : b ≠ some q) : Rd enc k w'.heap.size w' (some ⟨q, 0, none⟩) zs := fun hn => by
  obtain ⟨b', off, hA, hb, hc⟩ := h hn
  injection hA with hA; injection hA with h1 h2
  subst h1 h2
  have hk := hg.block q hb (fun e => hne e.symm)
  exact ⟨q, 0, rfl, Nat.lt_of_lt_of_le hb hg.size, fun i x hx j v hv => (World.cell?_of_block (w := w) (a := ⟨q, _, none⟩) hk).trans (hc i x hx j v hv)⟩
theorem cell_fr {g b o : Nat} {a w : World} (h : Fr g (g + 1) a w) (hb : b < a.heap.size) (hne : b ≠ g) : w.cell? ⟨b, o, none⟩ = a.cell? ⟨b, o, none⟩ := World.cell?_of_block (w := a) (a := ⟨b, _, none⟩) (h.block b hb (by omega))
theorem OutR.setHold {g n c i base : Nat} {E : TypeId} {ys : List Hold} {w : World} {o : ByteArray} {a b : Int} (h : OutR encHold 3 E base (.slice (some ⟨g, 0, none⟩) n c) ys w) (hi : i < ys.length) : OutR encHold 3 E base (.slice (some ⟨g, 0, none⟩) n c) (ys.set i ⟨o, a, b⟩) (((w.setCell ⟨g, i * 3, none⟩ (.string o)).setCell ⟨g, i * 3 + 1, none⟩ (.int .i64 a)).setCell ⟨g, i * 3 + 2, none⟩ (.int .i64 b)) := by
  have h1 := h.cellSetR (j := 0) (u := .string o) (m' := ⟨o, ys[i].item, ys[i].count⟩) encHold_len hi (by omega) rfl
  have h2 := h1.cellSetR (i := i) (j := 1) (u := .int .i64 a) (m' := ⟨o, a, ys[i].count⟩) encHold_len (by simpa using hi) (by omega) (by rw [List.getElem_set_self]; rfl)
  have h3 := h2.cellSetR (i := i) (j := 2) (u := .int .i64 b) (m' := ⟨o, a, b⟩) encHold_len (by simpa using hi) (by omega) (by rw [List.getElem_set_self]; rfl)
  simpa using h3
theorem OutR.at3 {q n m c base : Nat} {E : TypeId} {xs : List Hold} {w : World} (h : OutR encHold 3 E base (.slice (some ⟨q, 0, none⟩) m c) xs w) (hi : n < xs.length) : q < w.heap.size ∧ (∀ o, w.frozen? ⟨q, o, none⟩ = false) ∧ w.cell? ⟨q, n * 3, none⟩ = some (.string xs[n].owner) ∧ w.cell? ⟨q, n * 3 + 1, none⟩ = some (.int .i64 xs[n].item) ∧ w.cell? ⟨q, n * 3 + 2, none⟩ = some (.int .i64 xs[n].count) := by
  obtain ⟨q', c', hv, _, _, hql, hqf, hcell⟩ := h.openedR encHold_len (by omega)
  injection hv with hA
  injection hA with hA
  injection hA with hA
  subst hA
  exact ⟨hql, hqf, hcell n xs[n] (List.getElem?_eq_getElem hi) 0 _ rfl, hcell n xs[n] (List.getElem?_eq_getElem hi) 1 _ rfl, hcell n xs[n] (List.getElem?_eq_getElem hi) 2 _ rfl⟩
theorem ok_set {xs : List Hold} {n : Nat} {y : Hold} (h : ∀ x ∈ xs, OkH x) (hy : OkH y) : ∀ x ∈ xs.set n y, OkH x := fun x hx => by
  rcases List.mem_or_eq_of_mem_set hx with h' | rfl
  · exact h x h'
  · exact hy
theorem infoHoldH : (Tryd.prog.info? 30).map (fun i => (i.zero, i.size, i.bytes)) = some (some (.agg #[.string ⟨#[]⟩, .int .i64 0, .int .i64 0]), 3, 32) := by kernel_rfl
theorem oneHoldH (x : Hold) : ∀ u ∈ encHold x, u.oneCell' = true := by
  intro u hu
  simp [encHold] at hu
  rcases hu with rfl | rfl | rfl <;> rfl
def WN : List ByteArray := [⟨#[97, 110, 110, 97]⟩, ⟨#[98, 111]⟩, ⟨#[99, 97, 114, 108]⟩]
set_option maxRecDepth 100000 in
set_option maxHeartbeats 1600000 in
theorem holds19_c (g m : Nat) (w : World) (h : Cur g m w) (hm : m ≤ 1099500000000) :
    Calls Tryd.prog 42 #[.pointer (some ⟨g, 0, none⟩)] w fun e w' => ∃ (A : Option Addr) (c : Nat) (xs : List Hold), e = .returned (.slice A xs.length c) ∧ xs.length ≤ 100 ∧ (∀ x ∈ xs, OkH x) ∧ Own encHold 3 w.heap.size w'.heap.size w' A xs ∧ Fr g (g + 1) w w' ∧ Cur g (m + 1000) w' := by
  have hg := h.1
  go_enter Tryd.func42, Tryd.ntmps42
  go_wp2_with fail
  have hO0 := (OutR.empty (enc := encHold) (k := 3) (E := 30) w (Nat.le_refl _)).below ((Below.refl _ _).alloc (Nat.le_refl _) (.cells #[.string ⟨#[97, 110, 110, 97]⟩, .string ⟨#[98, 111]⟩, .string ⟨#[99, 97, 114, 108]⟩] 9))
  have hS0 : Rd encS 1 ((w.alloc (.cells #[] 30)).alloc (.cells #[.string ⟨#[97, 110, 110, 97]⟩, .string ⟨#[98, 111]⟩, .string ⟨#[99, 97, 114, 108]⟩] 9)).heap.size ((w.alloc (.cells #[] 30)).alloc (.cells #[.string ⟨#[97, 110, 110, 97]⟩, .string ⟨#[98, 111]⟩, .string ⟨#[99, 97, 114, 108]⟩] 9)) (some ⟨w.heap.size + 1, 0, none⟩) WN := by
    have e := rd_litS (w.alloc (.cells #[] 30)) WN 9
    rw [show (w.alloc (.cells #[] 30)).heap.size = w.heap.size + 1 by simp] at e
    exact e
  have hf0 := fr_alloc (fr_alloc (Fr.refl g (g + 1) w) (.cells #[] 30)) (.cells #[.string ⟨#[97, 110, 110, 97]⟩, .string ⟨#[98, 111]⟩, .string ⟨#[99, 97, 114, 108]⟩] 9)
  have hc0 := (h.alloc (.cells #[] 30)).alloc (.cells #[.string ⟨#[97, 110, 110, 97]⟩, .string ⟨#[98, 111]⟩, .string ⟨#[99, 97, 114, 108]⟩] 9)
  have hne : w.heap.size + 1 ≠ g := by omega
  have HNE : Hid (∀ b off, (some ⟨w.heap.size + 1, 0, none⟩ : Option Addr) = some ⟨b, off, none⟩ → b ≠ g) := Lib.hid (new_neP (by omega))
  go_loopw [3, 5] (fun u i wr => ∃ (xs : List Hold) (k : Nat), OutR encHold 3 30 w.heap.size u xs wr ∧ u.ownBlock ≠ some (w.heap.size + 1) ∧ Rd encS 1 wr.heap.size wr (some ⟨w.heap.size + 1, 0, none⟩) WN ∧ i = .int .i64 k ∧ k ≤ 3 ∧ xs.length ≤ 5 * k ∧ (∀ x ∈ xs, OkH x) ∧ Fr g (g + 1) w wr ∧ Cur g (m + 40 * k) wr) (fun _ i _ => 3 - (intOf i).toNat)
  case atStart => exact ⟨[], 0, hO0, by simp [Value.ownBlock], hS0, rfl, by omega, by simp, by simp, hf0, hc0⟩
  case round =>
    obtain ⟨xs, k, hO, hu, hS, rfl, hk, hl, hok, hf, hc⟩ := hrel
    clear hO0 hS0 hf0 hc0
    have HK := Lib.hid hok
    clear hok
    by_cases hk3 : (k : Int) < 3
    · go_wp2_with fail
      refine (pick_c g _ 6 _ hc (by omega) (by decide)).mono ?_
      rintro e w1 ⟨N0, rfl, hN0, _, hN1, _, hf1, hc1⟩
      have hN1 := hN1 (by decide)
      obtain ⟨N, rfl⟩ := Int.eq_ofNat_of_zero_le hN0
      have hO1 := hO.fr hf1 hg
      have hS1 := hS.fr HNE.out hf1
      have hf1 := hf.trans hf1
      clear hO hf hc hS
      go_wp2_with fail
      go_loopw [3, 6, 7] (fun u a n wr => ∃ (ys : List Hold) (z : Int) (j : Nat), OutR encHold 3 30 w.heap.size u ys wr ∧ u.ownBlock ≠ some (w.heap.size + 1) ∧ Rd encS 1 wr.heap.size wr (some ⟨w.heap.size + 1, 0, none⟩) WN ∧ a = .int .i64 z ∧ n = .int .i64 j ∧ j ≤ 5 ∧ 0 ≤ z ∧ z + 3 * j ≤ 15 ∧ ys.length + j ≤ 5 * k + 5 ∧ (∀ x ∈ ys, OkH x) ∧ Fr g (g + 1) w wr ∧ Cur g (m + 40 * k + 38 - 7 * j) wr) (fun _ _ n _ => (intOf n).toNat)
      case atStart => exact ⟨xs, 0, N, hO1, hu, hS1, rfl, rfl, by omega, by omega, by omega, by omega, HK.out, hf1, hc1.more (by omega)⟩
      case round =>
        obtain ⟨ys, z, j, hO, hu, hS, rfl, rfl, hj, hz0, hz1, hyl, hok, hf, hc⟩ := hrel
        clear hO1 hS1 hf1 hc1
        have HY := Lib.hid hok
        clear hok
        by_cases hj0 : (0 : Int) < (j : Int)
        · go_wp2_with fail
          refine (pick_c g _ 3 _ hc (by omega) (by decide)).mono ?_
          rintro e w2 ⟨r, rfl, hr0, _, hr1, _, hf2, hc2⟩
          have hr1 := hr1 (by decide)
          have hO2 := hO.fr hf2 hg
          have hS2 := hS.fr HNE.out hf2
          have hf2 := hf.trans hf2
          clear hO hf hc hS
          go_wp2_with fail
          refine (pick_c g _ 200 _ hc2 (by omega) (by decide)).mono ?_
          rintro e w3 ⟨q, rfl, hq0, _, hq1, _, hf3, hc3⟩
          have hq1 := hq1 (by decide)
          have hO3 := hO2.fr hf3 hg
          have hS3 := hS2.fr HNE.out hf3
          have hf3 := hf2.trans hf3
          clear hO2 hf2 hc2 hS2
          have hq2 : 0 ≤ q / 199 := by omega
          have hq3 : q / 199 ≤ 1 := by omega
          obtain ⟨bO, oO, hbe, hbl, d0⟩ := hS3.str (i := k) (by simp [WN]; omega)
          obtain ⟨rfl, rfl⟩ := addr_eq hbe
          rw [Nat.zero_add] at d0
          have hX : (WN[k]'(by simp [WN]; omega)).size ≤ 10 := (show ∀ x ∈ WN, x.size ≤ 10 by decide) _ (List.getElem_mem _)
          generalize (WN[k]'(by simp [WN]; omega)) = X at d0 hX
          have HS3 := Lib.hid hS3
          have HO3 := Lib.hid hO3
          have HU := Lib.hid hu
          clear hS3 hbe hO3 hu
          go_upto_region 11 with fail
          go_region_held3 (fun W => W.cell? ⟨w.heap.size + 1, k, none⟩ = some (.string X)) (first | exact d0 | assumption | exact (((Below.refl _ _).alloc (Nat.le_refl _) _).drew.cell (p := ⟨w.heap.size + 1, k, none⟩) hbl).trans d0 | exact (((Below.refl _ _).alloc (Nat.le_refl _) _).cell (p := ⟨w.heap.size + 1, k, none⟩) hbl4).trans d4 | exact d6) (first
            | (go_at_call 58; refine (among_c g _ [1, 1, 2, 2, 3, 99] _ 6 _ (show Cur g _ (w3.alloc (.cells #[.int .i64 1, .int .i64 1, .int .i64 2, .int .i64 2, .int .i64 3, .int .i64 99] 3)).drew from hc3.alloc _) (by omega) (rd_litI w3 [1, 1, 2, 2, 3, 99] 3) (new_ne hc3.1) (by decide) (by decide)).mono ?_; rintro e w4 ⟨v, rfl, hv, hf4, hc4⟩; have hbl4 : w.heap.size + 1 < w4.heap.size := Nat.lt_of_lt_of_le (Nat.lt_of_lt_of_le hbl (by simp)) hf4.size; have d4 := (cell_fr hf4 (Nat.lt_of_lt_of_le hbl (by simp)) hne).trans ((((Below.refl _ _).alloc (Nat.le_refl _) _).drew.cell (p := ⟨w.heap.size + 1, k, none⟩) hbl).trans d0); have hO4 := Lib.hid ((HO3.out.below (((Below.refl _ _).alloc (Nat.le_refl _) (.cells #[.int .i64 1, .int .i64 1, .int .i64 2, .int .i64 2, .int .i64 3, .int .i64 99] 3)).drew)).fr hf4 hg); have hf5 := (fr_drew (fr_alloc hf3 (.cells #[.int .i64 1, .int .i64 1, .int .i64 2, .int .i64 2, .int .i64 3, .int .i64 99] 3))).trans hf4; have hsz4 := hf5.size)
            | (refine step_appW (o := ⟨some 45, _, _, _, _, _⟩) (by rfl) (.tmp 34) (.tmp 44) _ (by rfl) 30 (.agg #[.string ⟨#[]⟩, .int .i64 0, .int .i64 0]) 3 32 Tryd.underlying24 infoHoldH (by rfl) (by decide) encHold_len oneHoldH (base := w.heap.size) (m := 1) (ys := ys) (zs := [(⟨X, z + 1 + r - q / 199, v⟩ : Hold)]) (by rfl) (by rfl) rfl (hO4.out.below ((Below.refl _ _).alloc (Nat.le_refl _) _)) (rd_new (x := (⟨X, z + 1 + r - q / 199, v⟩ : Hold)) (vs := [.string X, .int .i64 (z + 1 + r - q / 199), .int .i64 v]) rfl rfl) (by first | omega | (simp; omega)) (by first | omega | (simp; omega)) (by simp; omega) ?_; intro v6 w6 ho6 hg6 hd6; have d6 := hg6.cell (a := ⟨w.heap.size + 1, k, none⟩) ((((Below.refl _ _).alloc (Nat.le_refl _) _).cell (p := ⟨w.heap.size + 1, k, none⟩) hbl4).trans d4) (fun e => HU.out e.symm)))
          all_goals
            have hb6 := ((hO4.out.below ((Below.refl _ _).alloc (Nat.le_refl _) (.cells #[.string X, .int .i64 (z + 1 + r - q / 199), .int .i64 v] 30)))).grow (by simp; omega) hg6
            have hS6 := rd_grown ((((HS3.out.go (((Below.refl _ _).alloc (Nat.le_refl _) (.cells #[.int .i64 1, .int .i64 1, .int .i64 2, .int .i64 2, .int .i64 3, .int .i64 99] 3)).drew)).fr HNE.out hf4).go ((Below.refl _ _).alloc (Nat.le_refl _) (.cells #[.string X, .int .i64 (z + 1 + r - q / 199), .int .i64 v] 30)))) hg6 HU.out
            have hv2 : 0 ≤ v ∧ v ≤ 100 := by simp at hv; omega
            have hKn := Lib.hid (show ∀ y ∈ ys ++ [(⟨X, z + 1 + r - q / 199, v⟩ : Hold)], OkH y from fun y hy => by
              rcases List.mem_append.1 hy with h | h
              · exact HY.out y h
              · simp at h; subst h; exact ⟨hX, ⟨by simp only; omega, by simp only; omega⟩, hv2⟩)
            have hln : (ys ++ [(⟨X, z + 1 + r - q / 199, v⟩ : Hold)]).length = ys.length + 1 := by simp
            have hcn := cur_app hc4 hb6 hg
            have hfn := fr_app hf5 hb6 (Nat.le_refl _)
            have hu6 : v6.ownBlock ≠ some (w.heap.size + 1) := by
              rcases hd6 with h | h
              · rw [h]; exact HU.out
              · rw [h]; intro e; injection e with e; simp at e; omega
            generalize ys ++ [(⟨X, z + 1 + r - q / 199, v⟩ : Hold)] = zs at ho6 hKn hln
            clear hb6 hd6 hg6 hf5 hf4 hc4 hO4 hc3 hf3 hv d0 d4
            go_wp2_with fail
            go_roundw
            case rel => exact ⟨zs, z + 1 + r - q / 199, j - 1, ho6, hu6, hS6, rfl, vi (by omega), by omega, by omega, by omega, by omega, hKn.out, hfn, hcn.more (by omega)⟩
            case measure => simp [intOf]; omega
        · have hjz : j = 0 := by omega
          subst hjz
          go_wp2_with fail
          go_roundw
          case rel => exact ⟨ys, k + 1, hO, hu, hS, by go_num, by omega, by omega, HY.out, hf, hc.more (by omega)⟩
          case measure => simp [intOf]; omega
    · have hkz : k = 3 := by omega
      subst hkz
      obtain ⟨A, c, rfl, hown, _⟩ := hO.own encHold_len
      clear hS hown
      go_upto_region 13 with fail
      go_cut [53] (fun v wx => ∃ b : Bool, v = .bool b ∧ (b = true → 0 < xs.length) ∧ OutR encHold 3 30 w.heap.size (.slice A xs.length c) xs wx ∧ Fr g (g + 1) w wx ∧ Cur g (m + 130) wx)
      case first =>
        by_cases h0 : 0 < xs.length
        · have h0' : (0 : Int) < (xs.length : Int) := by omega
          go_wp2_with fail
          refine (one_c g _ 16 _ hc (by omega) (by decide)).mono ?_
          rintro e w7 ⟨b, rfl, hf8, hc8⟩
          go_wp2_with fail
          go_meet
          exact ⟨_, rfl, fun _ => h0, hO.fr hf8 hg, hf.trans hf8, hc8.more (by omega)⟩
        · have h0' : ¬ ((0 : Int) < (xs.length : Int)) := by omega
          go_wp2_with fail
          go_meet
          exact ⟨_, rfl, fun h => (by cases h), hO, hf, hc.more (by omega)⟩
      case rest =>
        obtain ⟨b, rfl, hb0, hO7, hf7, hc7⟩ := hcut
        clear hO hf hc
        go_upto_if 53 with fail
        go_cut [3, 8] (fun u3 u8 wx => ∃ ys : List Hold, u3 = .slice A xs.length c ∧ ys.length = xs.length ∧ (∀ x ∈ ys, OkH x) ∧ OutR encHold 3 30 w.heap.size (.slice A xs.length c) ys wx ∧ Fr g (g + 1) w wx ∧ Cur g (m + 150) wx)
        case first =>
          cases b
          · go_wp2_with fail
            go_meet
            exact ⟨xs, rfl, rfl, HK.out, hO7, hf7, hc7.more (by omega)⟩
          · have hpos := hb0 rfl
            obtain ⟨n, hn⟩ : ∃ n, xs.length = n + 1 := ⟨xs.length - 1, by omega⟩
            have hnl : n < xs.length := by omega
            obtain ⟨q, c', hv, hcc, hbq, hql, hqf, hcell⟩ := hO7.openedR encHold_len hpos
            injection hv with hA _ hc2
            subst hA hc2
            have d0 := hcell n xs[n] (List.getElem?_eq_getElem hnl) 0 _ rfl
            have d1 := hcell n xs[n] (List.getElem?_eq_getElem hnl) 1 _ rfl
            have d2 := hcell n xs[n] (List.getElem?_eq_getElem hnl) 2 _ rfl
            rw [Nat.add_zero] at d0
            have hok := HK.out xs[n] (List.getElem_mem hnl)
            have HO7 := Lib.hid hO7
            have HF := Lib.hid hqf
            clear hcell hO7 hb0 hqf
            generalize xs[n] = y at d0 d1 d2 hok
            obtain ⟨yo, yi, yc⟩ := y
            simp only at d0 d1 d2
            have HL := Lib.hid hn
            rw [hn]
            go_wp2_with fail
            have hbx := boxV_new g wc [.string yo, .int .i64 yi, .int .i64 yc] 30 hc7.1
            have hc8 := hc7.alloc (.cells #[.string yo, .int .i64 yi, .int .i64 yc] 30)
            have hf8 := fr_alloc hf7 (.cells #[.string yo, .int .i64 yi, .int .i64 yc] 30)
            have hO8 := Lib.hid (HO7.out.below ((Below.refl _ _).alloc (Nat.le_refl _) (.cells #[.string yo, .int .i64 yi, .int .i64 yc] 30)))
            have hwp : w.heap.size ≤ wc.heap.size := hf7.size
            simp only [List.toArray] at hbx
            generalize wc.alloc (.cells #[.string yo, .int .i64 yi, .int .i64 yc] 30) = V at *
            generalize wc.heap.size = p at *
            have hn1 : p ≠ q := by omega
            have hn2 : q ≠ p := by omega
            have hgp : g < p := by omega
            have hgq : g < q := by omega
            clear hc7 hf7 HO7 d0 d1 d2 HF
            refine (pick_c g _ 3 _ hc8 (by omega) (by decide)).mono ?_
            rintro e w9 ⟨r, rfl, hr0, _, hr1, _, hf9, hc9⟩
            have hr1 := hr1 (by decide)
            have hbx := hbx.fr hf9
            have hO9 := Lib.hid (hO8.out.fr hf9 hg)
            have hf9 := hf8.trans hf9
            clear hf8 hc8 hO8
            obtain ⟨k1, k2, k3⟩ := hok
            simp only at k1 k2 k3
            by_cases e0 : r = 0
            · subst e0
              go_wp2_with fail
              refine (of_c g _ [⟨#[]⟩, ⟨#[66, 111]⟩, ⟨#[97, 97]⟩] _ _ _ (hc9.alloc _) (by omega) (rd_litS _ _ _) (new_ne hc9.1) (by decide) (by decide)).mono ?_
              rintro e w10 ⟨v, rfl, hv, hfa, hca⟩
              have hv : v.size ≤ 10 := by exact (show ∀ x ∈ ([⟨#[]⟩, ⟨#[66, 111]⟩, ⟨#[97, 97]⟩] : List ByteArray), x.size ≤ 10 by decide) v hv
              have hbx := (hbx.alloc _).fr hfa
              have hOa := Lib.hid ((hO9.out.below ((Below.refl _ _).alloc (Nat.le_refl _) _)).fr hfa hg)
              have hfb := (fr_alloc hf9 _).trans hfa
              clear hf9 hc9 hO9 hfa
              obtain ⟨_, hqf, y0, y1, y2⟩ := hOa.out.at3 hnl
              obtain ⟨_, hpl, hpf, hpc⟩ := hbx
              have x0 := hpc 0 _ rfl
              have x1 := hpc 1 _ rfl
              have x2 := hpc 2 _ rfl
              clear hpc
              go_wp2_with fail
              go_meet
              exact ⟨xs.set n ⟨v, yi, yc⟩, by rw [HL.out], by simp, ok_set HK.out ⟨hv, k2, k3⟩, (hOa.out.set_ (p := p) (j := 0) (u := .string v) (by simp [Value.ownBlock, hn2])).setHold hnl, fr_set (fr_set (fr_set (fr_set hfb hwp) hbq) hbq) hbq, cur_set (cur_set (cur_set (cur_set (hca.more (by omega)) hgp) hgq) hgq) hgq⟩
            by_cases e1 : r = 1
            · subst e1
              go_wp2_with fail
              refine (among_c g _ [0, 99, 100] _ _ _ (hc9.alloc _) (by omega) (rd_litI _ _ _) (new_ne hc9.1) (by decide) (by decide)).mono ?_
              rintro e w10 ⟨v, rfl, hv, hfa, hca⟩
              have hv : -1000 ≤ v ∧ v ≤ 1000 := by simp at hv; omega
              have hbx := (hbx.alloc _).fr hfa
              have hOa := Lib.hid ((hO9.out.below ((Below.refl _ _).alloc (Nat.le_refl _) _)).fr hfa hg)
              have hfb := (fr_alloc hf9 _).trans hfa
              clear hf9 hc9 hO9 hfa
              obtain ⟨_, hqf, y0, y1, y2⟩ := hOa.out.at3 hnl
              obtain ⟨_, hpl, hpf, hpc⟩ := hbx
              have x0 := hpc 0 _ rfl
              have x1 := hpc 1 _ rfl
              have x2 := hpc 2 _ rfl
              clear hpc
              go_wp2_with fail
              go_meet
              exact ⟨xs.set n ⟨yo, v, yc⟩, by rw [HL.out], by simp, ok_set HK.out ⟨k1, hv, k3⟩, (hOa.out.set_ (p := p) (j := 1) (u := .int .i64 v) (by simp [Value.ownBlock, hn2])).setHold hnl, fr_set (fr_set (fr_set (fr_set hfb hwp) hbq) hbq) hbq, cur_set (cur_set (cur_set (cur_set (hca.more (by omega)) hgp) hgq) hgq) hgq⟩
            by_cases e2 : r = 2
            · subst e2
              go_wp2_with fail
              refine (among_c g _ [0, 100] _ _ _ (hc9.alloc _) (by omega) (rd_litI _ _ _) (new_ne hc9.1) (by decide) (by decide)).mono ?_
              rintro e w10 ⟨v, rfl, hv, hfa, hca⟩
              have hv : 0 ≤ v ∧ v ≤ 100 := by simp at hv; omega
              have hbx := (hbx.alloc _).fr hfa
              have hOa := Lib.hid ((hO9.out.below ((Below.refl _ _).alloc (Nat.le_refl _) _)).fr hfa hg)
              have hfb := (fr_alloc hf9 _).trans hfa
              clear hf9 hc9 hO9 hfa
              obtain ⟨_, hqf, y0, y1, y2⟩ := hOa.out.at3 hnl
              obtain ⟨_, hpl, hpf, hpc⟩ := hbx
              have x0 := hpc 0 _ rfl
              have x1 := hpc 1 _ rfl
              have x2 := hpc 2 _ rfl
              clear hpc
              go_wp2_with fail
              go_meet
              exact ⟨xs.set n ⟨yo, yi, v⟩, by rw [HL.out], by simp, ok_set HK.out ⟨k1, k2, hv⟩, (hOa.out.set_ (p := p) (j := 2) (u := .int .i64 v) (by simp [Value.ownBlock, hn2])).setHold hnl, fr_set (fr_set (fr_set (fr_set hfb hwp) hbq) hbq) hbq, cur_set (cur_set (cur_set (cur_set (hca.more (by omega)) hgp) hgq) hgq) hgq⟩
            exact absurd (show r = 2 by omega) e2
        case rest =>
          obtain ⟨ys, rfl, hyl, hok, hO8, hf8, hc8⟩ := hcut
          clear hO7 hf7 hc7
          have HY := Lib.hid hok
          clear hok
          go_wp2_with fail
          refine (one_c g _ 24 _ hc8 (by omega) (by decide)).mono ?_
          rintro e w3 ⟨b, rfl, hf3, hc3⟩
          have hO3 := hO8.fr hf3 hg
          have hf3 := hf8.trans hf3
          clear hO8 hf8 hc8
          cases b
          · obtain ⟨A', c', hv, hown, _⟩ := hO3.own encHold_len
            injection hv with hA hnn hc2
            subst hA hc2
            have HYL := Lib.hid hyl
            have hy2 : ys.length ≤ 100 := by omega
            clear hnn hyl
            go_wp2_with fail
            go_returns
            exact ⟨A, c, ys, ret_sl HYL.out.symm, hy2, HY.out, hown, hf3, hc3.more (by omega)⟩
          · have hO4 := OutR.emptyH (enc := encHold) (k := 3) (E := 30) (base := w.heap.size) w3 _ rfl hf3.size
            have hc4 := hc3.alloc (.cells #[] 30)
            have hf4 := fr_alloc hf3 (.cells #[] 30)
            go_wp2_with fail
            clear hO3 hf3 hc3
            go_loopw [3, 10] (fun u n wr => ∃ (zs : List Hold) (j : Nat), OutR encHold 3 30 w.heap.size u zs wr ∧ n = .int .i64 j ∧ j ≤ 21 ∧ zs.length = j ∧ (∀ x ∈ zs, OkH x) ∧ Fr g (g + 1) w wr ∧ Cur g (m + 200 + 4 * j) wr) (fun _ n _ => 22 - (intOf n).toNat)
            case atStart => exact ⟨[], 0, hO4, rfl, by omega, rfl, by simp, hf4, hc4.more (by omega)⟩
            case round =>
              obtain ⟨zs, j, hO, rfl, hj, hzl, hok, hf, hc⟩ := hrel
              have HZ := Lib.hid hok
              clear hok hO4 hf4 hc4
              go_wp2_with fail
              refine (pick_c g _ 2 _ hc (by omega) (by decide)).mono ?_
              rintro e w5 ⟨r, rfl, hr0, _, hr1, _, hf5, hc5⟩
              have hr1 := hr1 (by decide)
              have hO5 := hO.fr hf5 hg
              have hf5 := hf.trans hf5
              have hsz := hf5.size
              clear hO hf hc
              by_cases hlt : (j : Int) < 20 + r
              · have hm0 : 0 ≤ (j : Int) % 3 := by omega
                have hm1 : (j : Int) % 3 < 3 := by omega
                go_wp2_with (at_builtin; refine wpList_app rfl _ _ _ rfl 30 (.agg #[.string ⟨#[]⟩, .int .i64 0, .int .i64 0]) 3 32 Tryd.underlying24 infoHoldH rfl (by decide) encHold_len oneHoldH (base := w.heap.size) (m := 1) (ys := zs) (zs := [(⟨⟨#[98, 111]⟩, (j : Int) + 1, 1 + (j : Int) % 3⟩ : Hold)]) rfl rfl rfl (hO5.below ((Below.refl _ _).alloc (Nat.le_refl _) _)) (rd_new (x := (⟨⟨#[98, 111]⟩, (j : Int) + 1, 1 + (j : Int) % 3⟩ : Hold)) (vs := [.string ⟨#[98, 111]⟩, .int .i64 ((j : Int) + 1), .int .i64 (1 + (j : Int) % 3)]) rfl rfl) (by first | omega | (simp; omega)) (by first | omega | (simp; omega)) (by simp; omega) ?_; intro v6 w6 ho6 hb6)
                have hKn := Lib.hid (show ∀ y ∈ zs ++ [(⟨⟨#[98, 111]⟩, (j : Int) + 1, 1 + (j : Int) % 3⟩ : Hold)], OkH y from fun y hy => by
                  rcases List.mem_append.1 hy with h | h
                  · exact HZ.out y h
                  · simp at h; subst h; exact ⟨(show (2 : Nat) ≤ 10 by decide), ⟨by simp only; omega, by simp only; omega⟩, ⟨by simp only; omega, by simp only; omega⟩⟩)
                have hln : (zs ++ [(⟨⟨#[98, 111]⟩, (j : Int) + 1, 1 + (j : Int) % 3⟩ : Hold)]).length = j + 1 := by simp; omega
                generalize zs ++ [(⟨⟨#[98, 111]⟩, (j : Int) + 1, 1 + (j : Int) % 3⟩ : Hold)] = us at *
                have hcn := cur_app hc5 hb6 hg
                have hfn := fr_app hf5 hb6 (Nat.le_refl _)
                clear hb6 hO5 hc5 hf5
                go_roundw
                case rel => exact ⟨us, j + 1, ho6, by go_num, by omega, hln, hKn.out, hfn, hcn.more (by omega)⟩
                case measure => simp [intOf]; omega
              · obtain ⟨A', c', rfl, hown, _⟩ := hO5.own encHold_len
                go_wp2_with fail
                go_returns
                exact ⟨A', c', zs, ret_sl hzl.symm, by omega, HZ.out, hown, hf5, hc5.more (by omega)⟩
end Go.Proofs.YtebkfcdijjcefaaDoor
