/- Contract of the draw of a sheet: flaws, some positions, and codes for them. No condition but that the code is one that can be. -/
import Derived.Test.YtgjehnjpbekoeaaDoorFlDrawQ
import Derived.Test.YtgjehnjpbekoeaaDoorOwnG
import Derived.Deep.DeepCutAuto
namespace Go.Proofs.YtgjehnjpbekoeaaDoor
set_option linter.unusedVariables false
set_option linter.unusedSimpArgs false
open Go.RowKit
attribute [local irreducible] wpQuiet
/-- The slice v of the call's own holds slices that read as the lists ps; none of them lies in v's block or in the block X. -/
def RdG (base : Nat) (v : Value) (X : Option Nat) (ms : List SlM) (ps : List (List Int)) (w : World) : Prop :=
  OutR encM 1 31 base v ms w ∧ ms.length = ps.length ∧ (∀ (i : Nat) (m : SlM) (p : List Int), ms[i]? = some m → ps[i]? = some p → RelS w.heap.size w m p) ∧
  ∀ m ∈ ms, 0 < m.n → ∀ b off, m.A = some ⟨b, off, none⟩ → v.ownBlock ≠ some b ∧ X ≠ some b ∧ base ≤ b
section
variable {base : Nat} {v v' : Value} {X X' : Option Nat} {ms : List SlM} {ps : List (List Int)} {w w' : World}
theorem relS_grown {m : SlM} {p : List Int} {b : Option Nat} (h : RelS w.heap.size w m p) (hg : w.grownBy w' b) (hne : 0 < m.n → ∀ q off, m.A = some ⟨q, off, none⟩ → b ≠ some q) : RelS w'.heap.size w' m p := ⟨h.1, h.2.1, fun hn => by
  obtain ⟨q, off, hA, hb, hc⟩ := h.2.2 hn
  have hq := hg.block q hb (fun e => hne (by rw [h.1]; exact hn) q off hA e.symm)
  exact ⟨q, off, hA, Nat.lt_of_lt_of_le hb hg.size, fun i x hx j v hv => (World.cell?_of_block (w := w) (a := ⟨q, _, none⟩) hq).trans (hc i x hx j v hv)⟩⟩
theorem fr_grown {g : Nat} (hf : Fr g (g + 1) w w') : w.grownBy w' (some g) := ⟨hf.os, hf.tape, hf.output, hf.size, fun k hk hne => hf.block k hk (by have : k ≠ g := fun e => hne (by rw [e]); omega)⟩
theorem below_grn (hb : Below w.heap.size w w') : w.grownBy w' none := ⟨hb.os, hb.tape, hb.output, hb.size, fun k hk _ => hb.block k hk⟩
theorem RdG.lt (h : RdG base v X ms ps w) {m : SlM} (hm : m ∈ ms) (hn : 0 < m.n) {b off : Nat} (hA : m.A = some ⟨b, off, none⟩) : b < w.heap.size := by
  obtain ⟨i, hi, rfl⟩ := List.getElem_of_mem hm
  have hi' : i < ps.length := by rw [← h.2.1]; exact hi
  have hr := h.2.2.1 i _ ps[i] (List.getElem?_eq_getElem hi) (List.getElem?_eq_getElem hi')
  obtain ⟨q, o, hA', hb, _⟩ := hr.2.2 (by rw [← hr.1]; exact hn)
  rw [hA] at hA'
  injection hA' with e; injection e with e1 _
  omega
theorem RdG.keep_ {b : Option Nat} (h : RdG base v X ms ps w) (hg : w.grownBy w' b) (hv : ∀ q, v.ownBlock = some q → b ≠ some q) (hin : ∀ m ∈ ms, 0 < m.n → ∀ q off, m.A = some ⟨q, off, none⟩ → b ≠ some q)
    (hX : ∀ m ∈ ms, 0 < m.n → ∀ q off, m.A = some ⟨q, off, none⟩ → X' ≠ some q) : RdG base v X' ms ps w' :=
  ⟨h.1.kept_ hg hv, h.2.1, fun i m p hm hp => relS_grown (h.2.2.1 i m p hm hp) hg (hin m (List.mem_iff_getElem?.2 ⟨i, hm⟩)), fun m hm hn q off hA => ⟨(h.2.2.2 m hm hn q off hA).1, hX m hm hn q off hA, (h.2.2.2 m hm hn q off hA).2.2⟩⟩
theorem RdG.fr_ {g : Nat} (h : RdG base v X ms ps w) (hf : Fr g (g + 1) w w') (hg : g < base) : RdG base v X ms ps w' :=
  h.keep_ (fr_grown hf) (fun q hq e => by have := h.1.from_ q hq; injection e with e; omega) (fun m hm hn q off hA e => by have := (h.2.2.2 m hm hn q off hA).2.2; injection e with e; omega) fun m hm hn q off hA => (h.2.2.2 m hm hn q off hA).2.1
theorem RdG.below_ (h : RdG base v X ms ps w) (hb : Below w.heap.size w w') : RdG base v X ms ps w' :=
  h.keep_ (below_grn hb) (fun _ _ e => by cases e) (fun _ _ _ _ _ _ e => by cases e) fun m hm hn q off hA => (h.2.2.2 m hm hn q off hA).2.1
/-- The other slice put to. -/
theorem RdG.other (h : RdG base v X ms ps w) (hg : w.grownBy w' X) (hv : ∀ q, X = some q → v.ownBlock ≠ some q) (hX : X' = X ∨ X' = some w.heap.size) : RdG base v X' ms ps w' :=
  h.keep_ hg (fun q hq e => hv q e hq) (fun m hm hn q off hA => (h.2.2.2 m hm hn q off hA).2.1) fun m hm hn q off hA e => by
    rcases hX with hX | hX
    · rw [hX] at e; exact (h.2.2.2 m hm hn q off hA).2.1 e
    · rw [hX] at e; injection e with e
      have := h.lt hm hn hA
      omega
theorem RdG.push_ {m : SlM} {p : List Int} (h : RdG base v X ms ps w) (hm : RelS w.heap.size w m p) (hmb : 0 < m.n → ∀ q off, m.A = some ⟨q, off, none⟩ → v.ownBlock ≠ some q ∧ X ≠ some q ∧ base ≤ q)
    (ho : OutR encM 1 31 base v' (ms ++ [m]) w') (hg : w.grownBy w' v.ownBlock) (hv : v'.ownBlock = v.ownBlock ∨ v'.ownBlock = some w.heap.size) : RdG base v' X (ms ++ [m]) (ps ++ [p]) w' := by
  refine ⟨ho, by simp [h.2.1], fun i x y hx hy => ?_, fun x hx hn q off hA => ?_⟩
  · by_cases hi : i < ms.length
    · rw [List.getElem?_append_left hi] at hx
      rw [List.getElem?_append_left (by rw [← h.2.1]; exact hi)] at hy
      exact relS_grown (h.2.2.1 i x y hx hy) hg fun hn q off hA => (h.2.2.2 x (List.mem_iff_getElem?.2 ⟨i, hx⟩) hn q off hA).1
    · have hl := (List.getElem?_eq_some_iff.1 hx).1
      have he : i = ms.length := by simp at hl; omega
      subst he
      rw [List.getElem?_append_right (Nat.le_refl _), Nat.sub_self] at hx
      rw [List.getElem?_append_right (by rw [h.2.1]; exact Nat.le_refl _), h.2.1, Nat.sub_self] at hy
      simp at hx hy
      subst hx hy
      exact relS_grown hm hg fun hn q off hA => (hmb hn q off hA).1
  · have hlt : q < w.heap.size := by
      rcases List.mem_append.1 hx with hx | hx
      · exact h.lt hx hn hA
      · simp at hx; subst hx
        obtain ⟨q', o', hA', hb, _⟩ := hm.2.2 (by rw [← hm.1]; exact hn)
        rw [hA] at hA'
        injection hA' with e; injection e with e1 _
        omega
    have h3 : v.ownBlock ≠ some q ∧ X ≠ some q ∧ base ≤ q := by
      rcases List.mem_append.1 hx with hx | hx
      · exact h.2.2.2 x hx hn q off hA
      · simp at hx; subst hx; exact hmb hn q off hA
    refine ⟨fun e => ?_, h3.2⟩
    rcases hv with hv | hv
    · rw [hv] at e; exact h3.1 e
    · rw [hv] at e; injection e with e; omega
theorem RdG.rdss (h : RdG base v X ms ps w) : ∃ A c, v = .slice A ps.length c ∧ RdSS w.heap.size w A ps := by
  obtain ⟨A, c, rfl, _, ho⟩ := h.1.ownC encM_len
  exact ⟨A, c, by rw [h.2.1], ms, h.2.1, ho.rd, h.2.2.1⟩
end
theorem relS_own {lo : Nat} {w : World} {A : Option Addr} {c : Nat} {p : List Int} (h : Own encI 1 lo w.heap.size w A p) (hc : p.length ≤ c) : RelS w.heap.size w ⟨A, p.length, c⟩ p := ⟨rfl, hc, h.rd⟩
set_option maxRecDepth 100000 in
set_option maxHeartbeats 1600000 in
theorem dSheetState_c (bs : List Int) (A : Option Addr) (c : Nat) (w : World) (hr : Rd encY 1 w.heap.size w A bs) (hn : bs.length ≤ 65536) (hc : bs.length ≤ c) (hb : ∀ b ∈ bs, ByteI b) :
    Calls Tryd.prog 15 #[.slice A bs.length c] w fun e w' => ∃ (B : Option Addr) (c' : Nat) (xs : List Flaw) (D : Option Addr) (d : Nat) (qs : List Int) (G : Option Addr) (g : Nat) (ps : List (List Int)), e = .returned (.tuple #[.slice B xs.length c', .slice D qs.length d, .slice G ps.length g]) ∧ xs.length ≤ 21 ∧ qs.length ≤ 6 ∧ ps.length ≤ 6 ∧ (∀ p ∈ ps, p.length ≤ 21) ∧ Rd encFlaw 4 w'.heap.size w' B xs ∧ Rd encI 1 w'.heap.size w' D qs ∧ RdSS w'.heap.size w' G ps ∧ Below w.heap.size w w' := by
  have h0 := cur_new w bs A c 63 hr hn hc hb
  go_enter Tryd.func15, Tryd.ntmps15
  go_wp2_with fail
  refine (flaws_c _ 0 _ h0 (by decide)).mono ?_
  rintro e w1 ⟨B, c', xs, rfl, hl, hok, hcap, ho1, hf1, hc1⟩
  have HK := Lib.hid hok
  have hg1 : w.heap.size + 1 ≤ w1.heap.size := by have := hf1.size; simp at this; omega
  have hgw : w.heap.size < w1.heap.size := by omega
  have HX := Lib.hid (ho1.toNe (g := w.heap.size) (by simp))
  have hrX := ho1.rd
  have hF := Fr.refl w.heap.size (w.heap.size + 1) w1
  clear h0 hok hcap ho1
  go_wp2_with fail
  have hP := OutR.empty (enc := encI) (k := 1) (E := 3) w1 (Nat.le_refl _)
  have hF2 := fr_alloc hF (.cells #[] 3)
  have hc2 := hc1.alloc (.cells #[] 3)
  have hs2 : (w1.alloc (.cells #[] 3)).heap.size = w1.heap.size + 1 := by simp
  generalize w1.alloc (.cells #[] 3) = W2 at *
  have hC := OutR.emptyH (enc := encM) (k := 1) (E := 31) (base := w1.heap.size) W2 (w1.heap.size + 1) hs2 (by omega)
  have hal := (Below.refl W2.heap.size W2).alloc (Nat.le_refl _) (.cells #[] 31)
  have hP := hP.below hal
  have hF2 := fr_alloc hF2 (.cells #[] 31)
  have hc2 := hc2.alloc (.cells #[] 31)
  have hs3 : (W2.alloc (.cells #[] 31)).heap.size = w1.heap.size + 1 + 1 := by simp [hs2]
  generalize W2.alloc (.cells #[] 31) = W3 at *
  have hal := (Below.refl W3.heap.size W3).alloc (Nat.le_refl _) (.cells #[.int .i64 1, .int .i64 2, .int .i64 3, .int .i64 5, .int .i64 9] 3)
  refine (among_c _ _ [1, 2, 3, 5, 9] _ 5 _ (hc2.alloc (.cells #[.int .i64 1, .int .i64 2, .int .i64 3, .int .i64 5, .int .i64 9] 3)) (by decide) (rd_litP W3 [1, 2, 3, 5, 9] 3 _ hs3.symm) (new_neP (by omega)) (by decide) (by decide)).mono ?_
  rintro e w2 ⟨st, rfl, hx, hf, hc3⟩
  have hst : 1 ≤ st ∧ st ≤ 9 := by simp at hx; omega
  have hP := (hP.below hal).fr hf hgw
  have hC := (hC.below hal).fr hf hgw
  have hF3 := (fr_alloc hF2 (.cells #[.int .i64 1, .int .i64 2, .int .i64 3, .int .i64 5, .int .i64 9] 3)).trans hf
  have hsz2 : w1.heap.size + 1 + 1 + 1 ≤ w2.heap.size := by have := hf.size; simp [hs3] at this; omega
  clear hF hF2 hc1 hc2 hs2 hs3 hal hx hf
  have hal := (Below.refl w2.heap.size w2).alloc (Nat.le_refl _) (.cells #[.int .i64 0, .int .i64 1, .int .i64 9, .int .i64 10, .int .i64 11] 3)
  have hP := hP.below hal
  have hC := hC.below hal
  have hF3 := fr_alloc hF3 (.cells #[.int .i64 0, .int .i64 1, .int .i64 9, .int .i64 10, .int .i64 11] 3)
  have hc3 := hc3.alloc (.cells #[.int .i64 0, .int .i64 1, .int .i64 9, .int .i64 10, .int .i64 11] 3)
  have hL : (w2.alloc (.cells #[.int .i64 0, .int .i64 1, .int .i64 9, .int .i64 10, .int .i64 11] 3)).heap[w2.heap.size]? = some (.cells #[.int .i64 0, .int .i64 1, .int .i64 9, .int .i64 10, .int .i64 11] 3 (0, 0)) := heap_alloc_new w2 _
  go_wp2_with fail
  generalize w2.alloc (.cells #[.int .i64 0, .int .i64 1, .int .i64 9, .int .i64 10, .int .i64 11] 3) = W4 at *
  have hG0 : RdG w1.heap.size (.slice (some ⟨w1.heap.size + 1, 0, none⟩) 0 0) (Value.slice (some ⟨w1.heap.size, 0, none⟩) 0 0).ownBlock [] [] W4 := ⟨hC, rfl, by simp, by simp⟩
  clear hC hal
  go_loopw [7, 8, 24] (fun u v i wr => ∃ (k : Nat) (qs : List Int) (ms : List SlM) (ps : List (List Int)), k ≤ 5 ∧ i = .int .i64 k ∧ OutR encI 1 3 w1.heap.size u qs wr ∧ qs.length ≤ k ∧ RdG w1.heap.size v u.ownBlock ms ps wr ∧ ps.length ≤ k ∧ (∀ p ∈ ps, p.length ≤ 21) ∧ (∀ q, u.ownBlock = some q → v.ownBlock ≠ some q) ∧ u.ownBlock ≠ some w2.heap.size ∧ v.ownBlock ≠ some w2.heap.size ∧ wr.heap[w2.heap.size]? = some (.cells #[.int .i64 0, .int .i64 1, .int .i64 9, .int .i64 10, .int .i64 11] 3 (0, 0)) ∧ Fr w.heap.size (w.heap.size + 1) w1 wr ∧ Cur w.heap.size (1010 + 4 * k) wr) (fun _ _ i _ => 5 - (intOf i).toNat)
  case atStart => exact ⟨0, [], [], [], by omega, rfl, hP, by simp, hG0, by simp, by simp, by simp [Value.ownBlock], by simp [Value.ownBlock]; omega, by simp [Value.ownBlock]; omega, hL, hF3, hc3.more (by omega)⟩
  case round =>
    obtain ⟨k, qs, ms, ps, hk, rfl, hP, hql, hG, hpl, hpe, huv, huL, hvL, hL, hF, hc⟩ := hrel
    clear hG0 hF3 hc3
    have HPE := Lib.hid hpe
    have HUV := Lib.hid huv
    have hml : ms.length ≤ 5 := by have := hG.2.1; omega
    clear hpe huv
    by_cases hlt : k < 5
    · obtain ⟨z, hz, hz0, hz1⟩ : ∃ z : Int, wr.cell? ⟨w2.heap.size, k, none⟩ = some (.int .i64 z) ∧ 0 ≤ z ∧ z ≤ 11 := by
        have h5 : k = 0 ∨ k = 1 ∨ k = 2 ∨ k = 3 ∨ k = 4 := by omega
        rcases h5 with rfl | rfl | rfl | rfl | rfl
        · exact ⟨0, by simp [World.cell?, hL], by omega, by omega⟩
        · exact ⟨1, by simp [World.cell?, hL], by omega, by omega⟩
        · exact ⟨9, by simp [World.cell?, hL], by omega, by omega⟩
        · exact ⟨10, by simp [World.cell?, hL], by omega, by omega⟩
        · exact ⟨11, by simp [World.cell?, hL], by omega, by omega⟩
      have HLL := Lib.hid hL
      have hk0 : (0 : Int) ≤ (k : Int) := by omega
      clear hL
      go_wp2_with fail
      refine (one_c _ _ 2 _ hc (by omega) (by decide)).mono ?_
      rintro e w4 ⟨t, rfl, hf4, hc4⟩
      have hP4 := hP.fr hf4 hgw
      have hG4 := hG.fr_ hf4 hgw
      have hLl : w2.heap.size < wr.heap.size := by
        rcases Nat.lt_or_ge w2.heap.size wr.heap.size with h | h
        · exact h
        · have := HLL.out; rw [Array.getElem?_eq_none h] at this; cases this
      have HL4 := Lib.hid ((hf4.block w2.heap.size hLl (by omega)).trans HLL.out)
      have hF4 := hF.trans hf4
      have hsz4 := hF4.size
      have hLl4 := Nat.lt_of_lt_of_le hLl hf4.size
      clear hP hG hc hF hz HLL hf4
      cases t
      · go_wp2_with fail
        go_roundw
        case rel => exact ⟨k + 1, qs, ms, ps, by omega, by go_num, hP4, by omega, hG4, by omega, HPE.out, HUV.out, huL, hvL, HL4.out, hF4, hc4.more (by omega)⟩
        case measure => simp [intOf]; omega
      · have hal := (Below.refl w4.heap.size w4).alloc (Nat.le_refl _) (.cells #[.int .i64 z] 3)
        have hP5 := hP4.below hal
        have hG5 := Lib.hid (hG4.below_ hal)
        have hblk := (hal.block w2.heap.size hLl4).trans HL4.out
        have HL5 := Lib.hid hblk
        clear hG4 HL4 hP4 hblk
        go_wp2_with (at_builtin; refine wp_appW rfl _ _ _ rfl 3 (.int .i64 0) 1 8 Tryd.underlying31 infoI rfl (by decide) encI_len oneI_ (base := w1.heap.size) (m := 1) (ys := qs) (zs := [z]) rfl rfl rfl hP5 (rd_new (x := z) (vs := [.int .i64 (z)]) rfl rfl) (by first | omega | (simp; omega)) (by first | omega | (simp; omega)) (by simp; omega) ?_; intro v6 w6 ho6 hg6 hd6)
        have hb6 := below_grown ((Below.refl (w4.alloc (.cells #[.int .i64 z] 3)).heap.size (w4.alloc (.cells #[.int .i64 z] 3))).mono (show w1.heap.size ≤ _ by have := hal.size; omega)) (show w1.heap.size ≤ _ by have := hal.size; omega) hg6 (fun q hq => hP5.from_ q hq)
        have hF6 := fr_app hF4 hb6 (Nat.le_refl _)
        have hc6 := cur_app hc4 hb6 hgw
        have hG6 := hG5.out.other hg6 HUV.out hd6
        have hL6 := Lib.hid ((hg6.block w2.heap.size (Nat.lt_of_lt_of_le hLl4 hal.size) (fun e => huL e.symm)).trans HL5.out)
        have hsA : (w4.alloc (.cells #[.int .i64 z] 3)).heap.size = w4.heap.size + 1 := by simp
        have hvL6 : v6.ownBlock ≠ some w2.heap.size := fun e => by
          rcases hd6 with h | h
          · rw [h] at e; exact huL e
          · rw [h] at e; injection e with e; omega
        have huv6 : ∀ q, v6.ownBlock = some q → u8.ownBlock ≠ some q := fun q hq e => by
          rcases hd6 with h | h
          · rw [h] at hq; exact HUV.out q hq e
          · rw [h] at hq; injection hq with hq
            have := hG5.out.1.lt_ q e
            omega
        have hr6 := hrX.frN HX.out hF6
        have hsz6 := hF6.size
        have hLl6 : w2.heap.size < w6.heap.size := Nat.lt_of_lt_of_le (Nat.lt_of_lt_of_le hLl4 hal.size) hg6.size
        clear hP5 hG5 HL5 hb6 hg6 hd6 hF4 hc4 hal hsA huL
        refine (l15CodesO_c xs B c' z st _ hr6 HK.out hl).mono ?_
        rintro e w7 ⟨Q, q, rfl, hb7, hoQ, hcQ⟩
        have hcl := codesL_len xs z st
        generalize codesL xs z st = CS at *
        have hal8 := (Below.refl w7.heap.size w7).alloc (Nat.le_refl _) (.cells #[.slice Q CS.length q] 31)
        have hb78 := hb7.trans (hal8.mono hb7.size)
        have hP8 := ho6.below hb78
        have hG8 := hG6.below_ hb78
        have hrel8 := relS_grown (relS_own hoQ hcQ) (below_grn hal8) (fun _ _ _ _ e => by cases e)
        have hmb : 0 < CS.length → ∀ q0 off, Q = some ⟨q0, off, none⟩ → u8.ownBlock ≠ some q0 ∧ v6.ownBlock ≠ some q0 ∧ w1.heap.size ≤ q0 := fun hn q0 off hA => by
          obtain ⟨q1, o1, hA', k1, _⟩ := hoQ.2 hn
          rw [hA] at hA'
          injection hA' with e; injection e with e1 _
          refine ⟨fun e => ?_, fun e => ?_, by omega⟩
          · have := hG6.1.lt_ q0 e; omega
          · have := ho6.lt_ q0 e; omega
        have hL8 := Lib.hid ((hal8.block w2.heap.size (Nat.lt_of_lt_of_le hLl6 hb7.size)).trans ((hb7.block w2.heap.size hLl6).trans hL6.out))
        have hF7 := hF6.trans (Fr.of_below hb7)
        have hc7 := hc6.below hb7
        have hrn : Rd encM 1 (w7.alloc (.cells #[.slice Q CS.length q] 31)).heap.size (w7.alloc (.cells #[.slice Q CS.length q] 31)) (some ⟨w7.heap.size, 0, none⟩) [(⟨Q, CS.length, q⟩ : SlM)] := rd_new rfl rfl
        have hO8 := hG8.1
        have HG8 := Lib.hid hG8
        have HM := Lib.hid hmb
        have hs78 := hb78.size
        have hbs7 : w1.heap.size ≤ w7.heap.size := hF7.size
        have hps : ∀ x ∈ ps ++ [CS], x.length ≤ 21 := fun x hx => by
          rcases List.mem_append.1 hx with h | h
          · exact HPE.out x h
          · simp at h; subst h; omega
        have HPS := Lib.hid hps
        have HV6 := Lib.hid huv6
        have hql6 : (qs ++ [z]).length ≤ k + 1 := by simp; omega
        clear hG6 ho6 hG8 hF6 hc6 hb7 hoQ hmb hL6 hr6 hps huv6
        go_wp2_with (at_builtin; refine wp_appW rfl _ _ _ rfl 31 (.slice none 0 0) 1 24 Tryd.underlying27 infoSS rfl (by decide) encM_len oneM_ (base := w1.heap.size) (m := 1) (ys := ms) (zs := [(⟨Q, CS.length, q⟩ : SlM)]) rfl rfl rfl hO8 hrn (by first | omega | (simp; omega)) (by first | omega | (simp; omega)) (by simp; omega) ?_; intro v9 w9 ho9 hg9 hd9)
        have hb9 := below_grown ((Below.refl (w7.alloc (.cells #[.slice Q CS.length q] 31)).heap.size (w7.alloc (.cells #[.slice Q CS.length q] 31))).mono (show w1.heap.size ≤ _ by have := hal8.size; omega)) (show w1.heap.size ≤ _ by have := hal8.size; omega) hg9 (fun q hq => hO8.from_ q hq)
        have hF9 := fr_app hF7 hb9 (Nat.le_refl _)
        have hc9 := cur_app hc7 hb9 hgw
        have hG9 := HG8.out.push_ hrel8 HM.out ho9 hg9 hd9
        have hP9 := hP8.kept_ hg9 (fun g hg e => HV6.out g hg e)
        have hL9 := (hg9.block w2.heap.size (Nat.lt_of_lt_of_le hLl6 hs78) (fun e => hvL e.symm)).trans hL8.out
        have huv9 : ∀ q, v6.ownBlock = some q → v9.ownBlock ≠ some q := fun q hq e => by
          rcases hd9 with h | h
          · rw [h] at e; exact HV6.out q hq e
          · rw [h] at e; injection e with e
            have := hP8.lt_ q hq
            omega
        have hvL9 : v9.ownBlock ≠ some w2.heap.size := fun e => by
          rcases hd9 with h | h
          · rw [h] at e; exact hvL e
          · rw [h] at e; injection e with e; omega
        clear hP8 HG8 hO8 hrn hrel8 HM hb9 hg9 hd9 hF7 hc7 hL8
        go_roundw
        case rel => exact ⟨k + 1, qs ++ [z], ms ++ [⟨Q, CS.length, q⟩], ps ++ [CS], by omega, by go_num, hP9, hql6, hG9, by simp; omega, HPS.out, huv9, hvL6, hvL9, hL9, hF9, hc9.more (by omega)⟩
        case measure => simp [intOf]; omega
    · obtain rfl : k = 5 := by omega
      go_wp2_with fail
      refine (pick_c _ _ 12 _ hc (by decide) (by decide)).mono ?_
      rintro e w4 ⟨r, rfl, hr0, _, hr1, _, hf4, hc4⟩
      have hP4 := hP.fr hf4 hgw
      have hG4 := hG.fr_ hf4 hgw
      have hF4 := hF.trans hf4
      have hsz4 := hF4.size
      clear hP hG hc hF hf4 hr1
      by_cases e0 : r = 0
      · subst e0
        have hal := (Below.refl w4.heap.size w4).alloc (Nat.le_refl _) (.cells #[] 3)
        have hal8 := hal.alloc (by simp) (.cells #[.slice (some ⟨w4.heap.size, 0, none⟩) 0 0] 31)
        have hP8 := hP4.below hal8
        have hG8 := hG4.below_ hal8
        have hrn : Rd encM 1 ((w4.alloc (.cells #[] 3)).alloc (.cells #[.slice (some ⟨w4.heap.size, 0, none⟩) 0 0] 31)).heap.size ((w4.alloc (.cells #[] 3)).alloc (.cells #[.slice (some ⟨w4.heap.size, 0, none⟩) 0 0] 31)) (some ⟨w4.heap.size + 1, 0, none⟩) [(⟨some ⟨w4.heap.size, 0, none⟩, 0, 0⟩ : SlM)] := by
          have e := rd_new (enc := encM) (k := 1) (w := w4.alloc (.cells #[] 3)) (x := (⟨some ⟨w4.heap.size, 0, none⟩, 0, 0⟩ : SlM)) (vs := [.slice (some ⟨w4.heap.size, 0, none⟩) 0 0]) (E := 31) rfl rfl
          rw [show (w4.alloc (.cells #[] 3)).heap.size = w4.heap.size + 1 by simp] at e
          exact e
        have hrel8 : RelS ((w4.alloc (.cells #[] 3)).alloc (.cells #[.slice (some ⟨w4.heap.size, 0, none⟩) 0 0] 31)).heap.size ((w4.alloc (.cells #[] 3)).alloc (.cells #[.slice (some ⟨w4.heap.size, 0, none⟩) 0 0] 31)) ⟨some ⟨w4.heap.size, 0, none⟩, 0, 0⟩ [] := ⟨rfl, Nat.le_refl _, fun h => absurd h (by simp)⟩
        have hO8 := hG8.1
        have HG8 := Lib.hid hG8
        have hF5 := fr_alloc hF4 (.cells #[] 3)
        have hs8 := hal8.size
        have hps : ∀ x ∈ ps ++ [[]], x.length ≤ 21 := fun x hx => by
          rcases List.mem_append.1 hx with h | h
          · exact HPE.out x h
          · simp at h; subst h; simp
        have HPS := Lib.hid hps
        clear hps hG8 hG4 hP4
        go_wp2_with (at_builtin; refine wp_appW rfl _ _ _ rfl 31 (.slice none 0 0) 1 24 Tryd.underlying27 infoSS rfl (by decide) encM_len oneM_ (base := w1.heap.size) (m := 1) (ys := ms) (zs := [(⟨some ⟨w4.heap.size, 0, none⟩, 0, 0⟩ : SlM)]) rfl rfl rfl hO8 hrn (by first | omega | (simp; omega)) (by first | omega | (simp; omega)) (by simp; omega) ?_; intro v9 w9 ho9 hg9 hd9)
        have hb9 := below_grown ((Below.refl ((w4.alloc (.cells #[] 3)).alloc (.cells #[.slice (some ⟨w4.heap.size, 0, none⟩) 0 0] 31)).heap.size ((w4.alloc (.cells #[] 3)).alloc (.cells #[.slice (some ⟨w4.heap.size, 0, none⟩) 0 0] 31))).mono (show w1.heap.size ≤ _ by omega)) (show w1.heap.size ≤ _ by omega) hg9 (fun q hq => hO8.from_ q hq)
        have hF9 := fr_app hF5 hb9 (Nat.le_refl _)
        have hG9 := HG8.out.push_ hrel8 (fun h => absurd h (by simp)) ho9 hg9 hd9
        have hP9 := hP8.kept_ hg9 (fun g hg e => HUV.out g hg e)
        obtain ⟨D, d, rfl, _, hoD⟩ := hP9.ownC encI_len
        obtain ⟨G, g, rfl, hrG⟩ := hG9.rdss
        have hrD := hoD.rd
        have hrB := hrX.frN HX.out hF9
        have hbl := below_new (hf1.trans hF9)
        have hpl9 : (ps ++ [[]]).length ≤ 6 := by simp; omega
        generalize ps ++ [[]] = PS at *
        clear hP8 HG8 hO8 hrn hrel8 hb9 hg9 hd9 hF5 ho9 hG9 hP9 hoD
        go_returns
        exact ⟨B, c', xs, D, d, qs, G, g, PS, rfl, hl, by omega, hpl9, HPS.out, hrB, hrD, hrG, hbl⟩
      have c0 : (r == 0) = false := by simpa using e0
      by_cases e1 : r = 1
      · subst e1
        have hg4 : w.heap.size < w4.heap.size := hc4.1
        go_wp2_with fail
        refine (among_c _ _ [99, 100, 0] _ 3 _ (hc4.alloc (.cells #[.int .i64 99, .int .i64 100, .int .i64 0] 3)) (by decide) (rd_litI w4 [99, 100, 0] 3) (new_ne hg4) (by decide) (by decide)).mono ?_
        rintro e w5 ⟨z, rfl, hx, hf5, hc5⟩
        have hal := (Below.refl w4.heap.size w4).alloc (Nat.le_refl _) (.cells #[.int .i64 99, .int .i64 100, .int .i64 0] 3)
        have hP5 := (hP4.below hal).fr hf5 hgw
        have hG5 := (hG4.below_ hal).fr_ hf5 hgw
        have hF5 := (fr_alloc hF4 (.cells #[.int .i64 99, .int .i64 100, .int .i64 0] 3)).trans hf5
        have hsz5 := hF5.size
        clear hP4 hG4 hF4 hc4 hal hf5 hx
        have hal := (Below.refl w5.heap.size w5).alloc (Nat.le_refl _) (.cells #[.int .i64 z] 3)
        have hP5 := hP5.below hal
        have hG5 := Lib.hid (hG5.below_ hal)
        go_wp2_with (at_builtin; refine wp_appW rfl _ _ _ rfl 3 (.int .i64 0) 1 8 Tryd.underlying31 infoI rfl (by decide) encI_len oneI_ (base := w1.heap.size) (m := 1) (ys := qs) (zs := [z]) rfl rfl rfl hP5 (rd_new (x := z) (vs := [.int .i64 (z)]) rfl rfl) (by first | omega | (simp; omega)) (by first | omega | (simp; omega)) (by simp; omega) ?_; intro v6 w6 ho6 hg6 hd6)
        have hb6 := below_grown ((Below.refl (w5.alloc (.cells #[.int .i64 z] 3)).heap.size (w5.alloc (.cells #[.int .i64 z] 3))).mono (show w1.heap.size ≤ _ by have := hal.size; omega)) (show w1.heap.size ≤ _ by have := hal.size; omega) hg6 (fun q hq => hP5.from_ q hq)
        have hF6 := fr_app hF5 hb6 (Nat.le_refl _)
        have hc6 := cur_app hc5 hb6 hgw
        have hG6 := hG5.out.other hg6 HUV.out hd6
        have huv6 : ∀ q, v6.ownBlock = some q → u8.ownBlock ≠ some q := fun q hq e => by
          rcases hd6 with h | h
          · rw [h] at hq; exact HUV.out q hq e
          · rw [h] at hq; injection hq with hq
            have := hG5.out.1.lt_ q e
            omega
        have hr6 := hrX.frN HX.out hF6
        have hql6 : (qs ++ [z]).length ≤ 6 := by simp; omega
        clear hP5 hG5 hb6 hg6 hd6 hF5 hc5 hal
        refine (shown_c _ _ _ hc6 (by decide) xs B c' hr6 HX.out hl HK.out).mono ?_
        rintro e w7 ⟨Q, q, CS, rfl, hcl, hoQ, hcQ, hf7, hc7⟩
        have hal8 := (Below.refl w7.heap.size w7).alloc (Nat.le_refl _) (.cells #[.slice Q CS.length q] 31)
        have hP7 := ho6.fr hf7 hgw
        have hG7 := hG6.fr_ hf7 hgw
        have hF7 := hF6.trans hf7
        have hP8 := hP7.below hal8
        have hG8 := hG7.below_ hal8
        have hrel8 := relS_grown (relS_own hoQ hcQ) (below_grn hal8) (fun _ _ _ _ e => by cases e)
        have hbs7 : w1.heap.size ≤ w7.heap.size := hF7.size
        have hbs6 : w1.heap.size ≤ w6.heap.size := hF6.size
        have hmb : 0 < CS.length → ∀ q0 off, Q = some ⟨q0, off, none⟩ → u8.ownBlock ≠ some q0 ∧ v6.ownBlock ≠ some q0 ∧ w1.heap.size ≤ q0 := fun hn q0 off hA => by
          obtain ⟨q1, o1, hA', k1, _⟩ := hoQ.2 hn
          rw [hA] at hA'
          injection hA' with e; injection e with e1 _
          refine ⟨fun e => ?_, fun e => ?_, by omega⟩
          · have := hG6.1.lt_ q0 e; omega
          · have := ho6.lt_ q0 e; omega
        have hrn : Rd encM 1 (w7.alloc (.cells #[.slice Q CS.length q] 31)).heap.size (w7.alloc (.cells #[.slice Q CS.length q] 31)) (some ⟨w7.heap.size, 0, none⟩) [(⟨Q, CS.length, q⟩ : SlM)] := rd_new rfl rfl
        have hO8 := hG8.1
        have HG8 := Lib.hid hG8
        have HM := Lib.hid hmb
        have hs78 := hal8.size
        have hps : ∀ x ∈ ps ++ [CS], x.length ≤ 21 := fun x hx => by
          rcases List.mem_append.1 hx with h | h
          · exact HPE.out x h
          · simp at h; subst h; omega
        have HPS := Lib.hid hps
        have HV6 := Lib.hid huv6
        clear hG6 ho6 hG8 hG7 hP7 hF6 hc6 hoQ hmb hr6 hps huv6 hf7
        go_wp2_with (at_builtin; refine wp_appW rfl _ _ _ rfl 31 (.slice none 0 0) 1 24 Tryd.underlying27 infoSS rfl (by decide) encM_len oneM_ (base := w1.heap.size) (m := 1) (ys := ms) (zs := [(⟨Q, CS.length, q⟩ : SlM)]) rfl rfl rfl hO8 hrn (by first | omega | (simp; omega)) (by first | omega | (simp; omega)) (by simp; omega) ?_; intro v9 w9 ho9 hg9 hd9)
        have hb9 := below_grown ((Below.refl (w7.alloc (.cells #[.slice Q CS.length q] 31)).heap.size (w7.alloc (.cells #[.slice Q CS.length q] 31))).mono (show w1.heap.size ≤ _ by omega)) (show w1.heap.size ≤ _ by omega) hg9 (fun q hq => hO8.from_ q hq)
        have hF9 := fr_app hF7 hb9 (Nat.le_refl _)
        have hG9 := HG8.out.push_ hrel8 HM.out ho9 hg9 hd9
        have hP9 := hP8.kept_ hg9 (fun g hg e => HV6.out g hg e)
        obtain ⟨D, d, rfl, _, hoD⟩ := hP9.ownC encI_len
        obtain ⟨G, g, rfl, hrG⟩ := hG9.rdss
        have hrD := hoD.rd
        have hrB := hrX.frN HX.out hF9
        have hbl := below_new (hf1.trans hF9)
        have hpl9 : (ps ++ [CS]).length ≤ 6 := by simp; omega
        generalize ps ++ [CS] = PS at *
        generalize qs ++ [z] = QS at *
        clear hP8 HG8 hO8 hrn hrel8 HM hb9 hg9 hd9 hF7 hc7 ho9 hG9 hP9 hoD
        go_wp2_with fail
        go_returns
        exact ⟨B, c', xs, D, d, QS, G, g, PS, rfl, hl, hql6, hpl9, HPS.out, hrB, hrD, hrG, hbl⟩
      have c1 : (r == 1) = false := by simpa using e1
      obtain ⟨D, d, rfl, _, hoD⟩ := hP4.ownC encI_len
      obtain ⟨G, g, rfl, hrG⟩ := hG4.rdss
      have hrD := hoD.rd
      have hrB := hrX.frN HX.out hF4
      have hbl := below_new (hf1.trans hF4)
      clear hG4 hP4 hoD
      go_wp2_with fail
      go_returns
      exact ⟨B, c', xs, D, d, qs, G, g, ps, rfl, hl, by omega, by omega, HPE.out, hrB, hrD, hrG, hbl⟩
end Go.Proofs.YtgjehnjpbekoeaaDoor
