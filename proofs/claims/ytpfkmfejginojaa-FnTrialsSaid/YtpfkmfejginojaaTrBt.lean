/- bestTrials: the program's search over all sets of trials. No condition but the sizes. -/
import Derived.Test.YtpfkmfejginojaaTrCmp
import Derived.Test.YtpfkmfejginojaaApp
import Derived.Deep.Cut
namespace Go.Proofs.Ytpfkmfejginojaa
set_option linter.unusedVariables false
set_option linter.unusedSimpArgs false
open Go.RowKit
attribute [local irreducible] wpQuiet
/-- A struct that the call has just laid into a new block. -/
structure NewT (w W : World) (vs : List Value) : Prop where
  below : Below w.heap.size w W
  lt : w.heap.size < W.heap.size
  cell : ∀ (j : Nat) (v : Value), vs[j]? = some v → W.cell? ⟨w.heap.size, j, none⟩ = some v
theorem NewT.of (w : World) (vs : List Value) (t : TypeId) : NewT w (w.alloc (.cells vs.toArray t)) vs :=
  ⟨(Below.refl _ _).alloc (Nat.le_refl _) _, by simp, fun j v hv => by rw [World.cell?_alloc_new]; simpa using hv⟩
theorem wpList_pushH {α : Type} {P : Program} {ops : Array Oper} {rest : List Oper} {o : Oper} {a : Act} {Q : Exit → Act → World → Prop} {w : World} (hgd : o.guard = none) (s x : Operand) (t : TypeId)
    (ho : o.op = .call { callee := .builtin .append, args := #[s, x], argTypes := #[t, t] }) (E : TypeId) (z : Value) (bytes : Nat) (ht : P.underlying t = some (.slice E))
    (hi : (P.info? E).map (fun i => (i.zero, i.size, i.bytes)) = some (some z, 1, bytes)) (hzs : z.cells.size = 1)
    {V : α → Value} {base : Nat} {v : Value} {ys : List α} (xx : α) (hs : a.eval s = v) (hown : Out V E base v ys w) (H : Nat) (hx : a.eval x = .slice (some ⟨H, 0, none⟩) 1 1) (hH : w.heap.size = H)
    (h1 : (V xx).oneCell' = true) (hlen : (ys.length + 1) * bytes ≤ 140737488355328) (hle : ys.length + 1 ≤ 9223372036854775807) (hbase : base ≤ w.heap.size)
    (h : ∀ v' w', Out V E base v' (ys ++ [xx]) w' → Below base w w' → (w.alloc (.cells #[V xx] E)).grownBy w' v.ownBlock → wpList P ops Q rest (a.put o.dst v') w') : wpList P ops Q (o :: rest) a (w.alloc (.cells #[V xx] E)) := by
  subst hH
  obtain ⟨i0, hi0, hz0, hz1, hz2⟩ := info_parts hi
  have ho1 : Out V E base v ys (w.alloc (.cells #[V xx] E)) := hown.below ((Below.refl _ _).alloc (Nat.le_refl _) _)
  refine wpList_append_own (w.alloc (.cells #[V xx] E)) hgd s x t ho base E i0 z 1 bytes ht hi0 hz0 hz1 hz2 hzs (by decide) v ys.length (ys.map V) hs ho1 ⟨w.heap.size, 0, none⟩ 1 1 [V xx] hx rfl ?_ ?_ (by unfold maxLen; omega) hlen (by simp; omega) ?_
  · intro j u hu
    have hj : j = 0 := by have := (List.getElem?_eq_some_iff.1 hu).1; simp at this; omega
    subst hj
    have hu' : u = V xx := by simpa using hu.symm
    subst hu'
    have : (⟨w.heap.size, 0, none⟩ : Addr).add 0 = ⟨w.heap.size, 0, none⟩ := rfl
    rw [this, World.cell?_alloc_new]
    rfl
  · intro u hu
    have hu' : u = V xx := by simpa using hu
    subst hu'
    exact h1
  · intro v' w' hown' hg _
    exact h v' w' (Out.snoc hown') (grown_below ((Below.refl _ _).alloc (Nat.le_refl _) _ |>.mono hbase) hbase hg ho1.from_) hg
theorem pow_le {n : Nat} (h : n ≤ 6) : 2 ^ n ≤ 64 := by
  match n, h with
  | 0, _ => decide
  | 1, _ => decide
  | 2, _ => decide
  | 3, _ => decide
  | 4, _ => decide
  | 5, _ => decide
  | 6, _ => decide
theorem pow_wrap {n : Nat} (h : n ≤ 6) : wrap64 ((2 : Int) ^ n) = ((2 ^ n : Nat) : Int) := by
  have h1 := pow_le h
  have h2 : ((2 : Int) ^ n) = ((2 ^ n : Nat) : Int) := by push_cast; rfl
  rw [h2]
  generalize 2 ^ n = m at *
  unfold wrap64
  omega
theorem bit_all : ((List.range 64).all fun s => (List.range 6).all fun k => (bits BinOp.and IntKind.i64 ((s : Int) / 2 ^ k) 1 == 1) == s.testBit k) = true := by kernel_rfl
theorem bit_at {s k : Nat} (hs : s < 64) (hk : k < 6) : (bits BinOp.and IntKind.i64 ((s : Int) / 2 ^ k) 1 == 1) = s.testBit k := by
  have h1 := List.all_eq_true.1 bit_all s (List.mem_range.2 hs)
  have h2 := List.all_eq_true.1 h1 k (List.mem_range.2 hk)
  exact beq_iff_eq.1 h2
theorem upto6 {o : Odds} {n : Nat} (h : o.upto n) (hn : n ≤ 6) : 1 ≤ o.real ∧ o.real ≤ 1000000000000000 ∧ 1 ≤ o.fake ∧ o.fake ≤ 1000000000000000 := by
  obtain ⟨h1, h2, h3, h4⟩ := upto_mono h hn
  exact ⟨h1, by omega, h3, by omega⟩
set_option maxRecDepth 100000 in
set_option maxHeartbeats 1600000 in
theorem bestTrialsF_c (xs : List Trial) (A : Option Addr) (c : Nat) (o : Odds) (num den : Int) (w : World) (hr : Rd encTrial 3 w.heap.size w A xs) (hg : goodT xs = true) (ho : isOd o.real o.fake = true) (h1 : 1 ≤ num) (h2 : num ≤ den) (h3 : den ≤ 1000) :
    Calls Try.prog 34 #[.slice A xs.length c, .agg #[.int .i64 o.real, .int .i64 o.fake], .int .i64 num, .int .i64 den, .func (.func 35) #[] #[]] w (RetL encI 1 (bestG xs o num den beforeL (2 ^ xs.length)).1 (bestG xs o num den beforeL (2 ^ xs.length)).2 w) := by
  have hent := fun args W => enters Try.func35 rfl rfl args W
  have hlen := good_len hg
  have HG := Lib.hid hg
  have HO := Lib.hid (oddsS_upto (o := o) (isOd_upto ho) (fun i h => good_all hg h))
  clear hg ho
  go_enter Try.func34, Try.ntmps34
  go_wp2_with fail
  have hN := pow_le hlen
  rw [pow_wrap hlen]
  generalize hNN : 2 ^ xs.length = N at *
  have hp0 : (w.alloc (.cells #[.int .i64 o.real, .int .i64 o.fake] 31)).cell? ⟨w.heap.size, 0, none⟩ = some (.int .i64 o.real) := by simp
  have hp1 : (w.alloc (.cells #[.int .i64 o.real, .int .i64 o.fake] 31)).cell? ⟨w.heap.size, 1, none⟩ = some (.int .i64 o.fake) := by simp
  have hbA : Below w.heap.size w (w.alloc (.cells #[.int .i64 o.real, .int .i64 o.fake] 31)) := by go_grown
  have hsA : w.heap.size < (w.alloc (.cells #[.int .i64 o.real, .int .i64 o.fake] 31)).heap.size := by simp
  generalize w.alloc (.cells #[.int .i64 o.real, .int .i64 o.fake] 31) = W0 at *
  clear hNN
  go_loopw [12, 13, 22] (fun u b v wr => ∃ (s : Nat), s ≤ N ∧ v = .int .i64 s ∧ b = .bool (bestG xs o num den beforeL s).2 ∧ (∃ A' c', u = .slice A' (bestG xs o num den beforeL s).1.length c' ∧ Own encI 1 W0.heap.size wr.heap.size wr A' (bestG xs o num den beforeL s).1) ∧ Below W0.heap.size W0 wr) (fun _ _ v _ => N - (intOf v).toNat)
  case atStart => exact ⟨0, Nat.zero_le _, rfl, rfl, ⟨_, _, rfl, Own.nil (Nat.le_refl _)⟩, Below.refl _ _⟩
  case round =>
    obtain ⟨s, hs, rfl, rfl, ⟨Ab, cb, rfl, hob⟩, hb⟩ := hrel
    generalize wr = wo at *
    have hbl := bestG_len (xs := xs) (o := o) (num := num) (den := den) (lt := beforeL) s
    have HM := Lib.hid (bestG_mem (xs := xs) (o := o) (num := num) (den := den) (lt := beforeL) s)
    by_cases hlt : s < N
    · have HY := Lib.hid (fun h => bestG_yes (xs := xs) (o := o) (num := num) (den := den) (lt := beforeL) (s := s) h)
      have HNo := Lib.hid (fun h => bestG_no (xs := xs) (o := o) (num := num) (den := den) (lt := beforeL) (s := s) h)
      generalize bestG xs o num den beforeL s = BF at *
      obtain ⟨B, f⟩ := BF
      simp only at HY HNo HM hbl hob
      have q0 := (hb.cell (p := ⟨w.heap.size, 0, none⟩) hsA).trans hp0
      have q1 := (hb.cell (p := ⟨w.heap.size, 1, none⟩) hsA).trans hp1
      have e0 : (wo.alloc (.cells #[.int .i64 o.real, .int .i64 o.fake] 31)).cell? ⟨wo.heap.size, 0, none⟩ = some (.int .i64 o.real) := by simp
      have e1 : (wo.alloc (.cells #[.int .i64 o.real, .int .i64 o.fake] 31)).cell? ⟨wo.heap.size, 1, none⟩ = some (.int .i64 o.fake) := by simp
      have ef := fun o' => World.frozen?_alloc_new wo #[.int .i64 o.real, .int .i64 o.fake] 31 o'
      have hb1 : Below wo.heap.size wo (wo.alloc (.cells #[.int .i64 o.real, .int .i64 o.fake] 31)) := by go_grown
      have hs1 : (wo.alloc (.cells #[.int .i64 o.real, .int .i64 o.fake] 31)).heap.size = wo.heap.size + 1 := by simp
      go_wp2_with fail
      generalize wo.alloc (.cells #[.int .i64 o.real, .int .i64 o.fake] 31) = W1 at *
      go_loopw [15, 28] (fun u v w2 => ∃ k : Nat, k ≤ xs.length ∧ v = .int .i64 k ∧ Out (Value.int .i64) 3 (wo.heap.size + 1) u (whichK s k) w2 ∧ w2.cell? ⟨wo.heap.size, 0, none⟩ = some (.int .i64 (oddsS xs o s k).real) ∧ w2.cell? ⟨wo.heap.size, 1, none⟩ = some (.int .i64 (oddsS xs o s k).fake) ∧ (∀ o', w2.frozen? ⟨wo.heap.size, o', none⟩ = false) ∧ Below wo.heap.size wo w2 ∧ wo.heap.size + 1 ≤ w2.heap.size) (fun _ v _ => xs.length - (intOf v).toNat)
      case atStart => exact ⟨0, Nat.zero_le _, rfl, Out.nil _, e0, e1, ef, hb1, by omega⟩
      case round =>
        obtain ⟨k, hk, rfl, hok, r0, r1, rf, hb2, hs2⟩ := hrel
        clear e0 e1 ef hb1
        by_cases hlk : k < xs.length
        · obtain ⟨b, off, rfl, hbs, d0, d1, d2⟩ := ((((hr.go hbA).below hb).more hb.size).below hb2).atTrial hlk
          have hwl := whichK_len s k
          have hup := HO.out s k (by omega)
          have hub := upto_bd hup (by omega)
          go_upto_region 11 with fail
          have hbt := bit_at (s := s) (k := k) (by omega) (by omega)
          have hul : ∀ g, u15.ownBlock = some g → g < wr.heap.size := fun g hg => (World.ownsRow.lt hok g hg).2
          have hT := NewT.of wr [.int .i64 xs[k].real, .int .i64 xs[k].fake, .int .i64 xs[k].price] 46
          generalize wr.alloc (.cells #[.int .i64 xs[k].real, .int .i64 xs[k].fake, .int .i64 xs[k].price] 46) = W2 at *
          obtain ⟨hTb, hTl, hTc⟩ := hT
          have t0 := hTc 0 _ rfl
          have t1 := hTc 1 _ rfl
          have t2 := hTc 2 _ rfl
          clear hTc d0 d1 d2
          have r0 := (hTb.cell (p := ⟨wo.heap.size, 0, none⟩) hs2).trans r0
          have r1 := (hTb.cell (p := ⟨wo.heap.size, 1, none⟩) hs2).trans r1
          have rf := fun o' => (hTb.frozen (p := ⟨wo.heap.size, o', none⟩) hs2).trans (rf o')
          have hok := hok.below hTb
          have hb3 := hb2.trans (hTb.mono (by omega))
          have hs3 := hTb.size
          cases hbit : s.testBit k with
          | false =>
            rw [hbit] at hbt
            have HS := Lib.hid (whichK_no hbit)
            have HQ := Lib.hid (oddsS_no (o := o) hlk hbit)
            clear hbit
            go_wp2_with fail
            go_roundw
            case rel => exact ⟨k + 1, by omega, by go_num, by rw [HS.out]; exact hok, by rw [HQ.out]; exact r0, by rw [HQ.out]; exact r1, rf, hb3, by omega⟩
            case measure => simp [intOf]; omega
          | true =>
            rw [hbit] at hbt
            have HS := Lib.hid (whichK_yes hbit)
            have HQ := Lib.hid (oddsS_yes (o := o) hlk hbit)
            clear hbit
            have hTk := good_all HG.out hlk
            generalize hWK : whichK s k = ys at *
            clear hWK
            generalize hX : xs[k] = x at *
            have HX := Lib.hid hX
            clear hX
            go_upto_region 13 with (at_builtin; refine wpList_pushH rfl _ _ _ rfl 3 (.int .i64 0) 8 Try.underlying26 infoI rfl (k : Int) rfl hok _ rfl (by simp) rfl (by omega) (by omega) (by omega) ?_; intro v1 w4 hown1 hbel1 hg1)
            rw [← HS.out] at hown1
            have hs4 := hbel1.size
            have hne : some wr.heap.size ≠ u15.ownBlock := fun e => by have := hul _ e.symm; omega
            have hal : Below W2.heap.size W2 (W2.alloc (.cells #[.int .i64 (k : Int)] 3)) := (Below.refl _ _).alloc (Nat.le_refl _) _
            have r0 := (hbel1.cell (p := ⟨wo.heap.size, 0, none⟩) (Nat.lt_succ_self _)).trans r0
            have r1 := (hbel1.cell (p := ⟨wo.heap.size, 1, none⟩) (Nat.lt_succ_self _)).trans r1
            have rf := fun o' => (hbel1.frozen (p := ⟨wo.heap.size, o', none⟩) (Nat.lt_succ_self _)).trans (rf o')
            have t0 := hg1.cell ((hal.cell (p := ⟨wr.heap.size, 0, none⟩) hTl).trans t0) hne
            have t1 := hg1.cell ((hal.cell (p := ⟨wr.heap.size, 1, none⟩) hTl).trans t1) hne
            have t2 := hg1.cell ((hal.cell (p := ⟨wr.heap.size, 2, none⟩) hTl).trans t2) hne
            have hb4 := hb3.trans (hbel1.mono (Nat.le_succ _))
            generalize oddsS xs o s k = ok at *
            clear hok hg1 hal hbel1
            go_wp2_with fail
            refine (after_c ok x true k _ hup (by omega) hTk).mono ?_
            rintro _ w5 ⟨rfl, hb5⟩
            have hs5 := hb5.size
            have r0 := (hb5.cell (p := ⟨wo.heap.size, 0, none⟩) (by simp only; omega)).trans r0
            have r1 := (hb5.cell (p := ⟨wo.heap.size, 1, none⟩) (by simp only; omega)).trans r1
            have rf := fun o' => (hb5.frozen (p := ⟨wo.heap.size, o', none⟩) (by simp only; omega)).trans (rf o')
            have hown5 := hown1.below hb5
            have hb6 := hb4.trans (hb5.mono hb4.size)
            have HQ2 := Lib.hid (show oddsS xs o s (k + 1) = ok.after x true by rw [HQ.out])
            generalize ok.after x true = ok2 at *
            go_wp2_with fail
            obtain ⟨z0, z1⟩ := set2_cells (a := .int .i64 ok2.real) (b := .int .i64 ok2.fake) r0 r1
            have hF := ((Fr.refl wo.heap.size (wo.heap.size + 1) w5).setCell (p := ⟨wo.heap.size, 0, none⟩) (Nat.le_refl _) (Nat.lt_succ_self _) (.int .i64 ok2.real)).setCell (p := ⟨wo.heap.size, 1, none⟩) (Nat.le_refl _) (Nat.lt_succ_self _) (.int .i64 ok2.fake)
            have hbf := (hb6.setCell (p := ⟨wo.heap.size, 0, none⟩) (Nat.le_refl _) (.int .i64 ok2.real)).setCell (p := ⟨wo.heap.size, 1, none⟩) (Nat.le_refl _) (.int .i64 ok2.fake)
            have hfr := fun o' => show ((w5.setCell ⟨wo.heap.size, 0, none⟩ (.int .i64 ok2.real)).setCell ⟨wo.heap.size, 1, none⟩ (.int .i64 ok2.fake)).frozen? ⟨wo.heap.size, o', none⟩ = false by rw [World.frozen?_setCell, World.frozen?_setCell]; exact rf o'
            have hown6 : Out (Value.int .i64) 3 (wo.heap.size + 1) v1 (whichK s (k + 1)) ((w5.setCell ⟨wo.heap.size, 0, none⟩ (.int .i64 ok2.real)).setCell ⟨wo.heap.size, 1, none⟩ (.int .i64 ok2.fake)) :=
              World.ownsRow.kept hown5 (row := some wo.heap.size) ⟨hF.os, hF.tape, hF.output, hF.size, fun k hk hne => hF.block k hk (by have : k ≠ wo.heap.size := fun e => hne (by rw [e]); omega)⟩ (by
                cases hv : v1.ownBlock with
                | none => exact .inl rfl
                | some g => exact .inr (fun e => by injection e with e; have := hown5.from_ g hv; omega))
            have hsz := hF.size
            go_roundw
            case rel => exact ⟨k + 1, by omega, by go_num, hown6, by rw [HQ2.out]; exact z0, by rw [HQ2.out]; exact z1, hfr, hbf, by omega⟩
            case measure => simp [intOf]; omega
        · have hke : k = xs.length := by omega
          subst hke
          obtain ⟨u1, u2, u3, u4⟩ := upto6 (HO.out s xs.length (Nat.le_refl _)) hlen
          have hwl := whichK_len s xs.length
          have hwm := Lib.hid (fun x hx => whichK_mem (s := s) (k := xs.length) x hx)
          have hbg := hb.trans (hb2.mono hb.size)
          have hobr := hob.go hb2
          have hs3 := hb2.size
          generalize whichK s xs.length = wk at *
          generalize oddsS xs o s xs.length = od at *
          have m1 : 0 ≤ od.real * (den - num) := Int.mul_nonneg (by omega) (by omega)
          have m2 : od.real * (den - num) ≤ 1000000000000000 * 999 := Int.mul_le_mul u2 (by omega) (by omega) (by omega)
          have m3 : 0 ≤ od.fake * num := Int.mul_nonneg (by omega) (by omega)
          have m4 : od.fake * num ≤ 1000000000000000 * 1000 := Int.mul_le_mul u4 (by omega) (by omega) (by omega)
          have hen : decide (od.fake * num ≤ od.real * (den - num)) = enough od num den := rfl
          obtain ⟨Aw, cw, rfl, how⟩ := hok.own
          cases hE : enough od num den with
          | false =>
            rw [hE] at hen
            have HB := Lib.hid (HNo.out (by rw [hE]; rfl))
            clear hE HY HNo
            go_wp2_with fail
            go_roundw
            case rel => exact ⟨s + 1, by omega, by go_num, by rw [HB.out], ⟨Ab, cb, by rw [HB.out], by rw [HB.out]; exact hobr.wide (Nat.le_refl _) hs3 (Nat.le_refl _)⟩, hbg⟩
            case measure => simp [intOf]; omega
          | true =>
            rw [hE] at hen
            cases f with
            | false =>
              have HB := Lib.hid (HY.out (by rw [hE]; rfl))
              clear hE HY HNo
              go_wp2_with fail
              go_roundw
              case rel => exact ⟨s + 1, by omega, by go_num, by rw [HB.out], ⟨Aw, cw, by rw [HB.out], by rw [HB.out]; exact how.wide (Nat.le_trans hb.size (Nat.le_succ _)) (Nat.le_refl _) (Nat.le_refl _)⟩, hbg⟩
              case measure => simp [intOf]; omega
            | true =>
              go_wp2_with fail
              refine (fewest1_c wk B _ _ _ _ _ how.rd hobr.rd (by omega) (by omega)).mono ?_
              rintro _ w5 ⟨rfl, hb5⟩
              have hcmp := before_impl wk B
              generalize orI [cmpI wk.length B.length, compL wk B] = r at *
              cases hL : beforeL wk B with
              | true =>
                rw [hL] at hcmp
                have HB := Lib.hid (HY.out (by rw [hE, hL]; rfl))
                clear hE HY HNo hL
                go_wp2_with fail
                go_roundw
                case rel => exact ⟨s + 1, by omega, by go_num, by rw [HB.out], ⟨Aw, cw, by rw [HB.out], by rw [HB.out]; exact (how.go hb5).wide (Nat.le_trans hb.size (Nat.le_succ _)) hb5.size (Nat.le_refl _)⟩, hbg.trans (hb5.mono hbg.size)⟩
                case measure => simp [intOf]; omega
              | false =>
                rw [hL] at hcmp
                have HB := Lib.hid (HNo.out (by rw [hE, hL]; rfl))
                clear hE HY HNo hL
                go_wp2_with fail
                go_roundw
                case rel => exact ⟨s + 1, by omega, by go_num, by rw [HB.out], ⟨Ab, cb, by rw [HB.out], by rw [HB.out]; exact (hobr.go hb5).wide (Nat.le_refl _) (Nat.le_trans hs3 hb5.size) (Nat.le_refl _)⟩, hbg.trans (hb5.mono hbg.size)⟩
                case measure => simp [intOf]; omega
    · have hse : s = N := by omega
      subst hse
      go_wp2_with fail
      go_returns
      exact ⟨Ab, cb, rfl, hbA.trans (hb.mono hbA.size), hob.wide hbA.size (Nat.le_refl _) (Nat.le_refl _)⟩
end Go.Proofs.Ytpfkmfejginojaa
