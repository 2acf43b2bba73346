/- partOf: the program's list of the pages of a part. No condition but the sizes. -/
import Derived.Test.YtehoocnhooemoaaAlPg
import Derived.Test.YtehoocnhooemoaaAlIs
namespace Go.Proofs.Ytehoocnhooemoaa
set_option linter.unusedVariables false
set_option linter.unusedSimpArgs false
open Go.RowKit Go.Maps
attribute [local irreducible] wpQuiet
theorem wpList_appG {α : Type} {P : Program} {ops : Array Oper} {rest : List Oper} {o : Oper} {a : Act} {Q : Exit → Act → World → Prop} {w : World} (hgd : o.guard = none) (s x : Operand) (t : TypeId)
    (ho : o.op = .call { callee := .builtin .append, args := #[s, x], argTypes := #[t, t] }) (E : TypeId) (z : Value) (k bytes : Nat) (ht : P.underlying t = some (.slice E))
    (hi : (P.info? E).map (fun i => (i.zero, i.size, i.bytes)) = some (some z, k, bytes)) (hzs : z.cells.size = k) (hk : 0 < k)
    {enc : α → List Value} (hl : ∀ x, (enc x).length = k) (h1 : ∀ x, ∀ u ∈ enc x, u.oneCell' = true) {base B : Nat} {v : Value} {ys zs : List α} {A : Option Addr} {m c : Nat} (hs : a.eval s = v) (hx : a.eval x = .slice A m c) (hm : m = zs.length) (hown : OutR enc k E base v ys w) (hr : Rd enc k B w A zs)
    (hlen : (ys.length + m) * bytes ≤ 140737488355328) (hle : ys.length + m ≤ 9223372036854775807) (hbase : base ≤ w.heap.size)
    (h : ∀ v' w', OutR enc k E base v' (ys ++ zs) w' → Below base w w' → w.grownBy w' v.ownBlock → wpList P ops Q rest (a.put o.dst v') w') : wpList P ops Q (o :: rest) a w :=
  wpList_plain hgd fun _ hK => wp_app s x t ho E z k bytes ht hi hzs hk hl h1 hs hx hm hown hr hlen hle hbase fun v' w' h2 h3 h4 => hK _ _ (h v' w' h2 h3 h4)
theorem SetB.upd {w : World} {B n : Nat} {S : List Int} (h : SetB B n S w) (hn : n < maxLen) {key : Int} (hf : Fits key) :
    ∃ w', (Instr.mapUpdate 65 (.map (some B)) (.int .i64 key) (.bool true)).run Try.prog w = .ok () w' ∧ SetB B (n + 1) (key :: S) w' ∧ w.grownBy w' (some B) := by
  obtain ⟨D, h, h2⟩ := h
  obtain ⟨w', hrun, r1, r2⟩ := h.update lawI Try.underlying65 hn (keyOf_int_mk Try.underlying3 (wf_int hf)) (plainElem_bool Try.underlying4 true)
  refine ⟨w', hrun, ⟨_, r1, fun y => ?_⟩, r2⟩
  by_cases hy : y = key
  · subst hy
    rw [atKey_put_same h.isMap (show WideAt.IsKeyLit (.int .i64 y) from trivial)]
    simp
  · rw [atKey_put_other (by intro e; injection e with _ e; exact hy e), h2 y]
    simp [hy]
theorem OutR.kept {α : Type} {enc : α → List Value} {k : Nat} {E : TypeId} {base : Nat} {v : Value} {ys : List α} {w w' : World} {row : Option Nat} (h : OutR enc k E base v ys w) (hg : w.grownBy w' row) (hne : v.ownBlock = none ∨ v.ownBlock ≠ row) : OutR enc k E base v ys w' := World.ownsRow.kept h hg hne
theorem OutR.ne {α : Type} {enc : α → List Value} {k : Nat} {E : TypeId} {base B : Nat} {v : Value} {ys : List α} {w : World} (h : OutR enc k E base v ys w) (hB : B < base) : v.ownBlock = none ∨ v.ownBlock ≠ some B := by
  cases hv : v.ownBlock with
  | none => exact .inl rfl
  | some g => exact .inr fun e => by injection e with e; have := h.from_ g hv; omega
theorem fits_small {x : Int} (h0 : -100 ≤ x) (h1 : x ≤ 1000) : Fits x := by unfold Fits; omega
/-- The call returns a slice that reads as the pages ps. -/
def RetPgs (ps : List Page) (w : World) (e : Ending) (w' : World) : Prop := ∃ B c', e = .returned (.slice B ps.length c') ∧ Below w.heap.size w w' ∧ RdP w'.heap.size w' B ps
set_option maxRecDepth 100000 in
set_option maxHeartbeats 1600000 in
theorem partOf_c (xs : List Page) (A : Option Addr) (c : Nat) (j : Nat) (w : World) (hr : RdP w.heap.size w A xs) (hn : xs.length ≤ 1048576) (hg : goodA xs = true) (hj : j < xs.length) :
    Calls Try.prog 40 #[.slice A xs.length c, .int .i64 xs[j].id] w (RetPgs (partP xs xs[j].id xs.length) w) := by
  have HG := Lib.hid hg
  have hlen := goodA_len hg
  have HC := Lib.hid (fun (k : Nat) (hk : k < xs.length) => part_cond hg hj hk)
  obtain ⟨id, hid⟩ : ∃ id, xs[j].id = id := ⟨_, rfl⟩
  have hfid : Fits id := by have := good_base hg hj; rw [hid] at this; exact fits_small (by omega) (by omega)
  clear hg
  rw [hid] at HC ⊢
  clear hid
  have hS0 := SetB.made w
  have hB0 : Below w.heap.size w (w.alloc (.map #[] 0)) := ((Below.refl _ _).alloc (Nat.le_refl _) _)
  obtain ⟨w1, hrun, hS1, hg1⟩ := hS0.upd (by decide) hfid
  have hmm := @run_makeMap Try.prog
  have hb1 := below_put hB0 hg1 (Nat.le_refl _) hB0.size
  have hlt1 := hS1.lt
  have hmem0 : ∀ x, x ∈ [id] ↔ x ∈ id :: partK xs id 0 := fun x => by simp [partK]
  have ho0 := OutR.nil (enc := encPM) (k := 4) (E := 44) (base := w1.heap.size) w1
  clear hS0 hg1
  go_enter Try.func40, Try.ntmps40
  go_wp2_with fail
  clear hmm hrun
  obtain ⟨b0, hb0⟩ : ∃ b0, w1.heap.size = b0 := ⟨_, rfl⟩
  rw [hb0] at ho0 hlt1
  go_loopw [6, 14] (fun u i wr => ∃ (k n : Nat) (S : List Int) (ms : List PageM), k ≤ xs.length ∧ i = .int .i64 k ∧ SetB w.heap.size n S wr ∧ n ≤ k + 1 ∧ (∀ x, x ∈ S ↔ x ∈ id :: partK xs id k) ∧ OutR encPM 4 44 b0 u ms wr ∧ Mir w.heap.size wr ms (partP xs id k) ∧ Below w.heap.size w wr ∧ b0 ≤ wr.heap.size) (fun _ i _ => xs.length - (intOf i).toNat)
  case atStart => exact ⟨0, 1, [id], [], Nat.zero_le _, rfl, hS1, by omega, hmem0, ho0, Mir.nil, hb1, by omega⟩
  case round =>
    obtain ⟨k, n, S, ms, hk, rfl, hS, hnk, hmem, ho, hM, hb, hbs0⟩ := hrel
    clear ho0 hS1
    have hml := hM.1
    have hpl := partP_len (id := id) hk
    by_cases hlt : k < xs.length
    · obtain ⟨b, off, Ai, ci, rfl, hbs, d0, d1, d2, d3, hci, hri⟩ := (hr.below hb).page hlt
      have hgb := good_base HG.out hlt
      have hfi : Fits xs[k].id := fits_small (by omega) (by omega)
      have hfu : Fits xs[k].under := by
        have h1 := good_under HG.out hlt
        by_cases hu : xs[k].under = 0
        · rw [hu]; exact fits_small (by omega) (by omega)
        · obtain ⟨i', hi', e'⟩ := good_above HG.out hlt hu
          have h2 := (good_base HG.out (show i' < xs.length by omega)).1
          exact fits_small (by omega) (by omega)
      clear hgb
      have HMEM := Lib.hid hmem
      clear hmem
      have hcd := HC.out k hlt
      rw [← HMEM.out, ← HMEM.out] at hcd
      have HPM : Hid (PMI w.heap.size wr ⟨xs[k].id, xs[k].title, xs[k].under, Ai, xs[k].items.length, ci⟩ xs[k]) := Lib.hid ⟨rfl, rfl, rfl, rfl, hci, hri⟩
      have hne := ho.ne hlt1
      go_upto_region 6 with fail
      have hW := New.of wr [.int .i64 xs[k].id, .string xs[k].title, .int .i64 xs[k].under, .slice Ai xs[k].items.length ci] 44
      generalize wr.alloc (.cells #[.int .i64 xs[k].id, .string xs[k].title, .int .i64 xs[k].under, .slice Ai xs[k].items.length ci] 44) = W at *
      obtain ⟨hWb, hWl, hWc⟩ := hW
      have e0 := hWc 0 _ rfl
      have e1 := hWc 1 _ rfl
      have e2 := hWc 2 _ rfl
      have e3 := hWc 3 _ rfl
      clear hWc d0 d1 d2 d3 hri
      have hwb := hb.size
      have hbw := hb.trans (hWb.mono hb.size)
      have ho := ho.below hWb
      have hM := hM.keep (hWb.mono hb.size)
      have HPM := Lib.hid (HPM.out.keep (hWb.mono hb.size))
      have hSW := hS.go hWb
      have hSl := hS.lt
      have hWs := hWb.size
      generalize wr.heap.size = hp at *
      have hrun1 := hSW.run hfi
      have HRUN := Lib.hid (hSW.run hfu)
      by_cases hc : xs[k].id = id ∨ xs[k].under ∈ partK xs id k
      · have HS := Lib.hid (partP_yes hlt hc)
        have HT := Lib.hid (part_set (S := S) hlt HMEM.out hc)
        have hor := hcd.2 hc
        clear hcd hc
        by_cases h1 : xs[k].id ∈ S
        · rw [decide_eq_true h1] at hrun1
          clear h1 hor
          go_upto_region 7 with fail
          go_upto_region 8 with ((at_mapUpdate; refine wpList_put (by rfl) _ _ _ (by rfl) (by rfl) hSW (by unfold maxLen; omega) xs[k].id (by rfl) (by rfl) hfi ?_; intro w6 hS6 hg6))
          have ho6 := ho.kept hg6 hne
          have hM6 := hM.keep (below_put (Below.refl _ _) hg6 (Nat.le_refl _) hbw.size)
          have hb6 := below_put hbw hg6 (Nat.le_refl _) hbw.size
          have k0 := hg6.cell e0 (by simp; omega)
          have k1 := hg6.cell e1 (by simp; omega)
          have k2 := hg6.cell e2 (by simp; omega)
          have k3 := hg6.cell e3 (by simp; omega)
          clear e0 e1 e2 e3 hrun1 HRUN
          go_wp2_with (at_builtin; refine wpList_appG rfl _ _ _ rfl 44 (.agg #[.int .i64 0, .string ⟨#[]⟩, .int .i64 0, .slice none 0 0]) 4 56 Try.underlying24 infoPage rfl (by decide) encPM_len onePM (base := b0) (m := 1) (ys := ms) (zs := [(⟨xs[k].id, xs[k].title, xs[k].under, Ai, xs[k].items.length, ci⟩ : PageM)]) rfl rfl rfl (ho6.below ((Below.refl _ _).alloc (Nat.le_refl _) _)) (rd_new (x := (⟨xs[k].id, xs[k].title, xs[k].under, Ai, xs[k].items.length, ci⟩ : PageM)) (vs := [.int .i64 xs[k].id, .string xs[k].title, .int .i64 xs[k].under, .slice Ai xs[k].items.length ci]) rfl rfl) (by omega) (by omega) (by have := hg6.size; simp; omega) ?_; intro v7 w7 ho7 hb7 hg7)
          have hsz6 : hp < w6.heap.size := Nat.lt_of_lt_of_le hWl hg6.size
          have hbk : Below w.heap.size w6 w7 := ((Below.refl w.heap.size w6).alloc (by omega) _).trans (hb7.mono (by omega))
          have hb17 : Below w.heap.size W w7 := (below_put (Below.refl w.heap.size W) hg6 (Nat.le_refl _) hbw.size).trans hbk
          have hneS : some w.heap.size ≠ u6.ownBlock := fun e => hne.elim (fun h => by rw [h] at e; cases e) (fun h => h e.symm)
          have hS7 := (hS6.go ((Below.refl _ _).alloc (Nat.le_refl _) (.cells #[.int .i64 xs[k].id, .string xs[k].title, .int .i64 xs[k].under, .slice Ai xs[k].items.length ci] 44))).kept hg7 hneS
          have hM7 := (hM6.keep hbk).snoc (HPM.out.keep hb17)
          rw [← HS.out] at hM7
          have hs7 := hbk.size
          go_roundw
          case rel => exact ⟨k + 1, n + 1, xs[k].id :: S, _, by omega, by go_num, hS7, by omega, HT.out, ho7, hM7, hb6.trans hbk, by omega⟩
          case measure => simp [intOf]; omega
        · have h2 : xs[k].under ∈ S := hor.resolve_left h1
          rw [decide_eq_false h1] at hrun1
          have hrun2 := HRUN.out
          rw [decide_eq_true h2] at hrun2
          clear h1 h2 hor
          go_upto_region 7 with fail
          go_upto_region 8 with ((at_mapUpdate; refine wpList_put (by rfl) _ _ _ (by rfl) (by rfl) hSW (by unfold maxLen; omega) xs[k].id (by rfl) (by rfl) hfi ?_; intro w6 hS6 hg6))
          have ho6 := ho.kept hg6 hne
          have hM6 := hM.keep (below_put (Below.refl _ _) hg6 (Nat.le_refl _) hbw.size)
          have hb6 := below_put hbw hg6 (Nat.le_refl _) hbw.size
          have k0 := hg6.cell e0 (by simp; omega)
          have k1 := hg6.cell e1 (by simp; omega)
          have k2 := hg6.cell e2 (by simp; omega)
          have k3 := hg6.cell e3 (by simp; omega)
          clear e0 e1 e2 e3 hrun1 HRUN
          go_wp2_with (at_builtin; refine wpList_appG rfl _ _ _ rfl 44 (.agg #[.int .i64 0, .string ⟨#[]⟩, .int .i64 0, .slice none 0 0]) 4 56 Try.underlying24 infoPage rfl (by decide) encPM_len onePM (base := b0) (m := 1) (ys := ms) (zs := [(⟨xs[k].id, xs[k].title, xs[k].under, Ai, xs[k].items.length, ci⟩ : PageM)]) rfl rfl rfl (ho6.below ((Below.refl _ _).alloc (Nat.le_refl _) _)) (rd_new (x := (⟨xs[k].id, xs[k].title, xs[k].under, Ai, xs[k].items.length, ci⟩ : PageM)) (vs := [.int .i64 xs[k].id, .string xs[k].title, .int .i64 xs[k].under, .slice Ai xs[k].items.length ci]) rfl rfl) (by omega) (by omega) (by have := hg6.size; simp; omega) ?_; intro v7 w7 ho7 hb7 hg7)
          have hsz6 : hp < w6.heap.size := Nat.lt_of_lt_of_le hWl hg6.size
          have hbk : Below w.heap.size w6 w7 := ((Below.refl w.heap.size w6).alloc (by omega) _).trans (hb7.mono (by omega))
          have hb17 : Below w.heap.size W w7 := (below_put (Below.refl w.heap.size W) hg6 (Nat.le_refl _) hbw.size).trans hbk
          have hneS : some w.heap.size ≠ u6.ownBlock := fun e => hne.elim (fun h => by rw [h] at e; cases e) (fun h => h e.symm)
          have hS7 := (hS6.go ((Below.refl _ _).alloc (Nat.le_refl _) (.cells #[.int .i64 xs[k].id, .string xs[k].title, .int .i64 xs[k].under, .slice Ai xs[k].items.length ci] 44))).kept hg7 hneS
          have hM7 := (hM6.keep hbk).snoc (HPM.out.keep hb17)
          rw [← HS.out] at hM7
          have hs7 := hbk.size
          go_roundw
          case rel => exact ⟨k + 1, n + 1, xs[k].id :: S, _, by omega, by go_num, hS7, by omega, HT.out, ho7, hM7, hb6.trans hbk, by omega⟩
          case measure => simp [intOf]; omega
      · have HS := Lib.hid (partP_no hlt hc)
        have HT := Lib.hid (partK_no hlt hc)
        have h1 : ¬ xs[k].id ∈ S := fun h => hc (hcd.1 (.inl h))
        have h2 : ¬ xs[k].under ∈ S := fun h => hc (hcd.1 (.inr h))
        have hrun2 := HRUN.out
        rw [decide_eq_false h1] at hrun1
        rw [decide_eq_false h2] at hrun2
        clear hcd hc h1 h2
        go_wp2_with fail
        go_roundw
        case rel => exact ⟨k + 1, n, S, ms, by omega, by go_num, hSW, by omega, by rw [HT.out]; exact HMEM.out, ho, by rw [HS.out]; exact hM, hbw, by omega⟩
        case measure => simp [intOf]; omega
    · have hke : k = xs.length := by omega
      subst hke
      obtain ⟨A5, c5, rfl, ho5, hc5⟩ := ho.own encPM_len
      have hR := hM.rdP ho5.rd hb.size
      rw [hml]
      go_wp2_with fail
      go_returns
      exact ⟨_, _, ret_sl rfl, hb, hR⟩
end Go.Proofs.Ytehoocnhooemoaa
