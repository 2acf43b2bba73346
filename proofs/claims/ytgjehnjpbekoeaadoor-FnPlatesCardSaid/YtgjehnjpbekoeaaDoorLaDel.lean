/- Contract of slices.DeleteFunc as the program's LookAlikes calls it: of a list of lists of the call's own, those with at least two numbers. No condition but the sizes. -/
import Derived.Test.YtgjehnjpbekoeaaDoorOwnG
import Derived.Test.YtgjehnjpbekoeaaDoorLaIdx
import Derived.Test.YtgjehnjpbekoeaaDoorCopyK
import Derived.Laws.IdiomCopy
import Derived.Deep.RegionLaw
namespace Go.Proofs.YtgjehnjpbekoeaaDoor
set_option linter.unusedVariables false
set_option linter.unusedSimpArgs false
open Go.RowKit
attribute [local irreducible] wpQuiet
theorem idxI_cases {α : Type} (p : α → Bool) (xs : List α) : (∃ j, ∃ (hj : j < xs.length), idxI p xs = (j : Int) ∧ p xs[j] = true ∧ ∀ x ∈ xs.take j, p x = false) ∨ (idxI p xs = -1 ∧ ∀ x ∈ xs, p x = false) := by
  unfold idxI
  cases h : xs.findIdx? p with
  | none => exact .inr ⟨rfl, by simpa using h⟩
  | some i =>
    obtain ⟨h1, h2, h3⟩ := List.findIdx?_eq_some_iff_getElem.1 h
    refine .inl ⟨i, h1, rfl, h2, fun x hx => ?_⟩
    obtain ⟨j, hj, rfl⟩ := List.getElem_of_mem hx
    have hj' : j < i := by simp at hj; omega
    rw [List.getElem_take]
    simpa using h3 j hj'
theorem run_clearN (w : World) (t e ty : TypeId) (z : Value) (ht : Tryd.prog.underlying t = some (.slice e)) (hv : ∀ w, (zeroValue e).run Tryd.prog w = .ok z w) (hk : z.cells = #[z]) (h1 : z.oneCell' = true) (g o m c : Nat) (cur : Array Value) (te : TypeId) (hg : w.heap[g]? = some (.cells cur te (0, 0))) (hfit : o + m ≤ cur.size) (hm : 0 < m) :
    (Builtin.clear_ #[t] ty #[.slice (some ⟨g, o, none⟩) m c]).run Tryd.prog w = .ok (.tuple #[]) (w.setRow g (splice cur.toList o (List.replicate m z)).toArray) := by
  have hzc : (Builtin.zeroCells z.cells m).toList = List.replicate m z := by
    rw [hk]
    apply List.ext_getElem
    · simp [Builtin.zeroCells]
    · intro i h1 h2
      simp [Builtin.zeroCells, Nat.mod_one]
  have hst := run_storeCells_at Tryd.prog g o te (List.replicate m z) 0 cur w hg (by simp; omega) (fun v hv => by rw [List.eq_of_mem_replicate hv]; exact h1)
  simp only [Nat.add_zero] at hst
  obtain ⟨m', rfl⟩ : ∃ m', m = m' + 1 := ⟨m - 1, by omega⟩
  simp [Builtin.clear_, run_underlying ht, hv, hzc, hst, splice]
def fM (m : SlM) : Bool := decide (2 ≤ m.n)
theorem filter2 : ∀ (ms : List SlM) (ps : List (List Int)), ms.length = ps.length → (∀ (i : Nat) (m : SlM) (p : List Int), ms[i]? = some m → ps[i]? = some p → fM m = twoP p) → ∀ (i : Nat) (p : List Int), (ps.filter twoP)[i]? = some p → ∃ i0 m, ms[i0]? = some m ∧ ps[i0]? = some p ∧ (ms.filter fM)[i]? = some m ∧ ((ms.take i0).filter fM).length = i
  | [], ps, hl, _, i, p, h => by
    obtain rfl : ps = [] := List.eq_nil_of_length_eq_zero (by simpa using hl.symm)
    simp at h
  | m :: ms, [], hl, _, i, p, h => by simp at hl
  | m :: ms, q :: ps, hl, hf, i, p, h => by
    have h0 := hf 0 m q rfl rfl
    have ih := filter2 ms ps (by simpa using hl) (fun i m p hm hp => hf (i + 1) m p (by simpa using hm) (by simpa using hp))
    cases hq : twoP q
    · rw [hq] at h0
      rw [List.filter_cons_of_neg (by simp [hq])] at h
      obtain ⟨i0, m', k1, k2, k3, k4⟩ := ih i p h
      exact ⟨i0 + 1, m', by simpa using k1, by simpa using k2, by rw [List.filter_cons_of_neg (by simp [h0])]; exact k3, by rw [List.take_succ_cons, List.filter_cons_of_neg (by simp [h0])]; exact k4⟩
    · rw [hq] at h0
      rw [List.filter_cons_of_pos hq] at h
      cases i with
      | zero =>
        simp at h; subst h
        exact ⟨0, m, rfl, rfl, by rw [List.filter_cons_of_pos h0]; rfl, by simp⟩
      | succ i =>
        simp at h
        obtain ⟨i0, m', k1, k2, k3, k4⟩ := ih i p h
        exact ⟨i0 + 1, m', by simpa using k1, by simpa using k2, by rw [List.filter_cons_of_pos h0]; simpa using k3, by rw [List.take_succ_cons, List.filter_cons_of_pos h0]; simp [k4]⟩
theorem filter2_len : ∀ (ms : List SlM) (ps : List (List Int)), ms.length = ps.length → (∀ (i : Nat) (m : SlM) (p : List Int), ms[i]? = some m → ps[i]? = some p → fM m = twoP p) → (ms.filter fM).length = (ps.filter twoP).length
  | [], ps, hl, _ => by
    obtain rfl : ps = [] := List.eq_nil_of_length_eq_zero (by simpa using hl.symm)
    rfl
  | m :: ms, [], hl, _ => by simp at hl
  | m :: ms, q :: ps, hl, hf => by
    have h0 := hf 0 m q rfl rfl
    have ih := filter2_len ms ps (by simpa using hl) (fun i m p hm hp => hf (i + 1) m p (by simpa using hm) (by simpa using hp))
    cases hq : twoP q
    · rw [hq] at h0
      rw [List.filter_cons_of_neg (p := twoP) (by simp [hq]), List.filter_cons_of_neg (p := fM) (by simp [h0])]; exact ih
    · rw [hq] at h0
      rw [List.filter_cons_of_pos (p := twoP) hq, List.filter_cons_of_pos (p := fM) h0]; simp [ih]
section
variable {base : Nat} {ms : List SlM} {ps : List (List Int)} {w w' : World} {v : Value}
theorem OwnG.fit (h : OwnG base v ms ps w) : ∀ (i : Nat) (m : SlM) (p : List Int), ms[i]? = some m → ps[i]? = some p → fM m = twoP p := fun i m p hm hp => by
  obtain ⟨m', e1, e2, _⟩ := h.in_ (i := i) (List.getElem?_eq_some_iff.1 hp).1
  rw [hm] at e1; injection e1 with e1; subst e1
  rw [(List.getElem?_eq_some_iff.1 hp).2] at e2
  unfold fM twoP; rw [e2]
theorem OwnG.filt {g n c : Nat} (h : OwnG base (.slice (some ⟨g, 0, none⟩) n c) ms ps w) (hf : Fr g (g + 1) w w') (hcell : ∀ (i : Nat) (m : SlM), (ms.filter fM)[i]? = some m → w'.cell? ⟨g, i, none⟩ = some m.val) (hfz : ∀ o, w'.frozen? ⟨g, o, none⟩ = false) : OwnSS base w'.heap.size w' (some ⟨g, 0, none⟩) (ps.filter twoP) := by
  have hfit := h.fit
  obtain ⟨h1, h2, h3, ix, h4⟩ := h
  have hgl : g < w.heap.size := h1.lt_ g rfl
  have hgr : w.grownBy w' (some g) := ⟨hf.os, hf.tape, hf.output, hf.size, fun k hk hne => hf.block k hk (by have : k ≠ g := fun e => hne (by rw [e]); omega)⟩
  refine ⟨Nat.le_refl _, fun _ => ⟨g, 0, fun b => ((ms.take (ix b)).filter fM).length, rfl, h1.from_ g rfl, Nat.lt_of_lt_of_le hgl hf.size, hfz, fun i p hp => ?_⟩⟩
  obtain ⟨i0, m, k1, k2, k3, k4⟩ := filter2 ms ps h2 hfit i p hp
  have hx := (h3 i0 m p k1 k2).kept_ hgr fun q hq e => (h4 i0 m q k1 hq).2 (by injection e with e; rw [e]; rfl)
  obtain ⟨A', c', e, q1, q2⟩ := hx.ownC encI_len
  have d := hcell i m k3
  rw [e] at d
  refine ⟨A', c', by rw [Nat.zero_add]; exact d, q1, fun hp0 => ?_⟩
  obtain ⟨bi, oi, rfl, r1, r2, r3, r4⟩ := q2.2 hp0
  have hob : m.val.ownBlock = some bi := by rw [e]; rfl
  obtain ⟨f1, f2⟩ := h4 i0 m bi k1 hob
  exact ⟨bi, oi, rfl, r1, r2, fun e => f2 (by rw [e]; rfl), (by show ((ms.take (ix bi)).filter fM).length = i; rw [f1]; exact k4), fun j z hz => by simpa using r3 j z hz 0 _ rfl, r4⟩
end
theorem zeroSl : ∀ w, (zeroValue 31).run Tryd.prog w = .ok (.slice none 0 0) w := fun w => by kernel_rfl
theorem take_filt_yes {ms : List SlM} {j : Nat} (h : j < ms.length) (hf : fM ms[j] = true) : (ms.take (j + 1)).filter fM = (ms.take j).filter fM ++ [ms[j]] := by
  rw [take_succ_get ms j h, List.filter_append]; simp [hf]
theorem take_filt_no {ms : List SlM} {j : Nat} (h : j < ms.length) (hf : fM ms[j] = false) : (ms.take (j + 1)).filter fM = (ms.take j).filter fM := by
  rw [take_succ_get ms j h, List.filter_append]; simp [hf]
set_option maxRecDepth 100000 in
set_option maxHeartbeats 1600000 in
theorem delSS_c (base : Nat) (v : Value) (ms : List SlM) (ps : List (List Int)) (w : World) (h : OwnG base v ms ps w) (hn : ps.length ≤ 100000) (hmx : ∀ p ∈ ps, p.length ≤ 100000) (hle : base ≤ w.heap.size) :
    Calls Tryd.prog 32 #[v, .func (.func 33) #[] #[]] w fun e w' => ∃ A c', e = .returned (.slice A (ps.filter twoP).length c') ∧ Below base w w' ∧ OwnSS base w'.heap.size w' A (ps.filter twoP) := by
  obtain ⟨A, c, rfl, hss⟩ := h.own
  have HMX := Lib.hid hmx
  clear hmx
  go_enter Tryd.func32, Tryd.ntmps32
  go_wp2_with fail
  refine (indexS0_c ps A c _ _ (fun p => decide (p.length < 2)) hss.rd (by omega) (fun args W => enters Tryd.func33 rfl rfl args W) (fun x Ai ci W _ hx _ => (alikes2_c Ai x.length ci W (by have := HMX.out x hx; omega)).mono fun e w' ⟨h1, h2⟩ => ⟨h1, h2 ▸ Below.refl _ _⟩)).mono ?_
  rintro e w1 ⟨rfl, hb1⟩
  have hw1 := hb1.size
  rcases idxI_cases (fun p : List Int => decide (p.length < 2)) ps with ⟨i, hi, he, hp, hall⟩ | ⟨he, hall⟩
  · rw [he]
    have hG := h.below hb1
    have hlm := hG.len
    obtain ⟨g, c', hv, hcc, hbg, hgl, _, _⟩ := hG.1.openedR encM_len (by omega)
    injection hv with hA hnn hc
    subst hA hc
    clear hnn
    have HG := Lib.hid hG
    have HI := Lib.hid (fun (j : Nat) (hj : j < ps.length) => hG.in_ hj)
    have hS0 : ms.take i = (ms.take (i + 1)).filter fM := by
      have him : i < ms.length := by omega
      have e0 : fM ms[i] = false := by
        rw [hG.fit i _ ps[i] (List.getElem?_eq_getElem him) (List.getElem?_eq_getElem hi)]
        have := of_decide_eq_true hp
        exact decide_eq_false (by omega)
      rw [take_filt_no him e0]
      refine (List.filter_eq_self.2 fun m hm => ?_).symm
      obtain ⟨j, hj, rfl⟩ := List.getElem_of_mem hm
      have hj' : j < i := by simp at hj; omega
      rw [List.getElem_take, hG.fit j _ ps[j] (List.getElem?_eq_getElem (by omega)) (List.getElem?_eq_getElem (by omega))]
      have := of_decide_eq_false (hall ps[j] (List.mem_iff_getElem?.2 ⟨j, by rw [List.getElem?_take, if_pos hj']; exact List.getElem?_eq_getElem (by omega)⟩))
      exact decide_eq_true (by omega)
    have HS0 := Lib.hid hS0
    have hO := hG.1
    have HLM := Lib.hid hlm
    have hne1 : ((i : Int) == -1) = false := by simp
    clear hS0 hp hall hG h hss he hlm
    go_wp2_with fail
    go_loopw [5, 6] (fun vi vj wr => ∃ (i j : Nat) (L : List SlM), vi = .int .i64 i ∧ vj = .int .i64 j ∧ i < j ∧ j ≤ ps.length ∧ L.length = ms.length ∧ Hid (L.take i = (ms.take j).filter fM) ∧ Hid (L.drop j = ms.drop j) ∧ OutR encM 1 31 base (.slice (some ⟨g, 0, none⟩) ps.length c) L wr ∧ Fr g (g + 1) w1 wr) (fun _ vj _ => ps.length - (intOf vj).toNat)
    case atStart => exact ⟨i, i + 1, ms, rfl, by go_num, by omega, by omega, rfl, HS0, Lib.hid rfl, hO, Fr.refl _ _ _⟩
    case round =>
      obtain ⟨a, j, L, rfl, rfl, haj, hj, hLl, hT, hD, hO', hf⟩ := hrel
      have hlm := HLM.out
      clear hO
      obtain ⟨g', c', hv, _, _, hgl', hgf, hcell⟩ := hO'.openedR encM_len (by omega)
      injection hv with hA hnn hcx
      subst hcx
      clear hnn
      injection hA with hA
      injection hA with hA
      subst hA
      have haL : a < L.length := by omega
      have da := hcell a L[a] (List.getElem?_eq_getElem haL) 0 _ rfl
      rw [Nat.mul_one, Nat.add_zero] at da
      by_cases hlt : j < ps.length
      · have hjL : j < L.length := by omega
        have hjm : j < ms.length := by omega
        have dj := hcell j L[j] (List.getElem?_eq_getElem hjL) 0 _ rfl
        rw [Nat.mul_one, Nat.add_zero] at dj
        have hLj : L[j] = ms[j] := by
          have e := congrArg (fun l : List SlM => l[0]?) hD.out
          simp only [List.getElem?_drop, Nat.add_zero] at e
          rw [List.getElem?_eq_getElem hjL, List.getElem?_eq_getElem hjm] at e
          injection e
        rw [hLj] at dj
        obtain ⟨mj, hmj, hmn, _, _⟩ := HI.out j hlt
        rw [List.getElem?_eq_getElem hjm] at hmj
        injection hmj with hmj
        have hpl := HMX.out ps[j] (List.getElem_mem hlt)
        have hmb : ms[j].n ≤ 100000 := by rw [hmj, hmn]; exact hpl
        have hD' : Hid (L.drop (j + 1) = ms.drop (j + 1)) := Lib.hid (by
          have e := congrArg (List.drop 1) hD.out
          simpa [List.drop_drop, Nat.add_comm] using e)
        have HO := Lib.hid hO'
        have HC := Lib.hid hcell
        clear hcell hD hLj hmj hmn hpl hO'
        by_cases h2 : ms[j].n < 2
        · have HT' := Lib.hid (show L.take a = (ms.take (j + 1)).filter fM by rw [take_filt_no hjm (decide_eq_false (by omega))]; exact hT.out)
          have hd2 : decide (ms[j].n < 2) = true := decide_eq_true h2
          have HCL := Lib.hid (alikes2_c ms[j].A ms[j].n ms[j].c wr (by omega))
          rw [hd2] at HCL
          go_wp2_with fail
          refine HCL.out.mono ?_
          rintro e w2 ⟨rfl, rfl⟩
          go_wp2_with fail
          go_roundw
          case rel => exact ⟨a, j + 1, L, rfl, by go_num, by omega, by omega, hLl, HT', hD', HO.out, hf⟩
          case measure => simp [intOf]; omega
        · have HT' := Lib.hid (show (L.set a ms[j]).take (a + 1) = (ms.take (j + 1)).filter fM by
            rw [take_filt_yes hjm (decide_eq_true (by omega)), ← hT.out, take_succ_get _ a (by simpa using haL), List.getElem_set_self, List.take_set_of_le (Nat.le_refl _)])
          have HD' := Lib.hid (show (L.set a ms[j]).drop (j + 1) = ms.drop (j + 1) by rw [List.drop_set_of_lt (by omega)]; exact hD'.out)
          have hd2 : decide (ms[j].n < 2) = false := decide_eq_false h2
          have HCL := Lib.hid (alikes2_c ms[j].A ms[j].n ms[j].c wr (by omega))
          rw [hd2] at HCL
          have hO2 := Lib.hid (HO.out.cellSetR (j := 0) (u := ms[j].val) (m' := ms[j]) encM_len haL (by omega) rfl)
          have hf2 := Lib.hid (hf.setCell (p := ⟨g, a, none⟩) (Nat.le_refl _) (Nat.lt_succ_self _) ms[j].val)
          go_wp2_with fail
          refine HCL.out.mono ?_
          rintro e w2 ⟨rfl, rfl⟩
          go_wp2_with fail
          go_roundw
          case rel => exact ⟨a + 1, j + 1, L.set a ms[j], by go_num, by go_num, by omega, by omega, by simpa using hLl, HT', HD', by have := hO2.out; rwa [Nat.mul_one, Nat.add_zero] at this, hf2.out⟩
          case measure => simp [intOf]; omega
      · obtain rfl : j = ps.length := by omega
        have HT := Lib.hid (show L.take a = ms.filter fM by rw [hT.out, List.take_of_length_le (by omega)])
        obtain ⟨hrl, _, hcl, hcm, cur, hg, hcs, htk⟩ := row_of hO'
        clear hrl
        have hclr : ∀ ty c', (Builtin.clear_ #[27] ty #[.slice (some ⟨g, a, none⟩) (ps.length - a) c']).run Tryd.prog wr = .ok (.tuple #[]) (wr.setRow g (splice cur.toList a (List.replicate (ps.length - a) (.slice none 0 0))).toArray) := fun ty c' =>
          run_clearN wr 27 31 ty (.slice none 0 0) Tryd.underlying27 zeroSl rfl rfl g a (ps.length - a) c' cur _ hg (by omega) (by omega)
        have hG2 := setRow_heap wr g cur (splice cur.toList a (List.replicate (ps.length - a) (.slice none 0 0))).toArray 31 (0, 0) hg
        have hcells : ∀ (q : Nat) (m : SlM), (ms.filter fM)[q]? = some m → (wr.setRow g (splice cur.toList a (List.replicate (ps.length - a) (.slice none 0 0))).toArray).cell? ⟨g, q, none⟩ = some m.val := fun q m hq => by
          rw [← HT.out] at hq
          have hqa : q < a := by have := (List.getElem?_eq_some_iff.1 hq).1; simp at this; omega
          rw [List.getElem?_take, if_pos hqa] at hq
          have h1 := hcell q m hq 0 _ rfl
          rw [Nat.mul_one, Nat.add_zero] at h1
          have h2 := congrArg (fun l : List Value => l[q]?) (splice_take_lo (L := cur.toList) (cs := List.replicate (ps.length - a) (.slice none 0 0)) (Nat.le_refl a) (by rw [Array.length_toList]; omega))
          simp only [List.getElem?_take, if_pos hqa] at h2
          simp only [World.cell?, hg] at h1
          simp only [World.cell?, hG2]
          rw [show m.val = .slice m.A m.n m.c from rfl, ← h1]
          simpa using h2
        have hfz : ∀ o, (wr.setRow g (splice cur.toList a (List.replicate (ps.length - a) (.slice none 0 0))).toArray).frozen? ⟨g, o, none⟩ = false := fun o => by simp [World.frozen?, hG2]
        have hF2 := fr_setRow hf (Nat.le_refl _) (Nat.lt_succ_self _) (splice cur.toList a (List.replicate (ps.length - a) (.slice none 0 0))).toArray
        have hlen : a = (ps.filter twoP).length := by
          have e := congrArg List.length HT.out
          rw [List.length_take, filter2_len ms ps HLM.out HG.out.fit] at e
          omega
        have HX := Lib.hid (And.intro hlen (And.intro ((hb1.mono hle).trans (hF2.below hbg (Nat.le_trans hle hw1))) (HG.out.filt hF2 hcells hfz)))
        clear hcl hcm hcs htk hlm hG2 hcells hfz hF2 hlen
        go_wp2_with fail
        go_returns
        exact ⟨some ⟨g, 0, none⟩, ⟨c, ret_sl HX.out.1⟩, HX.out.2.1, HX.out.2.2⟩
  · rw [he]
    have hid : ps.filter twoP = ps := List.filter_eq_self.2 fun p hp => by
      have := of_decide_eq_false (hall p hp)
      exact decide_eq_true (by omega)
    have HID := Lib.hid hid
    have hown := hss.go hb1
    clear hid hall
    go_wp2_with fail
    go_returns
    exact ⟨A, c, ret_sl (by rw [HID.out]), hb1.mono hle, by rw [HID.out]; exact hown.wide (Nat.le_refl _) hw1 (Nat.le_refl _)⟩
end Go.Proofs.YtgjehnjpbekoeaaDoor
