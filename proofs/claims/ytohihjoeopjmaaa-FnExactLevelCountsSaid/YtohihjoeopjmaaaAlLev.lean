/- LevelCounts: the plain words, and the program's contract. No condition but the sizes. -/
import Derived.Test.YtohihjoeopjmaaaAlTop
import Derived.Test.YtohihjoeopjmaaaApp
namespace Go.Proofs.Ytohihjoeopjmaaa
set_option linter.unusedVariables false
set_option linter.unusedSimpArgs false
open Go.RowKit
attribute [local irreducible] wpQuiet
def lenOf : Value → Nat
  | .slice _ n _ => n
  | _ => 0
def lcExt (ys : List Int) (L : Nat) : List Int := ys ++ List.replicate (L + 1 - ys.length) 0
def lcStep (ys : List Int) (L n : Nat) : List Int := (lcExt ys L).set L ((lcExt ys L).getD L 0 + (n : Int))
def lcK (xs : List Page) : Nat → List Int
  | 0 => []
  | k + 1 => match xs[k]? with | none => lcK xs k | some p => lcStep (lcK xs k) (levJ xs k) p.items.length
def lcV (xs : List Page) : List Int := if goodA xs = true then lcK xs xs.length else []
theorem lcK_s {xs : List Page} {k : Nat} (h : k < xs.length) : lcK xs (k + 1) = lcStep (lcK xs k) (levJ xs k) xs[k].items.length := by
  conv => lhs; unfold lcK
  simp only [List.getElem?_eq_getElem h]
theorem lcExt_len (ys : List Int) (L : Nat) : L < (lcExt ys L).length ∧ (lcExt ys L).length ≤ max ys.length (L + 1) := by
  unfold lcExt; rw [List.length_append, List.length_replicate]; omega
theorem lcK_bd (xs : List Page) (hi : ∀ (k : Nat) (h : k < xs.length), xs[k].items.length ≤ 8) : ∀ k, k ≤ xs.length → (lcK xs k).length ≤ k + 2 ∧ ∀ v ∈ lcK xs k, 0 ≤ v ∧ v ≤ 8 * (k : Int)
  | 0, _ => by simp [lcK]
  | k + 1, h => by
    obtain ⟨h1, h2⟩ := lcK_bd xs hi k (by omega)
    have hk := hi k (by omega)
    have hl := levJ_le xs k
    have he := lcExt_len (lcK xs k) (levJ xs k)
    have hm : ∀ v ∈ lcExt (lcK xs k) (levJ xs k), 0 ≤ v ∧ v ≤ 8 * (k : Int) := fun v hv => by
      unfold lcExt at hv
      rcases List.mem_append.1 hv with h | h
      · exact h2 v h
      · have := List.eq_of_mem_replicate h; omega
    rw [lcK_s (by omega)]
    unfold lcStep
    refine ⟨by rw [List.length_set]; omega, fun v hv => ?_⟩
    rcases List.mem_or_eq_of_mem_set hv with h | h
    · have := hm v h; omega
    · have hg : (lcExt (lcK xs k) (levJ xs k)).getD (levJ xs k) 0 = (lcExt (lcK xs k) (levJ xs k))[levJ xs k]'he.1 := by
        rw [List.getD_eq_getElem?_getD, List.getElem?_eq_getElem he.1]; rfl
      have := hm _ (List.getElem_mem he.1)
      rw [h, hg]; omega
theorem lcV_len (xs : List Page) : (lcV xs).length ≤ 2097152 := by
  unfold lcV
  split
  · rename_i hg
    have hn := goodA_len hg
    have := (lcK_bd xs (fun k h => (good_base hg h).2.2.2.1) xs.length (Nat.le_refl _)).1
    omega
  · simp
theorem Out.set_ {base g cap n j : Nat} {E : TypeId} {ys : List Int} {w : World} (h : Out (Value.int .i64) E base (.slice (some ⟨g, 0, none⟩) n cap) ys w) (x : Int) : Out (Value.int .i64) E base (.slice (some ⟨g, 0, none⟩) n cap) (ys.set j x) (w.setCell ⟨g, j, none⟩ (.int .i64 x)) := by
  have hn : n = ys.length := by
    rcases h.2 with ⟨h1, _⟩ | ⟨g', cap', cur, h1, _⟩
    · cases h1
    · injection h1
  subst hn
  have := (World.ownsRow.stored h j (.int .i64 x)).1
  unfold Out
  rw [List.length_set, List.map_set]
  exact this
theorem wpList_pushG {α : Type} {P : Program} {ops : Array Oper} {rest : List Oper} {o : Oper} {a : Act} {Q : Exit → Act → World → Prop} {w : World} (hgd : o.guard = none) (s x : Operand) (t : TypeId)
    (ho : o.op = .call { callee := .builtin .append, args := #[s, x], argTypes := #[t, t] }) (E : TypeId) (z : Value) (bytes : Nat) (ht : P.underlying t = some (.slice E))
    (hi : (P.info? E).map (fun i => (i.zero, i.size, i.bytes)) = some (some z, 1, bytes)) (hzs : z.cells.size = 1)
    {V : α → Value} {base : Nat} {v : Value} {ys : List α} (xx : α) (hs : a.eval s = v) (hown : Out V E base v ys w) (H : Nat) (hx : a.eval x = .slice (some ⟨H, 0, none⟩) 1 1) (hH : w.heap.size = H)
    (h1 : (V xx).oneCell' = true) (hlen : (ys.length + 1) * bytes ≤ 140737488355328) (hle : ys.length + 1 ≤ 9223372036854775807) (hbase : base ≤ w.heap.size)
    (h : ∀ v' w', Out V E base v' (ys ++ [xx]) w' → Below base w w' → (w.alloc (.cells #[V xx] E)).grownBy w' v.ownBlock → wpList P ops Q rest (a.put o.dst v') w') : wpList P ops Q (o :: rest) a (w.alloc (.cells #[V xx] E)) := by
  subst hH
  obtain ⟨i0, hi0, hz0, hz1, hz2⟩ := info_parts hi
  have ho1 : Out V E base v ys (w.alloc (.cells #[V xx] E)) := hown.below ((Below.refl _ _).alloc (Nat.le_refl _) _)
  refine wpList_append_own (w.alloc (.cells #[V xx] E)) hgd s x t ho base E i0 z 1 bytes ht hi0 hz0 hz1 hz2 hzs (by decide) v ys.length (ys.map V) hs ho1 ⟨w.heap.size, 0, none⟩ 1 1 [V xx] hx rfl ?_ ?_ (by unfold maxLen; omega) hlen (by simp; omega) ?_
  · intro j u hu
    have hj : j = 0 := by have := (List.getElem?_eq_some_iff.1 hu).1; simp at this; omega
    subst hj
    have hu' : u = V xx := by simpa using hu.symm
    subst hu'
    have : (⟨w.heap.size, 0, none⟩ : Addr).add 0 = ⟨w.heap.size, 0, none⟩ := rfl
    rw [this, World.cell?_alloc_new]
    rfl
  · intro u hu
    have hu' : u = V xx := by simpa using hu
    subst hu'
    exact h1
  · intro v' w' hown' hg _
    exact h v' w' (Out.snoc hown') (grown_below ((Below.refl _ _).alloc (Nat.le_refl _) _ |>.mono hbase) hbase hg ho1.from_) hg
theorem Out.some_ {base : Nat} {E : TypeId} {v : Value} {ys : List Int} {w : World} (h : Out (Value.int .i64) E base v ys w) (hn : 0 < ys.length) : ∃ g cap, v = .slice (some ⟨g, 0, none⟩) ys.length cap ∧ base ≤ g ∧ g < w.heap.size ∧ (∀ (i : Nat) (hi : i < ys.length), w.cell? ⟨g, i, none⟩ = some (.int .i64 ys[i])) ∧ ∀ o, w.frozen? ⟨g, o, none⟩ = false := by
  obtain ⟨A, c, rfl, ho⟩ := h.own
  obtain ⟨b, off, rfl, h1, h2, h3, h4⟩ := ho.2 hn
  have h0 : off = 0 := by
    rcases h.2 with ⟨h5, _⟩ | ⟨g, cap, cur, h5, _⟩
    · cases h5
    · injection h5 with h5; injection h5 with h5; injection h5
  subst h0
  exact ⟨b, c, rfl, h1, h2, fun i hi => by simpa using h3 i _ (List.getElem?_eq_getElem hi) 0 _ rfl, h4⟩
set_option maxRecDepth 100000 in
set_option maxHeartbeats 2000000 in
theorem implLevelCounts_c (xs : List Page) (A : Option Addr) (c : Nat) (w : World) (hr : RdP w.heap.size w A xs) (hcap : xs.length ≤ c) (hn : xs.length ≤ 1048576) (hs : sumI xs ≤ 1048576) (hw : ∀ x ∈ xs, x.title.size ≤ 9223372036854775807 ∧ x.items.length ≤ 9223372036854775807 ∧ ∀ z ∈ x.items, Fits z) :
    Calls Try.prog 25 #[.slice A xs.length c] w (RetL encI 1 (lcV xs) (goodA xs) w) := by
  have HW := Lib.hid hw
  clear hw
  by_cases hF : goodA xs = false
  · go_enter Try.func25, Try.ntmps25
    have hbg := Below.refl w.heap.size w
    go_wp2_with fail
    refine (isAlbum_c xs _ _ _ (hr.go hbg) hcap hn hs HW.out).mono ?_
    rintro e wg0 ⟨rfl, hb0⟩
    have hbg := below_via hbg hb0
    go_wp2_with fail
    go_returns
    exact ⟨_, _, ret_list (by simp [lcV, hF]) hF.symm, hbg, Own.none_ (by simp [lcV, hF]) (Nat.le_refl _)⟩
  have G0 : goodA xs = true := by simpa using hF
  clear hF
  go_enter Try.func25, Try.ntmps25
  have hbg := Below.refl w.heap.size w
  go_wp2_with fail
  refine (isAlbum_c xs _ _ _ (hr.go hbg) hcap hn hs HW.out).mono ?_
  rintro e wg0 ⟨rfl, hb0⟩
  have hbg := below_via hbg hb0
  have HG := Lib.hid G0
  have hlen := goodA_len G0
  have HBD := Lib.hid (lcK_bd xs (fun k h => (good_base G0 h).2.2.2.1))
  have HLV := Lib.hid (show lcV xs = lcK xs xs.length by unfold lcV; rw [if_pos G0])
  have ho0 := Out.nil (V := Value.int .i64) (E := 3) (base := wg0.heap.size) (α := Int) wg0
  go_wp2_with fail
  clear G0
  go_loopw [4, 13] (fun u i wr => ∃ k : Nat, k ≤ xs.length ∧ i = .int .i64 k ∧ Out (Value.int .i64) 3 wg0.heap.size u (lcK xs k) wr ∧ Below wg0.heap.size wg0 wr) (fun _ i _ => xs.length - (intOf i).toNat)
  case atStart => exact ⟨0, Nat.zero_le _, rfl, ho0, Below.refl _ _⟩
  case round =>
    obtain ⟨k, hk, rfl, ho, hb⟩ := hrel
    clear ho0
    have hbd := (HBD.out k hk).1
    by_cases hlt : k < xs.length
    · obtain ⟨b, off, Ai, ci, rfl, hbs, d0, d1, d2, d3, hci, hri⟩ := ((hr.go hbg).below hb).page hlt
      have HS := Lib.hid (lcK_s hlt)
      have hll := levJ_le xs k
      have hil : xs[k].items.length ≤ 8 := (good_base HG.out hlt).2.2.2.1
      have HMB := Lib.hid (HBD.out k hk).2
      go_upto_region 7 with fail
      clear d0 d1 d2 d3 hri
      have hBk : (wr.alloc (.cells #[.int .i64 xs[k].id, .string xs[k].title, .int .i64 xs[k].under, .slice Ai xs[k].items.length ci] 51)).heap[wr.heap.size]? = some (.cells #[.int .i64 xs[k].id, .string xs[k].title, .int .i64 xs[k].under, .slice Ai xs[k].items.length ci] 51 (0, 0)) := (MapKept.heap_alloc wr _).1
      have hW := New.of wr [.int .i64 xs[k].id, .string xs[k].title, .int .i64 xs[k].under, .slice Ai xs[k].items.length ci] 51
      generalize wr.alloc (.cells #[.int .i64 xs[k].id, .string xs[k].title, .int .i64 xs[k].under, .slice Ai xs[k].items.length ci] 51) = W at *
      obtain ⟨hWb, hWl, hWc⟩ := hW
      have e0 := hWc 0 _ rfl
      clear hWc
      have hbW := hb.trans (hWb.mono hb.size)
      have ho := ho.below hWb
      obtain ⟨hp, hhp⟩ : ∃ hp, wr.heap.size = hp := ⟨_, rfl⟩
      rw [hhp] at hWl e0 hBk ⊢
      clear hhp hWb hb
      go_wp2_with fail
      refine (levelOf_c xs _ _ k _ ((hr.go hbg).go hbW) HG.out hlt).mono ?_
      rintro _ w2 ⟨rfl, hb2⟩
      have ho := ho.below hb2
      have hbW2 := hbW.trans (hb2.mono hbW.size)
      have hBk := (hb2.block hp hWl).trans hBk
      have hWl := Nat.lt_of_lt_of_le hWl hb2.size
      generalize lcK xs k = ys at *
      generalize levJ xs k = L at *
      clear hb2 hbW e0
      go_wp2_with fail
      go_loopw [4] (fun u wr2 => ∃ m : Nat, m ≤ L + 1 - ys.length ∧ Out (Value.int .i64) 3 wg0.heap.size u (ys ++ List.replicate m 0) wr2 ∧ wr2.heap[hp]? = some (.cells #[.int .i64 xs[k].id, .string xs[k].title, .int .i64 xs[k].under, .slice Ai xs[k].items.length ci] 51 (0, 0)) ∧ Below wg0.heap.size wg0 wr2) (fun u _ => L + 1 - lenOf u)
      case atStart => exact ⟨0, Nat.zero_le _, by simpa using ho, hBk, hbW2⟩
      case round =>
        obtain ⟨m, hm, ho3, hB3, hb3⟩ := hrel
        have hlenE : (ys ++ List.replicate m 0).length = ys.length + m := by simp
        have HLE := Lib.hid hlenE
        obtain ⟨A3, c3, hu3, _⟩ := ho3.own
        have hnb : ∀ q, u4.ownBlock = some q → q ≠ hp := fun q hq e => by
          subst e
          rcases ho3.2 with ⟨h5, _⟩ | ⟨g, cap, cur, h5, _, hg5, _⟩
          · rw [h5] at hq; cases hq
          · rw [h5] at hq; injection hq with hq; simp only at hq; subst hq
            rw [hB3] at hg5; injection hg5 with hg5; injection hg5 with _ hg5 _; exact absurd hg5 (by decide)
        subst hu3
        by_cases hle : ys.length + m ≤ L
        · have hle1 : ((ys ++ List.replicate m (0 : Int)).length : Int) ≤ (L : Int) := by omega
          have hrep : (ys ++ List.replicate m (0 : Int)) ++ [0] = ys ++ List.replicate (m + 1) 0 := by rw [List.append_assoc, ← List.replicate_succ']
          have HRE := Lib.hid hrep
          clear hrep hlenE
          generalize hE : ys ++ List.replicate m (0 : Int) = E at *
          have hpl : hp < wr.heap.size := (Array.getElem?_eq_some_iff.1 hB3).1
          go_wp2_with (at_builtin; refine wpList_pushG rfl _ _ _ rfl 3 (.int .i64 0) 8 Try.underlying32 infoI rfl (0 : Int) rfl ho3 _ rfl (by simp) rfl (by omega) (by omega) (by have := hb3.size; omega) ?_; intro v1 w1 hown1 hbel1 hg1)
          have hB4 : w1.heap[hp]? = some (.cells #[.int .i64 xs[k].id, .string xs[k].title, .int .i64 xs[k].under, .slice Ai xs[k].items.length ci] 51 (0, 0)) :=
            (hg1.block hp (by simp; omega) (fun e => hnb hp e.symm rfl)).trans ((((Below.refl wr.heap.size wr).alloc (Nat.le_refl _) (.cells #[.int .i64 0] 3)).block hp hpl).trans hB3)
          rw [HRE.out] at hown1
          obtain ⟨A5, c5, hv5, _⟩ := hown1.own
          go_roundw
          case rel => exact ⟨m + 1, by omega, hown1, hB4, hb3.trans hbel1⟩
          case measure =>
            rw [hv5]
            have h9 := HLE.out
            simp only [lenOf, List.length_append, List.length_replicate]
            omega
        · have hme : m = L + 1 - ys.length := by omega
          have hnle : ¬ ((ys ++ List.replicate m (0 : Int)).length : Int) ≤ (L : Int) := by omega
          have hEx : ys ++ List.replicate m (0 : Int) = lcExt ys L := by rw [hme]; rfl
          rw [hEx] at ho3 hnle ⊢
          have hLl := lcExt_len ys L
          have hgd : (lcExt ys L).getD L 0 = (lcExt ys L)[L]'hLl.1 := by rw [List.getD_eq_getElem?_getD, List.getElem?_eq_getElem hLl.1]; rfl
          have hst : lcStep ys L xs[k].items.length = (lcExt ys L).set L ((lcExt ys L)[L]'hLl.1 + (xs[k].items.length : Int)) := by unfold lcStep; rw [hgd]
          have HST := Lib.hid (HS.out.trans hst)
          have hvs : ∀ v ∈ lcExt ys L, 0 ≤ v ∧ v ≤ 8 * (k : Int) := fun v hv => by
            unfold lcExt at hv
            rcases List.mem_append.1 hv with h | h
            · exact HMB.out _ h
            · have := List.eq_of_mem_replicate h; omega
          have hval := hvs _ (List.getElem_mem hLl.1)
          clear hvs
          clear hEx hme hst hgd hlenE HLE
          obtain ⟨g, cap, hv6, hg0, hgl, hgc, hgf⟩ := ho3.some_ (by omega)
          injection hv6 with hv6 _ hv7
          subst hv6 hv7
          have hgL := hgc L hLl.1
          clear hgc
          have e3 : wr.cell? ⟨hp, 3, none⟩ = some (.slice Ai xs[k].items.length ci) := by unfold World.cell?; rw [hB3]; rfl
          have hset := ho3.set_ (j := L) ((lcExt ys L)[L]'hLl.1 + (xs[k].items.length : Int))
          obtain ⟨hv0, hv1⟩ := hval
          have hL0 : (0 : Int) ≤ (L : Int) := by omega
          have hL1 : (L : Int) < ((lcExt ys L).length : Int) := by omega
          have hL2 : (L : Int) ≤ ((lcExt ys L).length : Int) := by omega
          generalize (lcExt ys L)[L]'hLl.1 = q at *
          have hb7 := (hb3.setCell (p := ⟨g, L, none⟩) hg0 (.int .i64 (q + (xs[k].items.length : Int)))).drew
          go_wp2_with fail
          try go_region
          all_goals try go_wp2_with fail
          go_roundw
          case rel => exact ⟨k + 1, by omega, by go_num, by rw [HST.out]; exact hset, hb7⟩
          case measure => simp [intOf]; omega
    · have hke : k = xs.length := by omega
      obtain ⟨A6, c6, rfl, hown⟩ := ho.own
      have HE := Lib.hid (show lcV xs = lcK xs k by rw [HLV.out, hke])
      go_wp2_with fail
      go_returns
      exact ⟨A6, c6, ret_list (by rw [HE.out]) HG.out.symm, below_via hbg hb, (hown.wide hbg.size (Nat.le_refl _) (Nat.le_refl _)).cast HE.out.symm⟩
end Go.Proofs.Ytohihjoeopjmaaa
