/- slices.Insert of one number, by the shelf's contracts: for a slice of the call's own. No condition but the sizes. -/
import Derived.Test.YtehoocnhooemoaaAlDel
import Derived.Ground.NamesProg
import Derived.Ground.Names2Prog
import Derived.Shelf.Spec.SlicesInsert
import Derived.Shelf.Spec.SlicesInsertGrow
namespace Go.Proofs.Ytehoocnhooemoaa
set_option linter.unusedVariables false
set_option linter.unusedSimpArgs false
open Go.RowKit Go.Shelf
attribute [local irreducible] wpQuiet
def laysInsert_ren : Go.Shelf.Ren := ⟨fun | 21 => 46 | 27 => 67 | 28 => 68 | 35 => 82 | 39 => 88 | n => n, fun | 22 => 31 | 3 => 3 | 4 => 4 | 0 => 0 | n => n, fun | n => n⟩
theorem laysInsert : Go.Proofs.Lays2.n21 Try.prog laysInsert_ren := {
  mixed := by kernel_rfl
  f21 := Try.func46.trans (congrArg some (by kernel_rfl))
  f27 := Try.func67.trans (congrArg some (by kernel_rfl))
  f28 := Try.func68.trans (congrArg some (by kernel_rfl))
  f35 := Try.func82.trans (congrArg some (by kernel_rfl))
  f39 := Try.func88.trans (congrArg some (by kernel_rfl))
  t0 := Try.underlying0
  a0 := Try.isAgg0
  z0 := Try.sizeOf0
  v0 := Try.zeroValue0
  t3 := Try.underlying3
  a3 := Try.isAgg3
  z3 := Try.sizeOf3
  v3 := Try.zeroValue3
  t4 := Try.underlying4
  a4 := Try.isAgg4
  z4 := Try.sizeOf4
  v4 := Try.zeroValue4
  t22 := Try.underlying31
  a22 := Try.isAgg31
  z22 := Try.sizeOf31
  v22 := Try.zeroValue31
  i3 := by kernel_rfl }
def setL : List Value → Nat → List Value → List Value
  | ys, _, [] => ys
  | ys, o, v :: vs => setL (ys.set o v) (o + 1) vs
theorem setL_eq : ∀ (vs ys : List Value) (o : Nat), o + vs.length ≤ ys.length → setL ys o vs = ys.take o ++ vs ++ ys.drop (o + vs.length)
  | [], ys, o, _ => by simp [setL]
  | v :: vs, ys, o, h => by
    simp only [List.length_cons] at h
    unfold setL
    rw [setL_eq vs (ys.set o v) (o + 1) (by rw [List.length_set]; omega), List.drop_set_of_lt (by omega)]
    have h1 : (ys.set o v).take (o + 1) = ys.take o ++ [v] := by
      rw [take_succ_get _ o (by rw [List.length_set]; omega), List.take_set_of_le (Nat.le_refl _)]; simp
    rw [h1, show o + 1 + vs.length = o + (v :: vs).length by simp only [List.length_cons]; omega]
    simp
section
variable {E : TypeId} {base g n c : Nat} {w : World}
theorem row_full {xs : List Value} (h : w.ownsRow base E 1 (.slice (some ⟨g, 0, none⟩) n c) n xs) : ∃ ys : List Value, ys.length = c ∧ ys.take n = xs ∧ n ≤ c ∧ c ≤ maxLen ∧ (∃ cur, w.heap[g]? = some (.cells cur E (0, 0)) ∧ cur.size = c) ∧ w.ownsRow base E 1 (.slice (some ⟨g, 0, none⟩) c c) c ys := by
  rcases h.2 with ⟨h1, _⟩ | ⟨g', cap', cur, h1, hb, hg, hc, hc2, hc3, hc4⟩
  · cases h1
  · injection h1 with h1 h2 h3
    injection h1 with h1; injection h1 with h1
    subst h1 h3
    refine ⟨cur.toList, by simpa using hc3, by simpa using hc4, hc, hc2, ⟨cur, hg, by simpa using hc3⟩, by simpa using hc3, .inr ⟨g, c, cur, rfl, hb, hg, Nat.le_refl _, hc2, hc3, ?_⟩⟩
    rw [List.take_of_length_le (by simp [hc3])]
theorem row_setCells : ∀ (vs ys : List Value) (o : Nat) (W : World), W.ownsRow base E 1 (.slice (some ⟨g, 0, none⟩) c c) c ys → (W.setCells g o vs).ownsRow base E 1 (.slice (some ⟨g, 0, none⟩) c c) c (setL ys o vs)
  | [], _, _, _, h => h
  | v :: vs, ys, o, W, h => row_setCells vs (ys.set o v) (o + 1) _ (World.ownsRow.stored h o v).1
theorem Fr.grown {a W : World} (h : Fr g (g + 1) a W) : a.grownBy W (some g) := ⟨h.os, h.tape, h.output, h.size, fun k hk hne => h.block k hk (by have : k ≠ g := fun e => hne (by rw [e]); omega)⟩
end
/-- The call returns the numbers zs' in a slice of the call's own: in v's block, or in a new one. -/
def RetIns (zs : List Int) (v : Value) (lo : Nat) (w : World) (e : Ending) (w' : World) : Prop := ∃ A' c', e = .returned (.slice A' zs.length c') ∧ Out (Value.int .i64) 3 lo (.slice A' zs.length c') zs w' ∧ w.grownBy w' v.ownBlock ∧ ((Value.slice A' zs.length c').ownBlock = v.ownBlock ∨ (Value.slice A' zs.length c').ownBlock = some w.heap.size)
theorem put_end {ys us : List Value} {v : Value} {n : Nat} (hyt : ys.take n = us) (hul : us.length = n) (h : n + 1 ≤ ys.length) : (setL ys n [v]).take (n + 1) = us ++ [v] := by
  rw [setL_eq _ _ _ (by simp only [List.length_cons, List.length_nil]; omega), hyt]
  exact List.take_left' (by simp [hul])
theorem put_mid {ys us : List Value} {v : Value} {n i : Nat} (hyt : ys.take n = us) (hul : us.length = n) (h : n + 1 ≤ ys.length) (hi : i ≤ n) : (setL (setL ys (i + 1) (us.drop i)) i [v]).take (n + 1) = us.take i ++ [v] ++ us.drop i := by
  have hdl : (us.drop i).length = n - i := by rw [List.length_drop, hul]
  have e1 : setL ys (i + 1) (us.drop i) = ys.take (i + 1) ++ (us.drop i ++ ys.drop (i + 1 + (us.drop i).length)) := by
    rw [setL_eq _ _ _ (by omega), List.append_assoc]
  have hl1 : (ys.take (i + 1)).length = i + 1 := by rw [List.length_take]; omega
  have htk : ys.take i = us.take i := by rw [← hyt, List.take_take, Nat.min_eq_left hi]
  rw [e1, setL_eq _ _ _ (by simp only [List.length_append, List.length_cons, List.length_nil]; omega)]
  have e2 : (ys.take (i + 1) ++ (us.drop i ++ ys.drop (i + 1 + (us.drop i).length))).take i = us.take i := by
    rw [List.take_append_of_le_length (by omega), List.take_take, Nat.min_eq_left (by omega), htk]
  have e3 : (ys.take (i + 1) ++ (us.drop i ++ ys.drop (i + 1 + (us.drop i).length))).drop (i + [v].length) = us.drop i ++ ys.drop (i + 1 + (us.drop i).length) := List.drop_left' (by simpa using hl1)
  rw [e2, e3, ← List.append_assoc]
  exact List.take_left' (by simp only [List.length_append, List.length_take, List.length_cons, List.length_nil, hdl]; omega)
theorem put_new {ys us : List Value} {v : Value} {n i : Nat} (hyt : ys.take i = us.take i) (hul : us.length = n) (h : n + 1 ≤ ys.length) (hi : i ≤ n) : (setL (setL ys i [v]) (i + 1) (us.drop i)).take (n + 1) = us.take i ++ [v] ++ us.drop i := by
  have hdl : (us.drop i).length = n - i := by rw [List.length_drop, hul]
  have e1 : setL ys i [v] = us.take i ++ [v] ++ ys.drop (i + [v].length) := by
    rw [setL_eq _ _ _ (by simp only [List.length_cons, List.length_nil]; omega), hyt]
  have hl : (us.take i ++ [v] ++ ys.drop (i + [v].length)).length = ys.length := by
    simp only [List.length_append, List.length_take, List.length_drop, List.length_cons, List.length_nil]; omega
  rw [e1, setL_eq _ _ _ (by omega)]
  have e2 : (us.take i ++ [v] ++ ys.drop (i + [v].length)).take (i + 1) = us.take i ++ [v] := List.take_left' (by simp only [List.length_append, List.length_take, List.length_cons, List.length_nil]; omega)
  rw [e2]
  exact List.take_left' (by simp only [List.length_append, List.length_take, List.length_cons, List.length_nil, hdl]; omega)
/-- A new row. -/
theorem row_new {E : TypeId} {lo : Nat} (w : World) (cur : Array Value) (k cp : Nat) (hlo : lo ≤ w.heap.size) (hk : k ≤ cp) (hm : cp ≤ maxLen) (hs : cur.size = cp) : (w.alloc (.cells cur E)).ownsRow lo E 1 (.slice (some ⟨w.heap.size, 0, none⟩) k cp) k (cur.toList.take k) :=
  ⟨by rw [List.length_take]; simp; omega, .inr ⟨w.heap.size, cp, cur, rfl, hlo, heap_alloc_new w _, hk, hm, by omega, by simp⟩⟩
theorem zeros_len (n : Nat) : (Builtin.zeroCells (Value.int .i64 0).cells n).size = n := by rw [size_zeroCells]; simp [Value.cells]
theorem grow_new {E : TypeId} {lo : Nat} (w : World) (arr : Array Value) (us : List Value) (v : Value) (n i G : Nat) (hlo : lo ≤ w.heap.size) (hs : arr.size = G) (ht : arr.toList.take i = us.take i) (hul : us.length = n) (hG : n + 1 ≤ G) (hm : G ≤ maxLen) (hi : i ≤ n) :
    ((((w.alloc (.cells arr E)).drew.setCells w.heap.size i [v]).drew).setCells w.heap.size (i + 1) (us.drop i)).ownsRow lo E 1 (.slice (some ⟨w.heap.size, 0, none⟩) (n + 1) G) (n + 1) (us.take i ++ [v] ++ us.drop i) ∧ Below w.heap.size w ((((w.alloc (.cells arr E)).drew.setCells w.heap.size i [v]).drew).setCells w.heap.size (i + 1) (us.drop i)) := by
  have hal : arr.toList.length = G := by simpa using hs
  have hnew := row_new (E := E) (lo := lo) w arr G G hlo (Nat.le_refl _) hm hs
  rw [List.take_of_length_le (by omega)] at hnew
  have hd : (w.alloc (.cells arr E)).drew.ownsRow lo E 1 (.slice (some ⟨w.heap.size, 0, none⟩) G G) G arr.toList := hnew
  have h2 : ((w.alloc (.cells arr E)).drew.setCells w.heap.size i [v]).drew.ownsRow lo E 1 (.slice (some ⟨w.heap.size, 0, none⟩) G G) G (setL arr.toList i [v]) := row_setCells [v] _ i _ hd
  have h3 := row_setCells (us.drop i) _ (i + 1) _ h2
  have h4 := row_cut h3 hG
  rw [put_new ht hul (by omega) hi] at h4
  exact ⟨h4, below_setCells (Nat.le_refl _) _ _ _ (below_setCells (Nat.le_refl _) _ _ _ ((Below.refl w.heap.size w).alloc (Nat.le_refl _) _).drew).drew⟩
theorem insI_c (zs : List Int) (A : Option Addr) (cap : Nat) (z : Int) (i vb lo : Nat) (w : World) (ho : Out (Value.int .i64) 3 lo (.slice A zs.length cap) zs w) (hi : i ≤ zs.length) (hv : w.heap[vb]? = some (.cells #[.int .i64 z] 3 (0, 0))) (hne : ∀ g, (Value.slice A zs.length cap).ownBlock = some g → g ≠ vb) (hn : zs.length ≤ 2097152) (hlo : lo ≤ w.heap.size) :
    Calls Try.prog 46 #[.slice A zs.length cap, .int .i64 i, .slice (some ⟨vb, 0, none⟩) 1 1] w (RetIns (zs.take i ++ [z] ++ zs.drop i) (.slice A zs.length cap) lo w) := by
  have hlz : (zs.take i ++ [z] ++ zs.drop i).length = zs.length + 1 := by simp; omega
  have hvs : ∀ (j : Nat) (v : Value), [Value.int .i64 z][j]? = some v → w.cell? ⟨vb, 0 + j, none⟩ = some v := fun j v hj => by
    have h0 : j = 0 := by have := (List.getElem?_eq_some_iff.1 hj).1; simp at this; omega
    subst h0
    simp at hj; subst hj
    simp [World.cell?, hv]
  have h1v : ∀ v ∈ [Value.int .i64 z], v.oneCell' = true := by intro v h; simp at h; subst h; rfl
  have h1c : ∀ v ∈ zs.map (Value.int .i64), v.oneCell' = true := by intro v h; obtain ⟨x, _, rfl⟩ := List.mem_map.1 h; rfl
  have hzm : (zs.take i ++ [z] ++ zs.drop i).map (Value.int .i64) = (zs.map (Value.int .i64)).take i ++ [.int .i64 z] ++ (zs.map (Value.int .i64)).drop i := by simp
  have hcl : (zs.map (Value.int .i64)).length = zs.length := List.length_map ..
  have h63 : zs.length + 1 ≤ maxLen := by unfold maxLen; omega
  rcases ho.2 with ⟨hA, h0⟩ | ⟨g, cap', cur, hA, hlg, hg, hnc, hcm, hcs, htk⟩
  · -- nil
    injection hA with hA hl0 hcp
    subst hA hcp
    have hz : zs = [] := List.eq_nil_of_length_eq_zero h0
    subst hz
    have hi0 : i = 0 := by simpa using hi
    subst hi0
    refine (Any2.slices_Insert_int_end_grow laysInsert none 0 0 vb 0 1 1 [] [.int .i64 z] w (by omega) (Nat.le_refl _) (by omega) (by omega) rfl rfl (fun _ => rfl) (fun a h => by cases h) hvs h1v).mono ?_
    rintro _ _ ⟨rfl, rfl⟩
    have hge := grownCap_ge w (0 + 1) 0 3
    have hle := grownCap_le_maxLen w (0 + 1) 0 3 (by unfold maxLen; omega)
    have hnew := row_new (E := 3) (lo := lo) w.drew (([] ++ [Value.int .i64 z]).toArray ++ Builtin.zeroCells (Value.int .i64 0).cells (grownCap w (0 + 1) 0 3 - (0 + 1))) 1 (grownCap w (0 + 1) 0 3) hlo hge hle (by rw [Array.size_append, zeros_len]; show 1 + _ = _; omega)
    refine ⟨some ⟨w.heap.size, 0, none⟩, _, rfl, ?_, ?_, .inr rfl⟩
    · unfold Out
      have : ([Value.int .i64 z].toArray ++ Builtin.zeroCells (Value.int .i64 0).cells (grownCap w (0 + 1) 0 3 - (0 + 1))).toList.take 1 = [Value.int .i64 z] := by simp
      rw [List.nil_append] at hnew
      rw [this] at hnew
      exact hnew
    · exact ⟨rfl, rfl, rfl, by show w.heap.size ≤ (w.drew.alloc _).heap.size; simp, fun k hk _ => ((Below.refl w.heap.size w).drew.alloc (Nat.le_refl _) _).block k hk⟩
  · injection hA with hA hl0 hcp
    subst hA hcp
    clear hl0
    obtain ⟨ys, hyl, hyt, hnc', hcm', ⟨cur2, hg2, hcs2⟩, hfull⟩ := row_full ho
    have hcell : ∀ (j : Nat) (v : Value), ys[j]? = some v → w.cell? ⟨g, 0 + j, none⟩ = some v := fun j v hj => by
      have := World.ownsRow.cells hfull (g := g) rfl j v hj
      have hadd : (⟨g, 0, none⟩ : Addr).add j = ⟨g, 0 + j, none⟩ := by unfold Addr.add; split <;> simp_all
      rwa [hadd] at this
    have hcz : ∀ (j : Nat) (v : Value), (zs.map (Value.int .i64))[j]? = some v → w.cell? ⟨g, 0 + j, none⟩ = some v := fun j v hj => by
      rw [← hyt] at hj
      rw [List.getElem?_take] at hj
      split at hj
      · exact hcell j v hj
      · cases hj
    have hfz : ∀ o, w.frozen? ⟨g, o, none⟩ = false := fun o => by simp [World.frozen?, hg]
    have hgv : vb ≠ g := fun e => hne g rfl e.symm
    have hsb : w.shape? g = some (3, cap) := by simp [World.shape?, hg2, hcs2]
    have hsa : w.shape? vb = some (3, 1) := by simp [World.shape?, hv]
    have hfv : ∀ o, w.frozen? ⟨vb, o, none⟩ = false := fun o => by simp [World.frozen?, hv]
    have hsome : ∀ j, j < cap → (w.cell? ⟨g, 0 + j, none⟩).isSome = true := fun j hj => by rw [hcell j _ (List.getElem?_eq_getElem (by omega))]; rfl
    have hzl2 : (zs.take i ++ [z] ++ zs.drop i).length ≤ cap → ∀ (W : World) (L : List Value), W.ownsRow lo 3 1 (.slice (some ⟨g, 0, none⟩) cap cap) cap L → L.take (zs.length + 1) = (zs.take i ++ [z] ++ zs.drop i).map (Value.int .i64) → Out (Value.int .i64) 3 lo (.slice (some ⟨g, 0, none⟩) (zs.take i ++ [z] ++ zs.drop i).length cap) (zs.take i ++ [z] ++ zs.drop i) W := fun hle W L hL hT => by
      have := row_cut hL hle
      rw [hlz, hT] at this
      unfold Out
      rw [hlz]
      exact this
    by_cases hroom : zs.length + 1 ≤ cap
    · by_cases hin : i = zs.length
      · subst hin
        refine (Any2.slices_Insert_int_end_room laysInsert g 0 zs.length cap vb 0 1 1 [.int .i64 z] w (by omega) hroom (by unfold maxLen at hcm'; omega) rfl (fun j hj => by have := hsome (zs.length + j) (by omega); rwa [← Nat.add_assoc] at this) (fun _ _ => hfz _) hvs h1v).mono ?_
        rintro _ _ ⟨rfl, rfl⟩
        rw [Nat.zero_add]
        have h2 := row_setCells [.int .i64 z] ys zs.length w hfull
        refine ⟨_, _, ret_sl hlz.symm, hzl2 (by omega) _ _ h2 ?_, (Fr.setCells (Nat.le_refl g) (Nat.lt_succ_self g) _ _ _ (Fr.refl _ _ w)).grown, .inl rfl⟩
        rw [put_end hyt hcl (by omega), hzm, List.take_of_length_le (by rw [hcl]; omega), List.drop_of_length_le (by rw [hcl]; omega), List.append_nil]
      · have hlt : i < zs.length := by omega
        refine (Any2.slices_Insert_int_shift laysInsert g 0 zs.length cap i vb 0 1 1 (zs.map (Value.int .i64)) [.int .i64 z] w hlt (by omega) hroom (by unfold maxLen at hcm'; omega) hgv hcl rfl hcz (fun j hj => hsome j (by omega)) (fun _ _ => hfz _) hvs h1c h1v 3 3 1 cap hsa hsb (by omega) (hfv _) (hfv _)).mono ?_
        rintro _ _ ⟨rfl, rfl⟩
        rw [Nat.zero_add, Nat.zero_add]
        have hfd : w.drew.ownsRow lo 3 1 (.slice (some ⟨g, 0, none⟩) cap cap) cap ys := hfull
        have h2 := row_setCells [.int .i64 z] _ i _ (row_setCells ((zs.map (Value.int .i64)).drop i) ys (i + 1) w.drew hfd)
        have hF := (Fr.setCells (Nat.le_refl g) (Nat.lt_succ_self g) [.int .i64 z] i _ (Fr.setCells (Nat.le_refl g) (Nat.lt_succ_self g) ((zs.map (Value.int .i64)).drop i) (i + 1) w.drew (Fr.of_below (Below.refl _ _).drew : Fr g (g + 1) w w.drew))).grown
        refine ⟨_, _, ret_sl hlz.symm, hzl2 (by omega) _ _ h2 ?_, hF, .inl rfl⟩
        rw [put_mid hyt hcl (by omega) (by omega), hzm]
    · have hcn : cap < zs.length + 1 := by omega
      by_cases hin : i = zs.length
      · subst hin
        refine (Any2.slices_Insert_int_end_grow laysInsert (some ⟨g, 0, none⟩) zs.length cap vb 0 1 1 (zs.map (Value.int .i64)) [.int .i64 z] w (by omega) hnc' hcn (by omega) hcl rfl (fun h => by cases h) (fun a h j v hj => by
          injection h with h; subst h
          have hadd : (⟨g, 0, none⟩ : Addr).add j = ⟨g, 0 + j, none⟩ := by unfold Addr.add; split <;> simp_all
          rw [hadd]; exact hcz j v hj) hvs h1v).mono ?_
        rintro _ _ ⟨rfl, rfl⟩
        have hge := grownCap_ge w (zs.length + 1) cap 3
        have hle := grownCap_le_maxLen w (zs.length + 1) cap 3 h63
        have hnew := row_new (E := 3) (lo := lo) w.drew ((zs.map (Value.int .i64) ++ [Value.int .i64 z]).toArray ++ Builtin.zeroCells (Value.int .i64 0).cells (grownCap w (zs.length + 1) cap 3 - (zs.length + 1))) (zs.length + 1) (grownCap w (zs.length + 1) cap 3) hlo hge hle (by rw [Array.size_append, zeros_len, List.size_toArray, List.length_append, hcl]; show zs.length + 1 + _ = _; omega)
        refine ⟨some ⟨w.heap.size, 0, none⟩, _, ret_sl hlz.symm, ?_, ?_, .inr rfl⟩
        · unfold Out
          rw [hlz, hzm, List.take_of_length_le (by rw [hcl]; omega), List.drop_of_length_le (by rw [hcl]; omega), List.append_nil]
          rw [Array.toList_append, List.take_left' (by simp)] at hnew
          exact hnew
        · exact ⟨rfl, rfl, rfl, by show w.heap.size ≤ (w.drew.alloc _).heap.size; simp, fun k hk _ => ((Below.refl w.heap.size w).drew.alloc (Nat.le_refl _) _).block k hk⟩
      · have hlt : i < zs.length := by omega
        refine (Any2.slices_Insert_int_grow laysInsert g 0 zs.length cap i vb 0 1 1 (zs.map (Value.int .i64)) [.int .i64 z] w hlt (by omega) hnc' hcn (by omega) hcl rfl hcz hvs h1c h1v).mono ?_
        rintro _ _ ⟨rfl, rfl⟩
        have hge := grownCap_ge w (zs.length + 1) cap 3
        have hle := grownCap_le_maxLen w (zs.length + 1) cap 3 h63
        have hcx : (((zs.map (Value.int .i64)).take i).toArray ++ Builtin.zeroCells (Value.int .i64 0).cells (zs.length + 1 - i) ++ Builtin.zeroCells (Value.int .i64 0).cells (grownCap w (zs.length + 1) cap 3 - (zs.length + 1))).size = grownCap w (zs.length + 1) cap 3 := by
          rw [Array.size_append, Array.size_append, zeros_len, zeros_len, List.size_toArray, List.length_take, hcl]; omega
        obtain ⟨h4, hB⟩ := grow_new (E := 3) (lo := lo) w (((zs.map (Value.int .i64)).take i).toArray ++ Builtin.zeroCells (Value.int .i64 0).cells (zs.length + 1 - i) ++ Builtin.zeroCells (Value.int .i64 0).cells (grownCap w (zs.length + 1) cap 3 - (zs.length + 1))) (zs.map (Value.int .i64)) (.int .i64 z) zs.length i _ hlo hcx
          (by rw [Array.toList_append, Array.toList_append, List.append_assoc]; exact List.take_left' (by rw [List.length_take, hcl]; omega)) hcl hge hle (by omega)
        refine ⟨some ⟨w.heap.size, 0, none⟩, _, ret_sl hlz.symm, ?_, ⟨hB.os, hB.tape, hB.output, hB.size, fun k hk _ => hB.block k hk⟩, .inr rfl⟩
        rw [← hzm] at h4
        unfold Out
        rw [hlz]
        exact h4
end Go.Proofs.Ytehoocnhooemoaa
