/- slices.DeleteFunc at ints, with the closure that asks for one number: the contract. No condition but the sizes. -/
import Derived.Test.YthhdajmnidjhjaaAlCpy
import Derived.Test.YthhdajmnidjhjaaAlIdx
import Derived.Lib.SliceRun
namespace Go.Proofs.Ythhdajmnidjhjaa
set_option linter.unusedVariables false
set_option linter.unusedSimpArgs false
open Go.RowKit
attribute [local irreducible] wpQuiet
def delI (zs : List Int) (z : Int) : List Int := zs.filter fun y => decide (y ≠ z)
section
variable {α : Type} {V : α → Value} {E : TypeId} {base g n c : Nat} {ys : List α} {w w' : World}
theorem Out.cells_ (h : Out V E base (.slice (some ⟨g, 0, none⟩) n c) ys w) : n = ys.length ∧ ys.length ≤ c ∧ g < w.heap.size ∧ (∀ (i : Nat) (x : α), ys[i]? = some x → w.cell? ⟨g, i, none⟩ = some (V x)) ∧ ∀ o, w.frozen? ⟨g, o, none⟩ = false := by
  have hl := h.lt_ g rfl
  rcases h.2 with ⟨h1, _⟩ | ⟨g', cap', cur, h1, _, hg, hc, _⟩
  · cases h1
  · injection h1 with h1 h2 h3
    injection h1 with h1; injection h1 with h1
    subst h1 h2 h3
    refine ⟨rfl, hc, hl, fun i x hx => ?_, fun o => by simp [World.frozen?, hg]⟩
    have := World.ownsRow.cells h (g := g) rfl i (V x) (by rw [List.getElem?_map, hx]; rfl)
    have hadd : (⟨g, 0, none⟩ : Addr).add i = ⟨g, i, none⟩ := by unfold Addr.add; split <;> simp_all
    rwa [hadd] at this
theorem Out.put_ (h : Out V E base (.slice (some ⟨g, 0, none⟩) n c) ys w) (j : Nat) (x : α) : Out V E base (.slice (some ⟨g, 0, none⟩) n c) (ys.set j x) (w.setCell ⟨g, j, none⟩ (V x)) := by
  have hn := h.cells_.1
  subst hn
  have := (World.ownsRow.stored h j (V x)).1
  unfold Out
  rw [List.length_set, List.map_set]
  exact this
theorem row_cut {xs : List Value} {m : Nat} (h : w.ownsRow base E 1 (.slice (some ⟨g, 0, none⟩) n c) n xs) (hm : m ≤ n) : w.ownsRow base E 1 (.slice (some ⟨g, 0, none⟩) m c) m (xs.take m) := by
  have hl := h.1
  refine ⟨by rw [List.length_take]; omega, ?_⟩
  rcases h.2 with ⟨h1, _⟩ | ⟨g', cap', cur, h1, hb, hg, hc, hc2, hc3, hc4⟩
  · cases h1
  · injection h1 with h1 h2 h3
    injection h1 with h1; injection h1 with h1
    subst h1 h3
    refine .inr ⟨g, c, cur, rfl, hb, hg, by omega, hc2, hc3, ?_⟩
    rw [← hc4, List.take_take]
    congr 1
    omega
theorem row_over {m : Nat} : ∀ (us : List Value) (o : Nat) (xs : List Value) (W : World), m ≤ o → W.ownsRow base E 1 (.slice (some ⟨g, 0, none⟩) n c) n xs → ∃ xs', (W.setCells g o us).ownsRow base E 1 (.slice (some ⟨g, 0, none⟩) n c) n xs' ∧ xs'.take m = xs.take m
  | [], _, xs, _, _, h => ⟨xs, h, rfl⟩
  | u :: us, o, xs, W, hm, h => by
    obtain ⟨xs', h1, h2⟩ := row_over (m := m) us (o + 1) (xs.set o u) (W.setCell ⟨g, o, none⟩ u) (by omega) (World.ownsRow.stored h o u).1
    refine ⟨xs', h1, h2.trans ?_⟩
    rw [List.take_set_of_le hm]
theorem Out.over (h : Out V E base (.slice (some ⟨g, 0, none⟩) n c) ys w) {m : Nat} (hm : m ≤ n) (us : List Value) : Out V E base (.slice (some ⟨g, 0, none⟩) m c) (ys.take m) (w.setCells g m us) := by
  have hn := h.cells_.1
  subst hn
  obtain ⟨xs', h1, h2⟩ := row_over (m := m) us m _ _ (Nat.le_refl _) h
  have h3 := row_cut h1 hm
  rw [h2] at h3
  unfold Out
  rw [List.length_take, Nat.min_eq_left hm, List.map_take]
  exact h3
theorem Fr.setCells {lo hi : Nat} {a : World} {g : Nat} (h1 : lo ≤ g) (h2 : g < hi) : ∀ (us : List Value) (o : Nat) (W : World), Fr lo hi a W → Fr lo hi a (W.setCells g o us)
  | [], _, _, h => h
  | u :: us, o, W, h => Fr.setCells h1 h2 us (o + 1) _ (h.setCell (p := ⟨g, o, none⟩) h1 h2 u)
end
theorem idxI_cases {α : Type} (p : α → Bool) (xs : List α) : (∃ j, ∃ (hj : j < xs.length), idxI p xs = (j : Int) ∧ p xs[j] = true ∧ ∀ x ∈ xs.take j, p x = false) ∨ (idxI p xs = -1 ∧ ∀ x ∈ xs, p x = false) := by
  unfold idxI
  cases h : xs.findIdx? p with
  | none => exact .inr ⟨rfl, by simpa using h⟩
  | some i =>
    left
    rw [List.findIdx?_eq_some_iff_getElem] at h
    obtain ⟨hi, hp, hb⟩ := h
    refine ⟨i, hi, rfl, hp, fun x hx => ?_⟩
    obtain ⟨j, hj, rfl⟩ := List.mem_take_iff_getElem.1 hx
    simpa using hb j (by omega)
theorem takeItem1_c (x z : Int) (b : Nat) (w : World) (hz : w.cell? ⟨b, 0, none⟩ = some (.int .i64 z)) :
    Calls Try.prog 56 #[.int .i64 x, .pointer (some ⟨b, 0, none⟩)] w (Ret (.bool (decide (x = z))) w) := by
  go_enter Try.func56, Try.ntmps56
  go_wp2_with fail
  go_returns
  exact ⟨rfl, Below.refl _ _⟩
set_option maxRecDepth 100000 in
set_option maxHeartbeats 1000000 in
theorem indexZ_c (xs : List Int) (A : Option Addr) (c : Nat) (z : Int) (b : Nat) (w : World) (hr : Rd encI 1 w.heap.size w A xs) (hn : xs.length ≤ 2097152) (hz : w.cell? ⟨b, 0, none⟩ = some (.int .i64 z)) :
    Calls Try.prog 86 #[.slice A xs.length c, .func (.func 56) #[] #[.pointer (some ⟨b, 0, none⟩)]] w (Ret (.int .i64 (idxI (fun y => decide (y = z)) xs)) w) := by
  have hbl := cell_lt hz
  have hent := fun args W => enters Try.func56 rfl rfl args W
  go_enter Try.func86, Try.ntmps86
  go_wp2_with fail
  go_loopw [8] (fun i wr => ∃ k : Nat, k ≤ xs.length ∧ i = .int .i64 k ∧ (∀ x ∈ xs.take k, (fun y => decide (y = z)) x = false) ∧ Below w.heap.size w wr) (fun i _ => xs.length - (intOf i).toNat)
  case atStart => exact ⟨0, Nat.zero_le _, rfl, by simp, Below.refl _ _⟩
  case round =>
    obtain ⟨k, hk, rfl, hall, hb⟩ := hrel
    have HA := Lib.hid hall
    clear hall
    by_cases hlt : k < xs.length
    · obtain ⟨b', off, rfl, hbs, d0⟩ := (hr.below hb).int hlt
      have hz1 := (hb.cell (p := ⟨b, 0, none⟩) hbl).trans hz
      go_wp2_with fail
      refine (takeItem1_c xs[k] z b _ hz1).mono ?_
      rintro _ w1 ⟨rfl, hb1⟩
      have hbx := hb.trans (hb1.mono hb.size)
      by_cases he : xs[k] = z
      · have HV := Lib.hid (idxI_hit (fun y => decide (y = z)) xs k hlt HA.out (by simp [he]))
        have he' : decide (xs[k] = z) = true := by simp [he]
        clear he
        go_wp2_with fail
        go_returns
        exact ⟨ret_int HV.out.symm, hbx⟩
      · have HN := Lib.hid (take_no hlt HA.out (show (fun y => decide (y = z)) xs[k] = false by simp [he]))
        have he' : decide (xs[k] = z) = false := by simp [he]
        clear he
        go_wp2_with fail
        go_roundw
        case rel => exact ⟨k + 1, by omega, by go_num, HN.out, hbx⟩
        case measure => simp [intOf]; omega
    · have HV := Lib.hid (idxI_miss (fun y => decide (y = z)) xs (by have := HA.out; rwa [List.take_of_length_le (by omega)] at this))
      go_wp2_with fail
      go_returns
      exact ⟨ret_int HV.out.symm, hb⟩
set_option maxRecDepth 100000 in
set_option maxHeartbeats 1600000 in
theorem deleteZ_c (zs : List Int) (g cap lo : Nat) (z : Int) (b : Nat) (w : World) (ho : Out (Value.int .i64) 3 lo (.slice (some ⟨g, 0, none⟩) zs.length cap) zs w) (hz : w.cell? ⟨b, 0, none⟩ = some (.int .i64 z)) (hne : b ≠ g) (hm : z ∈ zs) (hn : zs.length ≤ 2097152) :
    Calls Try.prog 55 #[.slice (some ⟨g, 0, none⟩) zs.length cap, .func (.func 56) #[] #[.pointer (some ⟨b, 0, none⟩)]] w fun e w' => e = .returned (.slice (some ⟨g, 0, none⟩) (delI zs z).length cap) ∧ Fr g (g + 1) w w' ∧ Out (Value.int .i64) 3 lo (.slice (some ⟨g, 0, none⟩) (delI zs z).length cap) (delI zs z) w' := by
  have hbl := cell_lt hz
  have hent := fun args W => enters Try.func56 rfl rfl args W
  obtain ⟨_, hcap, hgl, hcs, _⟩ := ho.cells_
  have hr : Rd encI 1 w.heap.size w (some ⟨g, 0, none⟩) zs := rdI_of fun _ => ⟨g, 0, rfl, hgl, fun j z hz => by rw [Nat.zero_add]; exact hcs j z hz⟩
  clear hcs
  go_enter Try.func55, Try.ntmps55
  go_wp2_with fail
  refine (indexZ_c zs _ _ z b _ hr hn hz).mono ?_
  rintro _ w1 ⟨rfl, hb1⟩
  rcases idxI_cases (fun y => decide (y = z)) zs with ⟨i0, hi0, he, hp0, hall⟩ | ⟨he, hall⟩
  · rw [he]
    have ho1 := ho.below hb1
    have hz1 := (hb1.cell (p := ⟨b, 0, none⟩) hbl).trans hz
    have hf1 : Fr g (g + 1) w w1 := Fr.of_below hb1
    have hF0 : (zs.take (i0 + 1)).filter (fun y => decide (y ≠ z)) = zs.take i0 := by
      rw [take_succ_get zs i0 hi0, List.filter_append]
      simp only [decide_eq_true_eq] at hp0
      rw [List.filter_eq_self.2 (fun x hx => by have := hall x hx; simpa using this)]
      simp [hp0]
    have HF0 := Lib.hid hF0
    have hI1 : ((i0 : Int) == -1) = false := by rw [beq_eq_false_iff_ne]; omega
    clear he hall hF0 hp0 hr
    go_wp2_with fail
    go_loopw [5, 6] (fun u v wr => ∃ (i j : Nat) (cs : List Int), u = .int .i64 i ∧ v = .int .i64 j ∧ i < j ∧ j ≤ zs.length ∧ cs.length = zs.length ∧ cs.take i = delI (zs.take j) z ∧ (∀ k, j ≤ k → cs[k]? = zs[k]?) ∧ Out (Value.int .i64) 3 lo (.slice (some ⟨g, 0, none⟩) zs.length cap) cs wr ∧ Fr g (g + 1) w wr) (fun _ v _ => zs.length - (intOf v).toNat)
    case atStart => exact ⟨i0, i0 + 1, zs, rfl, by go_num, by omega, by omega, rfl, HF0.out.symm, fun _ _ => rfl, ho1, hf1⟩
    case round =>
      obtain ⟨i, j, cs, rfl, rfl, hij, hjn, hcl, htk, hdr, hoc, hfr⟩ := hrel
      clear ho1 hf1 hz1 hb1
      obtain ⟨hlx, hcx, hgw, hcc, hff⟩ := hoc.cells_
      clear hlx hcx
      have hbw : b < wr.heap.size := Nat.lt_of_lt_of_le hbl hfr.size
      have hzr : wr.cell? ⟨b, 0, none⟩ = some (.int .i64 z) := (World.cell?_of_block (w := w) (a := ⟨b, 0, none⟩) (hfr.block b hbl (by omega))).trans hz
      have HT := Lib.hid htk
      have HDR := Lib.hid hdr
      have HCL := Lib.hid hcl
      clear htk
      by_cases hlt : j < zs.length
      · have d0 := hcc j zs[j] ((hdr j (Nat.le_refl _)).trans (List.getElem?_eq_getElem hlt))
        have d1 := hcc i (cs[i]'(by omega)) (List.getElem?_eq_getElem (by omega))
        have d1' : ∃ q, wr.cell? ⟨g, i, none⟩ = some (.int .i64 q) := ⟨_, d1⟩
        clear hdr hcc d1 hcl
        have hj0 : (0 : Int) ≤ (j : Int) := by omega
        have hj1 : (j : Int) < (zs.length : Int) := by omega
        have hi0' : (0 : Int) ≤ (i : Int) := by omega
        have hi1 : (i : Int) < (zs.length : Int) := by omega
        go_wp2_with fail
        refine (takeItem1_c zs[j] z b _ hzr).mono ?_
        rintro _ w5 ⟨rfl, hb5⟩
        have hfr5 := hfr.then_ hb5
        have hoc5 := hoc.below hb5
        by_cases hx : zs[j] = z
        · have hxd : decide (zs[j] = z) = true := decide_eq_true hx
          have HN := Lib.hid (show delI (zs.take (j + 1)) z = delI (zs.take j) z by unfold delI; rw [take_succ_get zs j hlt, List.filter_append]; simp [hx])
          clear hx
          go_wp2_with fail
          go_roundw
          case rel => exact ⟨i, j + 1, cs, rfl, by go_num, by omega, by omega, HCL.out, HT.out.trans HN.out.symm, fun k hk => HDR.out k (by omega), hoc5, hfr5⟩
          case measure => simp [intOf]; omega
        · have hxd : decide (zs[j] = z) = false := decide_eq_false hx
          have HN := Lib.hid (show delI (zs.take (j + 1)) z = delI (zs.take j) z ++ [zs[j]] by unfold delI; rw [take_succ_get zs j hlt, List.filter_append]; simp [hx])
          clear hx
          have hput := hoc5.put_ i zs[j]
          have hfrp := hfr5.setCell (p := ⟨g, i, none⟩) (Nat.le_refl _) (Nat.lt_succ_self _) (.int .i64 zs[j])
          have hff5 := fun o => (hb5.frozen (p := ⟨g, o, none⟩) hgw).trans (hff o)
          obtain ⟨q, d1⟩ := d1'
          have d1 := (hb5.cell (p := ⟨g, i, none⟩) hgw).trans d1
          have HS := Lib.hid (show (cs.set i zs[j]).take (i + 1) = cs.take i ++ [zs[j]] by
            rw [take_succ_get _ i (by rw [List.length_set, HCL.out]; omega), List.take_set_of_le (Nat.le_refl _)]; simp)
          go_wp2_with fail
          go_roundw
          case rel => exact ⟨i + 1, j + 1, cs.set i zs[j], by go_num, by go_num, by omega, by omega, by rw [List.length_set]; exact HCL.out, by rw [HS.out, HT.out, HN.out], fun k hk => by rw [List.getElem?_set_ne (by omega)]; exact HDR.out k (by omega), hput, hfrp⟩
          case measure => simp [intOf]; omega
      · have hje : j = zs.length := by omega
        subst hje
        rw [List.take_length] at HT
        have hclr : ∀ ty, (Builtin.clear_ #[39] ty #[.slice (some ⟨g, i, none⟩) (zs.length - i) (cap - i)]).run Try.prog wr = .ok (.tuple #[]) (wr.setCells g i (List.replicate (zs.length - i) (.int .i64 0))) :=
          fun ty => Lib.run_clear_slice wr _ _ ty _ Try.underlying39 (fun w => by kernel_rfl) rfl rfl g i _ _ (by omega) (fun t ht => by rw [hcc (i + t) (cs[i + t]'(by omega)) (List.getElem?_eq_getElem (by omega))]; rfl) (fun t ht => hff _)
        have hov := hoc.over (m := i) (by omega) (List.replicate (zs.length - i) (.int .i64 0))
        have hfv := Fr.setCells (Nat.le_refl g) (Nat.lt_succ_self g) (List.replicate (zs.length - i) (.int .i64 0)) i _ hfr
        have hli : (delI zs z).length = i := by rw [← HT.out, List.length_take, HCL.out]; omega
        have HLI := Lib.hid hli
        rw [HT.out] at hov
        clear hcc hdr hli hcl
        have hi0' : (0 : Int) ≤ (i : Int) := by omega
        have hi1 : (i : Int) ≤ (zs.length : Int) := by omega
        have hi2 : (i : Int) ≤ (cap : Int) := by omega
        go_wp2_with fail
        go_returns
        exact ⟨ret_sl HLI.out.symm, hfv, by rw [HLI.out]; exact hov⟩
  · exact absurd (hall z hm) (by simp)
end Go.Proofs.Ythhdajmnidjhjaa
