/- An album that a draw builds up: it grows, its pages' items are only read. No condition of its own. -/
import Derived.Test.YthhdajmnidjhjaaDrawK
import Derived.Test.YthhdajmnidjhjaaAlCpy
import Derived.Test.YthhdajmnidjhjaaAppH
import Derived.Deep.CutBlock
import Derived.Deep.DeepCutAuto
import Derived.Deep.RegionLaw
namespace Go.Proofs.Ythhdajmnidjhjaa
set_option linter.unusedVariables false
set_option linter.unusedSimpArgs false
open Go.RowKit
attribute [local irreducible] wpQuiet
/-- The cells m show page p; its items, if there are any, lie in a block from lo on. -/
def PgIn (lo : Nat) (w : World) (m : PageM) (p : Page) : Prop := m.id = p.id ∧ m.title = p.title ∧ m.under = p.under ∧ m.n = p.items.length ∧ m.n ≤ m.c ∧ Rd encI 1 w.heap.size w m.A p.items ∧ (0 < m.n → ∀ b off, m.A = some ⟨b, off, none⟩ → lo ≤ b)
/-- The slice v of the draw's own holds pages that read as ps; none of their items lies in v's block. -/
def DrP (lo : Nat) (v : Value) (ms : List PageM) (ps : List Page) (w : World) : Prop :=
  OutR encPM 4 43 lo v ms w ∧ ms.length = ps.length ∧ ∀ (i : Nat) (m : PageM) (p : Page), ms[i]? = some m → ps[i]? = some p → PgIn lo w m p ∧ (0 < m.n → ∀ b off, m.A = some ⟨b, off, none⟩ → v.ownBlock ≠ some b)
section
variable {lo : Nat} {v v' : Value} {ms : List PageM} {ps : List Page} {w w' : World} {m : PageM} {p : Page}
theorem PgIn.grown {b : Option Nat} (h : PgIn lo w m p) (hg : w.grownBy w' b) (hne : 0 < m.n → ∀ q off, m.A = some ⟨q, off, none⟩ → b ≠ some q) : PgIn lo w' m p := by
  obtain ⟨h1, h2, h3, h4, h5, h6, h7⟩ := h
  refine ⟨h1, h2, h3, h4, h5, fun hn => ?_, h7⟩
  obtain ⟨q, off, hA, hb, hc⟩ := h6 hn
  have hq := hg.block q hb (fun e => hne (by rw [h4]; exact hn) q off hA e.symm)
  exact ⟨q, off, hA, Nat.lt_of_lt_of_le hb hg.size, fun i x hx j u hu => (World.cell?_of_block (w := w) (a := ⟨q, _, none⟩) hq).trans (hc i x hx j u hu)⟩
theorem fr_grownP {g : Nat} (hf : Fr g (g + 1) w w') : w.grownBy w' (some g) := ⟨hf.os, hf.tape, hf.output, hf.size, fun k hk hne => hf.block k hk (by have : k ≠ g := fun e => hne (by rw [e]); omega)⟩
theorem below_grnP (hb : Below w.heap.size w w') : w.grownBy w' none := ⟨hb.os, hb.tape, hb.output, hb.size, fun k hk _ => hb.block k hk⟩
theorem PgIn.fr_ {g : Nat} (h : PgIn lo w m p) (hf : Fr g (g + 1) w w') (hg : g < lo) : PgIn lo w' m p := h.grown (fr_grownP hf) fun hn q off hA e => by have := h.2.2.2.2.2.2 hn q off hA; injection e with e; omega
theorem PgIn.below_ (h : PgIn lo w m p) (hb : Below w.heap.size w w') : PgIn lo w' m p := h.grown (below_grnP hb) fun _ _ _ _ e => by cases e
theorem PgIn.lt (h : PgIn lo w m p) (hn : 0 < m.n) {b off : Nat} (hA : m.A = some ⟨b, off, none⟩) : b < w.heap.size := by
  obtain ⟨q, o, hA', hb, _⟩ := h.2.2.2.2.2.1 (by rw [← h.2.2.2.1]; exact hn)
  rw [hA] at hA'
  obtain ⟨rfl, _⟩ := addr_eq hA'
  exact hb
theorem DrP.nil (w : World) (hl : lo ≤ w.heap.size) : DrP lo (.slice (some ⟨w.heap.size, 0, none⟩) 0 0) [] [] (w.alloc (.cells #[] 43)) := ⟨OutR.empty w hl, rfl, by simp⟩
theorem DrP.keep_ {b : Option Nat} (h : DrP lo v ms ps w) (hg : w.grownBy w' b) (hv : ∀ q, v.ownBlock = some q → b ≠ some q) (hin : ∀ q, lo ≤ q → b ≠ some q) : DrP lo v ms ps w' :=
  ⟨h.1.kept_ hg hv, h.2.1, fun i m p hm hp => ⟨(h.2.2 i m p hm hp).1.grown hg fun hn q off hA => hin q ((h.2.2 i m p hm hp).1.2.2.2.2.2.2 hn q off hA), (h.2.2 i m p hm hp).2⟩⟩
theorem DrP.fr_ {g : Nat} (h : DrP lo v ms ps w) (hf : Fr g (g + 1) w w') (hg : g < lo) : DrP lo v ms ps w' :=
  h.keep_ (fr_grownP hf) (fun q hq e => by have := h.1.from_ q hq; injection e with e; omega) fun q hq e => by injection e with e; omega
theorem DrP.below_ (h : DrP lo v ms ps w) (hb : Below w.heap.size w w') : DrP lo v ms ps w' :=
  h.keep_ (below_grnP hb) (fun _ _ e => by cases e) fun _ _ e => by cases e
theorem DrP.push_ (h : DrP lo v ms ps w) (hm : PgIn lo w m p) (hmv : 0 < m.n → ∀ b off, m.A = some ⟨b, off, none⟩ → v.ownBlock ≠ some b)
    (ho : OutR encPM 4 43 lo v' (ms ++ [m]) w') (hg : w.grownBy w' v.ownBlock) (hv : v'.ownBlock = v.ownBlock ∨ v'.ownBlock = some w.heap.size) : DrP lo v' (ms ++ [m]) (ps ++ [p]) w' := by
  have hkey : ∀ (x : PageM) (y : Page), PgIn lo w x y → (0 < x.n → ∀ b off, x.A = some ⟨b, off, none⟩ → v.ownBlock ≠ some b) → PgIn lo w' x y ∧ (0 < x.n → ∀ b off, x.A = some ⟨b, off, none⟩ → v'.ownBlock ≠ some b) := fun x y h1 h2 => by
    refine ⟨h1.grown hg h2, fun hn b off hA e => ?_⟩
    rcases hv with hv | hv
    · rw [hv] at e; exact h2 hn b off hA e
    · rw [hv] at e; injection e with e
      have := h1.lt hn hA
      omega
  refine ⟨ho, by simp [h.2.1], fun i x y hx hy => ?_⟩
  by_cases hi : i < ms.length
  · rw [List.getElem?_append_left hi] at hx
    rw [List.getElem?_append_left (by rw [← h.2.1]; exact hi)] at hy
    exact hkey x y (h.2.2 i x y hx hy).1 (h.2.2 i x y hx hy).2
  · have hl := (List.getElem?_eq_some_iff.1 hx).1
    have he : i = ms.length := by simp at hl; omega
    subst he
    rw [List.getElem?_append_right (Nat.le_refl _), Nat.sub_self] at hx
    rw [List.getElem?_append_right (by rw [h.2.1]; exact Nat.le_refl _), h.2.1, Nat.sub_self] at hy
    simp at hx hy
    subst hx hy
    exact hkey _ _ hm hmv
theorem DrP.shape (h : DrP lo v ms ps w) : ∃ A c, v = .slice A ps.length c ∧ ps.length ≤ c ∧ RdP w.heap.size w A ps := by
  obtain ⟨A, c, rfl, hc, ho⟩ := h.1.ownC encPM_len
  rw [h.2.1] at hc ⊢
  refine ⟨A, c, rfl, hc, fun hn => ?_⟩
  obtain ⟨b, off, hA, hl, hb, hcell, _⟩ := ho.2 (by rw [h.2.1]; exact hn)
  refine ⟨b, off, hA, hb, fun i p hp => ?_⟩
  have hi := (List.getElem?_eq_some_iff.1 hp).1
  have hm : i < ms.length := by rw [h.2.1]; exact hi
  obtain ⟨h1, h2, h3, h4, h5, h6, _⟩ := (h.2.2 i ms[i] p (List.getElem?_eq_getElem hm) hp).1
  have hc4 := hcell i ms[i] (List.getElem?_eq_getElem hm)
  refine ⟨?_, ?_, ?_, ms[i].A, ms[i].c, ?_, by rw [← h4]; exact h5, h6⟩
  · rw [← h1]; simpa using hc4 0 _ rfl
  · rw [← h2]; exact hc4 1 _ rfl
  · rw [← h3]; exact hc4 2 _ rfl
  · rw [← h4]; exact hc4 3 _ rfl
end
/-- A page within the bounds that the draws keep. -/
def OkP (p : Page) : Prop := (0 ≤ p.id ∧ p.id ≤ 100) ∧ p.title.size ≤ 10 ∧ (-1 ≤ p.under ∧ p.under ≤ 100) ∧ p.items.length ≤ 8 ∧ ∀ z ∈ p.items, 0 ≤ z ∧ z ≤ 1000
set_option maxRecDepth 100000 in
set_option maxHeartbeats 1600000 in
theorem pageId18_c (g m lo : Nat) (w : World) (h : Cur g m w) (hm : m ≤ 1099500000000) (v : Value) (ms : List PageM) (xs : List Page) (hd : DrP lo v ms xs w) (hg : g < lo) (hn : xs.length ≤ 20) (hok : ∀ x ∈ xs, OkP x) :
    Calls Try.prog 47 #[.pointer (some ⟨g, 0, none⟩), v] w fun e w' => ∃ z : Int, e = .returned (.int .i64 z) ∧ (0 ≤ z ∧ z ≤ 100) ∧ Fr g (g + 1) w w' ∧ Cur g (m + 6) w' := by
  have hg0 := h.1
  obtain ⟨A, c, rfl, hcap, hr⟩ := hd.shape
  have HD := Lib.hid hd
  clear hd
  have HY := Lib.hid hok
  clear hok
  go_enter Try.func47, Try.ntmps47
  by_cases h0 : xs.length = 0
  · have h0' : ((xs.length : Int) == 0) = true := by rw [h0]; rfl
    clear h0
    go_wp2_with fail
    refine (among_c g _ [0, 1, 50] _ 3 _ (h.alloc _) (by omega) (rd_litI w [0, 1, 50] 3) (new_ne hg0) (by decide) (by decide)).mono ?_
    rintro e w1 ⟨z, rfl, hz, hf1, hc1⟩
    have hz' : 0 ≤ z ∧ z ≤ 100 := by simp at hz; omega
    go_wp2_with fail
    go_returns
    exact ⟨z, rfl, hz', (fr_alloc (Fr.refl _ _ _) _).trans hf1, hc1.more (by omega)⟩
  · have h0' : ((xs.length : Int) == 0) = false := by simp only [beq_eq_false_iff_ne, ne_eq]; omega
    have hpos : 0 < xs.length := by omega
    clear h0
    go_wp2_with fail
    refine (one_c g _ 10 _ h (by omega) (by decide)).mono ?_
    rintro e w1 ⟨t, rfl, hf1, hc1⟩
    have hd1 := HD.out.fr_ hf1 hg
    clear hr h
    cases t
    · go_wp2_with fail
      refine (pick_c g _ xs.length _ hc1 (by omega) (by omega)).mono ?_
      rintro e w2 ⟨r, rfl, hr0, _, hr1, hr2, hf2, hc2⟩
      obtain ⟨k, hk, rfl⟩ := pick_nat hr0 hr1 hr2 hpos
      obtain ⟨A', c', hv, _, hr3⟩ := (hd1.fr_ hf2 hg).shape
      injection hv with hA hnn hcc
      subst hA hcc
      obtain ⟨b, off, Ai, ci, rfl, hbs, d0, _, _, _, _, _⟩ := hr3.page hk
      have hokk := HY.out xs[k] (List.getElem_mem hk)
      have hk0 : (0 : Int) ≤ (k : Int) := by omega
      have hk1 : (k : Int) < (xs.length : Int) := by omega
      have hz' := hokk.1
      generalize xs[k].id = z at d0 hz'
      clear hnn hr0 hr1 hr2 hr3 hd1 hokk
      go_wp2_with fail
      go_returns
      exact ⟨z, rfl, hz', hf1.trans hf2, hc2.more (by omega)⟩
    · go_wp2_with fail
      refine (among_c g _ [0, 1, 50] _ 3 _ (hc1.alloc _) (by omega) (rd_litI w1 [0, 1, 50] 3) (new_ne hc1.1) (by decide) (by decide)).mono ?_
      rintro e w2 ⟨z, rfl, hz, hf2, hc2⟩
      have hz' : 0 ≤ z ∧ z ≤ 100 := by simp at hz; omega
      go_wp2_with fail
      go_returns
      exact ⟨z, rfl, hz', (fr_alloc hf1 _).trans hf2, hc2.more (by omega)⟩
theorem cell_frP {g b o : Nat} {a w : World} (h : Fr g (g + 1) a w) (hb : b < a.heap.size) (hne : b ≠ g) : w.cell? ⟨b, o, none⟩ = a.cell? ⟨b, o, none⟩ := World.cell?_of_block (w := a) (a := ⟨b, _, none⟩) (h.block b hb (by omega))
set_option maxRecDepth 100000 in
set_option maxHeartbeats 1600000 in
theorem item18_c (g m lo : Nat) (w : World) (h : Cur g m w) (hm : m ≤ 1099500000000) (v : Value) (ms : List PageM) (xs : List Page) (hd : DrP lo v ms xs w) (hg : g < lo) (hn : xs.length ≤ 20) (hok : ∀ x ∈ xs, OkP x) :
    Calls Try.prog 48 #[.pointer (some ⟨g, 0, none⟩), v] w fun e w' => ∃ z : Int, e = .returned (.int .i64 z) ∧ (0 ≤ z ∧ z ≤ 1000) ∧ Fr g (g + 1) w w' ∧ Cur g (m + 8) w' := by
  have hg0 := h.1
  obtain ⟨A, c, rfl, hcap, hr⟩ := hd.shape
  have HD := Lib.hid hd
  clear hd
  have HY := Lib.hid hok
  clear hok
  go_enter Try.func48, Try.ntmps48
  go_upto_region 1 with fail
  go_cut [12] (fun v wx => ∃ t : Bool, v = .bool t ∧ (t = false → 0 < xs.length) ∧ Fr g (g + 1) w wx ∧ Cur g (m + 2) wx)
  case first =>
    by_cases h0 : xs.length = 0
    · have h0' : ((xs.length : Int) == 0) = true := by rw [h0]; rfl
      clear h0
      go_wp2_with fail
      go_meet
      exact ⟨true, rfl, fun h => (by cases h), Fr.refl _ _ _, h.more (by omega)⟩
    · have h0' : ((xs.length : Int) == 0) = false := by simp only [beq_eq_false_iff_ne, ne_eq]; omega
      have hpos : 0 < xs.length := by omega
      clear h0
      go_wp2_with fail
      refine (one_c g _ 3 _ h (by omega) (by decide)).mono ?_
      rintro e w1 ⟨t, rfl, hf1, hc1⟩
      go_wp2_with fail
      go_meet
      exact ⟨_, rfl, fun _ => hpos, hf1, hc1⟩
  case rest =>
  obtain ⟨t, rfl, ht, hf1, hc1⟩ := hcut
  have HD1 := Lib.hid (HD.out.fr_ hf1 hg)
  have hW0 : g < wc.heap.size := hc1.1
  clear hr h
  cases t
  · have hpos := ht rfl
    clear ht
    go_wp2_with fail
    refine (pick_c g _ xs.length _ hc1 (by omega) (by omega)).mono ?_
    rintro e w2 ⟨r, rfl, hr0, _, hr1, hr2, hf2, hc2⟩
    obtain ⟨k, hk, rfl⟩ := pick_nat hr0 hr1 hr2 hpos
    obtain ⟨A', c', hv, _, hr3⟩ := (HD1.out.fr_ hf2 hg).shape
    injection hv with hA hnn hcc
    subst hA hcc
    have hd2 := HD1.out.fr_ hf2 hg
    obtain ⟨b, off, Ai, ci, rfl, hbs, d0, d1, d2, d3, hci, hri⟩ := hr3.page hk
    have hAg : 0 < xs[k].items.length → ∀ b off, Ai = some ⟨b, off, none⟩ → b ≠ g := fun hn q o e => by
      have hmk : k < ms.length := by rw [hd2.2.1]; exact hk
      obtain ⟨h1, _⟩ := hd2.2.2 k ms[k] xs[k] (List.getElem?_eq_getElem hmk) (List.getElem?_eq_getElem hk)
      obtain ⟨A2, c2, hv2, _, hown⟩ := hd2.1.ownC encPM_len
      injection hv2 with hA2 _ _
      obtain ⟨b2, o2, hA3, _, _, hcell, _⟩ := hown.2 (by omega)
      rw [← hA2] at hA3
      obtain ⟨rfl, rfl⟩ := addr_eq hA3
      have hc3 := hcell k ms[k] (List.getElem?_eq_getElem hmk) 3 _ rfl
      rw [d3] at hc3
      injection hc3 with hc3
      injection hc3 with hc4 _ _
      have := h1.2.2.2.2.2.2 (by rw [h1.2.2.2.1]; exact hn) q o (by rw [← hc4]; exact e)
      omega
    have hokk := HY.out xs[k] (List.getElem_mem hk)
    have hk0 : (0 : Int) ≤ (k : Int) := by omega
    have hk1 : (k : Int) < (xs.length : Int) := by omega
    have hf2 := hf1.trans hf2
    have HI := Lib.hid hri
    have HAG := Lib.hid hAg
    obtain ⟨_, _, _, hil, hiz⟩ := hokk
    have HIZ := Lib.hid hiz
    clear hnn hr0 hr1 hr2 hr3 hd2 hri hAg hc1 hiz
    go_upto_region 4 with fail
    have hbx := boxV_new g w2 [.int .i64 xs[k].id, .string xs[k].title, .int .i64 xs[k].under, .slice Ai xs[k].items.length ci] 43 hc2.1
    have hc4 := hc2.alloc (.cells #[.int .i64 xs[k].id, .string xs[k].title, .int .i64 xs[k].under, .slice Ai xs[k].items.length ci] 43)
    have hf4 := fr_alloc hf2 (.cells #[.int .i64 xs[k].id, .string xs[k].title, .int .i64 xs[k].under, .slice Ai xs[k].items.length ci] 43)
    have hr4 := HI.out.go ((Below.refl w2.heap.size w2).alloc (Nat.le_refl _) (.cells #[.int .i64 xs[k].id, .string xs[k].title, .int .i64 xs[k].under, .slice Ai xs[k].items.length ci] 43))
    simp only [List.toArray] at hbx
    generalize w2.alloc (.cells #[.int .i64 xs[k].id, .string xs[k].title, .int .i64 xs[k].under, .slice Ai xs[k].items.length ci] 43) = V at *
    generalize w2.heap.size = hp at *
    obtain ⟨hpg, hpl, _, hpc⟩ := hbx
    have e3 := hpc 3 _ rfl
    have HR4 := Lib.hid hr4
    clear hpc hc2 hf2 HI d0 d1 d2 d3 hr4
    generalize xs[k].items = IT at *
    by_cases hz : IT.length = 0
    · have hz' : ((IT.length : Int) == 0) = true := by rw [hz]; rfl
      clear hz
      go_wp2_with fail
      go_returns
      exact ⟨8, rfl, by omega, hf4, hc4.more (by omega)⟩
    · have hz' : ((IT.length : Int) == 0) = false := by simp only [beq_eq_false_iff_ne, ne_eq]; omega
      have hip : 0 < IT.length := by omega
      clear hz
      go_wp2_with fail
      have hcV : Cur g (m + 4) V.drew := hc4.more (by omega)
      go_region_law (go_simp; go_at_call 76; refine (pick_c g _ IT.length _ hcV (by omega) (by omega)).mono ?_; rintro e w6 ⟨r, rfl, hr0, _, hr1, hr2, hf6, hc6⟩; obtain ⟨q, hq, rfl⟩ := pick_nat hr0 hr1 hr2 hip; have hf6' : Fr g (g + 1) V w6 := (Fr.of_below (Below.refl V.heap.size V).drew).trans hf6; have e6 := (cell_frP hf6' hpl hpg).trans e3; obtain ⟨b6, o6, hA6, hb6, q6⟩ := (show Rd encI 1 w6.heap.size w6 Ai IT from fun hn => HR4.out.fr (HAG.out hn) hf6' hn).int hq; subst hA6; have hq0 : (0 : Int) ≤ (q : Int) := (by omega); have hq1 : (q : Int) < (IT.length : Int) := (by omega))
      all_goals
        have hzz := HIZ.out _ (List.getElem_mem hq)
        generalize IT[q] = z at *
        go_wp2_with fail
        go_returns
        exact ⟨z, rfl, hzz, hf4.trans hf6', hc6.more (by omega)⟩
  · have hlit0 := rd_litI wc [1, 7, 31, 999, 0, 1000] 3
    go_wp2_with fail
    refine (pick_c g _ 24 _ (hc1.alloc (.cells ([1, 7, 31, 999, 0, 1000].map (Value.int .i64)).toArray 3)) (by omega) (by decide)).mono ?_
    rintro e w3 ⟨r, rfl, hr0, _, hr1, _, hf3, hc3⟩
    have hr2 := hr1 (by decide)
    have hlit := hlit0.fr (new_ne hW0) hf3
    have hf3 := (fr_alloc hf1 _).trans hf3
    have hcs : ∃ (t : Nat), 4 + r / 11 = (t : Int) ∧ 4 ≤ t ∧ t ≤ 6 := ⟨(4 + r / 11).toNat, by omega, by omega, by omega⟩
    clear hr1 hcs hlit0 hc1
    have h3 : r / 11 = 0 ∨ r / 11 = 1 ∨ r / 11 = 2 := by omega
    rcases h3 with h3 | h3 | h3
    · go_wp2_with fail
      refine (among_c g _ (List.take 4 [1, 7, 31, 999, 0, 1000]) _ 6 _ hc3 (by omega) (hlit.take 4) (new_ne hW0) (by decide) (by decide)).mono ?_
      rintro e w9 ⟨z, rfl, hx, hf9, hc9⟩
      have hz' : 0 ≤ z ∧ z ≤ 1000 := by simp at hx; omega
      go_wp2_with fail
      go_returns
      exact ⟨z, rfl, hz', hf3.trans hf9, hc9.more (by omega)⟩
    · go_wp2_with fail
      refine (among_c g _ (List.take 5 [1, 7, 31, 999, 0, 1000]) _ 6 _ hc3 (by omega) (hlit.take 5) (new_ne hW0) (by decide) (by decide)).mono ?_
      rintro e w9 ⟨z, rfl, hx, hf9, hc9⟩
      have hz' : 0 ≤ z ∧ z ≤ 1000 := by simp at hx; omega
      go_wp2_with fail
      go_returns
      exact ⟨z, rfl, hz', hf3.trans hf9, hc9.more (by omega)⟩
    · go_wp2_with fail
      refine (among_c g _ (List.take 6 [1, 7, 31, 999, 0, 1000]) _ 6 _ hc3 (by omega) (hlit.take 6) (new_ne hW0) (by decide) (by decide)).mono ?_
      rintro e w9 ⟨z, rfl, hx, hf9, hc9⟩
      have hz' : 0 ≤ z ∧ z ≤ 1000 := by simp at hx; omega
      go_wp2_with fail
      go_returns
      exact ⟨z, rfl, hz', hf3.trans hf9, hc9.more (by omega)⟩
end Go.Proofs.Ythhdajmnidjhjaa
