/- Contracts of the functions by which the laws copy, compare and count albums. No condition but the size that the laws ask. -/
import Derived.Test.YthhdajmnidjhjaaCvPage
namespace Go.Proofs.Ythhdajmnidjhjaa
set_option linter.unusedVariables false
set_option linter.unusedSimpArgs false
open Go.RowKit
/-- Block g has n*4 cells that may be written; the first of them are the pages ps, their items in blocks of their own behind g and below hi. -/
structure FillP (g n hi : Nat) (ps : List Page) (w : World) : Prop where
  lt : g < hi
  le : hi ≤ w.heap.size
  there : ∀ o, o < n * 4 → ∃ v, w.cell? ⟨g, o, none⟩ = some v
  free : ∀ o, w.frozen? ⟨g, o, none⟩ = false
  pages : ∃ ix : Nat → Nat, ∀ (i : Nat) (p : Page), ps[i]? = some p → OPg g hi ix g i w (i * 4) p
theorem FillP.new (w : World) (cs : Array Value) (e : TypeId) (n : Nat) (h : cs.size = n * 4) : FillP w.heap.size n (w.heap.size + 1) [] (w.alloc (.cells cs e)) :=
  ⟨by omega, by simp, fun o ho => ⟨cs[o]'(by omega), by rw [World.cell?_alloc_new, Array.getElem?_eq_getElem (by omega)]⟩, fun o => World.frozen?_alloc_new w cs e o, fun _ => 0, fun i p h => by simp at h⟩
theorem FillP.below {g n hi : Nat} {ps : List Page} {w w' : World} (h : FillP g n hi ps w) (hb : Below w.heap.size w w') : FillP g n hi ps w' := by
  have hg := h.lt
  have hl := h.le
  have kc : ∀ b o, g ≤ b → b < hi → w'.cell? ⟨b, o, none⟩ = w.cell? ⟨b, o, none⟩ := fun b o _ h2 => hb.cell (p := ⟨b, o, none⟩) (by simp only; omega)
  have kf : ∀ b o, g ≤ b → b < hi → w'.frozen? ⟨b, o, none⟩ = w.frozen? ⟨b, o, none⟩ := fun b o _ h2 => hb.frozen (p := ⟨b, o, none⟩) (by simp only; omega)
  obtain ⟨ix, hp⟩ := h.pages
  exact ⟨hg, Nat.le_trans hl hb.size, fun o ho => by obtain ⟨v, hv⟩ := h.there o ho; exact ⟨v, (kc _ _ (Nat.le_refl _) hg).trans hv⟩, fun o => (kf _ _ (Nat.le_refl _) hg).trans (h.free o), ix, fun i p hi => (hp i p hi).keep (Nat.le_refl _) hg kc kf⟩
theorem FillP.step {g n hi hi2 i c : Nat} {xs : List Page} {w : World} {A : Option Addr} (h : FillP g n hi (xs.take i) w) (hx : i < xs.length) (hn : xs.length ≤ n) (ho : Own encI 1 hi hi2 w A xs[i].items) (hc : xs[i].items.length ≤ c) (hh : hi ≤ hi2) :
    FillP g n hi2 (xs.take (i + 1)) (w.setCells g (i * 4) [.int .i64 xs[i].id, .string xs[i].title, .int .i64 xs[i].under, .slice A xs[i].items.length c]) := by
  obtain ⟨ix, hp⟩ := h.pages
  have hg := h.lt
  have hlen : (xs.take i).length = i := by simp; omega
  have h0 := h.there (i * 4) (by omega)
  have h1 := h.there (i * 4 + 1) (by omega)
  have h2 := h.there (i * 4 + 2) (by omega)
  have h3 := h.there (i * 4 + 3) (by omega)
  show FillP g n hi2 (xs.take (i + 1)) ((((w.setCell ⟨g, i * 4, none⟩ (.int .i64 xs[i].id)).setCell ⟨g, i * 4 + 1, none⟩ (.string xs[i].title)).setCell ⟨g, i * 4 + 2, none⟩ (.int .i64 xs[i].under)).setCell ⟨g, i * 4 + 3, none⟩ (.slice A xs[i].items.length c))
  have far : ∀ (W : World) (p q : Nat) (u : Value), p ≠ q → (W.setCell ⟨g, p, none⟩ u).cell? ⟨g, q, none⟩ = W.cell? ⟨g, q, none⟩ := fun W p q u h => World.cell?_setCell_other W _ _ u (fun e => by injection e; omega)
  have out : ∀ (W : World) (p q b : Nat) (u : Value), b ≠ g → (W.setCell ⟨g, p, none⟩ u).cell? ⟨b, q, none⟩ = W.cell? ⟨b, q, none⟩ := fun W p q b u h => World.cell?_setCell_other W _ _ u (fun e => by injection e; omega)
  refine ⟨by omega, by simpa [World.setCell] using ho.1, fun o h' => setCell_keeps (setCell_keeps (setCell_keeps (setCell_keeps (h.there o h')))), fun o => by simp only [World.frozen?_setCell]; exact h.free o, fun b => if hi ≤ b then i else ix b, fun j p hj => ?_⟩
  rcases Nat.lt_or_ge j i with hji | hji
  · rw [List.getElem?_take, if_pos (by omega)] at hj
    have hj' : (xs.take i)[j]? = some p := by rw [List.getElem?_take, if_pos hji]; exact hj
    refine OPg.wide (lo := g) (hi := hi) (ix := ix) ?_ (Nat.le_refl _) hh (fun x _ hx => if_neg (by omega))
    exact ((((hp j p hj').set_ (by omega) _).set_ (by omega) _).set_ (by omega) _).set_ (by omega) _
  · have hje : j = i := by
      rcases Nat.eq_or_lt_of_le hji with e | e
      · exact e.symm
      · rw [List.getElem?_take, if_neg (by omega)] at hj; cases hj
    subst hje
    rw [List.getElem?_take, if_pos (by omega), List.getElem?_eq_getElem hx] at hj
    injection hj with hj
    subst hj
    obtain ⟨v0, e0⟩ := h0
    obtain ⟨v1, e1⟩ := h1
    obtain ⟨v2, e2⟩ := h2
    obtain ⟨v3, e3⟩ := h3
    refine ⟨?_, ?_, ?_, A, c, ?_, hc, fun hpos => ?_⟩
    · rw [far _ _ _ _ (by omega), far _ _ _ _ (by omega), far _ _ _ _ (by omega)]; exact World.cell?_setCell_same _ _ _ e0
    · rw [far _ _ _ _ (by omega), far _ _ _ _ (by omega)]; exact World.cell?_setCell_same _ _ _ ((far _ _ _ _ (by omega)).trans e1)
    · rw [far _ _ _ _ (by omega)]; exact World.cell?_setCell_same _ _ _ ((far _ _ _ _ (by omega)).trans ((far _ _ _ _ (by omega)).trans e2))
    · exact World.cell?_setCell_same _ _ _ ((far _ _ _ _ (by omega)).trans ((far _ _ _ _ (by omega)).trans ((far _ _ _ _ (by omega)).trans e3)))
    · obtain ⟨b, off, rfl, k1, k2, k3, k4⟩ := ho.2 hpos
      refine ⟨b, off, rfl, by omega, k2, by omega, if_pos k1, fun m z hz => ?_, fun o => by simp only [World.frozen?_setCell]; exact k4 o⟩
      rw [out _ _ _ _ _ (by omega), out _ _ _ _ _ (by omega), out _ _ _ _ _ (by omega), out _ _ _ _ _ (by omega)]
      simpa using k3 m z hz 0 _ rfl
theorem FillP.own {g n hi : Nat} {ps : List Page} {w : World} (h : FillP g n hi ps w) : OwnP g hi w (some ⟨g, 0, none⟩) ps := by
  obtain ⟨ix, hp⟩ := h.pages
  exact ⟨h.le, fun _ => ⟨g, 0, ix, rfl, Nat.le_refl _, h.lt, h.free, fun i p hi => by simpa using hp i p hi⟩⟩
theorem infoPage : (Try.prog.info? 43).map (fun i => (i.zero, i.size, i.bytes)) = some (some (.agg #[.int .i64 0, .string ⟨#[]⟩, .int .i64 0, .slice none 0 0]), 4, 56) := by kernel_rfl
set_option maxHeartbeats 1000000 in
theorem toAlbumPageS_c (xs : List Page) (A : Option Addr) (c : Nat) (w : World) (hr : RdP w.heap.size w A xs) (hn : xs.length ≤ 1048576) (hs : sumI xs ≤ 2097152) :
    Calls Try.prog 7 #[.slice A xs.length c] w fun e w' => ∃ A', e = .returned (.slice A' xs.length xs.length) ∧ Below w.heap.size w w' ∧ OwnP w.heap.size w'.heap.size w' A' xs := by
  obtain ⟨i0, hi, hz0, hz1, hz2⟩ := info_parts infoPage
  have hmk := run_makeFull (P := Try.prog) 24 43 i0 _ Try.underlying24 hi hz0 xs.length (by rw [hz2]; omega) (by omega)
  rw [hz1] at hmk
  generalize hcs : madeCells (Value.cells (.agg #[.int .i64 0, .string ⟨#[]⟩, .int .i64 0, .slice none 0 0])) (xs.length * 4) = cs at hmk
  have hsz : cs.size = xs.length * 4 := by rw [← hcs, size_madeCells]
  clear hcs hi hz0 hz1 hz2
  have hF := FillP.new w cs 43 xs.length hsz
  have HI := Lib.hid (fun (k : Nat) (h : k < xs.length) => Nat.le_trans (sumI_mem (List.getElem_mem h)) hs)
  clear hsz
  go_enter Try.func7, Try.ntmps7
  go_wp2_with fail
  go_loopw [4] (fun i wr => ∃ (k hi : Nat), k ≤ xs.length ∧ i = .int .i64 k ∧ FillP w.heap.size xs.length hi (xs.take k) wr ∧ Below w.heap.size w wr) (fun i _ => xs.length - (intOf i).toNat)
  case atStart => exact ⟨0, _, Nat.zero_le _, rfl, hF, by go_grown⟩
  case round =>
    obtain ⟨k, hi, hk, rfl, hf, hb⟩ := hrel
    clear hF hmk
    by_cases hlt : k < xs.length
    · obtain ⟨b, off, Ai, ci, rfl, hbs, d0, d1, d2, d3, hci, hri⟩ := (hr.below hb).page hlt
      have hil := HI.out k hlt
      go_wp2_with fail
      refine (toPage_c xs[k] _ _ _ (hri.more hb.size) hil).mono ?_
      rintro e w1 ⟨A', rfl, hb1, o1⟩
      have hf1 := hf.below hb1
      have hfr := hf1.free
      obtain ⟨v0, e0⟩ := hf1.there (k * 4) (by omega)
      obtain ⟨v1, e1⟩ := hf1.there (k * 4 + 1) (by omega)
      obtain ⟨v2, e2⟩ := hf1.there (k * 4 + 2) (by omega)
      obtain ⟨v3, e3⟩ := hf1.there (k * 4 + 3) (by omega)
      have hst := hf1.step (c := xs[k].items.length) hlt (Nat.le_refl _) (o1.wide (lo' := hi) hf.le (Nat.le_refl _) (Nat.le_refl _)) (Nat.le_refl _) (Nat.le_trans hf.le hb1.size)
      have hbl := hb.trans (hb1.mono hb.size)
      go_wp2_with fail
      go_roundw
      case rel => exact ⟨k + 1, _, by omega, by go_num, hst, below_setCells (Nat.le_refl _) [.int .i64 xs[k].id, .string xs[k].title, .int .i64 xs[k].under, .slice A' xs[k].items.length xs[k].items.length] (k * 4) _ hbl⟩
      case measure => simp [intOf]; omega
    · have hke : k = xs.length := by omega
      subst hke
      rw [List.take_length] at hf
      go_wp2_with fail
      go_returns
      exact ⟨_, rfl, hb, hf.own.wide (Nat.le_refl _) hf.le (Nat.le_refl _)⟩
theorem szIntS_c (n : Nat) (A : Option Addr) (c : Nat) (l : Int) (w : World) (hm : n ≤ 9223372036854775807) (h0 : 0 ≤ l) (h1 : l ≤ 1048576) :
    Calls Try.prog 62 #[.slice A n c, .int .i64 l] w fun e w' => ∃ r : Int, e = .returned (.int .i64 r) ∧ w = w' ∧ ((l < n ∧ r = -1) ∨ (0 ≤ r ∧ r = l - n)) := by
  by_cases h : l < n
  · go_enter Try.func62, Try.ntmps62
    go_wp2
    go_ret
    exact ⟨_, rfl, rfl, .inl ⟨h, rfl⟩⟩
  · go_enter Try.func62, Try.ntmps62
    go_wp2
    go_ret
    exact ⟨_, rfl, rfl, .inr ⟨by omega, rfl⟩⟩
set_option maxHeartbeats 1000000 in
theorem szAlbumPage_c (p : Page) (A : Option Addr) (c : Nat) (l : Int) (w : World) (hm : p.title.size ≤ 9223372036854775807) (hm2 : p.items.length ≤ 9223372036854775807) (h0 : 0 ≤ l) (h1 : l ≤ 1048576) :
    Calls Try.prog 30 #[.agg #[.int .i64 p.id, .string p.title, .int .i64 p.under, .slice A p.items.length c], .int .i64 l] w fun e w' => ∃ r : Int, e = .returned (.int .i64 r) ∧ Below w.heap.size w w' ∧ (r = -1 ∨ (0 ≤ r ∧ r ≤ l - p.items.length)) := by
  by_cases h : l < p.title.size
  · go_enter Try.func30, Try.ntmps30
    go_wp2_with fail
    go_returns
    exact ⟨_, rfl, by go_grown, .inl rfl⟩
  · have hlt : ¬ l - (p.title.size : Int) < 0 := by omega
    go_enter Try.func30, Try.ntmps30
    go_wp2_with fail
    refine (szIntS_c _ _ _ (l - (p.title.size : Int)) _ hm2 (by omega) (by omega)).mono ?_
    rintro e w1 ⟨r, rfl, rfl, hq⟩
    rcases hq with ⟨h2, rfl⟩ | ⟨h2, h3⟩
    · go_wp2_with fail
      go_returns
      exact ⟨_, rfl, by go_grown, .inl rfl⟩
    · have hr0 : ¬ r < 0 := by omega
      have H3 := Lib.hid h3
      clear h3
      go_wp2_with fail
      go_returns
      exact ⟨_, rfl, by go_grown, .inr ⟨h2, by have := H3.out; omega⟩⟩
set_option maxHeartbeats 1000000 in
theorem szAlbumPageS_c (xs : List Page) (A : Option Addr) (c : Nat) (l : Int) (w : World) (hr : RdP w.heap.size w A xs) (hm : xs.length ≤ 9223372036854775807) (hw : ∀ x ∈ xs, x.title.size ≤ 9223372036854775807 ∧ x.items.length ≤ 9223372036854775807 ∧ ∀ z ∈ x.items, Fits z) (h0 : 0 ≤ l) (h1 : l ≤ 1048576) :
    Calls Try.prog 5 #[.slice A xs.length c, .int .i64 l] w fun e w' => ∃ r : Int, e = .returned (.int .i64 r) ∧ Below w.heap.size w w' ∧ (r = -1 ∨ (0 ≤ r ∧ r ≤ 1048576 ∧ xs.length ≤ 1048576 ∧ sumI xs ≤ 1048576)) := by
  have HW := Lib.hid hw
  clear hw
  by_cases h : l < xs.length
  · go_enter Try.func5, Try.ntmps5
    go_wp2_with fail
    go_returns
    exact ⟨_, rfl, Below.refl _ _, .inl rfl⟩
  · go_enter Try.func5, Try.ntmps5
    go_wp2_with fail
    go_loopw [1, 5] (fun u i wr => ∃ (k : Nat) (r : Int), k ≤ xs.length ∧ i = .int .i64 k ∧ u = .int .i64 r ∧ 0 ≤ r ∧ r + sumI (xs.take k) ≤ 1048576 ∧ Below w.heap.size w wr) (fun _ i _ => xs.length - (intOf i).toNat)
    case atStart => exact ⟨0, _, Nat.zero_le _, rfl, rfl, by omega, by simp [sumI]; omega, Below.refl _ _⟩
    case round =>
      obtain ⟨k, r, hk, rfl, rfl, hr0, hr1, hb⟩ := hrel
      have hr2 : r ≤ 1048576 := by omega
      have H1 := Lib.hid hr1
      clear hr1
      by_cases hlt : k < xs.length
      · obtain ⟨b, off, Ai, ci, rfl, hbs, d0, d1, d2, d3, hci, hri⟩ := (hr.below hb).page hlt
        have hx := HW.out _ (List.getElem_mem hlt)
        go_wp2_with fail
        refine (szAlbumPage_c xs[k] _ _ _ _ hx.1 hx.2.1 hr0 hr2).mono ?_
        rintro e w1 ⟨r1, rfl, hb1, h1⟩
        have hbl := hb.trans (hb1.mono hb.size)
        rcases h1 with rfl | ⟨g0, g1⟩
        · go_wp2_with fail
          go_returns
          exact ⟨_, rfl, hbl, .inl rfl⟩
        · have g3 : ¬ r1 < 0 := by omega
          have G1 := Lib.hid g1
          clear g1
          go_wp2_with fail
          go_roundw
          case rel => exact ⟨k + 1, r1, by omega, by go_num, rfl, g0, by rw [sumI_take_succ hlt]; have := H1.out; have := G1.out; omega, hbl⟩
          case measure => simp [intOf]; omega
      · have hke : xs.length ≤ k := by omega
        go_wp2_with fail
        go_returns
        exact ⟨_, rfl, hb, .inr ⟨hr0, hr2, by omega, by have := H1.out; rw [List.take_of_length_le hke] at this; omega⟩⟩
set_option maxHeartbeats 1000000 in
theorem eqPage_c (p : Page) (A A' : Option Addr) (c c' : Nat) (w : World) (hr : Rd encI 1 w.heap.size w A p.items) (hr' : Rd encI 1 w.heap.size w A' p.items) (hn : p.items.length ≤ 2097152) :
    Calls Try.prog 42 #[.agg #[.int .i64 p.id, .string p.title, .int .i64 p.under, .slice A p.items.length c], .agg #[.int .i64 p.id, .string p.title, .int .i64 p.under, .slice A' p.items.length c']] w (Ret (.bool true) w) := by
  go_enter Try.func42, Try.ntmps42
  go_wp2_with fail
  refine (eqIntS_c p.items _ _ _ _ _ (hr.go (by go_grown)) (hr'.go (by go_grown)) hn).mono ?_
  rintro e w1 ⟨rfl, hb1⟩
  have hbl : Below w.heap.size w w1 := below_via (by go_grown) hb1
  go_wp2_with fail
  go_returns
  exact ⟨rfl, hbl⟩
set_option maxRecDepth 100000 in
set_option maxHeartbeats 1000000 in
theorem eqAlbumPageS_c (xs : List Page) (A A' : Option Addr) (c c' : Nat) (w : World) (hr : RdP w.heap.size w A xs) (hr' : RdP w.heap.size w A' xs) (hn : xs.length ≤ 2097152) (hs : sumI xs ≤ 2097152) :
    Calls Try.prog 9 #[.slice A xs.length c, .slice A' xs.length c'] w (Ret (.bool true) w) := by
  have HI := Lib.hid (fun (k : Nat) (h : k < xs.length) => Nat.le_trans (sumI_mem (List.getElem_mem h)) hs)
  go_enter Try.func9, Try.ntmps9
  go_wp2_with fail
  go_loopw [5] (fun i wr => ∃ k : Nat, k ≤ xs.length ∧ i = .int .i64 k ∧ Below w.heap.size w wr) (fun i _ => xs.length - (intOf i).toNat)
  case atStart => exact ⟨0, Nat.zero_le _, rfl, Below.refl _ _⟩
  case round =>
    obtain ⟨k, hk, rfl, hb⟩ := hrel
    by_cases hlt : k < xs.length
    · obtain ⟨b, off, Ai, ci, rfl, hbs, d0, d1, d2, d3, hci, hri⟩ := (hr.below hb).page hlt
      obtain ⟨b', off', Ai', ci', rfl, hbs', g0, g1, g2, g3, hci', hri'⟩ := (hr'.below hb).page hlt
      have hil := HI.out k hlt
      go_wp2_with fail
      go_still_tail 8, (by kernel_rfl)
      change wpList _ _ _ _ _ wr.drew
      go_wp2_with fail
      refine (eqPage_c xs[k] _ _ _ _ _ ((hri.more hb.size).go (Below.refl _ _).drew) ((hri'.more hb.size).go (Below.refl _ _).drew) hil).mono ?_
      rintro e w1 ⟨rfl, hb1⟩
      have hbl := hb.drew.trans (hb1.mono hb.drew.size)
      go_wp2_with fail
      go_roundw
      case rel => exact ⟨k + 1, by omega, by go_num, hbl⟩
      case measure => simp [intOf]; omega
    · go_wp2_with fail
      go_returns
      exact ⟨rfl, hb⟩
end Go.Proofs.Ythhdajmnidjhjaa
