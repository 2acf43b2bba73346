/- An album of the call's own: its pages in one block, their items in blocks of their own, each a slice that may grow. No condition of its own. -/
import Derived.Test.YtpjnlcppjcnlgaaGreatDoorAlPg
import Derived.Test.YtpjnlcppjcnlgaaGreatDoorCvPage2
namespace Go.Proofs.YtpjnlcppjcnlgaaGreatDoor
set_option linter.unusedVariables false
set_option linter.unusedSimpArgs false
open Go.RowKit
theorem wp_appH {α : Type} {P : Program} {ops : Array Oper} {rest : List Oper} {o : Oper} {a : Act} {Q : Exit → Act → World → Prop} {w : World} (hgd : o.guard = none) (s x : Operand) (t : TypeId)
    (ho : o.op = .call { callee := .builtin .append, args := #[s, x], argTypes := #[t, t] }) (E : TypeId) (z : Value) (k bytes : Nat) (ht : P.underlying t = some (.slice E))
    (hi : (P.info? E).map (fun i => (i.zero, i.size, i.bytes)) = some (some z, k, bytes)) (hzs : z.cells.size = k) (hk : 0 < k)
    {enc : α → List Value} (hl : ∀ x, (enc x).length = k) (h1 : ∀ x, ∀ u ∈ enc x, u.oneCell' = true) {base B : Nat} {v : Value} {ys zs : List α} {A : Option Addr} {m c : Nat} (hs : a.eval s = v) (hx : a.eval x = .slice A m c) (hm : m = zs.length) (hown : OutR enc k E base v ys w) (hr : Rd enc k B w A zs)
    (hlen : (ys.length + m) * bytes ≤ 140737488355328) (hle : ys.length + m ≤ 9223372036854775807) (hbase : base ≤ w.heap.size)
    (h : ∀ v' w', OutR enc k E base v' (ys ++ zs) w' → w.grownBy w' v.ownBlock → (v'.ownBlock = v.ownBlock ∨ v'.ownBlock = some w.heap.size) → wpList P ops Q rest (a.put o.dst v') w') : wpList P ops Q (o :: rest) a w :=
  wpList_plain hgd fun _ hK => by
    obtain ⟨v', w', hrun, h2, h3, h4⟩ : ∃ v' w', (Builtin.append_ #[t, t] o.type #[v, .slice A m c]).run P w = .ok v' w' ∧ OutR enc k E base v' (ys ++ zs) w' ∧ w.grownBy w' v.ownBlock ∧ (v'.ownBlock = v.ownBlock ∨ v'.ownBlock = some w.heap.size) := by
      subst hm
      obtain ⟨i0, hi0, hz0, hz1, hz2⟩ := info_parts hi
      rcases A with _ | ad
      · have hz : zs = [] := by
          cases zs with
          | nil => rfl
          | cons z zs => obtain ⟨b, off, hA, _⟩ := hr (by simp); cases hA
        subst hz
        exact ⟨v, w, run_app_nil base t o.type E i0 k ht hi0 v ys.length (ys.flatMap enc) hown c, by simpa using hown, World.grownBy.refl w _, .inl rfl⟩
      · obtain ⟨v', w', hrun, h2, h3, _, h5⟩ := run_append_own_at (P := P) (w := w) base t o.type E i0 z k bytes ht hi0 hz0 hz1 hz2 hzs hk v ys.length (ys.flatMap enc) hown ad zs.length c (zs.flatMap enc) (flat_len hl zs) (rd_cells hl hk hr)
          (fun u hu => by obtain ⟨x, _, hx⟩ := List.mem_flatMap.1 hu; exact h1 x u hx) (by unfold maxLen; omega) hlen hbase
        refine ⟨v', w', hrun, ?_, h3, h5⟩
        unfold OutR
        rw [List.length_append, List.flatMap_append]
        exact h2
    unfold Oper.wp execOp
    simp only [ho, resolve, invoke, builtin, Sem.run_bind, Sem.run_pure, Result.andThen_ok, List.map_toArray, List.map_cons, List.map_nil, hs, hx, hrun]
    exact hK _ _ (h v' w' h2 h3 h4)
section
variable {α : Type} {V : α → Value} {enc : α → List Value} {k : Nat} {E : TypeId} {base : Nat} {v : Value} {ys : List α} {w w' : World}
theorem Out.keep_ (h : Out V E base v ys w) (hk : ∀ g, v.ownBlock = some g → w'.heap[g]? = w.heap[g]?) : Out V E base v ys w' := by
  refine ⟨h.1, ?_⟩
  rcases h.2 with hn | ⟨g, cap, cur, rfl, hb, hg, rest⟩
  · exact .inl hn
  · exact .inr ⟨g, cap, cur, rfl, hb, (hk g rfl).trans hg, rest⟩
theorem Out.lt_ (h : Out V E base v ys w) : ∀ g, v.ownBlock = some g → g < w.heap.size := fun g hg => (World.ownsRow.lt h g hg).2
theorem OutR.lt_ (h : OutR enc k E base v ys w) : ∀ g, v.ownBlock = some g → g < w.heap.size := fun g hg => (World.ownsRow.lt h g hg).2
theorem Out.cap (h : Out V E base v ys w) : ∃ A c, v = .slice A ys.length c ∧ ys.length ≤ c := by
  rcases h.2 with ⟨rfl, h0⟩ | ⟨g, cap, cur, rfl, _, _, h1, _⟩
  · exact ⟨none, 0, by rw [h0], by omega⟩
  · exact ⟨_, _, rfl, h1⟩
theorem Out.low {lo : Nat} (h : Out V E base v ys w) (hl : lo ≤ base) : Out V E lo v ys w := h.fresh hl
theorem Out.opened (h : Out V E base v ys w) (hn : 0 < ys.length) : ∃ g c, v = .slice (some ⟨g, 0, none⟩) ys.length c ∧ base ≤ g ∧ g < w.heap.size ∧ (∀ (i : Nat) (x : α), ys[i]? = some x → w.cell? ⟨g, i, none⟩ = some (V x)) ∧ ∀ o, w.frozen? ⟨g, o, none⟩ = false := by
  obtain ⟨A, c, rfl, ho⟩ := h.own
  obtain ⟨b, off, rfl, h1, h2, h3, h4⟩ := ho.2 hn
  have h0 : off = 0 := by
    rcases h.2 with ⟨h5, _⟩ | ⟨g, cap, cur, h5, _⟩
    · cases h5
    · injection h5 with h5; injection h5 with h5; injection h5
  subst h0
  exact ⟨b, c, rfl, h1, h2, fun i x hx => by simpa using h3 i _ hx 0 _ rfl, h4⟩
theorem OutR.opened (h : OutR enc k E base v ys w) (hl : ∀ x, (enc x).length = k) (hn : 0 < ys.length) : ∃ g c, v = .slice (some ⟨g, 0, none⟩) ys.length c ∧ ys.length ≤ c ∧ base ≤ g ∧ g < w.heap.size ∧ (∀ o, w.frozen? ⟨g, o, none⟩ = false) ∧ ∀ (i : Nat) (x : α), ys[i]? = some x → ∀ (j : Nat) (u : Value), (enc x)[j]? = some u → w.cell? ⟨g, i * k + j, none⟩ = some u := by
  obtain ⟨A, c, rfl, ho, hc⟩ := h.own hl
  obtain ⟨b, off, rfl, h1, h2, h3, h4⟩ := ho.2 hn
  have h0 : off = 0 := by
    rcases h.2 with ⟨h5, _⟩ | ⟨g, cap, cur, h5, _⟩
    · cases h5
    · injection h5 with h5; injection h5 with h5; injection h5
  subst h0
  exact ⟨b, c, rfl, hc, h1, h2, h4, fun i x hx j u hu => by simpa using h3 i x hx j u hu⟩
theorem flat_set {m' : α} : ∀ {ys : List α} {i j : Nat} {u : Value} (_ : ∀ x, (enc x).length = k) (hi : i < ys.length) (_ : j < k) (_ : enc m' = (enc ys[i]).set j u), (ys.flatMap enc).set (i * k + j) u = (ys.set i m').flatMap enc
  | y :: ys, 0, j, u, hl, hi, hj, he => by
    simp only [List.getElem_cons_zero] at he
    simp only [List.set_cons_zero, List.flatMap_cons, Nat.zero_mul, Nat.zero_add]
    rw [List.set_append_left _ _ (by rw [hl]; exact hj), he]
  | y :: ys, i + 1, j, u, hl, hi, hj, he => by
    simp only [List.getElem_cons_succ] at he
    simp only [List.set_cons_succ, List.flatMap_cons]
    have hge : (enc y).length ≤ (i + 1) * k + j := by rw [hl, Nat.add_mul]; omega
    rw [List.set_append_right _ _ hge, hl]
    have : (i + 1) * k + j - k = i * k + j := by rw [Nat.add_mul]; omega
    rw [this, flat_set hl (by simpa using hi) hj he]
theorem OutR.cellSet {g n c i j : Nat} {u : Value} {m' : α} (h : OutR enc k E base (.slice (some ⟨g, 0, none⟩) n c) ys w) (hl : ∀ x, (enc x).length = k) (hi : i < ys.length) (hj : j < k) (he : enc m' = (enc ys[i]).set j u) : OutR enc k E base (.slice (some ⟨g, 0, none⟩) n c) (ys.set i m') (w.setCell ⟨g, i * k + j, none⟩ u) := by
  have hn : n = ys.length := by
    rcases h.2 with ⟨h1, _⟩ | ⟨g', cap', cur, h1, _⟩
    · cases h1
    · injection h1
  subst hn
  have := (World.ownsRow.stored h (i * k + j) u).1
  unfold OutR
  rw [List.length_set, ← flat_set hl hi hj he]
  exact this
end
/-- The cells m show page number i; its items are a slice of the call's own in a block of that page alone. -/
def ItC (lo : Nat) (ix : Nat → Nat) (i : Nat) (w : World) (m : PageM) (p : Page) : Prop := m.id = p.id ∧ m.title = p.title ∧ m.under = p.under ∧ m.n = p.items.length ∧ Out (Value.int .i64) 3 lo (.slice m.A m.n m.c) p.items w ∧ ∀ g, (Value.slice m.A m.n m.c).ownBlock = some g → ix g = i + 1
structure Cpy (lo : Nat) (ix : Nat → Nat) (v : Value) (ms : List PageM) (ps : List Page) (w : World) : Prop where
  out : OutR encPM 4 56 lo v ms w
  len : ms.length = ps.length
  it : ∀ (i : Nat) (p : Page), ps[i]? = some p → ∃ m, ms[i]? = some m ∧ ItC lo ix i w m p
  far : ∀ b, w.heap.size ≤ b → ix b = 0
  own : ∀ g, v.ownBlock = some g → ix g = 0
section
variable {lo i : Nat} {ix ix' : Nat → Nat} {v : Value} {ms : List PageM} {ps : List Page} {w w' : World} {m m' : PageM} {p p' : Page}
theorem Cpy.nil (w : World) : Cpy lo (fun _ => 0) (.slice none 0 0) [] [] w := ⟨OutR.nil w, rfl, fun i p h => by simp at h, fun _ _ => rfl, fun _ _ => rfl⟩
theorem Cpy.empty (h : OutR encPM 4 56 lo v ([] : List PageM) w) : Cpy lo (fun _ => 0) v [] [] w := ⟨h, rfl, fun i p h => by simp at h, fun _ _ => rfl, fun _ _ => rfl⟩
theorem ItC.keep (h : ItC lo ix i w m p) (hk : ∀ g, (Value.slice m.A m.n m.c).ownBlock = some g → w'.heap[g]? = w.heap[g]?) (hx : ∀ g, (Value.slice m.A m.n m.c).ownBlock = some g → ix' g = ix g) : ItC lo ix' i w' m p := by
  obtain ⟨h1, h2, h3, h4, h5, h6⟩ := h
  exact ⟨h1, h2, h3, h4, h5.keep_ hk, fun g hg => (hx g hg).trans (h6 g hg)⟩
theorem Cpy.go (h : Cpy lo ix v ms ps w) (hb : Below w.heap.size w w') : Cpy lo ix v ms ps w' :=
  ⟨h.out.below hb, h.len, fun i p hp => by
    obtain ⟨m, h1, h2⟩ := h.it i p hp
    exact ⟨m, h1, h2.keep (fun g hg => hb.block g (h2.2.2.2.2.1.lt_ g hg)) (fun _ _ => rfl)⟩, fun b hb' => h.far b (by have := hb.size; omega), h.own⟩
/-- One page written. -/
theorem Cpy.set_ (h : Cpy lo ix v ms ps w) (hout : OutR encPM 4 56 lo v (ms.set i m') w') (hk : ∀ b, b < w.heap.size → ix b ≠ 0 → ix b ≠ i + 1 → w'.heap[b]? = w.heap[b]?)
    (hix : ∀ b, b < w.heap.size → ix' b = ix b) (hit : i < ps.length → ItC lo ix' i w' m' p') (hfar : ∀ b, w'.heap.size ≤ b → ix' b = 0) : Cpy lo ix' v (ms.set i m') (ps.set i p') w' := by
  refine ⟨hout, by simp [h.len], fun j p hp => ?_, hfar, fun g hg => (hix g (h.out.lt_ g hg)).trans (h.own g hg)⟩
  by_cases hij : i = j
  · subst hij
    have hi : i < ps.length := by have := (List.getElem?_eq_some_iff.1 hp).1; simpa using this
    rw [List.getElem?_set_self hi] at hp
    injection hp with hp
    subst hp
    exact ⟨m', List.getElem?_set_self (by rw [h.len]; exact hi), hit hi⟩
  · rw [List.getElem?_set_ne hij] at hp
    obtain ⟨m, h1, h2⟩ := h.it j p hp
    refine ⟨m, by rw [List.getElem?_set_ne hij]; exact h1, h2.keep (fun g hg => ?_) (fun g hg => hix g (h2.2.2.2.2.1.lt_ g hg))⟩
    have hj := h2.2.2.2.2.2 g hg
    exact hk g (h2.2.2.2.2.1.lt_ g hg) (by omega) (by omega)
/-- One page appended. -/
theorem Cpy.snoc {v' : Value} (h : Cpy lo ix v ms ps w) (hout : OutR encPM 4 56 lo v' (ms ++ [m]) w') (hk : ∀ b, b < w.heap.size → ix b ≠ 0 → w'.heap[b]? = w.heap[b]?)
    (hix : ∀ b, b < w.heap.size → ix' b = ix b) (hit : ItC lo ix' ps.length w' m p) (hfar : ∀ b, w'.heap.size ≤ b → ix' b = 0) (hown : ∀ g, v'.ownBlock = some g → ix' g = 0) : Cpy lo ix' v' (ms ++ [m]) (ps ++ [p]) w' := by
  refine ⟨hout, by simp [h.len], fun j q hq => ?_, hfar, hown⟩
  rcases snoc_at hq with hq | ⟨rfl, rfl⟩
  · obtain ⟨m', h1, h2⟩ := h.it j q hq
    refine ⟨m', by rw [List.getElem?_append_left (List.getElem?_eq_some_iff.1 h1).1]; exact h1, h2.keep (fun g hg => ?_) (fun g hg => hix g (h2.2.2.2.2.1.lt_ g hg))⟩
    have hj := h2.2.2.2.2.2 g hg
    exact hk g (h2.2.2.2.2.1.lt_ g hg) (by omega)
  · exact ⟨m, by rw [← h.len]; simp, hit⟩
/-- One page appended whose items a call has just made. -/
theorem Cpy.push {u v' : Value} {w5 : World} {base c3 : Nat} {A3 : Option Addr} (h : Cpy lo ix u ms ps w) (hw5 : Below w.heap.size w w5) (hlo : lo ≤ base) (hIt : Out (Value.int .i64) 3 base (.slice A3 p.items.length c3) p.items w5) (hbase : w.heap.size ≤ base)
    (hout : OutR encPM 4 56 lo v' (ms ++ [⟨p.id, p.title, p.under, A3, p.items.length, c3⟩]) w') (hg : w5.grownBy w' u.ownBlock) (hv : v'.ownBlock = u.ownBlock ∨ v'.ownBlock = some w5.heap.size) : ∃ ix', Cpy lo ix' v' (ms ++ [⟨p.id, p.title, p.under, A3, p.items.length, c3⟩]) (ps ++ [p]) w' := by
  have hs5 := hw5.size
  have hs6 := hg.size
  have hu : ∀ b, u.ownBlock = some b → b < w.heap.size ∧ ix b = 0 := fun b hb => ⟨h.out.lt_ b hb, h.own b hb⟩
  refine ⟨fun b => if b < w.heap.size then ix b else if b < w5.heap.size then ps.length + 1 else 0, h.snoc hout (fun b hb hx => ?_) (fun b hb => if_pos hb) ⟨rfl, rfl, rfl, rfl, (hIt.keep_ fun g hg' => ?_).low hlo, fun g hg' => ?_⟩ (fun b hb => ?_) (fun g hg' => ?_)⟩
  · rw [← hw5.block b hb]
    exact hg.block b (by omega) (fun e => hx (hu b e.symm).2)
  · have h1 := hIt.from_ g hg'
    have h2 := hIt.lt_ g hg'
    exact hg.block g h2 (fun e => by have := (hu g e.symm).1; omega)
  · have h1 := hIt.from_ g hg'
    have h2 := hIt.lt_ g hg'
    simp only
    rw [if_neg (by omega), if_pos h2]
  · rw [if_neg (by omega), if_neg (by omega)]
  · rcases hv with hv | hv
    · rw [hv] at hg'
      rw [if_pos (hu g hg').1, (hu g hg').2]
    · rw [hv] at hg'
      injection hg' with hg'
      rw [if_neg (by omega), if_neg (by omega)]
theorem Cpy.shape (h : Cpy lo ix v ms ps w) : ∃ A c, v = .slice A ps.length c ∧ ps.length ≤ c ∧ OwnP lo w.heap.size w A ps := by
  obtain ⟨A, c, rfl, ho, hc⟩ := h.out.own encPM_len
  rw [h.len] at hc ⊢
  refine ⟨A, c, rfl, hc, Nat.le_refl _, fun hn => ?_⟩
  obtain ⟨g, c', hv, _, h1, h2, h3, h4⟩ := h.out.opened encPM_len (by rw [h.len]; exact hn)
  injection hv with hA _ _
  subst hA
  refine ⟨g, 0, fun b => ix b - 1, rfl, h1, h2, h3, fun i p hp => ?_⟩
  obtain ⟨m, k1, k2, k3, k4, k5, k6, k7⟩ := h.it i p hp
  have hcell : ∀ (j : Nat) (u : Value), (encPM m)[j]? = some u → w.cell? ⟨g, 0 + i * 4 + j, none⟩ = some u := fun j u hu => by rw [Nat.zero_add]; exact h4 i m k1 j u hu
  obtain ⟨A2, c2, e2, hcap⟩ := k6.cap
  injection e2 with e2 e3 e4
  refine ⟨by rw [← k2]; exact hcell 0 _ rfl, by rw [← k3]; exact hcell 1 _ rfl, by rw [← k4]; exact hcell 2 _ rfl, m.A, m.c, by rw [← k5]; exact hcell 3 _ rfl, by rw [e4]; exact hcap, fun hz => ?_⟩
  obtain ⟨gi, ci, e5, l1, l2, l3, l4⟩ := k6.opened hz
  injection e5 with e5 _ _
  have hgi := k7 gi (by rw [e5]; rfl)
  have hg0 := h.own g rfl
  exact ⟨gi, 0, e5, l1, l2, fun e => by subst e; omega, by simp only; omega, fun j z hz => by rw [Nat.zero_add]; exact l3 j z hz, l4⟩
/-- Page number i opened. -/
theorem Cpy.at_ (h : Cpy lo ix v ms ps w) (hi : i < ps.length) : ∃ g c m, v = .slice (some ⟨g, 0, none⟩) ps.length c ∧ ps.length ≤ c ∧ lo ≤ g ∧ g < w.heap.size ∧ ix g = 0 ∧ (∀ o, w.frozen? ⟨g, o, none⟩ = false) ∧ ms[i]? = some m ∧ ItC lo ix i w m ps[i] ∧
    w.cell? ⟨g, i * 4, none⟩ = some (.int .i64 ps[i].id) ∧ w.cell? ⟨g, i * 4 + 1, none⟩ = some (.string ps[i].title) ∧ w.cell? ⟨g, i * 4 + 2, none⟩ = some (.int .i64 ps[i].under) ∧ w.cell? ⟨g, i * 4 + 3, none⟩ = some (.slice m.A ps[i].items.length m.c) := by
  obtain ⟨g, c, rfl, hc, h1, h2, h3, h4⟩ := h.out.opened encPM_len (by rw [h.len]; omega)
  obtain ⟨m, k1, k2⟩ := h.it i _ (List.getElem?_eq_getElem hi)
  obtain ⟨e1, e2, e3, e4, e5, e6⟩ := id k2
  refine ⟨g, c, m, by rw [h.len], by rw [← h.len]; exact hc, h1, h2, h.own g rfl, h3, k1, k2, ?_, ?_, ?_, ?_⟩
  · rw [← e1]; simpa using h4 i m k1 0 _ rfl
  · rw [← e2]; exact h4 i m k1 1 _ rfl
  · rw [← e3]; exact h4 i m k1 2 _ rfl
  · rw [← e4]; exact h4 i m k1 3 _ rfl
end
end Go.Proofs.YtpjnlcppjcnlgaaGreatDoor
