/- The pages of a part, in plain words; a list of pages whose items lie elsewhere. No condition. -/
import Derived.Test.YtpjnlcppjcnlgaaGreatDoorAlPoP
import Derived.Test.YtpjnlcppjcnlgaaGreatDoorApp2
namespace Go.Proofs.YtpjnlcppjcnlgaaGreatDoor
set_option linter.unusedVariables false
set_option linter.unusedSimpArgs false
open Go.RowKit
/-- The pages of the part of a page, among the first k. -/
def partP (ps : List Page) (id : Int) : Nat → List Page
  | 0 => []
  | k + 1 => match ps[k]? with
    | none => partP ps id k
    | some p => if p.id = id ∨ p.under ∈ partK ps id k then partP ps id k ++ [p] else partP ps id k
section
variable {ps : List Page} {id : Int}
theorem partP_yes {k : Nat} (hk : k < ps.length) (h : ps[k].id = id ∨ ps[k].under ∈ partK ps id k) : partP ps id (k + 1) = partP ps id k ++ [ps[k]] := by
  conv => lhs; unfold partP
  simp only [List.getElem?_eq_getElem hk]; rw [if_pos h]
theorem partP_no {k : Nat} (hk : k < ps.length) (h : ¬ (ps[k].id = id ∨ ps[k].under ∈ partK ps id k)) : partP ps id (k + 1) = partP ps id k := by
  conv => lhs; unfold partP
  simp only [List.getElem?_eq_getElem hk]; rw [if_neg h]
theorem partP_map : ∀ {k : Nat}, k ≤ ps.length → (partP ps id k).map (·.id) = partK ps id k
  | 0, _ => rfl
  | k + 1, hk => by
    have ih := partP_map (k := k) (by omega)
    by_cases hc : ps[k].id = id ∨ ps[k].under ∈ partK ps id k
    · rw [partP_yes (by omega) hc, partK_yes (by omega) hc, List.map_append, ih]; rfl
    · rw [partP_no (by omega) hc, partK_no (by omega) hc, ih]
theorem partP_len {k : Nat} (hk : k ≤ ps.length) : (partP ps id k).length ≤ k := by
  have h1 := congrArg List.length (partP_map (id := id) hk)
  have h2 := partK_len ps id k
  rw [List.length_map] at h1
  omega
theorem partP_mem : ∀ {k : Nat}, ∀ p ∈ partP ps id k, p ∈ ps
  | k + 1, p, h => by
    unfold partP at h
    split at h
    · exact partP_mem p h
    · rename_i q hq
      split at h
      · rcases List.mem_append.1 h with h | h
        · exact partP_mem p h
        · simp at h; subst h; exact List.mem_of_getElem? hq
      · exact partP_mem p h
end
/-- The four cells m show page p, its items below block B. -/
def PMI (B : Nat) (w : World) (m : PageM) (p : Page) : Prop := m.id = p.id ∧ m.title = p.title ∧ m.under = p.under ∧ m.n = p.items.length ∧ p.items.length ≤ m.c ∧ Rd encI 1 B w m.A p.items
def Mir (B : Nat) (w : World) (ms : List PageM) (ps : List Page) : Prop := ms.length = ps.length ∧ ∀ (i : Nat) (p : Page), ps[i]? = some p → ∃ m, ms[i]? = some m ∧ PMI B w m p
section
variable {B : Nat} {w w' : World} {ms : List PageM} {ps : List Page} {m : PageM} {p : Page}
theorem Mir.nil : Mir B w [] [] := ⟨rfl, by simp⟩
theorem PMI.keep (h : PMI B w m p) (hb : Below B w w') : PMI B w' m p := by
  obtain ⟨h1, h2, h3, h4, h5, h6⟩ := h
  exact ⟨h1, h2, h3, h4, h5, h6.keep fun b o hp => hb.cell (p := ⟨b, o, none⟩) hp⟩
theorem Mir.keep (h : Mir B w ms ps) (hb : Below B w w') : Mir B w' ms ps := ⟨h.1, fun i p hp => by
  obtain ⟨m, h1, h2⟩ := h.2 i p hp
  exact ⟨m, h1, h2.keep hb⟩⟩
theorem snoc_at {α : Type} {xs : List α} {x y : α} {i : Nat} (h : (xs ++ [x])[i]? = some y) : xs[i]? = some y ∨ (i = xs.length ∧ y = x) := by
  rcases Nat.lt_or_ge i xs.length with hi | hi
  · rw [List.getElem?_append_left hi] at h; exact .inl h
  · rw [List.getElem?_append_right hi] at h
    have : i - xs.length = 0 := by
      have := (List.getElem?_eq_some_iff.1 h).1
      simp at this; omega
    rw [this] at h
    simp at h
    exact .inr ⟨by omega, h.symm⟩
theorem Mir.snoc (h : Mir B w ms ps) (hm : PMI B w m p) : Mir B w (ms ++ [m]) (ps ++ [p]) := ⟨by simp [h.1], fun i q hq => by
  rcases snoc_at hq with hq | ⟨rfl, rfl⟩
  · obtain ⟨m', h1, h2⟩ := h.2 i q hq
    exact ⟨m', by rw [List.getElem?_append_left (List.getElem?_eq_some_iff.1 h1).1]; exact h1, h2⟩
  · exact ⟨m, by rw [← h.1]; simp, hm⟩⟩
theorem Mir.rdP {A : Option Addr} {B' : Nat} (h : Mir B w ms ps) (hr : Rd encPM 4 B' w A ms) (hB : B ≤ B') : RdP B' w A ps := fun hn => by
  obtain ⟨b, off, hA, hb, hc⟩ := hr (by rw [h.1]; exact hn)
  refine ⟨b, off, hA, hb, fun i p hp => ?_⟩
  obtain ⟨m, h1, k1, k2, k3, k4, k5, k6⟩ := h.2 i p hp
  exact ⟨by rw [← k1]; simpa using hc i m h1 0 _ rfl, by rw [← k2]; exact hc i m h1 1 _ rfl, by rw [← k3]; exact hc i m h1 2 _ rfl, m.A, m.c, by rw [← k4]; exact hc i m h1 3 _ rfl, k5, k6.more hB⟩
end
theorem encPM_len (m : PageM) : (encPM m).length = 4 := rfl
theorem onePM (m : PageM) : ∀ u ∈ encPM m, u.oneCell' = true := by
  intro u hu
  simp only [encPM, List.mem_cons, List.mem_nil_iff, or_false] at hu
  rcases hu with rfl | rfl | rfl | rfl <;> rfl
end Go.Proofs.YtpjnlcppjcnlgaaGreatDoor
