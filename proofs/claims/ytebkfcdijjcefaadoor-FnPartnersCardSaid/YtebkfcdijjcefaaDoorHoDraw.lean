/- Contracts of the draws of an owner and an item: some within bounds; only the reader's own block is turned. No condition. -/
import Derived.Test.YtebkfcdijjcefaaDoorDrawK
import Derived.Test.YtebkfcdijjcefaaDoorCvHold
import Derived.Deep.DeepCutAuto
namespace Go.Proofs.YtebkfcdijjcefaaDoor
set_option linter.unusedVariables false
set_option linter.unusedSimpArgs false
open Go.RowKit
attribute [local irreducible] wpQuiet
def OkH (x : Hold) : Prop := x.owner.size ≤ 10 ∧ (-1000 ≤ x.item ∧ x.item ≤ 1000) ∧ (0 ≤ x.count ∧ x.count ≤ 100)
theorem owner19_c (g m : Nat) (w : World) (h : Cur g m w) (hm : m ≤ 1099510000000) :
    Calls Tryd.prog 49 #[.pointer (some ⟨g, 0, none⟩)] w fun e w' => ∃ x : ByteArray, e = .returned (.string x) ∧ x.size ≤ 10 ∧ Fr g (g + 1) w w' ∧ Cur g (m + 4) w' := by
  go_enter Tryd.func49, Tryd.ntmps49
  go_wp2_with fail
  refine (one_c g m 12 w h (by omega) (by decide)).mono ?_
  rintro e w1 ⟨b, rfl, hf1, hc1⟩
  cases b
  · go_wp2_with fail
    refine (of_c g (m + 2) [⟨#[97, 110, 110, 97]⟩, ⟨#[98, 111]⟩, ⟨#[99, 97, 114, 108]⟩] _ _ _ (hc1.alloc _) (by omega) (rd_litS w1 _ _) (new_ne hc1.1) (by decide) (by decide)).mono ?_
    rintro e w2 ⟨x, rfl, hx, hf, hc⟩
    have hs := (show ∀ x ∈ ([⟨#[97, 110, 110, 97]⟩, ⟨#[98, 111]⟩, ⟨#[99, 97, 114, 108]⟩] : List ByteArray), x.size ≤ 10 by decide) x hx
    go_wp2_with fail
    go_returns
    exact ⟨x, rfl, hs, (fr_alloc hf1 _).trans hf, hc⟩
  · go_wp2_with fail
    refine (of_c g (m + 2) [⟨#[122, 111, 101]⟩, ⟨#[]⟩, ⟨#[66, 111]⟩] _ _ _ (hc1.alloc _) (by omega) (rd_litS w1 _ _) (new_ne hc1.1) (by decide) (by decide)).mono ?_
    rintro e w2 ⟨x, rfl, hx, hf, hc⟩
    have hs := (show ∀ x ∈ ([⟨#[122, 111, 101]⟩, ⟨#[]⟩, ⟨#[66, 111]⟩] : List ByteArray), x.size ≤ 10 by decide) x hx
    go_wp2_with fail
    go_returns
    exact ⟨x, rfl, hs, (fr_alloc hf1 _).trans hf, hc⟩
theorem item19_c (g m : Nat) (w : World) (h : Cur g m w) (hm : m ≤ 1099510000000) :
    Calls Tryd.prog 43 #[.pointer (some ⟨g, 0, none⟩)] w fun e w' => ∃ x : Int, e = .returned (.int .i64 x) ∧ (0 ≤ x ∧ x ≤ 100) ∧ Fr g (g + 1) w w' ∧ Cur g (m + 4) w' := by
  go_enter Tryd.func43, Tryd.ntmps43
  go_wp2_with fail
  refine (pick_c g m 24 _ (h.alloc _) (by omega) (by decide)).mono ?_
  rintro e w1 ⟨r, rfl, hr0, _, hr1, _, hf1, hc1⟩
  have hr2 := hr1 (by decide)
  clear hr1
  have hlit := (rd_litI w [1, 2, 3, 4, 5, 99, 0, 100] 3).fr (new_ne h.1) hf1
  have h3 : r / 11 = 0 ∨ r / 11 = 1 ∨ r / 11 = 2 := by omega
  rcases h3 with h3 | h3 | h3
  · go_wp2_with fail
    refine (among_c g (m + 2) (List.take 6 [1, 2, 3, 4, 5, 99, 0, 100]) _ 8 _ hc1 (by omega) (hlit.take 6) (new_ne h.1) (by decide) (by decide)).mono ?_
    rintro e w9 ⟨x, rfl, hx, hf9, hc9⟩
    have hs : 0 ≤ x ∧ x ≤ 100 := by simp at hx; omega
    clear hx hlit
    go_wp2_with fail
    go_returns
    exact ⟨x, rfl, hs, ((fr_alloc (Fr.refl _ _ _) _).trans hf1).trans hf9, hc9⟩
  · go_wp2_with fail
    refine (among_c g (m + 2) (List.take 7 [1, 2, 3, 4, 5, 99, 0, 100]) _ 8 _ hc1 (by omega) (hlit.take 7) (new_ne h.1) (by decide) (by decide)).mono ?_
    rintro e w9 ⟨x, rfl, hx, hf9, hc9⟩
    have hs : 0 ≤ x ∧ x ≤ 100 := by simp at hx; omega
    clear hx hlit
    go_wp2_with fail
    go_returns
    exact ⟨x, rfl, hs, ((fr_alloc (Fr.refl _ _ _) _).trans hf1).trans hf9, hc9⟩
  · go_wp2_with fail
    refine (among_c g (m + 2) (List.take 8 [1, 2, 3, 4, 5, 99, 0, 100]) _ 8 _ hc1 (by omega) (hlit.take 8) (new_ne h.1) (by decide) (by decide)).mono ?_
    rintro e w9 ⟨x, rfl, hx, hf9, hc9⟩
    have hs : 0 ≤ x ∧ x ≤ 100 := by simp at hx; omega
    clear hx hlit
    go_wp2_with fail
    go_returns
    exact ⟨x, rfl, hs, ((fr_alloc (Fr.refl _ _ _) _).trans hf1).trans hf9, hc9⟩
end Go.Proofs.YtebkfcdijjcefaaDoor
