/- The walk of the law on AlbumText: the program and the reference give the same. No condition but that the arguments are such as can be. -/
import Derived.Test.YtelmcijcegffaaaDoorAlTx
namespace Go.Proofs.YtelmcijcegffaaaDoor
set_option linter.unusedVariables false
set_option linter.unusedSimpArgs false
open Go.RowKit
set_option maxRecDepth 100000 in
set_option maxHeartbeats 4000000 in
theorem lawAlbumText_c (xs0 : List Page) (A0 : Option Addr) (c0 : Nat) (w : World) (hr0 : RdP w.heap.size w A0 xs0) (hm0 : xs0.length ≤ 9223372036854775807) (hw0 : ∀ x ∈ xs0, x.title.size ≤ 9223372036854775807 ∧ x.items.length ≤ 9223372036854775807 ∧ ∀ z ∈ x.items, Fits z) (ht : Pow w) :
    Calls Tryd.prog 4 #[.slice A0 xs0.length c0] w (Ret (.bool true) w) := by
  have hx : Below w.heap.size w w := Below.refl _ _
  have HT := Lib.hid ht
  clear ht
  go_enter Tryd.func4, Tryd.ntmps4
  go_wp2_with fail
  refine (szAlbumPageS_c xs0 _ _ _ _ (hr0.go hx) hm0 hw0 (by omega) (by omega)).mono ?_
  rintro e w1 ⟨r0, rfl, hb1, hq0⟩
  have sz1 := hb1.size
  have hx := below_step hx hb1
  rcases hq0 with rfl | ⟨g00, g01, hn0, hS0⟩
  · go_wp2_with fail
    go_returns
    exact ⟨rfl, hx⟩
  have g02 : ¬ r0 < 0 := by omega
  go_wp2_with fail
  refine (toAlbumPageS_c xs0 _ _ _ (hr0.go hx) (by omega) (by omega)).mono ?_
  rintro e w2 ⟨B1, rfl, hb2, o1⟩
  have sz2 := hb2.size
  have hx := below_step hx hb2
  go_wp2_with fail
  refine (specAlbumText_c xs0 _ _ _ o1.rd (Nat.le_refl _) hn0 hS0 hw0).mono ?_
  rintro e w3 ⟨rfl, hb3⟩
  have sz3 := hb3.size
  have hx := below_step hx hb3
  have o1 := o1.go hb3
  go_wp2_with fail
  refine (toAlbumPageS_c xs0 _ _ _ (hr0.go hx) (by omega) (by omega)).mono ?_
  rintro e w4 ⟨B3, rfl, hb4, o3⟩
  have sz4 := hb4.size
  have hx := below_step hx hb4
  go_wp2_with fail
  refine (implAlbumText_c xs0 _ _ _ o3.rd (Nat.le_refl _) hn0 hS0 hw0 (HT.out.go hx)).mono ?_
  rintro e w5 ⟨rfl, hb5⟩
  have sz5 := hb5.size
  have hx := below_step hx hb5
  have o3 := o3.go hb5
  go_wp2_with fail
  refine (toAlbumPageS_c xs0 _ _ _ (hr0.go hx) (by omega) (by omega)).mono ?_
  rintro e w6 ⟨B5, rfl, hb6, o5⟩
  have sz6 := hb6.size
  have hx := below_step hx hb6
  have o3 := o3.go hb6
  go_wp2_with fail
  refine (eqAlbumPageS_c xs0 _ _ _ _ _ o3.rd o5.rd (by omega) (by omega)).mono ?_
  rintro e w7 ⟨rfl, hb7⟩
  have sz7 := hb7.size
  have hx := below_step hx hb7
  have o3 := o3.go hb7
  have o5 := o5.go hb7
  go_wp2_with fail
  all_goals (go_returns; exact ⟨rfl, hx⟩)
end Go.Proofs.YtelmcijcegffaaaDoor
