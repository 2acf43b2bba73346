/- FnExactSheetState: the program's SheetState returns what the reference's returns, for all arguments. No condition. -/
import Derived.Test.YtnedkgiahkjnnaaRows
import Derived.Test.YtnedkgiahkjnnaaRecFlaw
import Derived.Test.YtnedkgiahkjnnaaOpenScal
import Derived.Test.YtnedkgiahkjnnaaRecSS
import Derived.Test.YtnedkgiahkjnnaaLExactSheetState
namespace Go.Proofs.Ytnedkgiahkjnnaa.lawSheetState
set_option linter.unusedVariables false
set_option linter.unusedSimpArgs false
open Go.ChangeShapes Go.WideShapes Go.ChangeAt Go.RowKit
open Go.ChangeMaps (open_string shut_string)

theorem own : ownKnob Try.prog.godebug = none := by kernel_rfl
theorem laidOut : laidOutB Try.prog = true := by kernel_rfl

set_option maxRecDepth 100000 in
theorem lifted (os : Os) (started : os.Started) (H : Type) (enc : TypeId × Value → H) :
    ReturnsInHanded {} Try.checked os 3 .any (Rows.fnExactSheetStateSpec.pre6 enc Try.prog Try.f3 Rows.fnExactSheetStateRow.domain false) (Rows.fnExactSheetStateSpec.post enc Try.prog Try.f3 false true false false) := by
  refine returnsInHanded_of_change (C := Try.checked) own started (by kernel_rfl) Try.func3
    (ChangeSpec.witness6 (enc := enc) (C := Try.checked) false ⟨#[], #[.slice none 0 0, .slice none 0 0, .slice none 0 0], []⟩ 8 (by kernel_rfl) (by kernel_rfl) (by kernel_rfl) (by kernel_rfl)) ?_
  intro W base args ds gs before hval0 hW hcnd _
  have hval : ∀ (j : Nat) t v, Try.f3.params[j]? = some t → args[j]? = some v → Value.okWide Try.prog W .any base t v := hval0
  have hW' := hW
  obtain ⟨p, q, hA0, hV, rfl, hfz, hnd⟩ := hW
  have hA : DataW.TrodAll enc Try.prog W 0 (fun _ => true) true Try.f3.params.toList args.toList ds p := hA0
  rw [Try.params3] at hA hval
  obtain ⟨v0, vs0, d0, ds0, p0, q0, hargs, rfl, rfl, h0, r0⟩ := trodAll_cons hA
  obtain ⟨v1, vs1, d1, ds1, p1, q1, rfl, rfl, rfl, h1, r1⟩ := trodAll_cons r0
  obtain ⟨v2, vs2, d2, ds2, p2, q2, rfl, rfl, rfl, h2, r2⟩ := trodAll_cons r1
  obtain ⟨rfl, rfl, rfl⟩ := trodAll_nil r2
  obtain rfl : args = #[v0, v1, v2] := by cases args; simp_all
  obtain ⟨rfl, rfl⟩ := trodVars_none hV
  have lt0 : ∀ x ∈ p0, x.block < W.heap.size := by obtain ⟨m, hm⟩ := h0; exact DataW.trod_lt m _ _ _ hm
  have lt1 : ∀ x ∈ p1, x.block < W.heap.size := by obtain ⟨m, hm⟩ := h1; exact DataW.trod_lt m _ _ _ hm
  have lt2 : ∀ x ∈ p2, x.block < W.heap.size := by obtain ⟨m, hm⟩ := h2; exact DataW.trod_lt m _ _ _ hm
  obtain ⟨A0, len0, cap0, rfl⟩ := okWide_slice Try.underlying22 (hval 0 22 v0 rfl rfl)
  have hh0 := h0
  obtain ⟨fuel0, hf0⟩ := hh0
  obtain ⟨hl0, hm0, hn0, xs0, rfl, fit0, rd0⟩ := rd_open (P := Try.prog) (w := W) (A := A0) (len := len0) (cap := cap0) (fuel := fuel0) (x := (d0, p0)) 4 encFlaw Flaw.fits (by decide) Try.underlying22 (by kernel_rfl) elFlaw (by simpa [Value.cells] using hf0)
  obtain ⟨A1, len1, cap1, rfl⟩ := okWide_slice Try.underlying23 (hval 1 23 v1 rfl rfl)
  have hh1 := h1
  obtain ⟨fuel1, hf1⟩ := hh1
  obtain ⟨hl1, hm1, hn1, xs1, rfl, fit1, rd1⟩ := rd_open (P := Try.prog) (w := W) (A := A1) (len := len1) (cap := cap1) (fuel := fuel1) (x := (d1, p1)) 1 encI Fits (by decide) Try.underlying23 (by kernel_rfl) elInt (by simpa [Value.cells] using hf1)
  obtain ⟨A2, len2, cap2, rfl⟩ := okWide_slice Try.underlying24 (hval 2 24 v2 rfl rfl)
  have hh2 := h2
  obtain ⟨fuel2, hf2⟩ := hh2
  obtain ⟨hl2, hm2, hn2, ms2, rfl, ok2, rm2⟩ := rd_open (P := Try.prog) (w := W) (A := A2) (len := len2) (cap := cap2) (fuel := fuel2) (x := (d2, p2)) 1 encM (SlM.fits W) (by decide) Try.underlying24 (by kernel_rfl) elSS (by simpa [Value.cells] using hf2)
  obtain ⟨xs2, hlen2, fit2, rd2⟩ := rdSS_of ok2 rm2
  have hlen2 := hlen2.symm
  generalize ms2.length = nn2 at *
  subst hlen2
  clear hA0 hval0
  refine (lawSheetState_c xs0 A0 cap0 xs1 A1 cap1 xs2 A2 cap2 W rd0 (by unfold maxLen at hm0; omega) rd1 (by unfold maxLen at hm1; omega) rd2 (by unfold maxLen at hm2; omega) (fun x hx => by obtain ⟨h1, h2⟩ := fit2 x hx; unfold maxLen at h1; exact ⟨by omega, h2⟩)).mono fun e W' ⟨he, bel⟩ => ?_
  subst he
  exact ⟨_, rfl, _, _, _, [], _, [], hW', trodAll_mk1 (shut_bool Try.underlying4 _), (trodAll_cons_mk (Below.trod laidOut (by kernel_rfl) (of_decide_eq_true (by kernel_rfl)) h0 bel lt0) (trodAll_cons_mk (Below.trod laidOut (by kernel_rfl) (of_decide_eq_true (by kernel_rfl)) h1 bel lt1) (trodAll_cons_mk (Below.trod laidOut (by kernel_rfl) (of_decide_eq_true (by kernel_rfl)) h2 bel lt2) trodAll_mk0))), rfl, bel.frame _, fun h => by cases h⟩

theorem over : Rows.fnExactSheetStateRow.holds Try.pinned (OpenSpec.ofChange Rows.fnExactSheetStateSpec) :=
  OpenClaim.holds_of_wide 3 Try.f3 rfl rfl rfl rfl rfl rfl rfl ⟨rfl, rfl, rfl, rfl, rfl⟩ rfl rfl rfl rfl rfl (by kernel_rfl) Try.func3 (by kernel_rfl)
    (of_decide_eq_true (by kernel_rfl)) (by unfold Func.isWrapper; first | (rw [if_pos (by decide +kernel)]; kernel_rfl) | (rw [if_neg (by decide +kernel)]; exact ⟨rfl, rfl⟩))
    (fun os started H enc _ => lifted os started H enc)

theorem proved : Rows.FnExactSheetStateSaid := over
#print axioms proved
end Go.Proofs.Ytnedkgiahkjnnaa.lawSheetState
