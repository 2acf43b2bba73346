/-
  No cell of these rows narrows 'for every input' (looked for: loops, veiled, ifaces, maps, wideKeys, modest, calm, conditions, laid).
  DERIVED. THE GIVEN ROWS OF THIS SEAT. 11 by the template 'for every input the law returns true; each argument reads behind the call as it read before'; 0 by the template 'total and deterministic' (their statements: YtjbjcgkifdljlaaTotals.lean).
  GIVEN WITH THE SEED: the statements are not yours to turn. If you find one false, say at which input.
  Laid BY PROGRAM, IN A SANDBOX (cutbox-rows.mjs): the forced cells as the released guide's own fill.sh prints them over the translation bc891da1eb346aa7… (all of the seat's roots in one cut). By AI agents, Wed Nov 11 2026. No macro, syntax, notation, axiom, sorry.
-/
import Derived.Test.YtjbjcgkifdljlaaChecked
import GoSem.Claim
import GoSem.ClaimJoined
import GoSem.ClaimMapViews
import Derived.JoinedTies
import Derived.KernelRfl
namespace Go.Proofs.Ytjbjcgkifdljlaa
/- THE CELL 'sum', in the pinned program and in every row, IS THE sha256 OF THE DUMP (.gsa) THAT YtjbjcgkifdljlaaProg.lean LOADS. Nothing in Lean hashes anything: it is a label: what it is worth is what the hold of that sum in a sandbox is worth. -/
noncomputable def Try.pinned : Pinned := { name := "ytjbjcgkifdljlaa", sum := "bc891da1eb346aa7ccd785e4dd25c05fc02470575132650b569ea81e1845b38b", checked := Try.checked }
namespace Rows
def none {H : Type} : Left H := { results := [], args := [] }

/-- 'laws.FnExactAreOpinions': WHATEVER THE INPUT: true; the input reads as it did. -/
def fnExactAreOpinionsSpec : ChangeSpec := { name := "fnExactAreOpinions", fn := fun _ => fun
  | [d] => { results := [.lit (.bool true)], args := [d] }
  | _ => none }
def fnExactAreOpinionsRow : OpenClaim := { program := "ytjbjcgkifdljlaa", sum := "bc891da1eb346aa7ccd785e4dd25c05fc02470575132650b569ea81e1845b38b", func := "loop.example/g01062/laws.FnExactAreOpinions", spec := "fnExactAreOpinions", apart := false }
def FnExactAreOpinionsSaid : Prop := fnExactAreOpinionsRow.holds Try.pinned (OpenSpec.ofChange fnExactAreOpinionsSpec)

/-- ITS FALSE NEIGHBOUR: 'it returns false'. Refute it at one input. -/
def fnExactAreOpinionsWrong : ChangeSpec := { name := "fnExactAreOpinions", fn := fun _ => fun
  | [d] => { results := [.lit (.bool false)], args := [d] }
  | _ => none }
def FnExactAreOpinionsWrongFalsely : Prop := fnExactAreOpinionsRow.holds Try.pinned (OpenSpec.ofChange fnExactAreOpinionsWrong)

/-- 'laws.FnExactChangedMinds': WHATEVER THE INPUT: true; the input reads as it did. -/
def fnExactChangedMindsSpec : ChangeSpec := { name := "fnExactChangedMinds", fn := fun _ => fun
  | [d1, d2] => { results := [.lit (.bool true)], args := [d1, d2] }
  | _ => none }
def fnExactChangedMindsRow : OpenClaim := { program := "ytjbjcgkifdljlaa", sum := "bc891da1eb346aa7ccd785e4dd25c05fc02470575132650b569ea81e1845b38b", func := "loop.example/g01062/laws.FnExactChangedMinds", spec := "fnExactChangedMinds", apart := false }
def FnExactChangedMindsSaid : Prop := fnExactChangedMindsRow.holds Try.pinned (OpenSpec.ofChange fnExactChangedMindsSpec)

/-- ITS FALSE NEIGHBOUR: 'it returns false'. Refute it at one input. -/
def fnExactChangedMindsWrong : ChangeSpec := { name := "fnExactChangedMinds", fn := fun _ => fun
  | [d1, d2] => { results := [.lit (.bool false)], args := [d1, d2] }
  | _ => none }
def FnExactChangedMindsWrongFalsely : Prop := fnExactChangedMindsRow.holds Try.pinned (OpenSpec.ofChange fnExactChangedMindsWrong)

/-- 'laws.FnExactViewOf': WHATEVER THE INPUT: true; the input reads as it did. -/
def fnExactViewOfSpec : ChangeSpec := { name := "fnExactViewOf", fn := fun _ => fun
  | [d1, d2, d3] => { results := [.lit (.bool true)], args := [d1, d2, d3] }
  | _ => none }
def fnExactViewOfRow : OpenClaim := { program := "ytjbjcgkifdljlaa", sum := "bc891da1eb346aa7ccd785e4dd25c05fc02470575132650b569ea81e1845b38b", func := "loop.example/g01062/laws.FnExactViewOf", spec := "fnExactViewOf", apart := false }
def FnExactViewOfSaid : Prop := fnExactViewOfRow.holds Try.pinned (OpenSpec.ofChange fnExactViewOfSpec)

/-- ITS FALSE NEIGHBOUR: 'it returns false'. Refute it at one input. -/
def fnExactViewOfWrong : ChangeSpec := { name := "fnExactViewOf", fn := fun _ => fun
  | [d1, d2, d3] => { results := [.lit (.bool false)], args := [d1, d2, d3] }
  | _ => none }
def FnExactViewOfWrongFalsely : Prop := fnExactViewOfRow.holds Try.pinned (OpenSpec.ofChange fnExactViewOfWrong)

/-- 'laws.FnExactHistoryOf': WHATEVER THE INPUT: true; the input reads as it did. -/
def fnExactHistoryOfSpec : ChangeSpec := { name := "fnExactHistoryOf", fn := fun _ => fun
  | [d1, d2] => { results := [.lit (.bool true)], args := [d1, d2] }
  | _ => none }
def fnExactHistoryOfRow : OpenClaim := { program := "ytjbjcgkifdljlaa", sum := "bc891da1eb346aa7ccd785e4dd25c05fc02470575132650b569ea81e1845b38b", func := "loop.example/g01062/laws.FnExactHistoryOf", spec := "fnExactHistoryOf", apart := false }
def FnExactHistoryOfSaid : Prop := fnExactHistoryOfRow.holds Try.pinned (OpenSpec.ofChange fnExactHistoryOfSpec)

/-- ITS FALSE NEIGHBOUR: 'it returns false'. Refute it at one input. -/
def fnExactHistoryOfWrong : ChangeSpec := { name := "fnExactHistoryOf", fn := fun _ => fun
  | [d1, d2] => { results := [.lit (.bool false)], args := [d1, d2] }
  | _ => none }
def FnExactHistoryOfWrongFalsely : Prop := fnExactHistoryOfRow.holds Try.pinned (OpenSpec.ofChange fnExactHistoryOfWrong)

/-- 'laws.FnExactFirstView': WHATEVER THE INPUT: true; the input reads as it did. -/
def fnExactFirstViewSpec : ChangeSpec := { name := "fnExactFirstView", fn := fun _ => fun
  | [d1, d2, d3] => { results := [.lit (.bool true)], args := [d1, d2, d3] }
  | _ => none }
def fnExactFirstViewRow : OpenClaim := { program := "ytjbjcgkifdljlaa", sum := "bc891da1eb346aa7ccd785e4dd25c05fc02470575132650b569ea81e1845b38b", func := "loop.example/g01062/laws.FnExactFirstView", spec := "fnExactFirstView", apart := false }
def FnExactFirstViewSaid : Prop := fnExactFirstViewRow.holds Try.pinned (OpenSpec.ofChange fnExactFirstViewSpec)

/-- ITS FALSE NEIGHBOUR: 'it returns false'. Refute it at one input. -/
def fnExactFirstViewWrong : ChangeSpec := { name := "fnExactFirstView", fn := fun _ => fun
  | [d1, d2, d3] => { results := [.lit (.bool false)], args := [d1, d2, d3] }
  | _ => none }
def FnExactFirstViewWrongFalsely : Prop := fnExactFirstViewRow.holds Try.pinned (OpenSpec.ofChange fnExactFirstViewWrong)

/-- 'laws.FnExactAgreeShare': WHATEVER THE INPUT: true; the input reads as it did. -/
def fnExactAgreeShareSpec : ChangeSpec := { name := "fnExactAgreeShare", fn := fun _ => fun
  | [d1, d2, d3, d4] => { results := [.lit (.bool true)], args := [d1, d2, d3, d4] }
  | _ => none }
def fnExactAgreeShareRow : OpenClaim := { program := "ytjbjcgkifdljlaa", sum := "bc891da1eb346aa7ccd785e4dd25c05fc02470575132650b569ea81e1845b38b", func := "loop.example/g01062/laws.FnExactAgreeShare", spec := "fnExactAgreeShare", apart := false }
def FnExactAgreeShareSaid : Prop := fnExactAgreeShareRow.holds Try.pinned (OpenSpec.ofChange fnExactAgreeShareSpec)

/-- ITS FALSE NEIGHBOUR: 'it returns false'. Refute it at one input. -/
def fnExactAgreeShareWrong : ChangeSpec := { name := "fnExactAgreeShare", fn := fun _ => fun
  | [d1, d2, d3, d4] => { results := [.lit (.bool false)], args := [d1, d2, d3, d4] }
  | _ => none }
def FnExactAgreeShareWrongFalsely : Prop := fnExactAgreeShareRow.holds Try.pinned (OpenSpec.ofChange fnExactAgreeShareWrong)

/-- 'laws.FnExactStanding': WHATEVER THE INPUT: true; the input reads as it did. -/
def fnExactStandingSpec : ChangeSpec := { name := "fnExactStanding", fn := fun _ => fun
  | [d1, d2, d3] => { results := [.lit (.bool true)], args := [d1, d2, d3] }
  | _ => none }
def fnExactStandingRow : OpenClaim := { program := "ytjbjcgkifdljlaa", sum := "bc891da1eb346aa7ccd785e4dd25c05fc02470575132650b569ea81e1845b38b", func := "loop.example/g01062/laws.FnExactStanding", spec := "fnExactStanding", apart := false }
def FnExactStandingSaid : Prop := fnExactStandingRow.holds Try.pinned (OpenSpec.ofChange fnExactStandingSpec)

/-- ITS FALSE NEIGHBOUR: 'it returns false'. Refute it at one input. -/
def fnExactStandingWrong : ChangeSpec := { name := "fnExactStanding", fn := fun _ => fun
  | [d1, d2, d3] => { results := [.lit (.bool false)], args := [d1, d2, d3] }
  | _ => none }
def FnExactStandingWrongFalsely : Prop := fnExactStandingRow.holds Try.pinned (OpenSpec.ofChange fnExactStandingWrong)

/-- 'laws.FnExactGiveOpinion': WHATEVER THE INPUT: true; the input reads as it did. -/
def fnExactGiveOpinionSpec : ChangeSpec := { name := "fnExactGiveOpinion", fn := fun _ => fun
  | [d1, d2, d3, d4, d5] => { results := [.lit (.bool true)], args := [d1, d2, d3, d4, d5] }
  | _ => none }
def fnExactGiveOpinionRow : OpenClaim := { program := "ytjbjcgkifdljlaa", sum := "bc891da1eb346aa7ccd785e4dd25c05fc02470575132650b569ea81e1845b38b", func := "loop.example/g01062/laws.FnExactGiveOpinion", spec := "fnExactGiveOpinion", apart := false }
def FnExactGiveOpinionSaid : Prop := fnExactGiveOpinionRow.holds Try.pinned (OpenSpec.ofChange fnExactGiveOpinionSpec)

/-- ITS FALSE NEIGHBOUR: 'it returns false'. Refute it at one input. -/
def fnExactGiveOpinionWrong : ChangeSpec := { name := "fnExactGiveOpinion", fn := fun _ => fun
  | [d1, d2, d3, d4, d5] => { results := [.lit (.bool false)], args := [d1, d2, d3, d4, d5] }
  | _ => none }
def FnExactGiveOpinionWrongFalsely : Prop := fnExactGiveOpinionRow.holds Try.pinned (OpenSpec.ofChange fnExactGiveOpinionWrong)

/-- 'laws.FnExactDisputedItems': WHATEVER THE INPUT: true; the input reads as it did. -/
def fnExactDisputedItemsSpec : ChangeSpec := { name := "fnExactDisputedItems", fn := fun _ => fun
  | [d1, d2] => { results := [.lit (.bool true)], args := [d1, d2] }
  | _ => none }
def fnExactDisputedItemsRow : OpenClaim := { program := "ytjbjcgkifdljlaa", sum := "bc891da1eb346aa7ccd785e4dd25c05fc02470575132650b569ea81e1845b38b", func := "loop.example/g01062/laws.FnExactDisputedItems", spec := "fnExactDisputedItems", recurses := true, apart := false }
def FnExactDisputedItemsSaid : Prop := fnExactDisputedItemsRow.holds Try.pinned (OpenSpec.ofChange fnExactDisputedItemsSpec)

/-- ITS FALSE NEIGHBOUR: 'it returns false'. Refute it at one input. -/
def fnExactDisputedItemsWrong : ChangeSpec := { name := "fnExactDisputedItems", fn := fun _ => fun
  | [d1, d2] => { results := [.lit (.bool false)], args := [d1, d2] }
  | _ => none }
def FnExactDisputedItemsWrongFalsely : Prop := fnExactDisputedItemsRow.holds Try.pinned (OpenSpec.ofChange fnExactDisputedItemsWrong)

/-- 'laws.FnExactExpertNames': WHATEVER THE INPUT: true; the input reads as it did. -/
def fnExactExpertNamesSpec : ChangeSpec := { name := "fnExactExpertNames", fn := fun _ => fun
  | [d] => { results := [.lit (.bool true)], args := [d] }
  | _ => none }
def fnExactExpertNamesRow : OpenClaim := { program := "ytjbjcgkifdljlaa", sum := "bc891da1eb346aa7ccd785e4dd25c05fc02470575132650b569ea81e1845b38b", func := "loop.example/g01062/laws.FnExactExpertNames", spec := "fnExactExpertNames", unfollowed := true, recurses := true, apart := false }
def FnExactExpertNamesSaid : Prop := fnExactExpertNamesRow.holds Try.pinned (OpenSpec.ofChange fnExactExpertNamesSpec)

/-- ITS FALSE NEIGHBOUR: 'it returns false'. Refute it at one input. -/
def fnExactExpertNamesWrong : ChangeSpec := { name := "fnExactExpertNames", fn := fun _ => fun
  | [d] => { results := [.lit (.bool false)], args := [d] }
  | _ => none }
def FnExactExpertNamesWrongFalsely : Prop := fnExactExpertNamesRow.holds Try.pinned (OpenSpec.ofChange fnExactExpertNamesWrong)

/-- 'laws.FnOpinions': WHATEVER THE INPUT: true; the input reads as it did. -/
def fnOpinionsSpec : ChangeSpec := { name := "fnOpinions", fn := fun _ => fun
  | [d] => { results := [.lit (.bool true)], args := [d] }
  | _ => none }
def fnOpinionsRow : OpenClaim := { program := "ytjbjcgkifdljlaa", sum := "bc891da1eb346aa7ccd785e4dd25c05fc02470575132650b569ea81e1845b38b", func := "loop.example/g01062/laws.FnOpinions", spec := "fnOpinions", apart := false }
def FnOpinionsSaid : Prop := fnOpinionsRow.holds Try.pinned (OpenSpec.ofChange fnOpinionsSpec)

/-- ITS FALSE NEIGHBOUR: 'it returns false'. Refute it at one input. -/
def fnOpinionsWrong : ChangeSpec := { name := "fnOpinions", fn := fun _ => fun
  | [d] => { results := [.lit (.bool false)], args := [d] }
  | _ => none }
def FnOpinionsWrongFalsely : Prop := fnOpinionsRow.holds Try.pinned (OpenSpec.ofChange fnOpinionsWrong)

/- THE SECOND FORM. 'bulk': how many values and letters a reading holds, each counted each time it is reached (what is shared counts as often as it is met; a slice's spare places count too). A statement '..UptoSaid' is the law's where the arguments, and the package variables that the reading takes, are together of bulk at most 1048576: NARROWER than '..Said'. Prove '..Said' where nothing that the law and all that it calls make is longer than what came in: it says more and counts as full. Else prove '..UptoSaid'. A law counts once. -/
mutual
def uptoBulk {H : Type} : DataW H → Nat
  | .lit (.string bytes) => bytes.length + 1
  | .lit _ => 1
  | .nil => 1
  | .ptr d => uptoBulk d + 1
  | .slice elems spare => uptoBulkAll elems + uptoBulkAll spare + 1
  | .agg parts => uptoBulkAll parts + 1
  | .iface _ d => uptoBulk d + 1
  | .map entries => uptoBulkEntries entries + 1
  | .held _ => 1
def uptoBulkAll {H : Type} : List (DataW H) → Nat
  | [] => 0
  | d :: r => uptoBulk d + uptoBulkAll r
def uptoBulkEntries {H : Type} : List (Lit × DataW H) → Nat
  | [] => 0
  | x :: r => uptoBulkEntry x + uptoBulkEntries r
def uptoBulkEntry {H : Type} : Lit × DataW H → Nat
  | (.string bytes, d) => bytes.length + uptoBulk d + 1
  | (_, d) => uptoBulk d + 1
 end
def uptoSmall : (H : Type) → List (DataW H) → Bool := fun _ ds => decide (uptoBulkAll ds ≤ 1048576)
def OpenSpec.upto (s : _root_.Go.ChangeSpec) : _root_.Go.OpenSpec := { _root_.Go.OpenSpec.ofChange s with cond := some uptoSmall }

/-- 'laws.FnExactAreOpinions', WHERE WHAT IT READS IS OF BULK AT MOST 1048576: true; the input reads as it did. -/
def fnExactAreOpinionsUptoRow : OpenClaim := { program := "ytjbjcgkifdljlaa", sum := "bc891da1eb346aa7ccd785e4dd25c05fc02470575132650b569ea81e1845b38b", func := "loop.example/g01062/laws.FnExactAreOpinions", spec := "fnExactAreOpinions", apart := false, narrowed := true }
def FnExactAreOpinionsUptoSaid : Prop := fnExactAreOpinionsUptoRow.holds Try.pinned (OpenSpec.upto fnExactAreOpinionsSpec)

/-- 'laws.FnExactChangedMinds', WHERE WHAT IT READS IS OF BULK AT MOST 1048576: true; the input reads as it did. -/
def fnExactChangedMindsUptoRow : OpenClaim := { program := "ytjbjcgkifdljlaa", sum := "bc891da1eb346aa7ccd785e4dd25c05fc02470575132650b569ea81e1845b38b", func := "loop.example/g01062/laws.FnExactChangedMinds", spec := "fnExactChangedMinds", apart := false, narrowed := true }
def FnExactChangedMindsUptoSaid : Prop := fnExactChangedMindsUptoRow.holds Try.pinned (OpenSpec.upto fnExactChangedMindsSpec)

/-- 'laws.FnExactViewOf', WHERE WHAT IT READS IS OF BULK AT MOST 1048576: true; the input reads as it did. -/
def fnExactViewOfUptoRow : OpenClaim := { program := "ytjbjcgkifdljlaa", sum := "bc891da1eb346aa7ccd785e4dd25c05fc02470575132650b569ea81e1845b38b", func := "loop.example/g01062/laws.FnExactViewOf", spec := "fnExactViewOf", apart := false, narrowed := true }
def FnExactViewOfUptoSaid : Prop := fnExactViewOfUptoRow.holds Try.pinned (OpenSpec.upto fnExactViewOfSpec)

/-- 'laws.FnExactHistoryOf', WHERE WHAT IT READS IS OF BULK AT MOST 1048576: true; the input reads as it did. -/
def fnExactHistoryOfUptoRow : OpenClaim := { program := "ytjbjcgkifdljlaa", sum := "bc891da1eb346aa7ccd785e4dd25c05fc02470575132650b569ea81e1845b38b", func := "loop.example/g01062/laws.FnExactHistoryOf", spec := "fnExactHistoryOf", apart := false, narrowed := true }
def FnExactHistoryOfUptoSaid : Prop := fnExactHistoryOfUptoRow.holds Try.pinned (OpenSpec.upto fnExactHistoryOfSpec)

/-- 'laws.FnExactFirstView', WHERE WHAT IT READS IS OF BULK AT MOST 1048576: true; the input reads as it did. -/
def fnExactFirstViewUptoRow : OpenClaim := { program := "ytjbjcgkifdljlaa", sum := "bc891da1eb346aa7ccd785e4dd25c05fc02470575132650b569ea81e1845b38b", func := "loop.example/g01062/laws.FnExactFirstView", spec := "fnExactFirstView", apart := false, narrowed := true }
def FnExactFirstViewUptoSaid : Prop := fnExactFirstViewUptoRow.holds Try.pinned (OpenSpec.upto fnExactFirstViewSpec)

/-- 'laws.FnExactAgreeShare', WHERE WHAT IT READS IS OF BULK AT MOST 1048576: true; the input reads as it did. -/
def fnExactAgreeShareUptoRow : OpenClaim := { program := "ytjbjcgkifdljlaa", sum := "bc891da1eb346aa7ccd785e4dd25c05fc02470575132650b569ea81e1845b38b", func := "loop.example/g01062/laws.FnExactAgreeShare", spec := "fnExactAgreeShare", apart := false, narrowed := true }
def FnExactAgreeShareUptoSaid : Prop := fnExactAgreeShareUptoRow.holds Try.pinned (OpenSpec.upto fnExactAgreeShareSpec)

/-- 'laws.FnExactStanding', WHERE WHAT IT READS IS OF BULK AT MOST 1048576: true; the input reads as it did. -/
def fnExactStandingUptoRow : OpenClaim := { program := "ytjbjcgkifdljlaa", sum := "bc891da1eb346aa7ccd785e4dd25c05fc02470575132650b569ea81e1845b38b", func := "loop.example/g01062/laws.FnExactStanding", spec := "fnExactStanding", apart := false, narrowed := true }
def FnExactStandingUptoSaid : Prop := fnExactStandingUptoRow.holds Try.pinned (OpenSpec.upto fnExactStandingSpec)

/-- 'laws.FnExactGiveOpinion', WHERE WHAT IT READS IS OF BULK AT MOST 1048576: true; the input reads as it did. -/
def fnExactGiveOpinionUptoRow : OpenClaim := { program := "ytjbjcgkifdljlaa", sum := "bc891da1eb346aa7ccd785e4dd25c05fc02470575132650b569ea81e1845b38b", func := "loop.example/g01062/laws.FnExactGiveOpinion", spec := "fnExactGiveOpinion", apart := false, narrowed := true }
def FnExactGiveOpinionUptoSaid : Prop := fnExactGiveOpinionUptoRow.holds Try.pinned (OpenSpec.upto fnExactGiveOpinionSpec)

/-- 'laws.FnExactDisputedItems', WHERE WHAT IT READS IS OF BULK AT MOST 1048576: true; the input reads as it did. -/
def fnExactDisputedItemsUptoRow : OpenClaim := { program := "ytjbjcgkifdljlaa", sum := "bc891da1eb346aa7ccd785e4dd25c05fc02470575132650b569ea81e1845b38b", func := "loop.example/g01062/laws.FnExactDisputedItems", spec := "fnExactDisputedItems", recurses := true, apart := false, narrowed := true }
def FnExactDisputedItemsUptoSaid : Prop := fnExactDisputedItemsUptoRow.holds Try.pinned (OpenSpec.upto fnExactDisputedItemsSpec)

/-- 'laws.FnExactExpertNames', WHERE WHAT IT READS IS OF BULK AT MOST 1048576: true; the input reads as it did. -/
def fnExactExpertNamesUptoRow : OpenClaim := { program := "ytjbjcgkifdljlaa", sum := "bc891da1eb346aa7ccd785e4dd25c05fc02470575132650b569ea81e1845b38b", func := "loop.example/g01062/laws.FnExactExpertNames", spec := "fnExactExpertNames", unfollowed := true, recurses := true, apart := false, narrowed := true }
def FnExactExpertNamesUptoSaid : Prop := fnExactExpertNamesUptoRow.holds Try.pinned (OpenSpec.upto fnExactExpertNamesSpec)

/-- 'laws.FnOpinions', WHERE WHAT IT READS IS OF BULK AT MOST 1048576: true; the input reads as it did. -/
def fnOpinionsUptoRow : OpenClaim := { program := "ytjbjcgkifdljlaa", sum := "bc891da1eb346aa7ccd785e4dd25c05fc02470575132650b569ea81e1845b38b", func := "loop.example/g01062/laws.FnOpinions", spec := "fnOpinions", apart := false, narrowed := true }
def FnOpinionsUptoSaid : Prop := fnOpinionsUptoRow.holds Try.pinned (OpenSpec.upto fnOpinionsSpec)

end Rows
end Go.Proofs.Ytjbjcgkifdljlaa
