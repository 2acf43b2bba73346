/-
  No cell of these rows narrows 'for every input' (looked for: loops, veiled, ifaces, maps, wideKeys, modest, calm, conditions, laid).
  DERIVED. THE GIVEN ROWS OF THIS SEAT. 12 by the template 'for every input the law returns true; each argument reads behind the call as it read before'; 0 by the template 'total and deterministic' (their statements: YtepakppnpnaffaaTotals.lean).
  GIVEN WITH THE SEED: the statements are not yours to turn. If you find one false, say at which input.
  Laid BY PROGRAM, IN A SANDBOX (cutbox-rows.mjs): the forced cells as the released guide's own fill.sh prints them over the translation 23374db1d76a41eb… (all of the seat's roots in one cut). By AI agents, Wed Nov 11 2026. No macro, syntax, notation, axiom, sorry.
-/
import Derived.Test.YtepakppnpnaffaaChecked
import GoSem.Claim
import GoSem.ClaimJoined
import GoSem.ClaimMapViews
import Derived.JoinedTies
import Derived.KernelRfl
namespace Go.Proofs.Ytepakppnpnaffaa
/- THE CELL 'sum', in the pinned program and in every row, IS THE sha256 OF THE DUMP (.gsa) THAT YtepakppnpnaffaaProg.lean LOADS. Nothing in Lean hashes anything: it is a label: what it is worth is what the hold of that sum in a sandbox is worth. -/
noncomputable def Try.pinned : Pinned := { name := "ytepakppnpnaffaa", sum := "23374db1d76a41eb99113c086f9bd9b82c4336272417534fac4a389947d68938", checked := Try.checked }
namespace Rows
def none {H : Type} : Left H := { results := [], args := [] }

/-- 'laws.FnExactAreHolds': WHATEVER THE INPUT: true; the input reads as it did. -/
def fnExactAreHoldsSpec : ChangeSpec := { name := "fnExactAreHolds", fn := fun _ => fun
  | [d] => { results := [.lit (.bool true)], args := [d] }
  | _ => none }
def fnExactAreHoldsRow : OpenClaim := { program := "ytepakppnpnaffaa", sum := "23374db1d76a41eb99113c086f9bd9b82c4336272417534fac4a389947d68938", func := "loop.example/g01062/laws.FnExactAreHolds", spec := "fnExactAreHolds", apart := false }
def FnExactAreHoldsSaid : Prop := fnExactAreHoldsRow.holds Try.pinned (OpenSpec.ofChange fnExactAreHoldsSpec)

/-- ITS FALSE NEIGHBOUR: 'it returns false'. Refute it at one input. -/
def fnExactAreHoldsWrong : ChangeSpec := { name := "fnExactAreHolds", fn := fun _ => fun
  | [d] => { results := [.lit (.bool false)], args := [d] }
  | _ => none }
def FnExactAreHoldsWrongFalsely : Prop := fnExactAreHoldsRow.holds Try.pinned (OpenSpec.ofChange fnExactAreHoldsWrong)

/-- 'laws.FnExactCountOf': WHATEVER THE INPUT: true; the input reads as it did. -/
def fnExactCountOfSpec : ChangeSpec := { name := "fnExactCountOf", fn := fun _ => fun
  | [d1, d2, d3] => { results := [.lit (.bool true)], args := [d1, d2, d3] }
  | _ => none }
def fnExactCountOfRow : OpenClaim := { program := "ytepakppnpnaffaa", sum := "23374db1d76a41eb99113c086f9bd9b82c4336272417534fac4a389947d68938", func := "loop.example/g01062/laws.FnExactCountOf", spec := "fnExactCountOf", unfollowed := true, recurses := true, apart := false }
def FnExactCountOfSaid : Prop := fnExactCountOfRow.holds Try.pinned (OpenSpec.ofChange fnExactCountOfSpec)

/-- ITS FALSE NEIGHBOUR: 'it returns false'. Refute it at one input. -/
def fnExactCountOfWrong : ChangeSpec := { name := "fnExactCountOf", fn := fun _ => fun
  | [d1, d2, d3] => { results := [.lit (.bool false)], args := [d1, d2, d3] }
  | _ => none }
def FnExactCountOfWrongFalsely : Prop := fnExactCountOfRow.holds Try.pinned (OpenSpec.ofChange fnExactCountOfWrong)

/-- 'laws.FnExactDoublesOf': WHATEVER THE INPUT: true; the input reads as it did. -/
def fnExactDoublesOfSpec : ChangeSpec := { name := "fnExactDoublesOf", fn := fun _ => fun
  | [d1, d2] => { results := [.lit (.bool true)], args := [d1, d2] }
  | _ => none }
def fnExactDoublesOfRow : OpenClaim := { program := "ytepakppnpnaffaa", sum := "23374db1d76a41eb99113c086f9bd9b82c4336272417534fac4a389947d68938", func := "loop.example/g01062/laws.FnExactDoublesOf", spec := "fnExactDoublesOf", apart := false }
def FnExactDoublesOfSaid : Prop := fnExactDoublesOfRow.holds Try.pinned (OpenSpec.ofChange fnExactDoublesOfSpec)

/-- ITS FALSE NEIGHBOUR: 'it returns false'. Refute it at one input. -/
def fnExactDoublesOfWrong : ChangeSpec := { name := "fnExactDoublesOf", fn := fun _ => fun
  | [d1, d2] => { results := [.lit (.bool false)], args := [d1, d2] }
  | _ => none }
def FnExactDoublesOfWrongFalsely : Prop := fnExactDoublesOfRow.holds Try.pinned (OpenSpec.ofChange fnExactDoublesOfWrong)

/-- 'laws.FnExactOwnersOf': WHATEVER THE INPUT: true; the input reads as it did. -/
def fnExactOwnersOfSpec : ChangeSpec := { name := "fnExactOwnersOf", fn := fun _ => fun
  | [d1, d2] => { results := [.lit (.bool true)], args := [d1, d2] }
  | _ => none }
def fnExactOwnersOfRow : OpenClaim := { program := "ytepakppnpnaffaa", sum := "23374db1d76a41eb99113c086f9bd9b82c4336272417534fac4a389947d68938", func := "loop.example/g01062/laws.FnExactOwnersOf", spec := "fnExactOwnersOf", apart := false }
def FnExactOwnersOfSaid : Prop := fnExactOwnersOfRow.holds Try.pinned (OpenSpec.ofChange fnExactOwnersOfSpec)

/-- ITS FALSE NEIGHBOUR: 'it returns false'. Refute it at one input. -/
def fnExactOwnersOfWrong : ChangeSpec := { name := "fnExactOwnersOf", fn := fun _ => fun
  | [d1, d2] => { results := [.lit (.bool false)], args := [d1, d2] }
  | _ => none }
def FnExactOwnersOfWrongFalsely : Prop := fnExactOwnersOfRow.holds Try.pinned (OpenSpec.ofChange fnExactOwnersOfWrong)

/-- 'laws.FnExactSwapPairs': WHATEVER THE INPUT: true; the input reads as it did. -/
def fnExactSwapPairsSpec : ChangeSpec := { name := "fnExactSwapPairs", fn := fun _ => fun
  | [d1, d2, d3] => { results := [.lit (.bool true)], args := [d1, d2, d3] }
  | _ => none }
def fnExactSwapPairsRow : OpenClaim := { program := "ytepakppnpnaffaa", sum := "23374db1d76a41eb99113c086f9bd9b82c4336272417534fac4a389947d68938", func := "loop.example/g01062/laws.FnExactSwapPairs", spec := "fnExactSwapPairs", unfollowed := true, recurses := true, apart := false }
def FnExactSwapPairsSaid : Prop := fnExactSwapPairsRow.holds Try.pinned (OpenSpec.ofChange fnExactSwapPairsSpec)

/-- ITS FALSE NEIGHBOUR: 'it returns false'. Refute it at one input. -/
def fnExactSwapPairsWrong : ChangeSpec := { name := "fnExactSwapPairs", fn := fun _ => fun
  | [d1, d2, d3] => { results := [.lit (.bool false)], args := [d1, d2, d3] }
  | _ => none }
def FnExactSwapPairsWrongFalsely : Prop := fnExactSwapPairsRow.holds Try.pinned (OpenSpec.ofChange fnExactSwapPairsWrong)

/-- 'laws.FnExactBestPartner': WHATEVER THE INPUT: true; the input reads as it did. -/
def fnExactBestPartnerSpec : ChangeSpec := { name := "fnExactBestPartner", fn := fun _ => fun
  | [d1, d2] => { results := [.lit (.bool true)], args := [d1, d2] }
  | _ => none }
def fnExactBestPartnerRow : OpenClaim := { program := "ytepakppnpnaffaa", sum := "23374db1d76a41eb99113c086f9bd9b82c4336272417534fac4a389947d68938", func := "loop.example/g01062/laws.FnExactBestPartner", spec := "fnExactBestPartner", unfollowed := true, recurses := true, apart := false }
def FnExactBestPartnerSaid : Prop := fnExactBestPartnerRow.holds Try.pinned (OpenSpec.ofChange fnExactBestPartnerSpec)

/-- ITS FALSE NEIGHBOUR: 'it returns false'. Refute it at one input. -/
def fnExactBestPartnerWrong : ChangeSpec := { name := "fnExactBestPartner", fn := fun _ => fun
  | [d1, d2] => { results := [.lit (.bool false)], args := [d1, d2] }
  | _ => none }
def FnExactBestPartnerWrongFalsely : Prop := fnExactBestPartnerRow.holds Try.pinned (OpenSpec.ofChange fnExactBestPartnerWrong)

/-- 'laws.FnExactRareItems': WHATEVER THE INPUT: true; the input reads as it did. -/
def fnExactRareItemsSpec : ChangeSpec := { name := "fnExactRareItems", fn := fun _ => fun
  | [d] => { results := [.lit (.bool true)], args := [d] }
  | _ => none }
def fnExactRareItemsRow : OpenClaim := { program := "ytepakppnpnaffaa", sum := "23374db1d76a41eb99113c086f9bd9b82c4336272417534fac4a389947d68938", func := "loop.example/g01062/laws.FnExactRareItems", spec := "fnExactRareItems", apart := false }
def FnExactRareItemsSaid : Prop := fnExactRareItemsRow.holds Try.pinned (OpenSpec.ofChange fnExactRareItemsSpec)

/-- ITS FALSE NEIGHBOUR: 'it returns false'. Refute it at one input. -/
def fnExactRareItemsWrong : ChangeSpec := { name := "fnExactRareItems", fn := fun _ => fun
  | [d] => { results := [.lit (.bool false)], args := [d] }
  | _ => none }
def FnExactRareItemsWrongFalsely : Prop := fnExactRareItemsRow.holds Try.pinned (OpenSpec.ofChange fnExactRareItemsWrong)

/-- 'laws.FnExactMissingUpTo': WHATEVER THE INPUT: true; the input reads as it did. -/
def fnExactMissingUpToSpec : ChangeSpec := { name := "fnExactMissingUpTo", fn := fun _ => fun
  | [d1, d2, d3] => { results := [.lit (.bool true)], args := [d1, d2, d3] }
  | _ => none }
def fnExactMissingUpToRow : OpenClaim := { program := "ytepakppnpnaffaa", sum := "23374db1d76a41eb99113c086f9bd9b82c4336272417534fac4a389947d68938", func := "loop.example/g01062/laws.FnExactMissingUpTo", spec := "fnExactMissingUpTo", unfollowed := true, recurses := true, apart := false }
def FnExactMissingUpToSaid : Prop := fnExactMissingUpToRow.holds Try.pinned (OpenSpec.ofChange fnExactMissingUpToSpec)

/-- ITS FALSE NEIGHBOUR: 'it returns false'. Refute it at one input. -/
def fnExactMissingUpToWrong : ChangeSpec := { name := "fnExactMissingUpTo", fn := fun _ => fun
  | [d1, d2, d3] => { results := [.lit (.bool false)], args := [d1, d2, d3] }
  | _ => none }
def FnExactMissingUpToWrongFalsely : Prop := fnExactMissingUpToRow.holds Try.pinned (OpenSpec.ofChange fnExactMissingUpToWrong)

/-- 'laws.FnExactCanGive': WHATEVER THE INPUT: true; the input reads as it did. -/
def fnExactCanGiveSpec : ChangeSpec := { name := "fnExactCanGive", fn := fun _ => fun
  | [d1, d2, d3] => { results := [.lit (.bool true)], args := [d1, d2, d3] }
  | _ => none }
def fnExactCanGiveRow : OpenClaim := { program := "ytepakppnpnaffaa", sum := "23374db1d76a41eb99113c086f9bd9b82c4336272417534fac4a389947d68938", func := "loop.example/g01062/laws.FnExactCanGive", spec := "fnExactCanGive", unfollowed := true, recurses := true, apart := false }
def FnExactCanGiveSaid : Prop := fnExactCanGiveRow.holds Try.pinned (OpenSpec.ofChange fnExactCanGiveSpec)

/-- ITS FALSE NEIGHBOUR: 'it returns false'. Refute it at one input. -/
def fnExactCanGiveWrong : ChangeSpec := { name := "fnExactCanGive", fn := fun _ => fun
  | [d1, d2, d3] => { results := [.lit (.bool false)], args := [d1, d2, d3] }
  | _ => none }
def FnExactCanGiveWrongFalsely : Prop := fnExactCanGiveRow.holds Try.pinned (OpenSpec.ofChange fnExactCanGiveWrong)

/-- 'laws.FnExactGiveItem': WHATEVER THE INPUT: true; the input reads as it did. -/
def fnExactGiveItemSpec : ChangeSpec := { name := "fnExactGiveItem", fn := fun _ => fun
  | [d1, d2, d3, d4] => { results := [.lit (.bool true)], args := [d1, d2, d3, d4] }
  | _ => none }
def fnExactGiveItemRow : OpenClaim := { program := "ytepakppnpnaffaa", sum := "23374db1d76a41eb99113c086f9bd9b82c4336272417534fac4a389947d68938", func := "loop.example/g01062/laws.FnExactGiveItem", spec := "fnExactGiveItem", inPlace := ["slices.overlaps[loop.example/g01062/impl.Hold]"], unfollowed := true, recurses := true, apart := false }
def FnExactGiveItemSaid : Prop := fnExactGiveItemRow.holds Try.pinned (OpenSpec.ofChange fnExactGiveItemSpec)

/-- ITS FALSE NEIGHBOUR: 'it returns false'. Refute it at one input. -/
def fnExactGiveItemWrong : ChangeSpec := { name := "fnExactGiveItem", fn := fun _ => fun
  | [d1, d2, d3, d4] => { results := [.lit (.bool false)], args := [d1, d2, d3, d4] }
  | _ => none }
def FnExactGiveItemWrongFalsely : Prop := fnExactGiveItemRow.holds Try.pinned (OpenSpec.ofChange fnExactGiveItemWrong)

/-- 'laws.FnExactDoSwaps': WHATEVER THE INPUT: true; the input reads as it did. -/
def fnExactDoSwapsSpec : ChangeSpec := { name := "fnExactDoSwaps", fn := fun _ => fun
  | [d1, d2, d3, d4] => { results := [.lit (.bool true)], args := [d1, d2, d3, d4] }
  | _ => none }
def fnExactDoSwapsRow : OpenClaim := { program := "ytepakppnpnaffaa", sum := "23374db1d76a41eb99113c086f9bd9b82c4336272417534fac4a389947d68938", func := "loop.example/g01062/laws.FnExactDoSwaps", spec := "fnExactDoSwaps", inPlace := ["slices.overlaps[loop.example/g01062/impl.Hold]"], unfollowed := true, recurses := true, apart := false }
def FnExactDoSwapsSaid : Prop := fnExactDoSwapsRow.holds Try.pinned (OpenSpec.ofChange fnExactDoSwapsSpec)

/-- ITS FALSE NEIGHBOUR: 'it returns false'. Refute it at one input. -/
def fnExactDoSwapsWrong : ChangeSpec := { name := "fnExactDoSwaps", fn := fun _ => fun
  | [d1, d2, d3, d4] => { results := [.lit (.bool false)], args := [d1, d2, d3, d4] }
  | _ => none }
def FnExactDoSwapsWrongFalsely : Prop := fnExactDoSwapsRow.holds Try.pinned (OpenSpec.ofChange fnExactDoSwapsWrong)

/-- 'laws.FnWants': WHATEVER THE INPUT: true; the input reads as it did. -/
def fnWantsSpec : ChangeSpec := { name := "fnWants", fn := fun _ => fun
  | [d] => { results := [.lit (.bool true)], args := [d] }
  | _ => none }
def fnWantsRow : OpenClaim := { program := "ytepakppnpnaffaa", sum := "23374db1d76a41eb99113c086f9bd9b82c4336272417534fac4a389947d68938", func := "loop.example/g01062/laws.FnWants", spec := "fnWants", inPlace := ["slices.overlaps[loop.example/g01062/impl.Hold]"], unfollowed := true, recurses := true, apart := false }
def FnWantsSaid : Prop := fnWantsRow.holds Try.pinned (OpenSpec.ofChange fnWantsSpec)

/-- ITS FALSE NEIGHBOUR: 'it returns false'. Refute it at one input. -/
def fnWantsWrong : ChangeSpec := { name := "fnWants", fn := fun _ => fun
  | [d] => { results := [.lit (.bool false)], args := [d] }
  | _ => none }
def FnWantsWrongFalsely : Prop := fnWantsRow.holds Try.pinned (OpenSpec.ofChange fnWantsWrong)

/- THE SECOND FORM. 'bulk': how many values and letters a reading holds, each counted each time it is reached (what is shared counts as often as it is met; a slice's spare places count too). A statement '..UptoSaid' is the law's where the arguments, and the package variables that the reading takes, are together of bulk at most 1048576: NARROWER than '..Said'. Prove '..Said' where nothing that the law and all that it calls make is longer than what came in: it says more and counts as full. Else prove '..UptoSaid'. A law counts once. -/
mutual
def uptoBulk {H : Type} : DataW H → Nat
  | .lit (.string bytes) => bytes.length + 1
  | .lit _ => 1
  | .nil => 1
  | .ptr d => uptoBulk d + 1
  | .slice elems spare => uptoBulkAll elems + uptoBulkAll spare + 1
  | .agg parts => uptoBulkAll parts + 1
  | .iface _ d => uptoBulk d + 1
  | .map entries => uptoBulkEntries entries + 1
  | .held _ => 1
def uptoBulkAll {H : Type} : List (DataW H) → Nat
  | [] => 0
  | d :: r => uptoBulk d + uptoBulkAll r
def uptoBulkEntries {H : Type} : List (Lit × DataW H) → Nat
  | [] => 0
  | x :: r => uptoBulkEntry x + uptoBulkEntries r
def uptoBulkEntry {H : Type} : Lit × DataW H → Nat
  | (.string bytes, d) => bytes.length + uptoBulk d + 1
  | (_, d) => uptoBulk d + 1
 end
def uptoSmall : (H : Type) → List (DataW H) → Bool := fun _ ds => decide (uptoBulkAll ds ≤ 1048576)
def OpenSpec.upto (s : _root_.Go.ChangeSpec) : _root_.Go.OpenSpec := { _root_.Go.OpenSpec.ofChange s with cond := some uptoSmall }

/-- 'laws.FnExactAreHolds', WHERE WHAT IT READS IS OF BULK AT MOST 1048576: true; the input reads as it did. -/
def fnExactAreHoldsUptoRow : OpenClaim := { program := "ytepakppnpnaffaa", sum := "23374db1d76a41eb99113c086f9bd9b82c4336272417534fac4a389947d68938", func := "loop.example/g01062/laws.FnExactAreHolds", spec := "fnExactAreHolds", apart := false, narrowed := true }
def FnExactAreHoldsUptoSaid : Prop := fnExactAreHoldsUptoRow.holds Try.pinned (OpenSpec.upto fnExactAreHoldsSpec)

/-- 'laws.FnExactCountOf', WHERE WHAT IT READS IS OF BULK AT MOST 1048576: true; the input reads as it did. -/
def fnExactCountOfUptoRow : OpenClaim := { program := "ytepakppnpnaffaa", sum := "23374db1d76a41eb99113c086f9bd9b82c4336272417534fac4a389947d68938", func := "loop.example/g01062/laws.FnExactCountOf", spec := "fnExactCountOf", unfollowed := true, recurses := true, apart := false, narrowed := true }
def FnExactCountOfUptoSaid : Prop := fnExactCountOfUptoRow.holds Try.pinned (OpenSpec.upto fnExactCountOfSpec)

/-- 'laws.FnExactDoublesOf', WHERE WHAT IT READS IS OF BULK AT MOST 1048576: true; the input reads as it did. -/
def fnExactDoublesOfUptoRow : OpenClaim := { program := "ytepakppnpnaffaa", sum := "23374db1d76a41eb99113c086f9bd9b82c4336272417534fac4a389947d68938", func := "loop.example/g01062/laws.FnExactDoublesOf", spec := "fnExactDoublesOf", apart := false, narrowed := true }
def FnExactDoublesOfUptoSaid : Prop := fnExactDoublesOfUptoRow.holds Try.pinned (OpenSpec.upto fnExactDoublesOfSpec)

/-- 'laws.FnExactOwnersOf', WHERE WHAT IT READS IS OF BULK AT MOST 1048576: true; the input reads as it did. -/
def fnExactOwnersOfUptoRow : OpenClaim := { program := "ytepakppnpnaffaa", sum := "23374db1d76a41eb99113c086f9bd9b82c4336272417534fac4a389947d68938", func := "loop.example/g01062/laws.FnExactOwnersOf", spec := "fnExactOwnersOf", apart := false, narrowed := true }
def FnExactOwnersOfUptoSaid : Prop := fnExactOwnersOfUptoRow.holds Try.pinned (OpenSpec.upto fnExactOwnersOfSpec)

/-- 'laws.FnExactSwapPairs', WHERE WHAT IT READS IS OF BULK AT MOST 1048576: true; the input reads as it did. -/
def fnExactSwapPairsUptoRow : OpenClaim := { program := "ytepakppnpnaffaa", sum := "23374db1d76a41eb99113c086f9bd9b82c4336272417534fac4a389947d68938", func := "loop.example/g01062/laws.FnExactSwapPairs", spec := "fnExactSwapPairs", unfollowed := true, recurses := true, apart := false, narrowed := true }
def FnExactSwapPairsUptoSaid : Prop := fnExactSwapPairsUptoRow.holds Try.pinned (OpenSpec.upto fnExactSwapPairsSpec)

/-- 'laws.FnExactBestPartner', WHERE WHAT IT READS IS OF BULK AT MOST 1048576: true; the input reads as it did. -/
def fnExactBestPartnerUptoRow : OpenClaim := { program := "ytepakppnpnaffaa", sum := "23374db1d76a41eb99113c086f9bd9b82c4336272417534fac4a389947d68938", func := "loop.example/g01062/laws.FnExactBestPartner", spec := "fnExactBestPartner", unfollowed := true, recurses := true, apart := false, narrowed := true }
def FnExactBestPartnerUptoSaid : Prop := fnExactBestPartnerUptoRow.holds Try.pinned (OpenSpec.upto fnExactBestPartnerSpec)

/-- 'laws.FnExactRareItems', WHERE WHAT IT READS IS OF BULK AT MOST 1048576: true; the input reads as it did. -/
def fnExactRareItemsUptoRow : OpenClaim := { program := "ytepakppnpnaffaa", sum := "23374db1d76a41eb99113c086f9bd9b82c4336272417534fac4a389947d68938", func := "loop.example/g01062/laws.FnExactRareItems", spec := "fnExactRareItems", apart := false, narrowed := true }
def FnExactRareItemsUptoSaid : Prop := fnExactRareItemsUptoRow.holds Try.pinned (OpenSpec.upto fnExactRareItemsSpec)

/-- 'laws.FnExactMissingUpTo', WHERE WHAT IT READS IS OF BULK AT MOST 1048576: true; the input reads as it did. -/
def fnExactMissingUpToUptoRow : OpenClaim := { program := "ytepakppnpnaffaa", sum := "23374db1d76a41eb99113c086f9bd9b82c4336272417534fac4a389947d68938", func := "loop.example/g01062/laws.FnExactMissingUpTo", spec := "fnExactMissingUpTo", unfollowed := true, recurses := true, apart := false, narrowed := true }
def FnExactMissingUpToUptoSaid : Prop := fnExactMissingUpToUptoRow.holds Try.pinned (OpenSpec.upto fnExactMissingUpToSpec)

/-- 'laws.FnExactCanGive', WHERE WHAT IT READS IS OF BULK AT MOST 1048576: true; the input reads as it did. -/
def fnExactCanGiveUptoRow : OpenClaim := { program := "ytepakppnpnaffaa", sum := "23374db1d76a41eb99113c086f9bd9b82c4336272417534fac4a389947d68938", func := "loop.example/g01062/laws.FnExactCanGive", spec := "fnExactCanGive", unfollowed := true, recurses := true, apart := false, narrowed := true }
def FnExactCanGiveUptoSaid : Prop := fnExactCanGiveUptoRow.holds Try.pinned (OpenSpec.upto fnExactCanGiveSpec)

/-- 'laws.FnExactGiveItem', WHERE WHAT IT READS IS OF BULK AT MOST 1048576: true; the input reads as it did. -/
def fnExactGiveItemUptoRow : OpenClaim := { program := "ytepakppnpnaffaa", sum := "23374db1d76a41eb99113c086f9bd9b82c4336272417534fac4a389947d68938", func := "loop.example/g01062/laws.FnExactGiveItem", spec := "fnExactGiveItem", inPlace := ["slices.overlaps[loop.example/g01062/impl.Hold]"], unfollowed := true, recurses := true, apart := false, narrowed := true }
def FnExactGiveItemUptoSaid : Prop := fnExactGiveItemUptoRow.holds Try.pinned (OpenSpec.upto fnExactGiveItemSpec)

/-- 'laws.FnExactDoSwaps', WHERE WHAT IT READS IS OF BULK AT MOST 1048576: true; the input reads as it did. -/
def fnExactDoSwapsUptoRow : OpenClaim := { program := "ytepakppnpnaffaa", sum := "23374db1d76a41eb99113c086f9bd9b82c4336272417534fac4a389947d68938", func := "loop.example/g01062/laws.FnExactDoSwaps", spec := "fnExactDoSwaps", inPlace := ["slices.overlaps[loop.example/g01062/impl.Hold]"], unfollowed := true, recurses := true, apart := false, narrowed := true }
def FnExactDoSwapsUptoSaid : Prop := fnExactDoSwapsUptoRow.holds Try.pinned (OpenSpec.upto fnExactDoSwapsSpec)

/-- 'laws.FnWants', WHERE WHAT IT READS IS OF BULK AT MOST 1048576: true; the input reads as it did. -/
def fnWantsUptoRow : OpenClaim := { program := "ytepakppnpnaffaa", sum := "23374db1d76a41eb99113c086f9bd9b82c4336272417534fac4a389947d68938", func := "loop.example/g01062/laws.FnWants", spec := "fnWants", inPlace := ["slices.overlaps[loop.example/g01062/impl.Hold]"], unfollowed := true, recurses := true, apart := false, narrowed := true }
def FnWantsUptoSaid : Prop := fnWantsUptoRow.holds Try.pinned (OpenSpec.upto fnWantsSpec)

end Rows
end Go.Proofs.Ytepakppnpnaffaa
