/-
  No cell of these rows narrows 'for every input' (looked for: loops, veiled, ifaces, maps, wideKeys, modest, calm, conditions, laid).
  DERIVED. THE GIVEN ROWS OF THIS SEAT. 14 by the template 'for every input the law returns true; each argument reads behind the call as it read before'; 0 by the template 'total and deterministic' (their statements: YtopppkafbbfobaaTotals.lean).
  GIVEN WITH THE SEED: the statements are not yours to turn. If you find one false, say at which input.
  Laid BY PROGRAM, IN A SANDBOX (cutbox-rows.mjs): the forced cells as the released guide's own fill.sh prints them over the translation bbffdfe40a31c6be… (all of the seat's roots in one cut). By AI agents, Wed Nov 11 2026. No macro, syntax, notation, axiom, sorry.
-/
import Derived.Test.YtopppkafbbfobaaChecked
import GoSem.Claim
import GoSem.ClaimJoined
import GoSem.ClaimMapViews
import Derived.JoinedTies
import Derived.KernelRfl
namespace Go.Proofs.Ytopppkafbbfobaa
/- THE CELL 'sum', in the pinned program and in every row, IS THE sha256 OF THE DUMP (.gsa) THAT YtopppkafbbfobaaProg.lean LOADS. Nothing in Lean hashes anything: it is a label: what it is worth is what the hold of that sum in a sandbox is worth. -/
noncomputable def Try.pinned : Pinned := { name := "ytopppkafbbfobaa", sum := "bbffdfe40a31c6be05ddd3fd70ead958149b4ade8aa657cd176448d3c67f5462", checked := Try.checked }
namespace Rows
def none {H : Type} : Left H := { results := [], args := [] }

/-- 'splicerylaw01.WireEncodeMatchesSpec': WHATEVER THE INPUT: true; the input reads as it did. -/
def wireEncodeMatchesSpecSpec : ChangeSpec := { name := "wireEncodeMatchesSpec", fn := fun _ => fun
  | [d1, d2, d3, d4, d5] => { results := [.lit (.bool true)], args := [d1, d2, d3, d4, d5] }
  | _ => none }
def wireEncodeMatchesSpecRow : OpenClaim := { program := "ytopppkafbbfobaa", sum := "bbffdfe40a31c6be05ddd3fd70ead958149b4ade8aa657cd176448d3c67f5462", func := "splicery/splicerylaw01.WireEncodeMatchesSpec", spec := "wireEncodeMatchesSpec", unfollowed := true, recurses := true, apart := false }
def WireEncodeMatchesSpecSaid : Prop := wireEncodeMatchesSpecRow.holds Try.pinned (OpenSpec.ofChange wireEncodeMatchesSpecSpec)

/-- ITS FALSE NEIGHBOUR: 'it returns false'. Refute it at one input. -/
def wireEncodeMatchesSpecWrong : ChangeSpec := { name := "wireEncodeMatchesSpec", fn := fun _ => fun
  | [d1, d2, d3, d4, d5] => { results := [.lit (.bool false)], args := [d1, d2, d3, d4, d5] }
  | _ => none }
def WireEncodeMatchesSpecWrongFalsely : Prop := wireEncodeMatchesSpecRow.holds Try.pinned (OpenSpec.ofChange wireEncodeMatchesSpecWrong)

/-- 'splicerylaw01.WireDecodeMatchesSpec': WHATEVER THE INPUT: true; the input reads as it did. -/
def wireDecodeMatchesSpecSpec : ChangeSpec := { name := "wireDecodeMatchesSpec", fn := fun _ => fun
  | [d] => { results := [.lit (.bool true)], args := [d] }
  | _ => none }
def wireDecodeMatchesSpecRow : OpenClaim := { program := "ytopppkafbbfobaa", sum := "bbffdfe40a31c6be05ddd3fd70ead958149b4ade8aa657cd176448d3c67f5462", func := "splicery/splicerylaw01.WireDecodeMatchesSpec", spec := "wireDecodeMatchesSpec", unfollowed := true, recurses := true, apart := false }
def WireDecodeMatchesSpecSaid : Prop := wireDecodeMatchesSpecRow.holds Try.pinned (OpenSpec.ofChange wireDecodeMatchesSpecSpec)

/-- ITS FALSE NEIGHBOUR: 'it returns false'. Refute it at one input. -/
def wireDecodeMatchesSpecWrong : ChangeSpec := { name := "wireDecodeMatchesSpec", fn := fun _ => fun
  | [d] => { results := [.lit (.bool false)], args := [d] }
  | _ => none }
def WireDecodeMatchesSpecWrongFalsely : Prop := wireDecodeMatchesSpecRow.holds Try.pinned (OpenSpec.ofChange wireDecodeMatchesSpecWrong)

/-- 'splicerylaw01.WireOrder': WHATEVER THE INPUT: true; the input reads as it did. -/
def wireOrderSpec : ChangeSpec := { name := "wireOrder", fn := fun _ => fun
  | [d1, d2] => { results := [.lit (.bool true)], args := [d1, d2] }
  | _ => none }
def wireOrderRow : OpenClaim := { program := "ytopppkafbbfobaa", sum := "bbffdfe40a31c6be05ddd3fd70ead958149b4ade8aa657cd176448d3c67f5462", func := "splicery/splicerylaw01.WireOrder", spec := "wireOrder", unfollowed := true, recurses := true, apart := false }
def WireOrderSaid : Prop := wireOrderRow.holds Try.pinned (OpenSpec.ofChange wireOrderSpec)

/-- ITS FALSE NEIGHBOUR: 'it returns false'. Refute it at one input. -/
def wireOrderWrong : ChangeSpec := { name := "wireOrder", fn := fun _ => fun
  | [d1, d2] => { results := [.lit (.bool false)], args := [d1, d2] }
  | _ => none }
def WireOrderWrongFalsely : Prop := wireOrderRow.holds Try.pinned (OpenSpec.ofChange wireOrderWrong)

/-- 'splicerylaw31.LinkDetects': WHATEVER THE INPUT: true; the input reads as it did. -/
def linkDetectsSpec : ChangeSpec := { name := "linkDetects", fn := fun _ => fun
  | [d1, d2, d3, d4] => { results := [.lit (.bool true)], args := [d1, d2, d3, d4] }
  | _ => none }
def linkDetectsRow : OpenClaim := { program := "ytopppkafbbfobaa", sum := "bbffdfe40a31c6be05ddd3fd70ead958149b4ade8aa657cd176448d3c67f5462", func := "splicery/splicerylaw31.LinkDetects", spec := "linkDetects", unfollowed := true, recurses := true, apart := false }
def LinkDetectsSaid : Prop := linkDetectsRow.holds Try.pinned (OpenSpec.ofChange linkDetectsSpec)

/-- ITS FALSE NEIGHBOUR: 'it returns false'. Refute it at one input. -/
def linkDetectsWrong : ChangeSpec := { name := "linkDetects", fn := fun _ => fun
  | [d1, d2, d3, d4] => { results := [.lit (.bool false)], args := [d1, d2, d3, d4] }
  | _ => none }
def LinkDetectsWrongFalsely : Prop := linkDetectsRow.holds Try.pinned (OpenSpec.ofChange linkDetectsWrong)

/-- 'splicerylaw31.LinkWindow': WHATEVER THE INPUT: true; the input reads as it did. -/
def linkWindowSpec : ChangeSpec := { name := "linkWindow", fn := fun _ => fun
  | [d1, d2, d3, d4] => { results := [.lit (.bool true)], args := [d1, d2, d3, d4] }
  | _ => none }
def linkWindowRow : OpenClaim := { program := "ytopppkafbbfobaa", sum := "bbffdfe40a31c6be05ddd3fd70ead958149b4ade8aa657cd176448d3c67f5462", func := "splicery/splicerylaw31.LinkWindow", spec := "linkWindow", unfollowed := true, recurses := true, apart := false }
def LinkWindowSaid : Prop := linkWindowRow.holds Try.pinned (OpenSpec.ofChange linkWindowSpec)

/-- ITS FALSE NEIGHBOUR: 'it returns false'. Refute it at one input. -/
def linkWindowWrong : ChangeSpec := { name := "linkWindow", fn := fun _ => fun
  | [d1, d2, d3, d4] => { results := [.lit (.bool false)], args := [d1, d2, d3, d4] }
  | _ => none }
def LinkWindowWrongFalsely : Prop := linkWindowRow.holds Try.pinned (OpenSpec.ofChange linkWindowWrong)

/-- 'splicerylaw01.WireIntRoundTrip': WHATEVER THE INPUT: true; the input reads as it did. -/
def wireIntRoundTripSpec : ChangeSpec := { name := "wireIntRoundTrip", fn := fun _ => fun
  | [d1, d2] => { results := [.lit (.bool true)], args := [d1, d2] }
  | _ => none }
def wireIntRoundTripRow : OpenClaim := { program := "ytopppkafbbfobaa", sum := "bbffdfe40a31c6be05ddd3fd70ead958149b4ade8aa657cd176448d3c67f5462", func := "splicery/splicerylaw01.WireIntRoundTrip", spec := "wireIntRoundTrip", unfollowed := true, recurses := true, apart := false }
def WireIntRoundTripSaid : Prop := wireIntRoundTripRow.holds Try.pinned (OpenSpec.ofChange wireIntRoundTripSpec)

/-- ITS FALSE NEIGHBOUR: 'it returns false'. Refute it at one input. -/
def wireIntRoundTripWrong : ChangeSpec := { name := "wireIntRoundTrip", fn := fun _ => fun
  | [d1, d2] => { results := [.lit (.bool false)], args := [d1, d2] }
  | _ => none }
def WireIntRoundTripWrongFalsely : Prop := wireIntRoundTripRow.holds Try.pinned (OpenSpec.ofChange wireIntRoundTripWrong)

/-- 'splicerylaw01.WireCanonical': WHATEVER THE INPUT: true; the input reads as it did. -/
def wireCanonicalSpec : ChangeSpec := { name := "wireCanonical", fn := fun _ => fun
  | [d] => { results := [.lit (.bool true)], args := [d] }
  | _ => none }
def wireCanonicalRow : OpenClaim := { program := "ytopppkafbbfobaa", sum := "bbffdfe40a31c6be05ddd3fd70ead958149b4ade8aa657cd176448d3c67f5462", func := "splicery/splicerylaw01.WireCanonical", spec := "wireCanonical", unfollowed := true, recurses := true, apart := false }
def WireCanonicalSaid : Prop := wireCanonicalRow.holds Try.pinned (OpenSpec.ofChange wireCanonicalSpec)

/-- ITS FALSE NEIGHBOUR: 'it returns false'. Refute it at one input. -/
def wireCanonicalWrong : ChangeSpec := { name := "wireCanonical", fn := fun _ => fun
  | [d] => { results := [.lit (.bool false)], args := [d] }
  | _ => none }
def WireCanonicalWrongFalsely : Prop := wireCanonicalRow.holds Try.pinned (OpenSpec.ofChange wireCanonicalWrong)

/-- 'splicerylaw01.WireListRoundTrip': WHATEVER THE INPUT: true; the input reads as it did. -/
def wireListRoundTripSpec : ChangeSpec := { name := "wireListRoundTrip", fn := fun _ => fun
  | [d1, d2, d3, d4, d5] => { results := [.lit (.bool true)], args := [d1, d2, d3, d4, d5] }
  | _ => none }
def wireListRoundTripRow : OpenClaim := { program := "ytopppkafbbfobaa", sum := "bbffdfe40a31c6be05ddd3fd70ead958149b4ade8aa657cd176448d3c67f5462", func := "splicery/splicerylaw01.WireListRoundTrip", spec := "wireListRoundTrip", unfollowed := true, recurses := true, apart := false }
def WireListRoundTripSaid : Prop := wireListRoundTripRow.holds Try.pinned (OpenSpec.ofChange wireListRoundTripSpec)

/-- ITS FALSE NEIGHBOUR: 'it returns false'. Refute it at one input. -/
def wireListRoundTripWrong : ChangeSpec := { name := "wireListRoundTrip", fn := fun _ => fun
  | [d1, d2, d3, d4, d5] => { results := [.lit (.bool false)], args := [d1, d2, d3, d4, d5] }
  | _ => none }
def WireListRoundTripWrongFalsely : Prop := wireListRoundTripRow.holds Try.pinned (OpenSpec.ofChange wireListRoundTripWrong)

/-- 'splicerylaw01.WireTruncated': WHATEVER THE INPUT: true; the input reads as it did. -/
def wireTruncatedSpec : ChangeSpec := { name := "wireTruncated", fn := fun _ => fun
  | [d1, d2, d3, d4, d5] => { results := [.lit (.bool true)], args := [d1, d2, d3, d4, d5] }
  | _ => none }
def wireTruncatedRow : OpenClaim := { program := "ytopppkafbbfobaa", sum := "bbffdfe40a31c6be05ddd3fd70ead958149b4ade8aa657cd176448d3c67f5462", func := "splicery/splicerylaw01.WireTruncated", spec := "wireTruncated", unfollowed := true, recurses := true, apart := false }
def WireTruncatedSaid : Prop := wireTruncatedRow.holds Try.pinned (OpenSpec.ofChange wireTruncatedSpec)

/-- ITS FALSE NEIGHBOUR: 'it returns false'. Refute it at one input. -/
def wireTruncatedWrong : ChangeSpec := { name := "wireTruncated", fn := fun _ => fun
  | [d1, d2, d3, d4, d5] => { results := [.lit (.bool false)], args := [d1, d2, d3, d4, d5] }
  | _ => none }
def WireTruncatedWrongFalsely : Prop := wireTruncatedRow.holds Try.pinned (OpenSpec.ofChange wireTruncatedWrong)

/-- 'splicerylaw01.WireConcat': WHATEVER THE INPUT: true; the input reads as it did. -/
def wireConcatSpec : ChangeSpec := { name := "wireConcat", fn := fun _ => fun
  | [d1, d2] => { results := [.lit (.bool true)], args := [d1, d2] }
  | _ => none }
def wireConcatRow : OpenClaim := { program := "ytopppkafbbfobaa", sum := "bbffdfe40a31c6be05ddd3fd70ead958149b4ade8aa657cd176448d3c67f5462", func := "splicery/splicerylaw01.WireConcat", spec := "wireConcat", unfollowed := true, recurses := true, apart := false }
def WireConcatSaid : Prop := wireConcatRow.holds Try.pinned (OpenSpec.ofChange wireConcatSpec)

/-- ITS FALSE NEIGHBOUR: 'it returns false'. Refute it at one input. -/
def wireConcatWrong : ChangeSpec := { name := "wireConcat", fn := fun _ => fun
  | [d1, d2] => { results := [.lit (.bool false)], args := [d1, d2] }
  | _ => none }
def WireConcatWrongFalsely : Prop := wireConcatRow.holds Try.pinned (OpenSpec.ofChange wireConcatWrong)

/-- 'splicerylaw31.LinkRuns': WHATEVER THE INPUT: true; the input reads as it did. -/
def linkRunsSpec : ChangeSpec := { name := "linkRuns", fn := fun _ => fun
  | [d1, d2, d3] => { results := [.lit (.bool true)], args := [d1, d2, d3] }
  | _ => none }
def linkRunsRow : OpenClaim := { program := "ytopppkafbbfobaa", sum := "bbffdfe40a31c6be05ddd3fd70ead958149b4ade8aa657cd176448d3c67f5462", func := "splicery/splicerylaw31.LinkRuns", spec := "linkRuns", unfollowed := true, recurses := true, apart := false }
def LinkRunsSaid : Prop := linkRunsRow.holds Try.pinned (OpenSpec.ofChange linkRunsSpec)

/-- ITS FALSE NEIGHBOUR: 'it returns false'. Refute it at one input. -/
def linkRunsWrong : ChangeSpec := { name := "linkRuns", fn := fun _ => fun
  | [d1, d2, d3] => { results := [.lit (.bool false)], args := [d1, d2, d3] }
  | _ => none }
def LinkRunsWrongFalsely : Prop := linkRunsRow.holds Try.pinned (OpenSpec.ofChange linkRunsWrong)

/-- 'splicerylaw31.LinkSeals': WHATEVER THE INPUT: true; the input reads as it did. -/
def linkSealsSpec : ChangeSpec := { name := "linkSeals", fn := fun _ => fun
  | [d1, d2, d3, d4, d5] => { results := [.lit (.bool true)], args := [d1, d2, d3, d4, d5] }
  | _ => none }
def linkSealsRow : OpenClaim := { program := "ytopppkafbbfobaa", sum := "bbffdfe40a31c6be05ddd3fd70ead958149b4ade8aa657cd176448d3c67f5462", func := "splicery/splicerylaw31.LinkSeals", spec := "linkSeals", unfollowed := true, recurses := true, apart := false }
def LinkSealsSaid : Prop := linkSealsRow.holds Try.pinned (OpenSpec.ofChange linkSealsSpec)

/-- ITS FALSE NEIGHBOUR: 'it returns false'. Refute it at one input. -/
def linkSealsWrong : ChangeSpec := { name := "linkSeals", fn := fun _ => fun
  | [d1, d2, d3, d4, d5] => { results := [.lit (.bool false)], args := [d1, d2, d3, d4, d5] }
  | _ => none }
def LinkSealsWrongFalsely : Prop := linkSealsRow.holds Try.pinned (OpenSpec.ofChange linkSealsWrong)

/-- 'splicerylaw31.LinkOrder': WHATEVER THE INPUT: true; the input reads as it did. -/
def linkOrderSpec : ChangeSpec := { name := "linkOrder", fn := fun _ => fun
  | [d1, d2, d3] => { results := [.lit (.bool true)], args := [d1, d2, d3] }
  | _ => none }
def linkOrderRow : OpenClaim := { program := "ytopppkafbbfobaa", sum := "bbffdfe40a31c6be05ddd3fd70ead958149b4ade8aa657cd176448d3c67f5462", func := "splicery/splicerylaw31.LinkOrder", spec := "linkOrder", unfollowed := true, recurses := true, apart := false }
def LinkOrderSaid : Prop := linkOrderRow.holds Try.pinned (OpenSpec.ofChange linkOrderSpec)

/-- ITS FALSE NEIGHBOUR: 'it returns false'. Refute it at one input. -/
def linkOrderWrong : ChangeSpec := { name := "linkOrder", fn := fun _ => fun
  | [d1, d2, d3] => { results := [.lit (.bool false)], args := [d1, d2, d3] }
  | _ => none }
def LinkOrderWrongFalsely : Prop := linkOrderRow.holds Try.pinned (OpenSpec.ofChange linkOrderWrong)

/-- 'splicerylaw31.LinkProgress': WHATEVER THE INPUT: true; the input reads as it did. -/
def linkProgressSpec : ChangeSpec := { name := "linkProgress", fn := fun _ => fun
  | [d1, d2, d3, d4, d5] => { results := [.lit (.bool true)], args := [d1, d2, d3, d4, d5] }
  | _ => none }
def linkProgressRow : OpenClaim := { program := "ytopppkafbbfobaa", sum := "bbffdfe40a31c6be05ddd3fd70ead958149b4ade8aa657cd176448d3c67f5462", func := "splicery/splicerylaw31.LinkProgress", spec := "linkProgress", unfollowed := true, recurses := true, apart := false }
def LinkProgressSaid : Prop := linkProgressRow.holds Try.pinned (OpenSpec.ofChange linkProgressSpec)

/-- ITS FALSE NEIGHBOUR: 'it returns false'. Refute it at one input. -/
def linkProgressWrong : ChangeSpec := { name := "linkProgress", fn := fun _ => fun
  | [d1, d2, d3, d4, d5] => { results := [.lit (.bool false)], args := [d1, d2, d3, d4, d5] }
  | _ => none }
def LinkProgressWrongFalsely : Prop := linkProgressRow.holds Try.pinned (OpenSpec.ofChange linkProgressWrong)

/- THE SECOND FORM. 'bulk': how many values and letters a reading holds, each counted each time it is reached (what is shared counts as often as it is met; a slice's spare places count too). A statement '..UptoSaid' is the law's where the arguments, and the package variables that the reading takes, are together of bulk at most 1048576: NARROWER than '..Said'. Prove '..Said' where nothing that the law and all that it calls make is longer than what came in: it says more and counts as full. Else prove '..UptoSaid'. A law counts once. -/
mutual
def uptoBulk {H : Type} : DataW H → Nat
  | .lit (.string bytes) => bytes.length + 1
  | .lit _ => 1
  | .nil => 1
  | .ptr d => uptoBulk d + 1
  | .slice elems spare => uptoBulkAll elems + uptoBulkAll spare + 1
  | .agg parts => uptoBulkAll parts + 1
  | .iface _ d => uptoBulk d + 1
  | .map entries => uptoBulkEntries entries + 1
  | .held _ => 1
def uptoBulkAll {H : Type} : List (DataW H) → Nat
  | [] => 0
  | d :: r => uptoBulk d + uptoBulkAll r
def uptoBulkEntries {H : Type} : List (Lit × DataW H) → Nat
  | [] => 0
  | x :: r => uptoBulkEntry x + uptoBulkEntries r
def uptoBulkEntry {H : Type} : Lit × DataW H → Nat
  | (.string bytes, d) => bytes.length + uptoBulk d + 1
  | (_, d) => uptoBulk d + 1
 end
def uptoSmall : (H : Type) → List (DataW H) → Bool := fun _ ds => decide (uptoBulkAll ds ≤ 1048576)
def OpenSpec.upto (s : _root_.Go.ChangeSpec) : _root_.Go.OpenSpec := { _root_.Go.OpenSpec.ofChange s with cond := some uptoSmall }

/-- 'splicerylaw01.WireEncodeMatchesSpec', WHERE WHAT IT READS IS OF BULK AT MOST 1048576: true; the input reads as it did. -/
def wireEncodeMatchesSpecUptoRow : OpenClaim := { program := "ytopppkafbbfobaa", sum := "bbffdfe40a31c6be05ddd3fd70ead958149b4ade8aa657cd176448d3c67f5462", func := "splicery/splicerylaw01.WireEncodeMatchesSpec", spec := "wireEncodeMatchesSpec", unfollowed := true, recurses := true, apart := false, narrowed := true }
def WireEncodeMatchesSpecUptoSaid : Prop := wireEncodeMatchesSpecUptoRow.holds Try.pinned (OpenSpec.upto wireEncodeMatchesSpecSpec)

/-- 'splicerylaw01.WireDecodeMatchesSpec', WHERE WHAT IT READS IS OF BULK AT MOST 1048576: true; the input reads as it did. -/
def wireDecodeMatchesSpecUptoRow : OpenClaim := { program := "ytopppkafbbfobaa", sum := "bbffdfe40a31c6be05ddd3fd70ead958149b4ade8aa657cd176448d3c67f5462", func := "splicery/splicerylaw01.WireDecodeMatchesSpec", spec := "wireDecodeMatchesSpec", unfollowed := true, recurses := true, apart := false, narrowed := true }
def WireDecodeMatchesSpecUptoSaid : Prop := wireDecodeMatchesSpecUptoRow.holds Try.pinned (OpenSpec.upto wireDecodeMatchesSpecSpec)

/-- 'splicerylaw01.WireOrder', WHERE WHAT IT READS IS OF BULK AT MOST 1048576: true; the input reads as it did. -/
def wireOrderUptoRow : OpenClaim := { program := "ytopppkafbbfobaa", sum := "bbffdfe40a31c6be05ddd3fd70ead958149b4ade8aa657cd176448d3c67f5462", func := "splicery/splicerylaw01.WireOrder", spec := "wireOrder", unfollowed := true, recurses := true, apart := false, narrowed := true }
def WireOrderUptoSaid : Prop := wireOrderUptoRow.holds Try.pinned (OpenSpec.upto wireOrderSpec)

/-- 'splicerylaw31.LinkDetects', WHERE WHAT IT READS IS OF BULK AT MOST 1048576: true; the input reads as it did. -/
def linkDetectsUptoRow : OpenClaim := { program := "ytopppkafbbfobaa", sum := "bbffdfe40a31c6be05ddd3fd70ead958149b4ade8aa657cd176448d3c67f5462", func := "splicery/splicerylaw31.LinkDetects", spec := "linkDetects", unfollowed := true, recurses := true, apart := false, narrowed := true }
def LinkDetectsUptoSaid : Prop := linkDetectsUptoRow.holds Try.pinned (OpenSpec.upto linkDetectsSpec)

/-- 'splicerylaw31.LinkWindow', WHERE WHAT IT READS IS OF BULK AT MOST 1048576: true; the input reads as it did. -/
def linkWindowUptoRow : OpenClaim := { program := "ytopppkafbbfobaa", sum := "bbffdfe40a31c6be05ddd3fd70ead958149b4ade8aa657cd176448d3c67f5462", func := "splicery/splicerylaw31.LinkWindow", spec := "linkWindow", unfollowed := true, recurses := true, apart := false, narrowed := true }
def LinkWindowUptoSaid : Prop := linkWindowUptoRow.holds Try.pinned (OpenSpec.upto linkWindowSpec)

/-- 'splicerylaw01.WireIntRoundTrip', WHERE WHAT IT READS IS OF BULK AT MOST 1048576: true; the input reads as it did. -/
def wireIntRoundTripUptoRow : OpenClaim := { program := "ytopppkafbbfobaa", sum := "bbffdfe40a31c6be05ddd3fd70ead958149b4ade8aa657cd176448d3c67f5462", func := "splicery/splicerylaw01.WireIntRoundTrip", spec := "wireIntRoundTrip", unfollowed := true, recurses := true, apart := false, narrowed := true }
def WireIntRoundTripUptoSaid : Prop := wireIntRoundTripUptoRow.holds Try.pinned (OpenSpec.upto wireIntRoundTripSpec)

/-- 'splicerylaw01.WireCanonical', WHERE WHAT IT READS IS OF BULK AT MOST 1048576: true; the input reads as it did. -/
def wireCanonicalUptoRow : OpenClaim := { program := "ytopppkafbbfobaa", sum := "bbffdfe40a31c6be05ddd3fd70ead958149b4ade8aa657cd176448d3c67f5462", func := "splicery/splicerylaw01.WireCanonical", spec := "wireCanonical", unfollowed := true, recurses := true, apart := false, narrowed := true }
def WireCanonicalUptoSaid : Prop := wireCanonicalUptoRow.holds Try.pinned (OpenSpec.upto wireCanonicalSpec)

/-- 'splicerylaw01.WireListRoundTrip', WHERE WHAT IT READS IS OF BULK AT MOST 1048576: true; the input reads as it did. -/
def wireListRoundTripUptoRow : OpenClaim := { program := "ytopppkafbbfobaa", sum := "bbffdfe40a31c6be05ddd3fd70ead958149b4ade8aa657cd176448d3c67f5462", func := "splicery/splicerylaw01.WireListRoundTrip", spec := "wireListRoundTrip", unfollowed := true, recurses := true, apart := false, narrowed := true }
def WireListRoundTripUptoSaid : Prop := wireListRoundTripUptoRow.holds Try.pinned (OpenSpec.upto wireListRoundTripSpec)

/-- 'splicerylaw01.WireTruncated', WHERE WHAT IT READS IS OF BULK AT MOST 1048576: true; the input reads as it did. -/
def wireTruncatedUptoRow : OpenClaim := { program := "ytopppkafbbfobaa", sum := "bbffdfe40a31c6be05ddd3fd70ead958149b4ade8aa657cd176448d3c67f5462", func := "splicery/splicerylaw01.WireTruncated", spec := "wireTruncated", unfollowed := true, recurses := true, apart := false, narrowed := true }
def WireTruncatedUptoSaid : Prop := wireTruncatedUptoRow.holds Try.pinned (OpenSpec.upto wireTruncatedSpec)

/-- 'splicerylaw01.WireConcat', WHERE WHAT IT READS IS OF BULK AT MOST 1048576: true; the input reads as it did. -/
def wireConcatUptoRow : OpenClaim := { program := "ytopppkafbbfobaa", sum := "bbffdfe40a31c6be05ddd3fd70ead958149b4ade8aa657cd176448d3c67f5462", func := "splicery/splicerylaw01.WireConcat", spec := "wireConcat", unfollowed := true, recurses := true, apart := false, narrowed := true }
def WireConcatUptoSaid : Prop := wireConcatUptoRow.holds Try.pinned (OpenSpec.upto wireConcatSpec)

/-- 'splicerylaw31.LinkRuns', WHERE WHAT IT READS IS OF BULK AT MOST 1048576: true; the input reads as it did. -/
def linkRunsUptoRow : OpenClaim := { program := "ytopppkafbbfobaa", sum := "bbffdfe40a31c6be05ddd3fd70ead958149b4ade8aa657cd176448d3c67f5462", func := "splicery/splicerylaw31.LinkRuns", spec := "linkRuns", unfollowed := true, recurses := true, apart := false, narrowed := true }
def LinkRunsUptoSaid : Prop := linkRunsUptoRow.holds Try.pinned (OpenSpec.upto linkRunsSpec)

/-- 'splicerylaw31.LinkSeals', WHERE WHAT IT READS IS OF BULK AT MOST 1048576: true; the input reads as it did. -/
def linkSealsUptoRow : OpenClaim := { program := "ytopppkafbbfobaa", sum := "bbffdfe40a31c6be05ddd3fd70ead958149b4ade8aa657cd176448d3c67f5462", func := "splicery/splicerylaw31.LinkSeals", spec := "linkSeals", unfollowed := true, recurses := true, apart := false, narrowed := true }
def LinkSealsUptoSaid : Prop := linkSealsUptoRow.holds Try.pinned (OpenSpec.upto linkSealsSpec)

/-- 'splicerylaw31.LinkOrder', WHERE WHAT IT READS IS OF BULK AT MOST 1048576: true; the input reads as it did. -/
def linkOrderUptoRow : OpenClaim := { program := "ytopppkafbbfobaa", sum := "bbffdfe40a31c6be05ddd3fd70ead958149b4ade8aa657cd176448d3c67f5462", func := "splicery/splicerylaw31.LinkOrder", spec := "linkOrder", unfollowed := true, recurses := true, apart := false, narrowed := true }
def LinkOrderUptoSaid : Prop := linkOrderUptoRow.holds Try.pinned (OpenSpec.upto linkOrderSpec)

/-- 'splicerylaw31.LinkProgress', WHERE WHAT IT READS IS OF BULK AT MOST 1048576: true; the input reads as it did. -/
def linkProgressUptoRow : OpenClaim := { program := "ytopppkafbbfobaa", sum := "bbffdfe40a31c6be05ddd3fd70ead958149b4ade8aa657cd176448d3c67f5462", func := "splicery/splicerylaw31.LinkProgress", spec := "linkProgress", unfollowed := true, recurses := true, apart := false, narrowed := true }
def LinkProgressUptoSaid : Prop := linkProgressUptoRow.holds Try.pinned (OpenSpec.upto linkProgressSpec)

end Rows
end Go.Proofs.Ytopppkafbbfobaa
