/-
  No cell of these rows narrows 'for every input' (looked for: loops, veiled, ifaces, maps, wideKeys, modest, calm, conditions, laid).
  DERIVED. THE GIVEN ROWS OF THIS SEAT. 8 by the template 'for every input the law returns true; each argument reads behind the call as it read before'; 0 by the template 'total and deterministic' (their statements: YtfdbblandcnnjaaTotals.lean).
  GIVEN WITH THE SEED: the statements are not yours to turn. If you find one false, say at which input.
  Laid BY PROGRAM, IN A SANDBOX (cutbox-rows.mjs): the forced cells as the released guide's own fill.sh prints them over the translation 47926582583d6b24… (all of the seat's roots in one cut). By AI agents, Wed Nov 11 2026. No macro, syntax, notation, axiom, sorry.
-/
import Derived.Test.YtfdbblandcnnjaaChecked
import GoSem.Claim
import GoSem.ClaimJoined
import GoSem.ClaimMapViews
import Derived.JoinedTies
import Derived.KernelRfl
namespace Go.Proofs.Ytfdbblandcnnjaa
/- THE CELL 'sum', in the pinned program and in every row, IS THE sha256 OF THE DUMP (.gsa) THAT YtfdbblandcnnjaaProg.lean LOADS. Nothing in Lean hashes anything: it is a label: what it is worth is what the hold of that sum in a sandbox is worth. -/
noncomputable def Try.pinned : Pinned := { name := "ytfdbblandcnnjaa", sum := "47926582583d6b248e5c93592e809651fbddf3810806b46ed15d5eb218fad061", checked := Try.checked }
namespace Rows
def none {H : Type} : Left H := { results := [], args := [] }

/-- 'shunterlaw13.BumpPlaces': WHATEVER THE INPUT: true; the input reads as it did. -/
def bumpPlacesSpec : ChangeSpec := { name := "bumpPlaces", fn := fun _ => fun
  | [d1, d2, d3] => { results := [.lit (.bool true)], args := [d1, d2, d3] }
  | _ => none }
def bumpPlacesRow : OpenClaim := { program := "ytfdbblandcnnjaa", sum := "47926582583d6b248e5c93592e809651fbddf3810806b46ed15d5eb218fad061", func := "shunter/shunterlaw13.BumpPlaces", spec := "bumpPlaces", unfollowed := true, recurses := true, apart := false }
def BumpPlacesSaid : Prop := bumpPlacesRow.holds Try.pinned (OpenSpec.ofChange bumpPlacesSpec)

/-- ITS FALSE NEIGHBOUR: 'it returns false'. Refute it at one input. -/
def bumpPlacesWrong : ChangeSpec := { name := "bumpPlaces", fn := fun _ => fun
  | [d1, d2, d3] => { results := [.lit (.bool false)], args := [d1, d2, d3] }
  | _ => none }
def BumpPlacesWrongFalsely : Prop := bumpPlacesRow.holds Try.pinned (OpenSpec.ofChange bumpPlacesWrong)

/-- 'shunterlaw13.BumpMany': WHATEVER THE INPUT: true; the input reads as it did. -/
def bumpManySpec : ChangeSpec := { name := "bumpMany", fn := fun _ => fun
  | [d1, d2, d3] => { results := [.lit (.bool true)], args := [d1, d2, d3] }
  | _ => none }
def bumpManyRow : OpenClaim := { program := "ytfdbblandcnnjaa", sum := "47926582583d6b248e5c93592e809651fbddf3810806b46ed15d5eb218fad061", func := "shunter/shunterlaw13.BumpMany", spec := "bumpMany", unfollowed := true, recurses := true, apart := false }
def BumpManySaid : Prop := bumpManyRow.holds Try.pinned (OpenSpec.ofChange bumpManySpec)

/-- ITS FALSE NEIGHBOUR: 'it returns false'. Refute it at one input. -/
def bumpManyWrong : ChangeSpec := { name := "bumpMany", fn := fun _ => fun
  | [d1, d2, d3] => { results := [.lit (.bool false)], args := [d1, d2, d3] }
  | _ => none }
def BumpManyWrongFalsely : Prop := bumpManyRow.holds Try.pinned (OpenSpec.ofChange bumpManyWrong)

/-- 'shunterlaw13.BumpHalf': WHATEVER THE INPUT: true; the input reads as it did. -/
def bumpHalfSpec : ChangeSpec := { name := "bumpHalf", fn := fun _ => fun
  | [d1, d2, d3] => { results := [.lit (.bool true)], args := [d1, d2, d3] }
  | _ => none }
def bumpHalfRow : OpenClaim := { program := "ytfdbblandcnnjaa", sum := "47926582583d6b248e5c93592e809651fbddf3810806b46ed15d5eb218fad061", func := "shunter/shunterlaw13.BumpHalf", spec := "bumpHalf", unfollowed := true, recurses := true, apart := false }
def BumpHalfSaid : Prop := bumpHalfRow.holds Try.pinned (OpenSpec.ofChange bumpHalfSpec)

/-- ITS FALSE NEIGHBOUR: 'it returns false'. Refute it at one input. -/
def bumpHalfWrong : ChangeSpec := { name := "bumpHalf", fn := fun _ => fun
  | [d1, d2, d3] => { results := [.lit (.bool false)], args := [d1, d2, d3] }
  | _ => none }
def BumpHalfWrongFalsely : Prop := bumpHalfRow.holds Try.pinned (OpenSpec.ofChange bumpHalfWrong)

/-- 'shunterlaw13.BumpApart': WHATEVER THE INPUT: true; the input reads as it did. -/
def bumpApartSpec : ChangeSpec := { name := "bumpApart", fn := fun _ => fun
  | [d1, d2, d3] => { results := [.lit (.bool true)], args := [d1, d2, d3] }
  | _ => none }
def bumpApartRow : OpenClaim := { program := "ytfdbblandcnnjaa", sum := "47926582583d6b248e5c93592e809651fbddf3810806b46ed15d5eb218fad061", func := "shunter/shunterlaw13.BumpApart", spec := "bumpApart", unfollowed := true, recurses := true, apart := false }
def BumpApartSaid : Prop := bumpApartRow.holds Try.pinned (OpenSpec.ofChange bumpApartSpec)

/-- ITS FALSE NEIGHBOUR: 'it returns false'. Refute it at one input. -/
def bumpApartWrong : ChangeSpec := { name := "bumpApart", fn := fun _ => fun
  | [d1, d2, d3] => { results := [.lit (.bool false)], args := [d1, d2, d3] }
  | _ => none }
def BumpApartWrongFalsely : Prop := bumpApartRow.holds Try.pinned (OpenSpec.ofChange bumpApartWrong)

/-- 'shunterlaw13.BumpFew': WHATEVER THE INPUT: true; the input reads as it did. -/
def bumpFewSpec : ChangeSpec := { name := "bumpFew", fn := fun _ => fun
  | [d1, d2, d3] => { results := [.lit (.bool true)], args := [d1, d2, d3] }
  | _ => none }
def bumpFewRow : OpenClaim := { program := "ytfdbblandcnnjaa", sum := "47926582583d6b248e5c93592e809651fbddf3810806b46ed15d5eb218fad061", func := "shunter/shunterlaw13.BumpFew", spec := "bumpFew", unfollowed := true, recurses := true, apart := false }
def BumpFewSaid : Prop := bumpFewRow.holds Try.pinned (OpenSpec.ofChange bumpFewSpec)

/-- ITS FALSE NEIGHBOUR: 'it returns false'. Refute it at one input. -/
def bumpFewWrong : ChangeSpec := { name := "bumpFew", fn := fun _ => fun
  | [d1, d2, d3] => { results := [.lit (.bool false)], args := [d1, d2, d3] }
  | _ => none }
def BumpFewWrongFalsely : Prop := bumpFewRow.holds Try.pinned (OpenSpec.ofChange bumpFewWrong)

/-- 'shunterlaw13.BumpOwns': WHATEVER THE INPUT: true; the input reads as it did. -/
def bumpOwnsSpec : ChangeSpec := { name := "bumpOwns", fn := fun _ => fun
  | [d1, d2, d3] => { results := [.lit (.bool true)], args := [d1, d2, d3] }
  | _ => none }
def bumpOwnsRow : OpenClaim := { program := "ytfdbblandcnnjaa", sum := "47926582583d6b248e5c93592e809651fbddf3810806b46ed15d5eb218fad061", func := "shunter/shunterlaw13.BumpOwns", spec := "bumpOwns", unfollowed := true, recurses := true, apart := false }
def BumpOwnsSaid : Prop := bumpOwnsRow.holds Try.pinned (OpenSpec.ofChange bumpOwnsSpec)

/-- ITS FALSE NEIGHBOUR: 'it returns false'. Refute it at one input. -/
def bumpOwnsWrong : ChangeSpec := { name := "bumpOwns", fn := fun _ => fun
  | [d1, d2, d3] => { results := [.lit (.bool false)], args := [d1, d2, d3] }
  | _ => none }
def BumpOwnsWrongFalsely : Prop := bumpOwnsRow.holds Try.pinned (OpenSpec.ofChange bumpOwnsWrong)

/-- 'shunterlaw13.BumpKnown': WHATEVER THE INPUT: true; the input reads as it did. -/
def bumpKnownSpec : ChangeSpec := { name := "bumpKnown", fn := fun _ => fun
  | [] => { results := [.lit (.bool true)], args := [] }
  | _ => none }
def bumpKnownRow : OpenClaim := { program := "ytfdbblandcnnjaa", sum := "47926582583d6b248e5c93592e809651fbddf3810806b46ed15d5eb218fad061", func := "shunter/shunterlaw13.BumpKnown", spec := "bumpKnown", unfollowed := true, recurses := true, apart := false }
def BumpKnownSaid : Prop := bumpKnownRow.holds Try.pinned (OpenSpec.ofChange bumpKnownSpec)

/-- ITS FALSE NEIGHBOUR: 'it returns false'. Refute it at one input. -/
def bumpKnownWrong : ChangeSpec := { name := "bumpKnown", fn := fun _ => fun
  | [] => { results := [.lit (.bool false)], args := [] }
  | _ => none }
def BumpKnownWrongFalsely : Prop := bumpKnownRow.holds Try.pinned (OpenSpec.ofChange bumpKnownWrong)

/-- 'shunterlaw13.BumpChecks': WHATEVER THE INPUT: true; the input reads as it did. -/
def bumpChecksSpec : ChangeSpec := { name := "bumpChecks", fn := fun _ => fun
  | [d1, d2, d3] => { results := [.lit (.bool true)], args := [d1, d2, d3] }
  | _ => none }
def bumpChecksRow : OpenClaim := { program := "ytfdbblandcnnjaa", sum := "47926582583d6b248e5c93592e809651fbddf3810806b46ed15d5eb218fad061", func := "shunter/shunterlaw13.BumpChecks", spec := "bumpChecks", unfollowed := true, recurses := true, apart := false }
def BumpChecksSaid : Prop := bumpChecksRow.holds Try.pinned (OpenSpec.ofChange bumpChecksSpec)

/-- ITS FALSE NEIGHBOUR: 'it returns false'. Refute it at one input. -/
def bumpChecksWrong : ChangeSpec := { name := "bumpChecks", fn := fun _ => fun
  | [d1, d2, d3] => { results := [.lit (.bool false)], args := [d1, d2, d3] }
  | _ => none }
def BumpChecksWrongFalsely : Prop := bumpChecksRow.holds Try.pinned (OpenSpec.ofChange bumpChecksWrong)

/- THE SECOND FORM. 'bulk': how many values and letters a reading holds, each counted each time it is reached (what is shared counts as often as it is met; a slice's spare places count too). A statement '..UptoSaid' is the law's where the arguments, and the package variables that the reading takes, are together of bulk at most 1048576: NARROWER than '..Said'. Prove '..Said' where nothing that the law and all that it calls make is longer than what came in: it says more and counts as full. Else prove '..UptoSaid'. A law counts once. -/
mutual
def uptoBulk {H : Type} : DataW H → Nat
  | .lit (.string bytes) => bytes.length + 1
  | .lit _ => 1
  | .nil => 1
  | .ptr d => uptoBulk d + 1
  | .slice elems spare => uptoBulkAll elems + uptoBulkAll spare + 1
  | .agg parts => uptoBulkAll parts + 1
  | .iface _ d => uptoBulk d + 1
  | .map entries => uptoBulkEntries entries + 1
  | .held _ => 1
def uptoBulkAll {H : Type} : List (DataW H) → Nat
  | [] => 0
  | d :: r => uptoBulk d + uptoBulkAll r
def uptoBulkEntries {H : Type} : List (Lit × DataW H) → Nat
  | [] => 0
  | x :: r => uptoBulkEntry x + uptoBulkEntries r
def uptoBulkEntry {H : Type} : Lit × DataW H → Nat
  | (.string bytes, d) => bytes.length + uptoBulk d + 1
  | (_, d) => uptoBulk d + 1
 end
def uptoSmall : (H : Type) → List (DataW H) → Bool := fun _ ds => decide (uptoBulkAll ds ≤ 1048576)
def OpenSpec.upto (s : _root_.Go.ChangeSpec) : _root_.Go.OpenSpec := { _root_.Go.OpenSpec.ofChange s with cond := some uptoSmall }

/-- 'shunterlaw13.BumpPlaces', WHERE WHAT IT READS IS OF BULK AT MOST 1048576: true; the input reads as it did. -/
def bumpPlacesUptoRow : OpenClaim := { program := "ytfdbblandcnnjaa", sum := "47926582583d6b248e5c93592e809651fbddf3810806b46ed15d5eb218fad061", func := "shunter/shunterlaw13.BumpPlaces", spec := "bumpPlaces", unfollowed := true, recurses := true, apart := false, narrowed := true }
def BumpPlacesUptoSaid : Prop := bumpPlacesUptoRow.holds Try.pinned (OpenSpec.upto bumpPlacesSpec)

/-- 'shunterlaw13.BumpMany', WHERE WHAT IT READS IS OF BULK AT MOST 1048576: true; the input reads as it did. -/
def bumpManyUptoRow : OpenClaim := { program := "ytfdbblandcnnjaa", sum := "47926582583d6b248e5c93592e809651fbddf3810806b46ed15d5eb218fad061", func := "shunter/shunterlaw13.BumpMany", spec := "bumpMany", unfollowed := true, recurses := true, apart := false, narrowed := true }
def BumpManyUptoSaid : Prop := bumpManyUptoRow.holds Try.pinned (OpenSpec.upto bumpManySpec)

/-- 'shunterlaw13.BumpHalf', WHERE WHAT IT READS IS OF BULK AT MOST 1048576: true; the input reads as it did. -/
def bumpHalfUptoRow : OpenClaim := { program := "ytfdbblandcnnjaa", sum := "47926582583d6b248e5c93592e809651fbddf3810806b46ed15d5eb218fad061", func := "shunter/shunterlaw13.BumpHalf", spec := "bumpHalf", unfollowed := true, recurses := true, apart := false, narrowed := true }
def BumpHalfUptoSaid : Prop := bumpHalfUptoRow.holds Try.pinned (OpenSpec.upto bumpHalfSpec)

/-- 'shunterlaw13.BumpApart', WHERE WHAT IT READS IS OF BULK AT MOST 1048576: true; the input reads as it did. -/
def bumpApartUptoRow : OpenClaim := { program := "ytfdbblandcnnjaa", sum := "47926582583d6b248e5c93592e809651fbddf3810806b46ed15d5eb218fad061", func := "shunter/shunterlaw13.BumpApart", spec := "bumpApart", unfollowed := true, recurses := true, apart := false, narrowed := true }
def BumpApartUptoSaid : Prop := bumpApartUptoRow.holds Try.pinned (OpenSpec.upto bumpApartSpec)

/-- 'shunterlaw13.BumpFew', WHERE WHAT IT READS IS OF BULK AT MOST 1048576: true; the input reads as it did. -/
def bumpFewUptoRow : OpenClaim := { program := "ytfdbblandcnnjaa", sum := "47926582583d6b248e5c93592e809651fbddf3810806b46ed15d5eb218fad061", func := "shunter/shunterlaw13.BumpFew", spec := "bumpFew", unfollowed := true, recurses := true, apart := false, narrowed := true }
def BumpFewUptoSaid : Prop := bumpFewUptoRow.holds Try.pinned (OpenSpec.upto bumpFewSpec)

/-- 'shunterlaw13.BumpOwns', WHERE WHAT IT READS IS OF BULK AT MOST 1048576: true; the input reads as it did. -/
def bumpOwnsUptoRow : OpenClaim := { program := "ytfdbblandcnnjaa", sum := "47926582583d6b248e5c93592e809651fbddf3810806b46ed15d5eb218fad061", func := "shunter/shunterlaw13.BumpOwns", spec := "bumpOwns", unfollowed := true, recurses := true, apart := false, narrowed := true }
def BumpOwnsUptoSaid : Prop := bumpOwnsUptoRow.holds Try.pinned (OpenSpec.upto bumpOwnsSpec)

/-- 'shunterlaw13.BumpKnown', WHERE WHAT IT READS IS OF BULK AT MOST 1048576: true; the input reads as it did. -/
def bumpKnownUptoRow : OpenClaim := { program := "ytfdbblandcnnjaa", sum := "47926582583d6b248e5c93592e809651fbddf3810806b46ed15d5eb218fad061", func := "shunter/shunterlaw13.BumpKnown", spec := "bumpKnown", unfollowed := true, recurses := true, apart := false, narrowed := true }
def BumpKnownUptoSaid : Prop := bumpKnownUptoRow.holds Try.pinned (OpenSpec.upto bumpKnownSpec)

/-- 'shunterlaw13.BumpChecks', WHERE WHAT IT READS IS OF BULK AT MOST 1048576: true; the input reads as it did. -/
def bumpChecksUptoRow : OpenClaim := { program := "ytfdbblandcnnjaa", sum := "47926582583d6b248e5c93592e809651fbddf3810806b46ed15d5eb218fad061", func := "shunter/shunterlaw13.BumpChecks", spec := "bumpChecks", unfollowed := true, recurses := true, apart := false, narrowed := true }
def BumpChecksUptoSaid : Prop := bumpChecksUptoRow.holds Try.pinned (OpenSpec.upto bumpChecksSpec)

end Rows
end Go.Proofs.Ytfdbblandcnnjaa
