/-
  No cell of these rows narrows 'for every input' (looked for: loops, veiled, ifaces, maps, wideKeys, modest, calm, conditions, laid).
  DERIVED. THE GIVEN ROWS OF THIS SEAT. 7 by the template 'for every input the law returns true; each argument reads behind the call as it read before'; 0 by the template 'total and deterministic' (their statements: YtghglmgknjgjiaaTotals.lean).
  GIVEN WITH THE SEED: the statements are not yours to turn. If you find one false, say at which input.
  Laid BY PROGRAM, IN A SANDBOX (cutbox-rows.mjs): the forced cells as the released guide's own fill.sh prints them over the translation e9f883c30f0a6bf6… (all of the seat's roots in one cut). By AI agents, Wed Nov 11 2026. No macro, syntax, notation, axiom, sorry.
-/
import Derived.Test.YtghglmgknjgjiaaChecked
import GoSem.Claim
import GoSem.ClaimJoined
import GoSem.ClaimMapViews
import Derived.JoinedTies
import Derived.KernelRfl
namespace Go.Proofs.Ytghglmgknjgjiaa
/- THE CELL 'sum', in the pinned program and in every row, IS THE sha256 OF THE DUMP (.gsa) THAT YtghglmgknjgjiaaProg.lean LOADS. Nothing in Lean hashes anything: it is a label: what it is worth is what the hold of that sum in a sandbox is worth. -/
noncomputable def Try.pinned : Pinned := { name := "ytghglmgknjgjiaa", sum := "e9f883c30f0a6bf6ce710eba321318b54013f7639bc44ff394ccffe381854391", checked := Try.checked }
namespace Rows
def none {H : Type} : Left H := { results := [], args := [] }

/-- 'shunterlaw10.FramesBumps': WHATEVER THE INPUT: true; the input reads as it did. -/
def framesBumpsSpec : ChangeSpec := { name := "framesBumps", fn := fun _ => fun
  | [d1, d2, d3] => { results := [.lit (.bool true)], args := [d1, d2, d3] }
  | _ => none }
def framesBumpsRow : OpenClaim := { program := "ytghglmgknjgjiaa", sum := "e9f883c30f0a6bf6ce710eba321318b54013f7639bc44ff394ccffe381854391", func := "shunter/shunterlaw10.FramesBumps", spec := "framesBumps", unfollowed := true, recurses := true, apart := false }
def FramesBumpsSaid : Prop := framesBumpsRow.holds Try.pinned (OpenSpec.ofChange framesBumpsSpec)

/-- ITS FALSE NEIGHBOUR: 'it returns false'. Refute it at one input. -/
def framesBumpsWrong : ChangeSpec := { name := "framesBumps", fn := fun _ => fun
  | [d1, d2, d3] => { results := [.lit (.bool false)], args := [d1, d2, d3] }
  | _ => none }
def FramesBumpsWrongFalsely : Prop := framesBumpsRow.holds Try.pinned (OpenSpec.ofChange framesBumpsWrong)

/-- 'shunterlaw10.FramesLists': WHATEVER THE INPUT: true; the input reads as it did. -/
def framesListsSpec : ChangeSpec := { name := "framesLists", fn := fun _ => fun
  | [d1, d2] => { results := [.lit (.bool true)], args := [d1, d2] }
  | _ => none }
def framesListsRow : OpenClaim := { program := "ytghglmgknjgjiaa", sum := "e9f883c30f0a6bf6ce710eba321318b54013f7639bc44ff394ccffe381854391", func := "shunter/shunterlaw10.FramesLists", spec := "framesLists", unfollowed := true, recurses := true, apart := false }
def FramesListsSaid : Prop := framesListsRow.holds Try.pinned (OpenSpec.ofChange framesListsSpec)

/-- ITS FALSE NEIGHBOUR: 'it returns false'. Refute it at one input. -/
def framesListsWrong : ChangeSpec := { name := "framesLists", fn := fun _ => fun
  | [d1, d2] => { results := [.lit (.bool false)], args := [d1, d2] }
  | _ => none }
def FramesListsWrongFalsely : Prop := framesListsRow.holds Try.pinned (OpenSpec.ofChange framesListsWrong)

/-- 'shunterlaw10.FramesChanges': WHATEVER THE INPUT: true; the input reads as it did. -/
def framesChangesSpec : ChangeSpec := { name := "framesChanges", fn := fun _ => fun
  | [d1, d2, d3] => { results := [.lit (.bool true)], args := [d1, d2, d3] }
  | _ => none }
def framesChangesRow : OpenClaim := { program := "ytghglmgknjgjiaa", sum := "e9f883c30f0a6bf6ce710eba321318b54013f7639bc44ff394ccffe381854391", func := "shunter/shunterlaw10.FramesChanges", spec := "framesChanges", unfollowed := true, recurses := true, apart := false }
def FramesChangesSaid : Prop := framesChangesRow.holds Try.pinned (OpenSpec.ofChange framesChangesSpec)

/-- ITS FALSE NEIGHBOUR: 'it returns false'. Refute it at one input. -/
def framesChangesWrong : ChangeSpec := { name := "framesChanges", fn := fun _ => fun
  | [d1, d2, d3] => { results := [.lit (.bool false)], args := [d1, d2, d3] }
  | _ => none }
def FramesChangesWrongFalsely : Prop := framesChangesRow.holds Try.pinned (OpenSpec.ofChange framesChangesWrong)

/-- 'shunterlaw10.FramesTakes': WHATEVER THE INPUT: true; the input reads as it did. -/
def framesTakesSpec : ChangeSpec := { name := "framesTakes", fn := fun _ => fun
  | [d1, d2, d3] => { results := [.lit (.bool true)], args := [d1, d2, d3] }
  | _ => none }
def framesTakesRow : OpenClaim := { program := "ytghglmgknjgjiaa", sum := "e9f883c30f0a6bf6ce710eba321318b54013f7639bc44ff394ccffe381854391", func := "shunter/shunterlaw10.FramesTakes", spec := "framesTakes", unfollowed := true, recurses := true, apart := false }
def FramesTakesSaid : Prop := framesTakesRow.holds Try.pinned (OpenSpec.ofChange framesTakesSpec)

/-- ITS FALSE NEIGHBOUR: 'it returns false'. Refute it at one input. -/
def framesTakesWrong : ChangeSpec := { name := "framesTakes", fn := fun _ => fun
  | [d1, d2, d3] => { results := [.lit (.bool false)], args := [d1, d2, d3] }
  | _ => none }
def FramesTakesWrongFalsely : Prop := framesTakesRow.holds Try.pinned (OpenSpec.ofChange framesTakesWrong)

/-- 'shunterlaw10.FramesCars': WHATEVER THE INPUT: true; the input reads as it did. -/
def framesCarsSpec : ChangeSpec := { name := "framesCars", fn := fun _ => fun
  | [d1, d2, d3] => { results := [.lit (.bool true)], args := [d1, d2, d3] }
  | _ => none }
def framesCarsRow : OpenClaim := { program := "ytghglmgknjgjiaa", sum := "e9f883c30f0a6bf6ce710eba321318b54013f7639bc44ff394ccffe381854391", func := "shunter/shunterlaw10.FramesCars", spec := "framesCars", unfollowed := true, recurses := true, apart := false }
def FramesCarsSaid : Prop := framesCarsRow.holds Try.pinned (OpenSpec.ofChange framesCarsSpec)

/-- ITS FALSE NEIGHBOUR: 'it returns false'. Refute it at one input. -/
def framesCarsWrong : ChangeSpec := { name := "framesCars", fn := fun _ => fun
  | [d1, d2, d3] => { results := [.lit (.bool false)], args := [d1, d2, d3] }
  | _ => none }
def FramesCarsWrongFalsely : Prop := framesCarsRow.holds Try.pinned (OpenSpec.ofChange framesCarsWrong)

/-- 'shunterlaw10.FramesWords': WHATEVER THE INPUT: true; the input reads as it did. -/
def framesWordsSpec : ChangeSpec := { name := "framesWords", fn := fun _ => fun
  | [d1, d2] => { results := [.lit (.bool true)], args := [d1, d2] }
  | _ => none }
def framesWordsRow : OpenClaim := { program := "ytghglmgknjgjiaa", sum := "e9f883c30f0a6bf6ce710eba321318b54013f7639bc44ff394ccffe381854391", func := "shunter/shunterlaw10.FramesWords", spec := "framesWords", unfollowed := true, recurses := true, apart := false }
def FramesWordsSaid : Prop := framesWordsRow.holds Try.pinned (OpenSpec.ofChange framesWordsSpec)

/-- ITS FALSE NEIGHBOUR: 'it returns false'. Refute it at one input. -/
def framesWordsWrong : ChangeSpec := { name := "framesWords", fn := fun _ => fun
  | [d1, d2] => { results := [.lit (.bool false)], args := [d1, d2] }
  | _ => none }
def FramesWordsWrongFalsely : Prop := framesWordsRow.holds Try.pinned (OpenSpec.ofChange framesWordsWrong)

/-- 'shunterlaw10.FramesKnown': WHATEVER THE INPUT: true; the input reads as it did. -/
def framesKnownSpec : ChangeSpec := { name := "framesKnown", fn := fun _ => fun
  | [] => { results := [.lit (.bool true)], args := [] }
  | _ => none }
def framesKnownRow : OpenClaim := { program := "ytghglmgknjgjiaa", sum := "e9f883c30f0a6bf6ce710eba321318b54013f7639bc44ff394ccffe381854391", func := "shunter/shunterlaw10.FramesKnown", spec := "framesKnown", unfollowed := true, recurses := true, apart := false }
def FramesKnownSaid : Prop := framesKnownRow.holds Try.pinned (OpenSpec.ofChange framesKnownSpec)

/-- ITS FALSE NEIGHBOUR: 'it returns false'. Refute it at one input. -/
def framesKnownWrong : ChangeSpec := { name := "framesKnown", fn := fun _ => fun
  | [] => { results := [.lit (.bool false)], args := [] }
  | _ => none }
def FramesKnownWrongFalsely : Prop := framesKnownRow.holds Try.pinned (OpenSpec.ofChange framesKnownWrong)

/- THE SECOND FORM. 'bulk': how many values and letters a reading holds, each counted each time it is reached (what is shared counts as often as it is met; a slice's spare places count too). A statement '..UptoSaid' is the law's where the arguments, and the package variables that the reading takes, are together of bulk at most 1048576: NARROWER than '..Said'. Prove '..Said' where nothing that the law and all that it calls make is longer than what came in: it says more and counts as full. Else prove '..UptoSaid'. A law counts once. -/
mutual
def uptoBulk {H : Type} : DataW H → Nat
  | .lit (.string bytes) => bytes.length + 1
  | .lit _ => 1
  | .nil => 1
  | .ptr d => uptoBulk d + 1
  | .slice elems spare => uptoBulkAll elems + uptoBulkAll spare + 1
  | .agg parts => uptoBulkAll parts + 1
  | .iface _ d => uptoBulk d + 1
  | .map entries => uptoBulkEntries entries + 1
  | .held _ => 1
def uptoBulkAll {H : Type} : List (DataW H) → Nat
  | [] => 0
  | d :: r => uptoBulk d + uptoBulkAll r
def uptoBulkEntries {H : Type} : List (Lit × DataW H) → Nat
  | [] => 0
  | x :: r => uptoBulkEntry x + uptoBulkEntries r
def uptoBulkEntry {H : Type} : Lit × DataW H → Nat
  | (.string bytes, d) => bytes.length + uptoBulk d + 1
  | (_, d) => uptoBulk d + 1
 end
def uptoSmall : (H : Type) → List (DataW H) → Bool := fun _ ds => decide (uptoBulkAll ds ≤ 1048576)
def OpenSpec.upto (s : _root_.Go.ChangeSpec) : _root_.Go.OpenSpec := { _root_.Go.OpenSpec.ofChange s with cond := some uptoSmall }

/-- 'shunterlaw10.FramesBumps', WHERE WHAT IT READS IS OF BULK AT MOST 1048576: true; the input reads as it did. -/
def framesBumpsUptoRow : OpenClaim := { program := "ytghglmgknjgjiaa", sum := "e9f883c30f0a6bf6ce710eba321318b54013f7639bc44ff394ccffe381854391", func := "shunter/shunterlaw10.FramesBumps", spec := "framesBumps", unfollowed := true, recurses := true, apart := false, narrowed := true }
def FramesBumpsUptoSaid : Prop := framesBumpsUptoRow.holds Try.pinned (OpenSpec.upto framesBumpsSpec)

/-- 'shunterlaw10.FramesLists', WHERE WHAT IT READS IS OF BULK AT MOST 1048576: true; the input reads as it did. -/
def framesListsUptoRow : OpenClaim := { program := "ytghglmgknjgjiaa", sum := "e9f883c30f0a6bf6ce710eba321318b54013f7639bc44ff394ccffe381854391", func := "shunter/shunterlaw10.FramesLists", spec := "framesLists", unfollowed := true, recurses := true, apart := false, narrowed := true }
def FramesListsUptoSaid : Prop := framesListsUptoRow.holds Try.pinned (OpenSpec.upto framesListsSpec)

/-- 'shunterlaw10.FramesChanges', WHERE WHAT IT READS IS OF BULK AT MOST 1048576: true; the input reads as it did. -/
def framesChangesUptoRow : OpenClaim := { program := "ytghglmgknjgjiaa", sum := "e9f883c30f0a6bf6ce710eba321318b54013f7639bc44ff394ccffe381854391", func := "shunter/shunterlaw10.FramesChanges", spec := "framesChanges", unfollowed := true, recurses := true, apart := false, narrowed := true }
def FramesChangesUptoSaid : Prop := framesChangesUptoRow.holds Try.pinned (OpenSpec.upto framesChangesSpec)

/-- 'shunterlaw10.FramesTakes', WHERE WHAT IT READS IS OF BULK AT MOST 1048576: true; the input reads as it did. -/
def framesTakesUptoRow : OpenClaim := { program := "ytghglmgknjgjiaa", sum := "e9f883c30f0a6bf6ce710eba321318b54013f7639bc44ff394ccffe381854391", func := "shunter/shunterlaw10.FramesTakes", spec := "framesTakes", unfollowed := true, recurses := true, apart := false, narrowed := true }
def FramesTakesUptoSaid : Prop := framesTakesUptoRow.holds Try.pinned (OpenSpec.upto framesTakesSpec)

/-- 'shunterlaw10.FramesCars', WHERE WHAT IT READS IS OF BULK AT MOST 1048576: true; the input reads as it did. -/
def framesCarsUptoRow : OpenClaim := { program := "ytghglmgknjgjiaa", sum := "e9f883c30f0a6bf6ce710eba321318b54013f7639bc44ff394ccffe381854391", func := "shunter/shunterlaw10.FramesCars", spec := "framesCars", unfollowed := true, recurses := true, apart := false, narrowed := true }
def FramesCarsUptoSaid : Prop := framesCarsUptoRow.holds Try.pinned (OpenSpec.upto framesCarsSpec)

/-- 'shunterlaw10.FramesWords', WHERE WHAT IT READS IS OF BULK AT MOST 1048576: true; the input reads as it did. -/
def framesWordsUptoRow : OpenClaim := { program := "ytghglmgknjgjiaa", sum := "e9f883c30f0a6bf6ce710eba321318b54013f7639bc44ff394ccffe381854391", func := "shunter/shunterlaw10.FramesWords", spec := "framesWords", unfollowed := true, recurses := true, apart := false, narrowed := true }
def FramesWordsUptoSaid : Prop := framesWordsUptoRow.holds Try.pinned (OpenSpec.upto framesWordsSpec)

/-- 'shunterlaw10.FramesKnown', WHERE WHAT IT READS IS OF BULK AT MOST 1048576: true; the input reads as it did. -/
def framesKnownUptoRow : OpenClaim := { program := "ytghglmgknjgjiaa", sum := "e9f883c30f0a6bf6ce710eba321318b54013f7639bc44ff394ccffe381854391", func := "shunter/shunterlaw10.FramesKnown", spec := "framesKnown", unfollowed := true, recurses := true, apart := false, narrowed := true }
def FramesKnownUptoSaid : Prop := framesKnownUptoRow.holds Try.pinned (OpenSpec.upto framesKnownSpec)

end Rows
end Go.Proofs.Ytghglmgknjgjiaa
