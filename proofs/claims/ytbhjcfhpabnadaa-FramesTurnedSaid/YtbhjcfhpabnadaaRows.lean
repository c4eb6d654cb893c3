/-
  No cell of these rows narrows 'for every input' (looked for: loops, veiled, ifaces, maps, wideKeys, modest, calm, conditions, laid).
  DERIVED. THE GIVEN ROWS OF THIS SEAT. 14 by the template 'for every input the law returns true; each argument reads behind the call as it read before'; 0 by the template 'total and deterministic' (their statements: YtbhjcfhpabnadaaTotals.lean).
  GIVEN WITH THE SEED: the statements are not yours to turn. If you find one false, say at which input.
  Laid BY PROGRAM, IN A SANDBOX (cutbox-rows.mjs): the forced cells as the released guide's own fill.sh prints them over the translation db86a192e5522ad7… (all of the seat's roots in one cut). By AI agents, Wed Nov 11 2026. No macro, syntax, notation, axiom, sorry.
-/
import Derived.Test.YtbhjcfhpabnadaaChecked
import GoSem.Claim
import GoSem.ClaimJoined
import GoSem.ClaimMapViews
import Derived.JoinedTies
import Derived.KernelRfl
namespace Go.Proofs.Ytbhjcfhpabnadaa
/- THE CELL 'sum', in the pinned program and in every row, IS THE sha256 OF THE DUMP (.gsa) THAT YtbhjcfhpabnadaaProg.lean LOADS. Nothing in Lean hashes anything: it is a label: what it is worth is what the hold of that sum in a sandbox is worth. -/
noncomputable def Try.pinned : Pinned := { name := "ytbhjcfhpabnadaa", sum := "db86a192e5522ad7da99ad0b74d3a6cff1ac958853abb04dd77b78ac61c336ed", checked := Try.checked }
namespace Rows
def none {H : Type} : Left H := { results := [], args := [] }

/-- 'turnpikelaw01.SumReads': WHATEVER THE INPUT: true; the input reads as it did. -/
def sumReadsSpec : ChangeSpec := { name := "sumReads", fn := fun _ => fun
  | [d] => { results := [.lit (.bool true)], args := [d] }
  | _ => none }
def sumReadsRow : OpenClaim := { program := "ytbhjcfhpabnadaa", sum := "db86a192e5522ad7da99ad0b74d3a6cff1ac958853abb04dd77b78ac61c336ed", func := "turnpike/turnpikelaw01.SumReads", spec := "sumReads", apart := false }
def SumReadsSaid : Prop := sumReadsRow.holds Try.pinned (OpenSpec.ofChange sumReadsSpec)

/-- ITS FALSE NEIGHBOUR: 'it returns false'. Refute it at one input. -/
def sumReadsWrong : ChangeSpec := { name := "sumReads", fn := fun _ => fun
  | [d] => { results := [.lit (.bool false)], args := [d] }
  | _ => none }
def SumReadsWrongFalsely : Prop := sumReadsRow.holds Try.pinned (OpenSpec.ofChange sumReadsWrong)

/-- 'turnpikelaw01.SumFrames': WHATEVER THE INPUT: true; the input reads as it did. -/
def sumFramesSpec : ChangeSpec := { name := "sumFrames", fn := fun _ => fun
  | [d1, d2] => { results := [.lit (.bool true)], args := [d1, d2] }
  | _ => none }
def sumFramesRow : OpenClaim := { program := "ytbhjcfhpabnadaa", sum := "db86a192e5522ad7da99ad0b74d3a6cff1ac958853abb04dd77b78ac61c336ed", func := "turnpike/turnpikelaw01.SumFrames", spec := "sumFrames", apart := false }
def SumFramesSaid : Prop := sumFramesRow.holds Try.pinned (OpenSpec.ofChange sumFramesSpec)

/-- ITS FALSE NEIGHBOUR: 'it returns false'. Refute it at one input. -/
def sumFramesWrong : ChangeSpec := { name := "sumFrames", fn := fun _ => fun
  | [d1, d2] => { results := [.lit (.bool false)], args := [d1, d2] }
  | _ => none }
def SumFramesWrongFalsely : Prop := sumFramesRow.holds Try.pinned (OpenSpec.ofChange sumFramesWrong)

/-- 'turnpikelaw01.SumScans': WHATEVER THE INPUT: true; the input reads as it did. -/
def sumScansSpec : ChangeSpec := { name := "sumScans", fn := fun _ => fun
  | [d1, d2] => { results := [.lit (.bool true)], args := [d1, d2] }
  | _ => none }
def sumScansRow : OpenClaim := { program := "ytbhjcfhpabnadaa", sum := "db86a192e5522ad7da99ad0b74d3a6cff1ac958853abb04dd77b78ac61c336ed", func := "turnpike/turnpikelaw01.SumScans", spec := "sumScans", unfollowed := true, recurses := true, apart := false }
def SumScansSaid : Prop := sumScansRow.holds Try.pinned (OpenSpec.ofChange sumScansSpec)

/-- ITS FALSE NEIGHBOUR: 'it returns false'. Refute it at one input. -/
def sumScansWrong : ChangeSpec := { name := "sumScans", fn := fun _ => fun
  | [d1, d2] => { results := [.lit (.bool false)], args := [d1, d2] }
  | _ => none }
def SumScansWrongFalsely : Prop := sumScansRow.holds Try.pinned (OpenSpec.ofChange sumScansWrong)

/-- 'turnpikelaw01.SumParts': WHATEVER THE INPUT: true; the input reads as it did. -/
def sumPartsSpec : ChangeSpec := { name := "sumParts", fn := fun _ => fun
  | [d1, d2, d3] => { results := [.lit (.bool true)], args := [d1, d2, d3] }
  | _ => none }
def sumPartsRow : OpenClaim := { program := "ytbhjcfhpabnadaa", sum := "db86a192e5522ad7da99ad0b74d3a6cff1ac958853abb04dd77b78ac61c336ed", func := "turnpike/turnpikelaw01.SumParts", spec := "sumParts", apart := false }
def SumPartsSaid : Prop := sumPartsRow.holds Try.pinned (OpenSpec.ofChange sumPartsSpec)

/-- ITS FALSE NEIGHBOUR: 'it returns false'. Refute it at one input. -/
def sumPartsWrong : ChangeSpec := { name := "sumParts", fn := fun _ => fun
  | [d1, d2, d3] => { results := [.lit (.bool false)], args := [d1, d2, d3] }
  | _ => none }
def SumPartsWrongFalsely : Prop := sumPartsRow.holds Try.pinned (OpenSpec.ofChange sumPartsWrong)

/-- 'turnpikelaw01.SumCut': WHATEVER THE INPUT: true; the input reads as it did. -/
def sumCutSpec : ChangeSpec := { name := "sumCut", fn := fun _ => fun
  | [d1, d2, d3] => { results := [.lit (.bool true)], args := [d1, d2, d3] }
  | _ => none }
def sumCutRow : OpenClaim := { program := "ytbhjcfhpabnadaa", sum := "db86a192e5522ad7da99ad0b74d3a6cff1ac958853abb04dd77b78ac61c336ed", func := "turnpike/turnpikelaw01.SumCut", spec := "sumCut", unfollowed := true, recurses := true, apart := false }
def SumCutSaid : Prop := sumCutRow.holds Try.pinned (OpenSpec.ofChange sumCutSpec)

/-- ITS FALSE NEIGHBOUR: 'it returns false'. Refute it at one input. -/
def sumCutWrong : ChangeSpec := { name := "sumCut", fn := fun _ => fun
  | [d1, d2, d3] => { results := [.lit (.bool false)], args := [d1, d2, d3] }
  | _ => none }
def SumCutWrongFalsely : Prop := sumCutRow.holds Try.pinned (OpenSpec.ofChange sumCutWrong)

/-- 'turnpikelaw01.SumTurned': WHATEVER THE INPUT: true; the input reads as it did. -/
def sumTurnedSpec : ChangeSpec := { name := "sumTurned", fn := fun _ => fun
  | [d] => { results := [.lit (.bool true)], args := [d] }
  | _ => none }
def sumTurnedRow : OpenClaim := { program := "ytbhjcfhpabnadaa", sum := "db86a192e5522ad7da99ad0b74d3a6cff1ac958853abb04dd77b78ac61c336ed", func := "turnpike/turnpikelaw01.SumTurned", spec := "sumTurned", unfollowed := true, recurses := true, apart := false }
def SumTurnedSaid : Prop := sumTurnedRow.holds Try.pinned (OpenSpec.ofChange sumTurnedSpec)

/-- ITS FALSE NEIGHBOUR: 'it returns false'. Refute it at one input. -/
def sumTurnedWrong : ChangeSpec := { name := "sumTurned", fn := fun _ => fun
  | [d] => { results := [.lit (.bool false)], args := [d] }
  | _ => none }
def SumTurnedWrongFalsely : Prop := sumTurnedRow.holds Try.pinned (OpenSpec.ofChange sumTurnedWrong)

/-- 'turnpikelaw01.SumOwn': WHATEVER THE INPUT: true; the input reads as it did. -/
def sumOwnSpec : ChangeSpec := { name := "sumOwn", fn := fun _ => fun
  | [d1, d2] => { results := [.lit (.bool true)], args := [d1, d2] }
  | _ => none }
def sumOwnRow : OpenClaim := { program := "ytbhjcfhpabnadaa", sum := "db86a192e5522ad7da99ad0b74d3a6cff1ac958853abb04dd77b78ac61c336ed", func := "turnpike/turnpikelaw01.SumOwn", spec := "sumOwn", unfollowed := true, recurses := true, apart := false }
def SumOwnSaid : Prop := sumOwnRow.holds Try.pinned (OpenSpec.ofChange sumOwnSpec)

/-- ITS FALSE NEIGHBOUR: 'it returns false'. Refute it at one input. -/
def sumOwnWrong : ChangeSpec := { name := "sumOwn", fn := fun _ => fun
  | [d1, d2] => { results := [.lit (.bool false)], args := [d1, d2] }
  | _ => none }
def SumOwnWrongFalsely : Prop := sumOwnRow.holds Try.pinned (OpenSpec.ofChange sumOwnWrong)

/-- 'turnpikelaw19.FramesWrites': WHATEVER THE INPUT: true; the input reads as it did. -/
def framesWritesSpec : ChangeSpec := { name := "framesWrites", fn := fun _ => fun
  | [d] => { results := [.lit (.bool true)], args := [d] }
  | _ => none }
def framesWritesRow : OpenClaim := { program := "ytbhjcfhpabnadaa", sum := "db86a192e5522ad7da99ad0b74d3a6cff1ac958853abb04dd77b78ac61c336ed", func := "turnpike/turnpikelaw19.FramesWrites", spec := "framesWrites", apart := false }
def FramesWritesSaid : Prop := framesWritesRow.holds Try.pinned (OpenSpec.ofChange framesWritesSpec)

/-- ITS FALSE NEIGHBOUR: 'it returns false'. Refute it at one input. -/
def framesWritesWrong : ChangeSpec := { name := "framesWrites", fn := fun _ => fun
  | [d] => { results := [.lit (.bool false)], args := [d] }
  | _ => none }
def FramesWritesWrongFalsely : Prop := framesWritesRow.holds Try.pinned (OpenSpec.ofChange framesWritesWrong)

/-- 'turnpikelaw19.FramesReads': WHATEVER THE INPUT: true; the input reads as it did. -/
def framesReadsSpec : ChangeSpec := { name := "framesReads", fn := fun _ => fun
  | [d] => { results := [.lit (.bool true)], args := [d] }
  | _ => none }
def framesReadsRow : OpenClaim := { program := "ytbhjcfhpabnadaa", sum := "db86a192e5522ad7da99ad0b74d3a6cff1ac958853abb04dd77b78ac61c336ed", func := "turnpike/turnpikelaw19.FramesReads", spec := "framesReads", apart := false }
def FramesReadsSaid : Prop := framesReadsRow.holds Try.pinned (OpenSpec.ofChange framesReadsSpec)

/-- ITS FALSE NEIGHBOUR: 'it returns false'. Refute it at one input. -/
def framesReadsWrong : ChangeSpec := { name := "framesReads", fn := fun _ => fun
  | [d] => { results := [.lit (.bool false)], args := [d] }
  | _ => none }
def FramesReadsWrongFalsely : Prop := framesReadsRow.holds Try.pinned (OpenSpec.ofChange framesReadsWrong)

/-- 'turnpikelaw19.FramesFeeds': WHATEVER THE INPUT: true; the input reads as it did. -/
def framesFeedsSpec : ChangeSpec := { name := "framesFeeds", fn := fun _ => fun
  | [d1, d2] => { results := [.lit (.bool true)], args := [d1, d2] }
  | _ => none }
def framesFeedsRow : OpenClaim := { program := "ytbhjcfhpabnadaa", sum := "db86a192e5522ad7da99ad0b74d3a6cff1ac958853abb04dd77b78ac61c336ed", func := "turnpike/turnpikelaw19.FramesFeeds", spec := "framesFeeds", apart := false }
def FramesFeedsSaid : Prop := framesFeedsRow.holds Try.pinned (OpenSpec.ofChange framesFeedsSpec)

/-- ITS FALSE NEIGHBOUR: 'it returns false'. Refute it at one input. -/
def framesFeedsWrong : ChangeSpec := { name := "framesFeeds", fn := fun _ => fun
  | [d1, d2] => { results := [.lit (.bool false)], args := [d1, d2] }
  | _ => none }
def FramesFeedsWrongFalsely : Prop := framesFeedsRow.holds Try.pinned (OpenSpec.ofChange framesFeedsWrong)

/-- 'turnpikelaw19.FramesBack': WHATEVER THE INPUT: true; the input reads as it did. -/
def framesBackSpec : ChangeSpec := { name := "framesBack", fn := fun _ => fun
  | [d1, d2, d3] => { results := [.lit (.bool true)], args := [d1, d2, d3] }
  | _ => none }
def framesBackRow : OpenClaim := { program := "ytbhjcfhpabnadaa", sum := "db86a192e5522ad7da99ad0b74d3a6cff1ac958853abb04dd77b78ac61c336ed", func := "turnpike/turnpikelaw19.FramesBack", spec := "framesBack", apart := false }
def FramesBackSaid : Prop := framesBackRow.holds Try.pinned (OpenSpec.ofChange framesBackSpec)

/-- ITS FALSE NEIGHBOUR: 'it returns false'. Refute it at one input. -/
def framesBackWrong : ChangeSpec := { name := "framesBack", fn := fun _ => fun
  | [d1, d2, d3] => { results := [.lit (.bool false)], args := [d1, d2, d3] }
  | _ => none }
def FramesBackWrongFalsely : Prop := framesBackRow.holds Try.pinned (OpenSpec.ofChange framesBackWrong)

/-- 'turnpikelaw19.FramesOwn': WHATEVER THE INPUT: true; the input reads as it did. -/
def framesOwnSpec : ChangeSpec := { name := "framesOwn", fn := fun _ => fun
  | [d1, d2] => { results := [.lit (.bool true)], args := [d1, d2] }
  | _ => none }
def framesOwnRow : OpenClaim := { program := "ytbhjcfhpabnadaa", sum := "db86a192e5522ad7da99ad0b74d3a6cff1ac958853abb04dd77b78ac61c336ed", func := "turnpike/turnpikelaw19.FramesOwn", spec := "framesOwn", apart := false }
def FramesOwnSaid : Prop := framesOwnRow.holds Try.pinned (OpenSpec.ofChange framesOwnSpec)

/-- ITS FALSE NEIGHBOUR: 'it returns false'. Refute it at one input. -/
def framesOwnWrong : ChangeSpec := { name := "framesOwn", fn := fun _ => fun
  | [d1, d2] => { results := [.lit (.bool false)], args := [d1, d2] }
  | _ => none }
def FramesOwnWrongFalsely : Prop := framesOwnRow.holds Try.pinned (OpenSpec.ofChange framesOwnWrong)

/-- 'turnpikelaw19.FramesPieces': WHATEVER THE INPUT: true; the input reads as it did. -/
def framesPiecesSpec : ChangeSpec := { name := "framesPieces", fn := fun _ => fun
  | [d1, d2, d3] => { results := [.lit (.bool true)], args := [d1, d2, d3] }
  | _ => none }
def framesPiecesRow : OpenClaim := { program := "ytbhjcfhpabnadaa", sum := "db86a192e5522ad7da99ad0b74d3a6cff1ac958853abb04dd77b78ac61c336ed", func := "turnpike/turnpikelaw19.FramesPieces", spec := "framesPieces", apart := false }
def FramesPiecesSaid : Prop := framesPiecesRow.holds Try.pinned (OpenSpec.ofChange framesPiecesSpec)

/-- ITS FALSE NEIGHBOUR: 'it returns false'. Refute it at one input. -/
def framesPiecesWrong : ChangeSpec := { name := "framesPieces", fn := fun _ => fun
  | [d1, d2, d3] => { results := [.lit (.bool false)], args := [d1, d2, d3] }
  | _ => none }
def FramesPiecesWrongFalsely : Prop := framesPiecesRow.holds Try.pinned (OpenSpec.ofChange framesPiecesWrong)

/-- 'turnpikelaw19.FramesTurned': WHATEVER THE INPUT: true; the input reads as it did. -/
def framesTurnedSpec : ChangeSpec := { name := "framesTurned", fn := fun _ => fun
  | [d] => { results := [.lit (.bool true)], args := [d] }
  | _ => none }
def framesTurnedRow : OpenClaim := { program := "ytbhjcfhpabnadaa", sum := "db86a192e5522ad7da99ad0b74d3a6cff1ac958853abb04dd77b78ac61c336ed", func := "turnpike/turnpikelaw19.FramesTurned", spec := "framesTurned", apart := false }
def FramesTurnedSaid : Prop := framesTurnedRow.holds Try.pinned (OpenSpec.ofChange framesTurnedSpec)

/-- ITS FALSE NEIGHBOUR: 'it returns false'. Refute it at one input. -/
def framesTurnedWrong : ChangeSpec := { name := "framesTurned", fn := fun _ => fun
  | [d] => { results := [.lit (.bool false)], args := [d] }
  | _ => none }
def FramesTurnedWrongFalsely : Prop := framesTurnedRow.holds Try.pinned (OpenSpec.ofChange framesTurnedWrong)

/- THE SECOND FORM. 'bulk': how many values and letters a reading holds, each counted each time it is reached (what is shared counts as often as it is met; a slice's spare places count too). A statement '..UptoSaid' is the law's where the arguments, and the package variables that the reading takes, are together of bulk at most 1048576: NARROWER than '..Said'. Prove '..Said' where nothing that the law and all that it calls make is longer than what came in: it says more and counts as full. Else prove '..UptoSaid'. A law counts once. -/
mutual
def uptoBulk {H : Type} : DataW H → Nat
  | .lit (.string bytes) => bytes.length + 1
  | .lit _ => 1
  | .nil => 1
  | .ptr d => uptoBulk d + 1
  | .slice elems spare => uptoBulkAll elems + uptoBulkAll spare + 1
  | .agg parts => uptoBulkAll parts + 1
  | .iface _ d => uptoBulk d + 1
  | .map entries => uptoBulkEntries entries + 1
  | .held _ => 1
def uptoBulkAll {H : Type} : List (DataW H) → Nat
  | [] => 0
  | d :: r => uptoBulk d + uptoBulkAll r
def uptoBulkEntries {H : Type} : List (Lit × DataW H) → Nat
  | [] => 0
  | x :: r => uptoBulkEntry x + uptoBulkEntries r
def uptoBulkEntry {H : Type} : Lit × DataW H → Nat
  | (.string bytes, d) => bytes.length + uptoBulk d + 1
  | (_, d) => uptoBulk d + 1
 end
def uptoSmall : (H : Type) → List (DataW H) → Bool := fun _ ds => decide (uptoBulkAll ds ≤ 1048576)
def OpenSpec.upto (s : _root_.Go.ChangeSpec) : _root_.Go.OpenSpec := { _root_.Go.OpenSpec.ofChange s with cond := some uptoSmall }

/-- 'turnpikelaw01.SumReads', WHERE WHAT IT READS IS OF BULK AT MOST 1048576: true; the input reads as it did. -/
def sumReadsUptoRow : OpenClaim := { program := "ytbhjcfhpabnadaa", sum := "db86a192e5522ad7da99ad0b74d3a6cff1ac958853abb04dd77b78ac61c336ed", func := "turnpike/turnpikelaw01.SumReads", spec := "sumReads", apart := false, narrowed := true }
def SumReadsUptoSaid : Prop := sumReadsUptoRow.holds Try.pinned (OpenSpec.upto sumReadsSpec)

/-- 'turnpikelaw01.SumFrames', WHERE WHAT IT READS IS OF BULK AT MOST 1048576: true; the input reads as it did. -/
def sumFramesUptoRow : OpenClaim := { program := "ytbhjcfhpabnadaa", sum := "db86a192e5522ad7da99ad0b74d3a6cff1ac958853abb04dd77b78ac61c336ed", func := "turnpike/turnpikelaw01.SumFrames", spec := "sumFrames", apart := false, narrowed := true }
def SumFramesUptoSaid : Prop := sumFramesUptoRow.holds Try.pinned (OpenSpec.upto sumFramesSpec)

/-- 'turnpikelaw01.SumScans', WHERE WHAT IT READS IS OF BULK AT MOST 1048576: true; the input reads as it did. -/
def sumScansUptoRow : OpenClaim := { program := "ytbhjcfhpabnadaa", sum := "db86a192e5522ad7da99ad0b74d3a6cff1ac958853abb04dd77b78ac61c336ed", func := "turnpike/turnpikelaw01.SumScans", spec := "sumScans", unfollowed := true, recurses := true, apart := false, narrowed := true }
def SumScansUptoSaid : Prop := sumScansUptoRow.holds Try.pinned (OpenSpec.upto sumScansSpec)

/-- 'turnpikelaw01.SumParts', WHERE WHAT IT READS IS OF BULK AT MOST 1048576: true; the input reads as it did. -/
def sumPartsUptoRow : OpenClaim := { program := "ytbhjcfhpabnadaa", sum := "db86a192e5522ad7da99ad0b74d3a6cff1ac958853abb04dd77b78ac61c336ed", func := "turnpike/turnpikelaw01.SumParts", spec := "sumParts", apart := false, narrowed := true }
def SumPartsUptoSaid : Prop := sumPartsUptoRow.holds Try.pinned (OpenSpec.upto sumPartsSpec)

/-- 'turnpikelaw01.SumCut', WHERE WHAT IT READS IS OF BULK AT MOST 1048576: true; the input reads as it did. -/
def sumCutUptoRow : OpenClaim := { program := "ytbhjcfhpabnadaa", sum := "db86a192e5522ad7da99ad0b74d3a6cff1ac958853abb04dd77b78ac61c336ed", func := "turnpike/turnpikelaw01.SumCut", spec := "sumCut", unfollowed := true, recurses := true, apart := false, narrowed := true }
def SumCutUptoSaid : Prop := sumCutUptoRow.holds Try.pinned (OpenSpec.upto sumCutSpec)

/-- 'turnpikelaw01.SumTurned', WHERE WHAT IT READS IS OF BULK AT MOST 1048576: true; the input reads as it did. -/
def sumTurnedUptoRow : OpenClaim := { program := "ytbhjcfhpabnadaa", sum := "db86a192e5522ad7da99ad0b74d3a6cff1ac958853abb04dd77b78ac61c336ed", func := "turnpike/turnpikelaw01.SumTurned", spec := "sumTurned", unfollowed := true, recurses := true, apart := false, narrowed := true }
def SumTurnedUptoSaid : Prop := sumTurnedUptoRow.holds Try.pinned (OpenSpec.upto sumTurnedSpec)

/-- 'turnpikelaw01.SumOwn', WHERE WHAT IT READS IS OF BULK AT MOST 1048576: true; the input reads as it did. -/
def sumOwnUptoRow : OpenClaim := { program := "ytbhjcfhpabnadaa", sum := "db86a192e5522ad7da99ad0b74d3a6cff1ac958853abb04dd77b78ac61c336ed", func := "turnpike/turnpikelaw01.SumOwn", spec := "sumOwn", unfollowed := true, recurses := true, apart := false, narrowed := true }
def SumOwnUptoSaid : Prop := sumOwnUptoRow.holds Try.pinned (OpenSpec.upto sumOwnSpec)

/-- 'turnpikelaw19.FramesWrites', WHERE WHAT IT READS IS OF BULK AT MOST 1048576: true; the input reads as it did. -/
def framesWritesUptoRow : OpenClaim := { program := "ytbhjcfhpabnadaa", sum := "db86a192e5522ad7da99ad0b74d3a6cff1ac958853abb04dd77b78ac61c336ed", func := "turnpike/turnpikelaw19.FramesWrites", spec := "framesWrites", apart := false, narrowed := true }
def FramesWritesUptoSaid : Prop := framesWritesUptoRow.holds Try.pinned (OpenSpec.upto framesWritesSpec)

/-- 'turnpikelaw19.FramesReads', WHERE WHAT IT READS IS OF BULK AT MOST 1048576: true; the input reads as it did. -/
def framesReadsUptoRow : OpenClaim := { program := "ytbhjcfhpabnadaa", sum := "db86a192e5522ad7da99ad0b74d3a6cff1ac958853abb04dd77b78ac61c336ed", func := "turnpike/turnpikelaw19.FramesReads", spec := "framesReads", apart := false, narrowed := true }
def FramesReadsUptoSaid : Prop := framesReadsUptoRow.holds Try.pinned (OpenSpec.upto framesReadsSpec)

/-- 'turnpikelaw19.FramesFeeds', WHERE WHAT IT READS IS OF BULK AT MOST 1048576: true; the input reads as it did. -/
def framesFeedsUptoRow : OpenClaim := { program := "ytbhjcfhpabnadaa", sum := "db86a192e5522ad7da99ad0b74d3a6cff1ac958853abb04dd77b78ac61c336ed", func := "turnpike/turnpikelaw19.FramesFeeds", spec := "framesFeeds", apart := false, narrowed := true }
def FramesFeedsUptoSaid : Prop := framesFeedsUptoRow.holds Try.pinned (OpenSpec.upto framesFeedsSpec)

/-- 'turnpikelaw19.FramesBack', WHERE WHAT IT READS IS OF BULK AT MOST 1048576: true; the input reads as it did. -/
def framesBackUptoRow : OpenClaim := { program := "ytbhjcfhpabnadaa", sum := "db86a192e5522ad7da99ad0b74d3a6cff1ac958853abb04dd77b78ac61c336ed", func := "turnpike/turnpikelaw19.FramesBack", spec := "framesBack", apart := false, narrowed := true }
def FramesBackUptoSaid : Prop := framesBackUptoRow.holds Try.pinned (OpenSpec.upto framesBackSpec)

/-- 'turnpikelaw19.FramesOwn', WHERE WHAT IT READS IS OF BULK AT MOST 1048576: true; the input reads as it did. -/
def framesOwnUptoRow : OpenClaim := { program := "ytbhjcfhpabnadaa", sum := "db86a192e5522ad7da99ad0b74d3a6cff1ac958853abb04dd77b78ac61c336ed", func := "turnpike/turnpikelaw19.FramesOwn", spec := "framesOwn", apart := false, narrowed := true }
def FramesOwnUptoSaid : Prop := framesOwnUptoRow.holds Try.pinned (OpenSpec.upto framesOwnSpec)

/-- 'turnpikelaw19.FramesPieces', WHERE WHAT IT READS IS OF BULK AT MOST 1048576: true; the input reads as it did. -/
def framesPiecesUptoRow : OpenClaim := { program := "ytbhjcfhpabnadaa", sum := "db86a192e5522ad7da99ad0b74d3a6cff1ac958853abb04dd77b78ac61c336ed", func := "turnpike/turnpikelaw19.FramesPieces", spec := "framesPieces", apart := false, narrowed := true }
def FramesPiecesUptoSaid : Prop := framesPiecesUptoRow.holds Try.pinned (OpenSpec.upto framesPiecesSpec)

/-- 'turnpikelaw19.FramesTurned', WHERE WHAT IT READS IS OF BULK AT MOST 1048576: true; the input reads as it did. -/
def framesTurnedUptoRow : OpenClaim := { program := "ytbhjcfhpabnadaa", sum := "db86a192e5522ad7da99ad0b74d3a6cff1ac958853abb04dd77b78ac61c336ed", func := "turnpike/turnpikelaw19.FramesTurned", spec := "framesTurned", apart := false, narrowed := true }
def FramesTurnedUptoSaid : Prop := framesTurnedUptoRow.holds Try.pinned (OpenSpec.upto framesTurnedSpec)

end Rows
end Go.Proofs.Ytbhjcfhpabnadaa
