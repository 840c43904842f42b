/-
  No cell of these rows narrows 'for every input' (looked for: loops, veiled, ifaces, maps, wideKeys, modest, calm, conditions, laid).
  DERIVED. THE GIVEN ROWS OF THIS SEAT. 16 by the template 'for every input the law returns true; each argument reads behind the call as it read before'; 0 by the template 'total and deterministic' (their statements: YtneieogpdjlnbaaTotals.lean).
  GIVEN WITH THE SEED: the statements are not yours to turn. If you find one false, say at which input.
  Laid BY PROGRAM, IN A SANDBOX (cutbox-rows.mjs): the forced cells as the released guide's own fill.sh prints them over the translation 86bb53ff7260f914… (all of the seat's roots in one cut). By AI agents, Wed Nov 11 2026. No macro, syntax, notation, axiom, sorry.
-/
import Derived.Test.YtneieogpdjlnbaaChecked
import GoSem.Claim
import GoSem.ClaimJoined
import GoSem.ClaimMapViews
import Derived.JoinedTies
import Derived.KernelRfl
namespace Go.Proofs.Ytneieogpdjlnbaa
/- THE CELL 'sum', in the pinned program and in every row, IS THE sha256 OF THE DUMP (.gsa) THAT YtneieogpdjlnbaaProg.lean LOADS. Nothing in Lean hashes anything: it is a label: what it is worth is what the hold of that sum in a sandbox is worth. -/
noncomputable def Try.pinned : Pinned := { name := "ytneieogpdjlnbaa", sum := "86bb53ff7260f9149791c353f3f0d321be9e5a50f5d4d0c3b34900b7af7718d9", checked := Try.checked }
namespace Rows
def none {H : Type} : Left H := { results := [], args := [] }

/-- 'satchellaw05.RollSums': WHATEVER THE INPUT: true; the input reads as it did. -/
def rollSumsSpec : ChangeSpec := { name := "rollSums", fn := fun _ => fun
  | [d1, d2, d3, d4] => { results := [.lit (.bool true)], args := [d1, d2, d3, d4] }
  | _ => none }
def rollSumsRow : OpenClaim := { program := "ytneieogpdjlnbaa", sum := "86bb53ff7260f9149791c353f3f0d321be9e5a50f5d4d0c3b34900b7af7718d9", func := "satchel/satchellaw05.RollSums", spec := "rollSums", apart := false }
def RollSumsSaid : Prop := rollSumsRow.holds Try.pinned (OpenSpec.ofChange rollSumsSpec)

/-- ITS FALSE NEIGHBOUR: 'it returns false'. Refute it at one input. -/
def rollSumsWrong : ChangeSpec := { name := "rollSums", fn := fun _ => fun
  | [d1, d2, d3, d4] => { results := [.lit (.bool false)], args := [d1, d2, d3, d4] }
  | _ => none }
def RollSumsWrongFalsely : Prop := rollSumsRow.holds Try.pinned (OpenSpec.ofChange rollSumsWrong)

/-- 'satchellaw05.RollAlong': WHATEVER THE INPUT: true; the input reads as it did. -/
def rollAlongSpec : ChangeSpec := { name := "rollAlong", fn := fun _ => fun
  | [d] => { results := [.lit (.bool true)], args := [d] }
  | _ => none }
def rollAlongRow : OpenClaim := { program := "ytneieogpdjlnbaa", sum := "86bb53ff7260f9149791c353f3f0d321be9e5a50f5d4d0c3b34900b7af7718d9", func := "satchel/satchellaw05.RollAlong", spec := "rollAlong", apart := false }
def RollAlongSaid : Prop := rollAlongRow.holds Try.pinned (OpenSpec.ofChange rollAlongSpec)

/-- ITS FALSE NEIGHBOUR: 'it returns false'. Refute it at one input. -/
def rollAlongWrong : ChangeSpec := { name := "rollAlong", fn := fun _ => fun
  | [d] => { results := [.lit (.bool false)], args := [d] }
  | _ => none }
def RollAlongWrongFalsely : Prop := rollAlongRow.holds Try.pinned (OpenSpec.ofChange rollAlongWrong)

/-- 'satchellaw05.RollApart': WHATEVER THE INPUT: true; the input reads as it did. -/
def rollApartSpec : ChangeSpec := { name := "rollApart", fn := fun _ => fun
  | [d1, d2, d3] => { results := [.lit (.bool true)], args := [d1, d2, d3] }
  | _ => none }
def rollApartRow : OpenClaim := { program := "ytneieogpdjlnbaa", sum := "86bb53ff7260f9149791c353f3f0d321be9e5a50f5d4d0c3b34900b7af7718d9", func := "satchel/satchellaw05.RollApart", spec := "rollApart", apart := false }
def RollApartSaid : Prop := rollApartRow.holds Try.pinned (OpenSpec.ofChange rollApartSpec)

/-- ITS FALSE NEIGHBOUR: 'it returns false'. Refute it at one input. -/
def rollApartWrong : ChangeSpec := { name := "rollApart", fn := fun _ => fun
  | [d1, d2, d3] => { results := [.lit (.bool false)], args := [d1, d2, d3] }
  | _ => none }
def RollApartWrongFalsely : Prop := rollApartRow.holds Try.pinned (OpenSpec.ofChange rollApartWrong)

/-- 'satchellaw05.RollJoins': WHATEVER THE INPUT: true; the input reads as it did. -/
def rollJoinsSpec : ChangeSpec := { name := "rollJoins", fn := fun _ => fun
  | [d1, d2] => { results := [.lit (.bool true)], args := [d1, d2] }
  | _ => none }
def rollJoinsRow : OpenClaim := { program := "ytneieogpdjlnbaa", sum := "86bb53ff7260f9149791c353f3f0d321be9e5a50f5d4d0c3b34900b7af7718d9", func := "satchel/satchellaw05.RollJoins", spec := "rollJoins", apart := false }
def RollJoinsSaid : Prop := rollJoinsRow.holds Try.pinned (OpenSpec.ofChange rollJoinsSpec)

/-- ITS FALSE NEIGHBOUR: 'it returns false'. Refute it at one input. -/
def rollJoinsWrong : ChangeSpec := { name := "rollJoins", fn := fun _ => fun
  | [d1, d2] => { results := [.lit (.bool false)], args := [d1, d2] }
  | _ => none }
def RollJoinsWrongFalsely : Prop := rollJoinsRow.holds Try.pinned (OpenSpec.ofChange rollJoinsWrong)

/-- 'satchellaw06.ChunkKnown': WHATEVER THE INPUT: true; the input reads as it did. -/
def chunkKnownSpec : ChangeSpec := { name := "chunkKnown", fn := fun _ => fun
  | [] => { results := [.lit (.bool true)], args := [] }
  | _ => none }
def chunkKnownRow : OpenClaim := { program := "ytneieogpdjlnbaa", sum := "86bb53ff7260f9149791c353f3f0d321be9e5a50f5d4d0c3b34900b7af7718d9", func := "satchel/satchellaw06.ChunkKnown", spec := "chunkKnown", unfollowed := true, recurses := true, apart := false }
def ChunkKnownSaid : Prop := chunkKnownRow.holds Try.pinned (OpenSpec.ofChange chunkKnownSpec)

/-- ITS FALSE NEIGHBOUR: 'it returns false'. Refute it at one input. -/
def chunkKnownWrong : ChangeSpec := { name := "chunkKnown", fn := fun _ => fun
  | [] => { results := [.lit (.bool false)], args := [] }
  | _ => none }
def ChunkKnownWrongFalsely : Prop := chunkKnownRow.holds Try.pinned (OpenSpec.ofChange chunkKnownWrong)

/-- 'satchellaw05.RollWindows': WHATEVER THE INPUT: true; the input reads as it did. -/
def rollWindowsSpec : ChangeSpec := { name := "rollWindows", fn := fun _ => fun
  | [d] => { results := [.lit (.bool true)], args := [d] }
  | _ => none }
def rollWindowsRow : OpenClaim := { program := "ytneieogpdjlnbaa", sum := "86bb53ff7260f9149791c353f3f0d321be9e5a50f5d4d0c3b34900b7af7718d9", func := "satchel/satchellaw05.RollWindows", spec := "rollWindows", apart := false }
def RollWindowsSaid : Prop := rollWindowsRow.holds Try.pinned (OpenSpec.ofChange rollWindowsSpec)

/-- ITS FALSE NEIGHBOUR: 'it returns false'. Refute it at one input. -/
def rollWindowsWrong : ChangeSpec := { name := "rollWindows", fn := fun _ => fun
  | [d] => { results := [.lit (.bool false)], args := [d] }
  | _ => none }
def RollWindowsWrongFalsely : Prop := rollWindowsRow.holds Try.pinned (OpenSpec.ofChange rollWindowsWrong)

/-- 'satchellaw06.ChunkWhole': WHATEVER THE INPUT: true; the input reads as it did. -/
def chunkWholeSpec : ChangeSpec := { name := "chunkWhole", fn := fun _ => fun
  | [d] => { results := [.lit (.bool true)], args := [d] }
  | _ => none }
def chunkWholeRow : OpenClaim := { program := "ytneieogpdjlnbaa", sum := "86bb53ff7260f9149791c353f3f0d321be9e5a50f5d4d0c3b34900b7af7718d9", func := "satchel/satchellaw06.ChunkWhole", spec := "chunkWhole", unfollowed := true, recurses := true, apart := false }
def ChunkWholeSaid : Prop := chunkWholeRow.holds Try.pinned (OpenSpec.ofChange chunkWholeSpec)

/-- ITS FALSE NEIGHBOUR: 'it returns false'. Refute it at one input. -/
def chunkWholeWrong : ChangeSpec := { name := "chunkWhole", fn := fun _ => fun
  | [d] => { results := [.lit (.bool false)], args := [d] }
  | _ => none }
def ChunkWholeWrongFalsely : Prop := chunkWholeRow.holds Try.pinned (OpenSpec.ofChange chunkWholeWrong)

/-- 'satchellaw05.RollNone': WHATEVER THE INPUT: true; the input reads as it did. -/
def rollNoneSpec : ChangeSpec := { name := "rollNone", fn := fun _ => fun
  | [d] => { results := [.lit (.bool true)], args := [d] }
  | _ => none }
def rollNoneRow : OpenClaim := { program := "ytneieogpdjlnbaa", sum := "86bb53ff7260f9149791c353f3f0d321be9e5a50f5d4d0c3b34900b7af7718d9", func := "satchel/satchellaw05.RollNone", spec := "rollNone", apart := false }
def RollNoneSaid : Prop := rollNoneRow.holds Try.pinned (OpenSpec.ofChange rollNoneSpec)

/-- ITS FALSE NEIGHBOUR: 'it returns false'. Refute it at one input. -/
def rollNoneWrong : ChangeSpec := { name := "rollNone", fn := fun _ => fun
  | [d] => { results := [.lit (.bool false)], args := [d] }
  | _ => none }
def RollNoneWrongFalsely : Prop := rollNoneRow.holds Try.pinned (OpenSpec.ofChange rollNoneWrong)

/-- 'satchellaw05.RollForgets': WHATEVER THE INPUT: true; the input reads as it did. -/
def rollForgetsSpec : ChangeSpec := { name := "rollForgets", fn := fun _ => fun
  | [d1, d2, d3] => { results := [.lit (.bool true)], args := [d1, d2, d3] }
  | _ => none }
def rollForgetsRow : OpenClaim := { program := "ytneieogpdjlnbaa", sum := "86bb53ff7260f9149791c353f3f0d321be9e5a50f5d4d0c3b34900b7af7718d9", func := "satchel/satchellaw05.RollForgets", spec := "rollForgets", apart := false }
def RollForgetsSaid : Prop := rollForgetsRow.holds Try.pinned (OpenSpec.ofChange rollForgetsSpec)

/-- ITS FALSE NEIGHBOUR: 'it returns false'. Refute it at one input. -/
def rollForgetsWrong : ChangeSpec := { name := "rollForgets", fn := fun _ => fun
  | [d1, d2, d3] => { results := [.lit (.bool false)], args := [d1, d2, d3] }
  | _ => none }
def RollForgetsWrongFalsely : Prop := rollForgetsRow.holds Try.pinned (OpenSpec.ofChange rollForgetsWrong)

/-- 'satchellaw05.RollKnown': WHATEVER THE INPUT: true; the input reads as it did. -/
def rollKnownSpec : ChangeSpec := { name := "rollKnown", fn := fun _ => fun
  | [] => { results := [.lit (.bool true)], args := [] }
  | _ => none }
def rollKnownRow : OpenClaim := { program := "ytneieogpdjlnbaa", sum := "86bb53ff7260f9149791c353f3f0d321be9e5a50f5d4d0c3b34900b7af7718d9", func := "satchel/satchellaw05.RollKnown", spec := "rollKnown", apart := false }
def RollKnownSaid : Prop := rollKnownRow.holds Try.pinned (OpenSpec.ofChange rollKnownSpec)

/-- ITS FALSE NEIGHBOUR: 'it returns false'. Refute it at one input. -/
def rollKnownWrong : ChangeSpec := { name := "rollKnown", fn := fun _ => fun
  | [] => { results := [.lit (.bool false)], args := [] }
  | _ => none }
def RollKnownWrongFalsely : Prop := rollKnownRow.holds Try.pinned (OpenSpec.ofChange rollKnownWrong)

/-- 'satchellaw06.ChunkCuts': WHATEVER THE INPUT: true; the input reads as it did. -/
def chunkCutsSpec : ChangeSpec := { name := "chunkCuts", fn := fun _ => fun
  | [d] => { results := [.lit (.bool true)], args := [d] }
  | _ => none }
def chunkCutsRow : OpenClaim := { program := "ytneieogpdjlnbaa", sum := "86bb53ff7260f9149791c353f3f0d321be9e5a50f5d4d0c3b34900b7af7718d9", func := "satchel/satchellaw06.ChunkCuts", spec := "chunkCuts", unfollowed := true, recurses := true, apart := false }
def ChunkCutsSaid : Prop := chunkCutsRow.holds Try.pinned (OpenSpec.ofChange chunkCutsSpec)

/-- ITS FALSE NEIGHBOUR: 'it returns false'. Refute it at one input. -/
def chunkCutsWrong : ChangeSpec := { name := "chunkCuts", fn := fun _ => fun
  | [d] => { results := [.lit (.bool false)], args := [d] }
  | _ => none }
def ChunkCutsWrongFalsely : Prop := chunkCutsRow.holds Try.pinned (OpenSpec.ofChange chunkCutsWrong)

/-- 'satchellaw06.ChunkPushes': WHATEVER THE INPUT: true; the input reads as it did. -/
def chunkPushesSpec : ChangeSpec := { name := "chunkPushes", fn := fun _ => fun
  | [d] => { results := [.lit (.bool true)], args := [d] }
  | _ => none }
def chunkPushesRow : OpenClaim := { program := "ytneieogpdjlnbaa", sum := "86bb53ff7260f9149791c353f3f0d321be9e5a50f5d4d0c3b34900b7af7718d9", func := "satchel/satchellaw06.ChunkPushes", spec := "chunkPushes", unfollowed := true, recurses := true, apart := false }
def ChunkPushesSaid : Prop := chunkPushesRow.holds Try.pinned (OpenSpec.ofChange chunkPushesSpec)

/-- ITS FALSE NEIGHBOUR: 'it returns false'. Refute it at one input. -/
def chunkPushesWrong : ChangeSpec := { name := "chunkPushes", fn := fun _ => fun
  | [d] => { results := [.lit (.bool false)], args := [d] }
  | _ => none }
def ChunkPushesWrongFalsely : Prop := chunkPushesRow.holds Try.pinned (OpenSpec.ofChange chunkPushesWrong)

/-- 'satchellaw06.ChunkNone': WHATEVER THE INPUT: true; the input reads as it did. -/
def chunkNoneSpec : ChangeSpec := { name := "chunkNone", fn := fun _ => fun
  | [d] => { results := [.lit (.bool true)], args := [d] }
  | _ => none }
def chunkNoneRow : OpenClaim := { program := "ytneieogpdjlnbaa", sum := "86bb53ff7260f9149791c353f3f0d321be9e5a50f5d4d0c3b34900b7af7718d9", func := "satchel/satchellaw06.ChunkNone", spec := "chunkNone", unfollowed := true, recurses := true, apart := false }
def ChunkNoneSaid : Prop := chunkNoneRow.holds Try.pinned (OpenSpec.ofChange chunkNoneSpec)

/-- ITS FALSE NEIGHBOUR: 'it returns false'. Refute it at one input. -/
def chunkNoneWrong : ChangeSpec := { name := "chunkNone", fn := fun _ => fun
  | [d] => { results := [.lit (.bool false)], args := [d] }
  | _ => none }
def ChunkNoneWrongFalsely : Prop := chunkNoneRow.holds Try.pinned (OpenSpec.ofChange chunkNoneWrong)

/-- 'satchellaw06.ChunkPieces': WHATEVER THE INPUT: true; the input reads as it did. -/
def chunkPiecesSpec : ChangeSpec := { name := "chunkPieces", fn := fun _ => fun
  | [d1, d2] => { results := [.lit (.bool true)], args := [d1, d2] }
  | _ => none }
def chunkPiecesRow : OpenClaim := { program := "ytneieogpdjlnbaa", sum := "86bb53ff7260f9149791c353f3f0d321be9e5a50f5d4d0c3b34900b7af7718d9", func := "satchel/satchellaw06.ChunkPieces", spec := "chunkPieces", unfollowed := true, recurses := true, apart := false }
def ChunkPiecesSaid : Prop := chunkPiecesRow.holds Try.pinned (OpenSpec.ofChange chunkPiecesSpec)

/-- ITS FALSE NEIGHBOUR: 'it returns false'. Refute it at one input. -/
def chunkPiecesWrong : ChangeSpec := { name := "chunkPieces", fn := fun _ => fun
  | [d1, d2] => { results := [.lit (.bool false)], args := [d1, d2] }
  | _ => none }
def ChunkPiecesWrongFalsely : Prop := chunkPiecesRow.holds Try.pinned (OpenSpec.ofChange chunkPiecesWrong)

/-- 'satchellaw06.ChunkAlone': WHATEVER THE INPUT: true; the input reads as it did. -/
def chunkAloneSpec : ChangeSpec := { name := "chunkAlone", fn := fun _ => fun
  | [d1, d2, d3] => { results := [.lit (.bool true)], args := [d1, d2, d3] }
  | _ => none }
def chunkAloneRow : OpenClaim := { program := "ytneieogpdjlnbaa", sum := "86bb53ff7260f9149791c353f3f0d321be9e5a50f5d4d0c3b34900b7af7718d9", func := "satchel/satchellaw06.ChunkAlone", spec := "chunkAlone", unfollowed := true, recurses := true, apart := false }
def ChunkAloneSaid : Prop := chunkAloneRow.holds Try.pinned (OpenSpec.ofChange chunkAloneSpec)

/-- ITS FALSE NEIGHBOUR: 'it returns false'. Refute it at one input. -/
def chunkAloneWrong : ChangeSpec := { name := "chunkAlone", fn := fun _ => fun
  | [d1, d2, d3] => { results := [.lit (.bool false)], args := [d1, d2, d3] }
  | _ => none }
def ChunkAloneWrongFalsely : Prop := chunkAloneRow.holds Try.pinned (OpenSpec.ofChange chunkAloneWrong)

/-- 'satchellaw06.ChunkEdits': WHATEVER THE INPUT: true; the input reads as it did. -/
def chunkEditsSpec : ChangeSpec := { name := "chunkEdits", fn := fun _ => fun
  | [d1, d2, d3, d4] => { results := [.lit (.bool true)], args := [d1, d2, d3, d4] }
  | _ => none }
def chunkEditsRow : OpenClaim := { program := "ytneieogpdjlnbaa", sum := "86bb53ff7260f9149791c353f3f0d321be9e5a50f5d4d0c3b34900b7af7718d9", func := "satchel/satchellaw06.ChunkEdits", spec := "chunkEdits", unfollowed := true, recurses := true, apart := false }
def ChunkEditsSaid : Prop := chunkEditsRow.holds Try.pinned (OpenSpec.ofChange chunkEditsSpec)

/-- ITS FALSE NEIGHBOUR: 'it returns false'. Refute it at one input. -/
def chunkEditsWrong : ChangeSpec := { name := "chunkEdits", fn := fun _ => fun
  | [d1, d2, d3, d4] => { results := [.lit (.bool false)], args := [d1, d2, d3, d4] }
  | _ => none }
def ChunkEditsWrongFalsely : Prop := chunkEditsRow.holds Try.pinned (OpenSpec.ofChange chunkEditsWrong)

/- THE SECOND FORM. 'bulk': how many values and letters a reading holds, each counted each time it is reached (what is shared counts as often as it is met; a slice's spare places count too). A statement '..UptoSaid' is the law's where the arguments, and the package variables that the reading takes, are together of bulk at most 1048576: NARROWER than '..Said'. Prove '..Said' where nothing that the law and all that it calls make is longer than what came in: it says more and counts as full. Else prove '..UptoSaid'. A law counts once. -/
mutual
def uptoBulk {H : Type} : DataW H → Nat
  | .lit (.string bytes) => bytes.length + 1
  | .lit _ => 1
  | .nil => 1
  | .ptr d => uptoBulk d + 1
  | .slice elems spare => uptoBulkAll elems + uptoBulkAll spare + 1
  | .agg parts => uptoBulkAll parts + 1
  | .iface _ d => uptoBulk d + 1
  | .map entries => uptoBulkEntries entries + 1
  | .held _ => 1
def uptoBulkAll {H : Type} : List (DataW H) → Nat
  | [] => 0
  | d :: r => uptoBulk d + uptoBulkAll r
def uptoBulkEntries {H : Type} : List (Lit × DataW H) → Nat
  | [] => 0
  | x :: r => uptoBulkEntry x + uptoBulkEntries r
def uptoBulkEntry {H : Type} : Lit × DataW H → Nat
  | (.string bytes, d) => bytes.length + uptoBulk d + 1
  | (_, d) => uptoBulk d + 1
 end
def uptoSmall : (H : Type) → List (DataW H) → Bool := fun _ ds => decide (uptoBulkAll ds ≤ 1048576)
def OpenSpec.upto (s : _root_.Go.ChangeSpec) : _root_.Go.OpenSpec := { _root_.Go.OpenSpec.ofChange s with cond := some uptoSmall }

/-- 'satchellaw05.RollSums', WHERE WHAT IT READS IS OF BULK AT MOST 1048576: true; the input reads as it did. -/
def rollSumsUptoRow : OpenClaim := { program := "ytneieogpdjlnbaa", sum := "86bb53ff7260f9149791c353f3f0d321be9e5a50f5d4d0c3b34900b7af7718d9", func := "satchel/satchellaw05.RollSums", spec := "rollSums", apart := false, narrowed := true }
def RollSumsUptoSaid : Prop := rollSumsUptoRow.holds Try.pinned (OpenSpec.upto rollSumsSpec)

/-- 'satchellaw05.RollAlong', WHERE WHAT IT READS IS OF BULK AT MOST 1048576: true; the input reads as it did. -/
def rollAlongUptoRow : OpenClaim := { program := "ytneieogpdjlnbaa", sum := "86bb53ff7260f9149791c353f3f0d321be9e5a50f5d4d0c3b34900b7af7718d9", func := "satchel/satchellaw05.RollAlong", spec := "rollAlong", apart := false, narrowed := true }
def RollAlongUptoSaid : Prop := rollAlongUptoRow.holds Try.pinned (OpenSpec.upto rollAlongSpec)

/-- 'satchellaw05.RollApart', WHERE WHAT IT READS IS OF BULK AT MOST 1048576: true; the input reads as it did. -/
def rollApartUptoRow : OpenClaim := { program := "ytneieogpdjlnbaa", sum := "86bb53ff7260f9149791c353f3f0d321be9e5a50f5d4d0c3b34900b7af7718d9", func := "satchel/satchellaw05.RollApart", spec := "rollApart", apart := false, narrowed := true }
def RollApartUptoSaid : Prop := rollApartUptoRow.holds Try.pinned (OpenSpec.upto rollApartSpec)

/-- 'satchellaw05.RollJoins', WHERE WHAT IT READS IS OF BULK AT MOST 1048576: true; the input reads as it did. -/
def rollJoinsUptoRow : OpenClaim := { program := "ytneieogpdjlnbaa", sum := "86bb53ff7260f9149791c353f3f0d321be9e5a50f5d4d0c3b34900b7af7718d9", func := "satchel/satchellaw05.RollJoins", spec := "rollJoins", apart := false, narrowed := true }
def RollJoinsUptoSaid : Prop := rollJoinsUptoRow.holds Try.pinned (OpenSpec.upto rollJoinsSpec)

/-- 'satchellaw06.ChunkKnown', WHERE WHAT IT READS IS OF BULK AT MOST 1048576: true; the input reads as it did. -/
def chunkKnownUptoRow : OpenClaim := { program := "ytneieogpdjlnbaa", sum := "86bb53ff7260f9149791c353f3f0d321be9e5a50f5d4d0c3b34900b7af7718d9", func := "satchel/satchellaw06.ChunkKnown", spec := "chunkKnown", unfollowed := true, recurses := true, apart := false, narrowed := true }
def ChunkKnownUptoSaid : Prop := chunkKnownUptoRow.holds Try.pinned (OpenSpec.upto chunkKnownSpec)

/-- 'satchellaw05.RollWindows', WHERE WHAT IT READS IS OF BULK AT MOST 1048576: true; the input reads as it did. -/
def rollWindowsUptoRow : OpenClaim := { program := "ytneieogpdjlnbaa", sum := "86bb53ff7260f9149791c353f3f0d321be9e5a50f5d4d0c3b34900b7af7718d9", func := "satchel/satchellaw05.RollWindows", spec := "rollWindows", apart := false, narrowed := true }
def RollWindowsUptoSaid : Prop := rollWindowsUptoRow.holds Try.pinned (OpenSpec.upto rollWindowsSpec)

/-- 'satchellaw06.ChunkWhole', WHERE WHAT IT READS IS OF BULK AT MOST 1048576: true; the input reads as it did. -/
def chunkWholeUptoRow : OpenClaim := { program := "ytneieogpdjlnbaa", sum := "86bb53ff7260f9149791c353f3f0d321be9e5a50f5d4d0c3b34900b7af7718d9", func := "satchel/satchellaw06.ChunkWhole", spec := "chunkWhole", unfollowed := true, recurses := true, apart := false, narrowed := true }
def ChunkWholeUptoSaid : Prop := chunkWholeUptoRow.holds Try.pinned (OpenSpec.upto chunkWholeSpec)

/-- 'satchellaw05.RollNone', WHERE WHAT IT READS IS OF BULK AT MOST 1048576: true; the input reads as it did. -/
def rollNoneUptoRow : OpenClaim := { program := "ytneieogpdjlnbaa", sum := "86bb53ff7260f9149791c353f3f0d321be9e5a50f5d4d0c3b34900b7af7718d9", func := "satchel/satchellaw05.RollNone", spec := "rollNone", apart := false, narrowed := true }
def RollNoneUptoSaid : Prop := rollNoneUptoRow.holds Try.pinned (OpenSpec.upto rollNoneSpec)

/-- 'satchellaw05.RollForgets', WHERE WHAT IT READS IS OF BULK AT MOST 1048576: true; the input reads as it did. -/
def rollForgetsUptoRow : OpenClaim := { program := "ytneieogpdjlnbaa", sum := "86bb53ff7260f9149791c353f3f0d321be9e5a50f5d4d0c3b34900b7af7718d9", func := "satchel/satchellaw05.RollForgets", spec := "rollForgets", apart := false, narrowed := true }
def RollForgetsUptoSaid : Prop := rollForgetsUptoRow.holds Try.pinned (OpenSpec.upto rollForgetsSpec)

/-- 'satchellaw05.RollKnown', WHERE WHAT IT READS IS OF BULK AT MOST 1048576: true; the input reads as it did. -/
def rollKnownUptoRow : OpenClaim := { program := "ytneieogpdjlnbaa", sum := "86bb53ff7260f9149791c353f3f0d321be9e5a50f5d4d0c3b34900b7af7718d9", func := "satchel/satchellaw05.RollKnown", spec := "rollKnown", apart := false, narrowed := true }
def RollKnownUptoSaid : Prop := rollKnownUptoRow.holds Try.pinned (OpenSpec.upto rollKnownSpec)

/-- 'satchellaw06.ChunkCuts', WHERE WHAT IT READS IS OF BULK AT MOST 1048576: true; the input reads as it did. -/
def chunkCutsUptoRow : OpenClaim := { program := "ytneieogpdjlnbaa", sum := "86bb53ff7260f9149791c353f3f0d321be9e5a50f5d4d0c3b34900b7af7718d9", func := "satchel/satchellaw06.ChunkCuts", spec := "chunkCuts", unfollowed := true, recurses := true, apart := false, narrowed := true }
def ChunkCutsUptoSaid : Prop := chunkCutsUptoRow.holds Try.pinned (OpenSpec.upto chunkCutsSpec)

/-- 'satchellaw06.ChunkPushes', WHERE WHAT IT READS IS OF BULK AT MOST 1048576: true; the input reads as it did. -/
def chunkPushesUptoRow : OpenClaim := { program := "ytneieogpdjlnbaa", sum := "86bb53ff7260f9149791c353f3f0d321be9e5a50f5d4d0c3b34900b7af7718d9", func := "satchel/satchellaw06.ChunkPushes", spec := "chunkPushes", unfollowed := true, recurses := true, apart := false, narrowed := true }
def ChunkPushesUptoSaid : Prop := chunkPushesUptoRow.holds Try.pinned (OpenSpec.upto chunkPushesSpec)

/-- 'satchellaw06.ChunkNone', WHERE WHAT IT READS IS OF BULK AT MOST 1048576: true; the input reads as it did. -/
def chunkNoneUptoRow : OpenClaim := { program := "ytneieogpdjlnbaa", sum := "86bb53ff7260f9149791c353f3f0d321be9e5a50f5d4d0c3b34900b7af7718d9", func := "satchel/satchellaw06.ChunkNone", spec := "chunkNone", unfollowed := true, recurses := true, apart := false, narrowed := true }
def ChunkNoneUptoSaid : Prop := chunkNoneUptoRow.holds Try.pinned (OpenSpec.upto chunkNoneSpec)

/-- 'satchellaw06.ChunkPieces', WHERE WHAT IT READS IS OF BULK AT MOST 1048576: true; the input reads as it did. -/
def chunkPiecesUptoRow : OpenClaim := { program := "ytneieogpdjlnbaa", sum := "86bb53ff7260f9149791c353f3f0d321be9e5a50f5d4d0c3b34900b7af7718d9", func := "satchel/satchellaw06.ChunkPieces", spec := "chunkPieces", unfollowed := true, recurses := true, apart := false, narrowed := true }
def ChunkPiecesUptoSaid : Prop := chunkPiecesUptoRow.holds Try.pinned (OpenSpec.upto chunkPiecesSpec)

/-- 'satchellaw06.ChunkAlone', WHERE WHAT IT READS IS OF BULK AT MOST 1048576: true; the input reads as it did. -/
def chunkAloneUptoRow : OpenClaim := { program := "ytneieogpdjlnbaa", sum := "86bb53ff7260f9149791c353f3f0d321be9e5a50f5d4d0c3b34900b7af7718d9", func := "satchel/satchellaw06.ChunkAlone", spec := "chunkAlone", unfollowed := true, recurses := true, apart := false, narrowed := true }
def ChunkAloneUptoSaid : Prop := chunkAloneUptoRow.holds Try.pinned (OpenSpec.upto chunkAloneSpec)

/-- 'satchellaw06.ChunkEdits', WHERE WHAT IT READS IS OF BULK AT MOST 1048576: true; the input reads as it did. -/
def chunkEditsUptoRow : OpenClaim := { program := "ytneieogpdjlnbaa", sum := "86bb53ff7260f9149791c353f3f0d321be9e5a50f5d4d0c3b34900b7af7718d9", func := "satchel/satchellaw06.ChunkEdits", spec := "chunkEdits", unfollowed := true, recurses := true, apart := false, narrowed := true }
def ChunkEditsUptoSaid : Prop := chunkEditsUptoRow.holds Try.pinned (OpenSpec.upto chunkEditsSpec)

end Rows
end Go.Proofs.Ytneieogpdjlnbaa
