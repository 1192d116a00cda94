/-
  No cell of these rows narrows 'for every input' (looked for: loops, veiled, ifaces, maps, wideKeys, modest, calm, conditions, laid).
  DERIVED. THE GIVEN ROWS OF THIS SEAT. 4 by the template 'for every input the law returns true; each argument reads behind the call as it read before'; 0 by the template 'total and deterministic' (their statements: YtdkbfmffnamdbaaTotals.lean).
  GIVEN WITH THE SEED: the statements are not yours to turn. If you find one false, say at which input.
  Laid BY PROGRAM, IN A SANDBOX (cutbox-rows.mjs): the forced cells as the released guide's own fill.sh prints them over the translation 93874a9f6503d5f3… (all of the seat's roots in one cut). By AI agents, Wed Nov 11 2026. No macro, syntax, notation, axiom, sorry.
-/
import Derived.Test.YtdkbfmffnamdbaaChecked
import GoSem.Claim
import GoSem.ClaimJoined
import GoSem.ClaimMapViews
import Derived.JoinedTies
import Derived.KernelRfl
namespace Go.Proofs.Ytdkbfmffnamdbaa
/- THE CELL 'sum', in the pinned program and in every row, IS THE sha256 OF THE DUMP (.gsa) THAT YtdkbfmffnamdbaaProg.lean LOADS. Nothing in Lean hashes anything: it is a label: what it is worth is what the hold of that sum in a sandbox is worth. -/
noncomputable def Try.pinned : Pinned := { name := "ytdkbfmffnamdbaa", sum := "93874a9f6503d5f323f34a3fac7821decd85c0c0cafdd9bb4982b28ab6cb31e0", checked := Try.checked }
namespace Rows
def none {H : Type} : Left H := { results := [], args := [] }

/-- 'escutcheonlaw12.QueueTurn': WHATEVER THE INPUT: true; the input reads as it did. -/
def queueTurnSpec : ChangeSpec := { name := "queueTurn", fn := fun _ => fun
  | [d1, d2] => { results := [.lit (.bool true)], args := [d1, d2] }
  | _ => none }
def queueTurnRow : OpenClaim := { program := "ytdkbfmffnamdbaa", sum := "93874a9f6503d5f323f34a3fac7821decd85c0c0cafdd9bb4982b28ab6cb31e0", func := "escutcheon/escutcheonlaw12.QueueTurn", spec := "queueTurn", inPlace := ["slices.overlaps[escutcheon/api.Wait]"], unfollowed := true, recurses := true, apart := false }
def QueueTurnSaid : Prop := queueTurnRow.holds Try.pinned (OpenSpec.ofChange queueTurnSpec)

/-- ITS FALSE NEIGHBOUR: 'it returns false'. Refute it at one input. -/
def queueTurnWrong : ChangeSpec := { name := "queueTurn", fn := fun _ => fun
  | [d1, d2] => { results := [.lit (.bool false)], args := [d1, d2] }
  | _ => none }
def QueueTurnWrongFalsely : Prop := queueTurnRow.holds Try.pinned (OpenSpec.ofChange queueTurnWrong)

/-- 'escutcheonlaw12.QueueAlone': WHATEVER THE INPUT: true; the input reads as it did. -/
def queueAloneSpec : ChangeSpec := { name := "queueAlone", fn := fun _ => fun
  | [d1, d2, d3] => { results := [.lit (.bool true)], args := [d1, d2, d3] }
  | _ => none }
def queueAloneRow : OpenClaim := { program := "ytdkbfmffnamdbaa", sum := "93874a9f6503d5f323f34a3fac7821decd85c0c0cafdd9bb4982b28ab6cb31e0", func := "escutcheon/escutcheonlaw12.QueueAlone", spec := "queueAlone", inPlace := ["slices.overlaps[escutcheon/api.Wait]"], unfollowed := true, recurses := true, apart := false }
def QueueAloneSaid : Prop := queueAloneRow.holds Try.pinned (OpenSpec.ofChange queueAloneSpec)

/-- ITS FALSE NEIGHBOUR: 'it returns false'. Refute it at one input. -/
def queueAloneWrong : ChangeSpec := { name := "queueAlone", fn := fun _ => fun
  | [d1, d2, d3] => { results := [.lit (.bool false)], args := [d1, d2, d3] }
  | _ => none }
def QueueAloneWrongFalsely : Prop := queueAloneRow.holds Try.pinned (OpenSpec.ofChange queueAloneWrong)

/-- 'escutcheonlaw12.QueueDoes': WHATEVER THE INPUT: true; the input reads as it did. -/
def queueDoesSpec : ChangeSpec := { name := "queueDoes", fn := fun _ => fun
  | [d] => { results := [.lit (.bool true)], args := [d] }
  | _ => none }
def queueDoesRow : OpenClaim := { program := "ytdkbfmffnamdbaa", sum := "93874a9f6503d5f323f34a3fac7821decd85c0c0cafdd9bb4982b28ab6cb31e0", func := "escutcheon/escutcheonlaw12.QueueDoes", spec := "queueDoes", inPlace := ["slices.overlaps[escutcheon/api.Wait]"], unfollowed := true, recurses := true, apart := false }
def QueueDoesSaid : Prop := queueDoesRow.holds Try.pinned (OpenSpec.ofChange queueDoesSpec)

/-- ITS FALSE NEIGHBOUR: 'it returns false'. Refute it at one input. -/
def queueDoesWrong : ChangeSpec := { name := "queueDoes", fn := fun _ => fun
  | [d] => { results := [.lit (.bool false)], args := [d] }
  | _ => none }
def QueueDoesWrongFalsely : Prop := queueDoesRow.holds Try.pinned (OpenSpec.ofChange queueDoesWrong)

/-- 'escutcheonlaw12.QueueRight': WHATEVER THE INPUT: true; the input reads as it did. -/
def queueRightSpec : ChangeSpec := { name := "queueRight", fn := fun _ => fun
  | [d] => { results := [.lit (.bool true)], args := [d] }
  | _ => none }
def queueRightRow : OpenClaim := { program := "ytdkbfmffnamdbaa", sum := "93874a9f6503d5f323f34a3fac7821decd85c0c0cafdd9bb4982b28ab6cb31e0", func := "escutcheon/escutcheonlaw12.QueueRight", spec := "queueRight", inPlace := ["slices.overlaps[escutcheon/api.Wait]"], unfollowed := true, recurses := true, apart := false }
def QueueRightSaid : Prop := queueRightRow.holds Try.pinned (OpenSpec.ofChange queueRightSpec)

/-- ITS FALSE NEIGHBOUR: 'it returns false'. Refute it at one input. -/
def queueRightWrong : ChangeSpec := { name := "queueRight", fn := fun _ => fun
  | [d] => { results := [.lit (.bool false)], args := [d] }
  | _ => none }
def QueueRightWrongFalsely : Prop := queueRightRow.holds Try.pinned (OpenSpec.ofChange queueRightWrong)

/- THE SECOND FORM. 'bulk': how many values and letters a reading holds, each counted each time it is reached (what is shared counts as often as it is met; a slice's spare places count too). A statement '..UptoSaid' is the law's where the arguments, and the package variables that the reading takes, are together of bulk at most 1048576: NARROWER than '..Said'. Prove '..Said' where nothing that the law and all that it calls make is longer than what came in: it says more and counts as full. Else prove '..UptoSaid'. A law counts once. -/
mutual
def uptoBulk {H : Type} : DataW H → Nat
  | .lit (.string bytes) => bytes.length + 1
  | .lit _ => 1
  | .nil => 1
  | .ptr d => uptoBulk d + 1
  | .slice elems spare => uptoBulkAll elems + uptoBulkAll spare + 1
  | .agg parts => uptoBulkAll parts + 1
  | .iface _ d => uptoBulk d + 1
  | .map entries => uptoBulkEntries entries + 1
  | .held _ => 1
def uptoBulkAll {H : Type} : List (DataW H) → Nat
  | [] => 0
  | d :: r => uptoBulk d + uptoBulkAll r
def uptoBulkEntries {H : Type} : List (Lit × DataW H) → Nat
  | [] => 0
  | x :: r => uptoBulkEntry x + uptoBulkEntries r
def uptoBulkEntry {H : Type} : Lit × DataW H → Nat
  | (.string bytes, d) => bytes.length + uptoBulk d + 1
  | (_, d) => uptoBulk d + 1
 end
def uptoSmall : (H : Type) → List (DataW H) → Bool := fun _ ds => decide (uptoBulkAll ds ≤ 1048576)
def OpenSpec.upto (s : _root_.Go.ChangeSpec) : _root_.Go.OpenSpec := { _root_.Go.OpenSpec.ofChange s with cond := some uptoSmall }

/-- 'escutcheonlaw12.QueueTurn', WHERE WHAT IT READS IS OF BULK AT MOST 1048576: true; the input reads as it did. -/
def queueTurnUptoRow : OpenClaim := { program := "ytdkbfmffnamdbaa", sum := "93874a9f6503d5f323f34a3fac7821decd85c0c0cafdd9bb4982b28ab6cb31e0", func := "escutcheon/escutcheonlaw12.QueueTurn", spec := "queueTurn", inPlace := ["slices.overlaps[escutcheon/api.Wait]"], unfollowed := true, recurses := true, apart := false, narrowed := true }
def QueueTurnUptoSaid : Prop := queueTurnUptoRow.holds Try.pinned (OpenSpec.upto queueTurnSpec)

/-- 'escutcheonlaw12.QueueAlone', WHERE WHAT IT READS IS OF BULK AT MOST 1048576: true; the input reads as it did. -/
def queueAloneUptoRow : OpenClaim := { program := "ytdkbfmffnamdbaa", sum := "93874a9f6503d5f323f34a3fac7821decd85c0c0cafdd9bb4982b28ab6cb31e0", func := "escutcheon/escutcheonlaw12.QueueAlone", spec := "queueAlone", inPlace := ["slices.overlaps[escutcheon/api.Wait]"], unfollowed := true, recurses := true, apart := false, narrowed := true }
def QueueAloneUptoSaid : Prop := queueAloneUptoRow.holds Try.pinned (OpenSpec.upto queueAloneSpec)

/-- 'escutcheonlaw12.QueueDoes', WHERE WHAT IT READS IS OF BULK AT MOST 1048576: true; the input reads as it did. -/
def queueDoesUptoRow : OpenClaim := { program := "ytdkbfmffnamdbaa", sum := "93874a9f6503d5f323f34a3fac7821decd85c0c0cafdd9bb4982b28ab6cb31e0", func := "escutcheon/escutcheonlaw12.QueueDoes", spec := "queueDoes", inPlace := ["slices.overlaps[escutcheon/api.Wait]"], unfollowed := true, recurses := true, apart := false, narrowed := true }
def QueueDoesUptoSaid : Prop := queueDoesUptoRow.holds Try.pinned (OpenSpec.upto queueDoesSpec)

/-- 'escutcheonlaw12.QueueRight', WHERE WHAT IT READS IS OF BULK AT MOST 1048576: true; the input reads as it did. -/
def queueRightUptoRow : OpenClaim := { program := "ytdkbfmffnamdbaa", sum := "93874a9f6503d5f323f34a3fac7821decd85c0c0cafdd9bb4982b28ab6cb31e0", func := "escutcheon/escutcheonlaw12.QueueRight", spec := "queueRight", inPlace := ["slices.overlaps[escutcheon/api.Wait]"], unfollowed := true, recurses := true, apart := false, narrowed := true }
def QueueRightUptoSaid : Prop := queueRightUptoRow.holds Try.pinned (OpenSpec.upto queueRightSpec)

end Rows
end Go.Proofs.Ytdkbfmffnamdbaa
