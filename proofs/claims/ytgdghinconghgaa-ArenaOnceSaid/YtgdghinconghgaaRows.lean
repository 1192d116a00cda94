/-
  No cell of these rows narrows 'for every input' (looked for: loops, veiled, ifaces, maps, wideKeys, modest, calm, conditions, laid).
  DERIVED. THE GIVEN ROWS OF THIS SEAT. 12 by the template 'for every input the law returns true; each argument reads behind the call as it read before'; 0 by the template 'total and deterministic' (their statements: YtgdghinconghgaaTotals.lean).
  GIVEN WITH THE SEED: the statements are not yours to turn. If you find one false, say at which input.
  Laid BY PROGRAM, IN A SANDBOX (cutbox-rows.mjs): the forced cells as the released guide's own fill.sh prints them over the translation 26b97a7cc8f3dd5f… (all of the seat's roots in one cut). By AI agents, Wed Nov 11 2026. No macro, syntax, notation, axiom, sorry.
-/
import Derived.Test.YtgdghinconghgaaChecked
import GoSem.Claim
import GoSem.ClaimJoined
import GoSem.ClaimMapViews
import Derived.JoinedTies
import Derived.KernelRfl
namespace Go.Proofs.Ytgdghinconghgaa
/- THE CELL 'sum', in the pinned program and in every row, IS THE sha256 OF THE DUMP (.gsa) THAT YtgdghinconghgaaProg.lean LOADS. Nothing in Lean hashes anything: it is a label: what it is worth is what the hold of that sum in a sandbox is worth. -/
noncomputable def Try.pinned : Pinned := { name := "ytgdghinconghgaa", sum := "26b97a7cc8f3dd5f889ed7e48c677189ec7b0b54ae6354ceb1eac46097406ae2", checked := Try.checked }
namespace Rows
def none {H : Type} : Left H := { results := [], args := [] }

/-- 'escutcheonlaw03.ClockDoes': WHATEVER THE INPUT: true; the input reads as it did. -/
def clockDoesSpec : ChangeSpec := { name := "clockDoes", fn := fun _ => fun
  | [d1, d2] => { results := [.lit (.bool true)], args := [d1, d2] }
  | _ => none }
def clockDoesRow : OpenClaim := { program := "ytgdghinconghgaa", sum := "26b97a7cc8f3dd5f889ed7e48c677189ec7b0b54ae6354ceb1eac46097406ae2", func := "escutcheon/escutcheonlaw03.ClockDoes", spec := "clockDoes", unfollowed := true, recurses := true, apart := false }
def ClockDoesSaid : Prop := clockDoesRow.holds Try.pinned (OpenSpec.ofChange clockDoesSpec)

/-- ITS FALSE NEIGHBOUR: 'it returns false'. Refute it at one input. -/
def clockDoesWrong : ChangeSpec := { name := "clockDoes", fn := fun _ => fun
  | [d1, d2] => { results := [.lit (.bool false)], args := [d1, d2] }
  | _ => none }
def ClockDoesWrongFalsely : Prop := clockDoesRow.holds Try.pinned (OpenSpec.ofChange clockDoesWrong)

/-- 'escutcheonlaw03.ClockNever': WHATEVER THE INPUT: true; the input reads as it did. -/
def clockNeverSpec : ChangeSpec := { name := "clockNever", fn := fun _ => fun
  | [d1, d2] => { results := [.lit (.bool true)], args := [d1, d2] }
  | _ => none }
def clockNeverRow : OpenClaim := { program := "ytgdghinconghgaa", sum := "26b97a7cc8f3dd5f889ed7e48c677189ec7b0b54ae6354ceb1eac46097406ae2", func := "escutcheon/escutcheonlaw03.ClockNever", spec := "clockNever", unfollowed := true, recurses := true, apart := false }
def ClockNeverSaid : Prop := clockNeverRow.holds Try.pinned (OpenSpec.ofChange clockNeverSpec)

/-- ITS FALSE NEIGHBOUR: 'it returns false'. Refute it at one input. -/
def clockNeverWrong : ChangeSpec := { name := "clockNever", fn := fun _ => fun
  | [d1, d2] => { results := [.lit (.bool false)], args := [d1, d2] }
  | _ => none }
def ClockNeverWrongFalsely : Prop := clockNeverRow.holds Try.pinned (OpenSpec.ofChange clockNeverWrong)

/-- 'escutcheonlaw03.ClockCopies': WHATEVER THE INPUT: true; the input reads as it did. -/
def clockCopiesSpec : ChangeSpec := { name := "clockCopies", fn := fun _ => fun
  | [d1, d2, d3] => { results := [.lit (.bool true)], args := [d1, d2, d3] }
  | _ => none }
def clockCopiesRow : OpenClaim := { program := "ytgdghinconghgaa", sum := "26b97a7cc8f3dd5f889ed7e48c677189ec7b0b54ae6354ceb1eac46097406ae2", func := "escutcheon/escutcheonlaw03.ClockCopies", spec := "clockCopies", unfollowed := true, recurses := true, apart := false }
def ClockCopiesSaid : Prop := clockCopiesRow.holds Try.pinned (OpenSpec.ofChange clockCopiesSpec)

/-- ITS FALSE NEIGHBOUR: 'it returns false'. Refute it at one input. -/
def clockCopiesWrong : ChangeSpec := { name := "clockCopies", fn := fun _ => fun
  | [d1, d2, d3] => { results := [.lit (.bool false)], args := [d1, d2, d3] }
  | _ => none }
def ClockCopiesWrongFalsely : Prop := clockCopiesRow.holds Try.pinned (OpenSpec.ofChange clockCopiesWrong)

/-- 'escutcheonlaw05.ArenaFull': WHATEVER THE INPUT: true; the input reads as it did. -/
def arenaFullSpec : ChangeSpec := { name := "arenaFull", fn := fun _ => fun
  | [d1, d2] => { results := [.lit (.bool true)], args := [d1, d2] }
  | _ => none }
def arenaFullRow : OpenClaim := { program := "ytgdghinconghgaa", sum := "26b97a7cc8f3dd5f889ed7e48c677189ec7b0b54ae6354ceb1eac46097406ae2", func := "escutcheon/escutcheonlaw05.ArenaFull", spec := "arenaFull", unfollowed := true, recurses := true, apart := false }
def ArenaFullSaid : Prop := arenaFullRow.holds Try.pinned (OpenSpec.ofChange arenaFullSpec)

/-- ITS FALSE NEIGHBOUR: 'it returns false'. Refute it at one input. -/
def arenaFullWrong : ChangeSpec := { name := "arenaFull", fn := fun _ => fun
  | [d1, d2] => { results := [.lit (.bool false)], args := [d1, d2] }
  | _ => none }
def ArenaFullWrongFalsely : Prop := arenaFullRow.holds Try.pinned (OpenSpec.ofChange arenaFullWrong)

/-- 'escutcheonlaw22.TxnLive': WHATEVER THE INPUT: true; the input reads as it did. -/
def txnLiveSpec : ChangeSpec := { name := "txnLive", fn := fun _ => fun
  | [d] => { results := [.lit (.bool true)], args := [d] }
  | _ => none }
def txnLiveRow : OpenClaim := { program := "ytgdghinconghgaa", sum := "26b97a7cc8f3dd5f889ed7e48c677189ec7b0b54ae6354ceb1eac46097406ae2", func := "escutcheon/escutcheonlaw22.TxnLive", spec := "txnLive", apart := false }
def TxnLiveSaid : Prop := txnLiveRow.holds Try.pinned (OpenSpec.ofChange txnLiveSpec)

/-- ITS FALSE NEIGHBOUR: 'it returns false'. Refute it at one input. -/
def txnLiveWrong : ChangeSpec := { name := "txnLive", fn := fun _ => fun
  | [d] => { results := [.lit (.bool false)], args := [d] }
  | _ => none }
def TxnLiveWrongFalsely : Prop := txnLiveRow.holds Try.pinned (OpenSpec.ofChange txnLiveWrong)

/-- 'escutcheonlaw05.ArenaDoes': WHATEVER THE INPUT: true; the input reads as it did. -/
def arenaDoesSpec : ChangeSpec := { name := "arenaDoes", fn := fun _ => fun
  | [d1, d2] => { results := [.lit (.bool true)], args := [d1, d2] }
  | _ => none }
def arenaDoesRow : OpenClaim := { program := "ytgdghinconghgaa", sum := "26b97a7cc8f3dd5f889ed7e48c677189ec7b0b54ae6354ceb1eac46097406ae2", func := "escutcheon/escutcheonlaw05.ArenaDoes", spec := "arenaDoes", unfollowed := true, recurses := true, apart := false }
def ArenaDoesSaid : Prop := arenaDoesRow.holds Try.pinned (OpenSpec.ofChange arenaDoesSpec)

/-- ITS FALSE NEIGHBOUR: 'it returns false'. Refute it at one input. -/
def arenaDoesWrong : ChangeSpec := { name := "arenaDoes", fn := fun _ => fun
  | [d1, d2] => { results := [.lit (.bool false)], args := [d1, d2] }
  | _ => none }
def ArenaDoesWrongFalsely : Prop := arenaDoesRow.holds Try.pinned (OpenSpec.ofChange arenaDoesWrong)

/-- 'escutcheonlaw05.ArenaOnce': WHATEVER THE INPUT: true; the input reads as it did. -/
def arenaOnceSpec : ChangeSpec := { name := "arenaOnce", fn := fun _ => fun
  | [d1, d2] => { results := [.lit (.bool true)], args := [d1, d2] }
  | _ => none }
def arenaOnceRow : OpenClaim := { program := "ytgdghinconghgaa", sum := "26b97a7cc8f3dd5f889ed7e48c677189ec7b0b54ae6354ceb1eac46097406ae2", func := "escutcheon/escutcheonlaw05.ArenaOnce", spec := "arenaOnce", unfollowed := true, recurses := true, apart := false }
def ArenaOnceSaid : Prop := arenaOnceRow.holds Try.pinned (OpenSpec.ofChange arenaOnceSpec)

/-- ITS FALSE NEIGHBOUR: 'it returns false'. Refute it at one input. -/
def arenaOnceWrong : ChangeSpec := { name := "arenaOnce", fn := fun _ => fun
  | [d1, d2] => { results := [.lit (.bool false)], args := [d1, d2] }
  | _ => none }
def ArenaOnceWrongFalsely : Prop := arenaOnceRow.holds Try.pinned (OpenSpec.ofChange arenaOnceWrong)

/-- 'escutcheonlaw09.LatchDoes': WHATEVER THE INPUT: true; the input reads as it did. -/
def latchDoesSpec : ChangeSpec := { name := "latchDoes", fn := fun _ => fun
  | [d1, d2] => { results := [.lit (.bool true)], args := [d1, d2] }
  | _ => none }
def latchDoesRow : OpenClaim := { program := "ytgdghinconghgaa", sum := "26b97a7cc8f3dd5f889ed7e48c677189ec7b0b54ae6354ceb1eac46097406ae2", func := "escutcheon/escutcheonlaw09.LatchDoes", spec := "latchDoes", unfollowed := true, recurses := true, apart := false }
def LatchDoesSaid : Prop := latchDoesRow.holds Try.pinned (OpenSpec.ofChange latchDoesSpec)

/-- ITS FALSE NEIGHBOUR: 'it returns false'. Refute it at one input. -/
def latchDoesWrong : ChangeSpec := { name := "latchDoes", fn := fun _ => fun
  | [d1, d2] => { results := [.lit (.bool false)], args := [d1, d2] }
  | _ => none }
def LatchDoesWrongFalsely : Prop := latchDoesRow.holds Try.pinned (OpenSpec.ofChange latchDoesWrong)

/-- 'escutcheonlaw09.LatchRank': WHATEVER THE INPUT: true; the input reads as it did. -/
def latchRankSpec : ChangeSpec := { name := "latchRank", fn := fun _ => fun
  | [d1, d2, d3] => { results := [.lit (.bool true)], args := [d1, d2, d3] }
  | _ => none }
def latchRankRow : OpenClaim := { program := "ytgdghinconghgaa", sum := "26b97a7cc8f3dd5f889ed7e48c677189ec7b0b54ae6354ceb1eac46097406ae2", func := "escutcheon/escutcheonlaw09.LatchRank", spec := "latchRank", unfollowed := true, recurses := true, apart := false }
def LatchRankSaid : Prop := latchRankRow.holds Try.pinned (OpenSpec.ofChange latchRankSpec)

/-- ITS FALSE NEIGHBOUR: 'it returns false'. Refute it at one input. -/
def latchRankWrong : ChangeSpec := { name := "latchRank", fn := fun _ => fun
  | [d1, d2, d3] => { results := [.lit (.bool false)], args := [d1, d2, d3] }
  | _ => none }
def LatchRankWrongFalsely : Prop := latchRankRow.holds Try.pinned (OpenSpec.ofChange latchRankWrong)

/-- 'escutcheonlaw09.LatchGives': WHATEVER THE INPUT: true; the input reads as it did. -/
def latchGivesSpec : ChangeSpec := { name := "latchGives", fn := fun _ => fun
  | [d1, d2, d3, d4] => { results := [.lit (.bool true)], args := [d1, d2, d3, d4] }
  | _ => none }
def latchGivesRow : OpenClaim := { program := "ytgdghinconghgaa", sum := "26b97a7cc8f3dd5f889ed7e48c677189ec7b0b54ae6354ceb1eac46097406ae2", func := "escutcheon/escutcheonlaw09.LatchGives", spec := "latchGives", unfollowed := true, recurses := true, apart := false }
def LatchGivesSaid : Prop := latchGivesRow.holds Try.pinned (OpenSpec.ofChange latchGivesSpec)

/-- ITS FALSE NEIGHBOUR: 'it returns false'. Refute it at one input. -/
def latchGivesWrong : ChangeSpec := { name := "latchGives", fn := fun _ => fun
  | [d1, d2, d3, d4] => { results := [.lit (.bool false)], args := [d1, d2, d3, d4] }
  | _ => none }
def LatchGivesWrongFalsely : Prop := latchGivesRow.holds Try.pinned (OpenSpec.ofChange latchGivesWrong)

/-- 'escutcheonlaw22.TxnDoes': WHATEVER THE INPUT: true; the input reads as it did. -/
def txnDoesSpec : ChangeSpec := { name := "txnDoes", fn := fun _ => fun
  | [d1, d2, d3] => { results := [.lit (.bool true)], args := [d1, d2, d3] }
  | _ => none }
def txnDoesRow : OpenClaim := { program := "ytgdghinconghgaa", sum := "26b97a7cc8f3dd5f889ed7e48c677189ec7b0b54ae6354ceb1eac46097406ae2", func := "escutcheon/escutcheonlaw22.TxnDoes", spec := "txnDoes", apart := false }
def TxnDoesSaid : Prop := txnDoesRow.holds Try.pinned (OpenSpec.ofChange txnDoesSpec)

/-- ITS FALSE NEIGHBOUR: 'it returns false'. Refute it at one input. -/
def txnDoesWrong : ChangeSpec := { name := "txnDoes", fn := fun _ => fun
  | [d1, d2, d3] => { results := [.lit (.bool false)], args := [d1, d2, d3] }
  | _ => none }
def TxnDoesWrongFalsely : Prop := txnDoesRow.holds Try.pinned (OpenSpec.ofChange txnDoesWrong)

/-- 'escutcheonlaw22.TxnOnce': WHATEVER THE INPUT: true; the input reads as it did. -/
def txnOnceSpec : ChangeSpec := { name := "txnOnce", fn := fun _ => fun
  | [d1, d2] => { results := [.lit (.bool true)], args := [d1, d2] }
  | _ => none }
def txnOnceRow : OpenClaim := { program := "ytgdghinconghgaa", sum := "26b97a7cc8f3dd5f889ed7e48c677189ec7b0b54ae6354ceb1eac46097406ae2", func := "escutcheon/escutcheonlaw22.TxnOnce", spec := "txnOnce", apart := false }
def TxnOnceSaid : Prop := txnOnceRow.holds Try.pinned (OpenSpec.ofChange txnOnceSpec)

/-- ITS FALSE NEIGHBOUR: 'it returns false'. Refute it at one input. -/
def txnOnceWrong : ChangeSpec := { name := "txnOnce", fn := fun _ => fun
  | [d1, d2] => { results := [.lit (.bool false)], args := [d1, d2] }
  | _ => none }
def TxnOnceWrongFalsely : Prop := txnOnceRow.holds Try.pinned (OpenSpec.ofChange txnOnceWrong)

/- THE SECOND FORM. 'bulk': how many values and letters a reading holds, each counted each time it is reached (what is shared counts as often as it is met; a slice's spare places count too). A statement '..UptoSaid' is the law's where the arguments, and the package variables that the reading takes, are together of bulk at most 1048576: NARROWER than '..Said'. Prove '..Said' where nothing that the law and all that it calls make is longer than what came in: it says more and counts as full. Else prove '..UptoSaid'. A law counts once. -/
mutual
def uptoBulk {H : Type} : DataW H → Nat
  | .lit (.string bytes) => bytes.length + 1
  | .lit _ => 1
  | .nil => 1
  | .ptr d => uptoBulk d + 1
  | .slice elems spare => uptoBulkAll elems + uptoBulkAll spare + 1
  | .agg parts => uptoBulkAll parts + 1
  | .iface _ d => uptoBulk d + 1
  | .map entries => uptoBulkEntries entries + 1
  | .held _ => 1
def uptoBulkAll {H : Type} : List (DataW H) → Nat
  | [] => 0
  | d :: r => uptoBulk d + uptoBulkAll r
def uptoBulkEntries {H : Type} : List (Lit × DataW H) → Nat
  | [] => 0
  | x :: r => uptoBulkEntry x + uptoBulkEntries r
def uptoBulkEntry {H : Type} : Lit × DataW H → Nat
  | (.string bytes, d) => bytes.length + uptoBulk d + 1
  | (_, d) => uptoBulk d + 1
 end
def uptoSmall : (H : Type) → List (DataW H) → Bool := fun _ ds => decide (uptoBulkAll ds ≤ 1048576)
def OpenSpec.upto (s : _root_.Go.ChangeSpec) : _root_.Go.OpenSpec := { _root_.Go.OpenSpec.ofChange s with cond := some uptoSmall }

/-- 'escutcheonlaw03.ClockDoes', WHERE WHAT IT READS IS OF BULK AT MOST 1048576: true; the input reads as it did. -/
def clockDoesUptoRow : OpenClaim := { program := "ytgdghinconghgaa", sum := "26b97a7cc8f3dd5f889ed7e48c677189ec7b0b54ae6354ceb1eac46097406ae2", func := "escutcheon/escutcheonlaw03.ClockDoes", spec := "clockDoes", unfollowed := true, recurses := true, apart := false, narrowed := true }
def ClockDoesUptoSaid : Prop := clockDoesUptoRow.holds Try.pinned (OpenSpec.upto clockDoesSpec)

/-- 'escutcheonlaw03.ClockNever', WHERE WHAT IT READS IS OF BULK AT MOST 1048576: true; the input reads as it did. -/
def clockNeverUptoRow : OpenClaim := { program := "ytgdghinconghgaa", sum := "26b97a7cc8f3dd5f889ed7e48c677189ec7b0b54ae6354ceb1eac46097406ae2", func := "escutcheon/escutcheonlaw03.ClockNever", spec := "clockNever", unfollowed := true, recurses := true, apart := false, narrowed := true }
def ClockNeverUptoSaid : Prop := clockNeverUptoRow.holds Try.pinned (OpenSpec.upto clockNeverSpec)

/-- 'escutcheonlaw03.ClockCopies', WHERE WHAT IT READS IS OF BULK AT MOST 1048576: true; the input reads as it did. -/
def clockCopiesUptoRow : OpenClaim := { program := "ytgdghinconghgaa", sum := "26b97a7cc8f3dd5f889ed7e48c677189ec7b0b54ae6354ceb1eac46097406ae2", func := "escutcheon/escutcheonlaw03.ClockCopies", spec := "clockCopies", unfollowed := true, recurses := true, apart := false, narrowed := true }
def ClockCopiesUptoSaid : Prop := clockCopiesUptoRow.holds Try.pinned (OpenSpec.upto clockCopiesSpec)

/-- 'escutcheonlaw05.ArenaFull', WHERE WHAT IT READS IS OF BULK AT MOST 1048576: true; the input reads as it did. -/
def arenaFullUptoRow : OpenClaim := { program := "ytgdghinconghgaa", sum := "26b97a7cc8f3dd5f889ed7e48c677189ec7b0b54ae6354ceb1eac46097406ae2", func := "escutcheon/escutcheonlaw05.ArenaFull", spec := "arenaFull", unfollowed := true, recurses := true, apart := false, narrowed := true }
def ArenaFullUptoSaid : Prop := arenaFullUptoRow.holds Try.pinned (OpenSpec.upto arenaFullSpec)

/-- 'escutcheonlaw22.TxnLive', WHERE WHAT IT READS IS OF BULK AT MOST 1048576: true; the input reads as it did. -/
def txnLiveUptoRow : OpenClaim := { program := "ytgdghinconghgaa", sum := "26b97a7cc8f3dd5f889ed7e48c677189ec7b0b54ae6354ceb1eac46097406ae2", func := "escutcheon/escutcheonlaw22.TxnLive", spec := "txnLive", apart := false, narrowed := true }
def TxnLiveUptoSaid : Prop := txnLiveUptoRow.holds Try.pinned (OpenSpec.upto txnLiveSpec)

/-- 'escutcheonlaw05.ArenaDoes', WHERE WHAT IT READS IS OF BULK AT MOST 1048576: true; the input reads as it did. -/
def arenaDoesUptoRow : OpenClaim := { program := "ytgdghinconghgaa", sum := "26b97a7cc8f3dd5f889ed7e48c677189ec7b0b54ae6354ceb1eac46097406ae2", func := "escutcheon/escutcheonlaw05.ArenaDoes", spec := "arenaDoes", unfollowed := true, recurses := true, apart := false, narrowed := true }
def ArenaDoesUptoSaid : Prop := arenaDoesUptoRow.holds Try.pinned (OpenSpec.upto arenaDoesSpec)

/-- 'escutcheonlaw05.ArenaOnce', WHERE WHAT IT READS IS OF BULK AT MOST 1048576: true; the input reads as it did. -/
def arenaOnceUptoRow : OpenClaim := { program := "ytgdghinconghgaa", sum := "26b97a7cc8f3dd5f889ed7e48c677189ec7b0b54ae6354ceb1eac46097406ae2", func := "escutcheon/escutcheonlaw05.ArenaOnce", spec := "arenaOnce", unfollowed := true, recurses := true, apart := false, narrowed := true }
def ArenaOnceUptoSaid : Prop := arenaOnceUptoRow.holds Try.pinned (OpenSpec.upto arenaOnceSpec)

/-- 'escutcheonlaw09.LatchDoes', WHERE WHAT IT READS IS OF BULK AT MOST 1048576: true; the input reads as it did. -/
def latchDoesUptoRow : OpenClaim := { program := "ytgdghinconghgaa", sum := "26b97a7cc8f3dd5f889ed7e48c677189ec7b0b54ae6354ceb1eac46097406ae2", func := "escutcheon/escutcheonlaw09.LatchDoes", spec := "latchDoes", unfollowed := true, recurses := true, apart := false, narrowed := true }
def LatchDoesUptoSaid : Prop := latchDoesUptoRow.holds Try.pinned (OpenSpec.upto latchDoesSpec)

/-- 'escutcheonlaw09.LatchRank', WHERE WHAT IT READS IS OF BULK AT MOST 1048576: true; the input reads as it did. -/
def latchRankUptoRow : OpenClaim := { program := "ytgdghinconghgaa", sum := "26b97a7cc8f3dd5f889ed7e48c677189ec7b0b54ae6354ceb1eac46097406ae2", func := "escutcheon/escutcheonlaw09.LatchRank", spec := "latchRank", unfollowed := true, recurses := true, apart := false, narrowed := true }
def LatchRankUptoSaid : Prop := latchRankUptoRow.holds Try.pinned (OpenSpec.upto latchRankSpec)

/-- 'escutcheonlaw09.LatchGives', WHERE WHAT IT READS IS OF BULK AT MOST 1048576: true; the input reads as it did. -/
def latchGivesUptoRow : OpenClaim := { program := "ytgdghinconghgaa", sum := "26b97a7cc8f3dd5f889ed7e48c677189ec7b0b54ae6354ceb1eac46097406ae2", func := "escutcheon/escutcheonlaw09.LatchGives", spec := "latchGives", unfollowed := true, recurses := true, apart := false, narrowed := true }
def LatchGivesUptoSaid : Prop := latchGivesUptoRow.holds Try.pinned (OpenSpec.upto latchGivesSpec)

/-- 'escutcheonlaw22.TxnDoes', WHERE WHAT IT READS IS OF BULK AT MOST 1048576: true; the input reads as it did. -/
def txnDoesUptoRow : OpenClaim := { program := "ytgdghinconghgaa", sum := "26b97a7cc8f3dd5f889ed7e48c677189ec7b0b54ae6354ceb1eac46097406ae2", func := "escutcheon/escutcheonlaw22.TxnDoes", spec := "txnDoes", apart := false, narrowed := true }
def TxnDoesUptoSaid : Prop := txnDoesUptoRow.holds Try.pinned (OpenSpec.upto txnDoesSpec)

/-- 'escutcheonlaw22.TxnOnce', WHERE WHAT IT READS IS OF BULK AT MOST 1048576: true; the input reads as it did. -/
def txnOnceUptoRow : OpenClaim := { program := "ytgdghinconghgaa", sum := "26b97a7cc8f3dd5f889ed7e48c677189ec7b0b54ae6354ceb1eac46097406ae2", func := "escutcheon/escutcheonlaw22.TxnOnce", spec := "txnOnce", apart := false, narrowed := true }
def TxnOnceUptoSaid : Prop := txnOnceUptoRow.holds Try.pinned (OpenSpec.upto txnOnceSpec)

end Rows
end Go.Proofs.Ytgdghinconghgaa
