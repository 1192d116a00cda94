/-
  No cell of these rows narrows 'for every input' (looked for: loops, veiled, ifaces, maps, wideKeys, modest, calm, conditions, laid).
  DERIVED. THE GIVEN ROWS OF THIS SEAT. 3 by the template 'for every input the law returns true; each argument reads behind the call as it read before'; 0 by the template 'total and deterministic' (their statements: YtbdefhekkafihaaTotals.lean).
  GIVEN WITH THE SEED: the statements are not yours to turn. If you find one false, say at which input.
  Laid BY PROGRAM, IN A SANDBOX (cutbox-rows.mjs): the forced cells as the released guide's own fill.sh prints them over the translation d869bca58e94f756… (all of the seat's roots in one cut). By AI agents, Wed Nov 11 2026. No macro, syntax, notation, axiom, sorry.
-/
import Derived.Test.YtbdefhekkafihaaChecked
import GoSem.Claim
import GoSem.ClaimJoined
import GoSem.ClaimMapViews
import Derived.JoinedTies
import Derived.KernelRfl
namespace Go.Proofs.Ytbdefhekkafihaa
/- THE CELL 'sum', in the pinned program and in every row, IS THE sha256 OF THE DUMP (.gsa) THAT YtbdefhekkafihaaProg.lean LOADS. Nothing in Lean hashes anything: it is a label: what it is worth is what the hold of that sum in a sandbox is worth. -/
noncomputable def Try.pinned : Pinned := { name := "ytbdefhekkafihaa", sum := "d869bca58e94f756dec95378c82c380e297253d41ce9d71eeb7c9cbac08bf3c9", checked := Try.checked }
namespace Rows
def none {H : Type} : Left H := { results := [], args := [] }

/-- 'escutcheonlaw45.MixDraws': WHATEVER THE INPUT: true; the input reads as it did. -/
def mixDrawsSpec : ChangeSpec := { name := "mixDraws", fn := fun _ => fun
  | [d1, d2, d3] => { results := [.lit (.bool true)], args := [d1, d2, d3] }
  | _ => none }
def mixDrawsRow : OpenClaim := { program := "ytbdefhekkafihaa", sum := "d869bca58e94f756dec95378c82c380e297253d41ce9d71eeb7c9cbac08bf3c9", func := "escutcheon/escutcheonlaw45.MixDraws", spec := "mixDraws", unfollowed := true, recurses := true, plainKeys := false, apart := false }
def MixDrawsSaid : Prop := mixDrawsRow.holds Try.pinned (OpenSpec.ofChange mixDrawsSpec)

/-- ITS FALSE NEIGHBOUR: 'it returns false'. Refute it at one input. -/
def mixDrawsWrong : ChangeSpec := { name := "mixDraws", fn := fun _ => fun
  | [d1, d2, d3] => { results := [.lit (.bool false)], args := [d1, d2, d3] }
  | _ => none }
def MixDrawsWrongFalsely : Prop := mixDrawsRow.holds Try.pinned (OpenSpec.ofChange mixDrawsWrong)

/-- 'escutcheonlaw45.MixBounds': WHATEVER THE INPUT: true; the input reads as it did. -/
def mixBoundsSpec : ChangeSpec := { name := "mixBounds", fn := fun _ => fun
  | [d] => { results := [.lit (.bool true)], args := [d] }
  | _ => none }
def mixBoundsRow : OpenClaim := { program := "ytbdefhekkafihaa", sum := "d869bca58e94f756dec95378c82c380e297253d41ce9d71eeb7c9cbac08bf3c9", func := "escutcheon/escutcheonlaw45.MixBounds", spec := "mixBounds", unfollowed := true, recurses := true, plainKeys := false, apart := false }
def MixBoundsSaid : Prop := mixBoundsRow.holds Try.pinned (OpenSpec.ofChange mixBoundsSpec)

/-- ITS FALSE NEIGHBOUR: 'it returns false'. Refute it at one input. -/
def mixBoundsWrong : ChangeSpec := { name := "mixBounds", fn := fun _ => fun
  | [d] => { results := [.lit (.bool false)], args := [d] }
  | _ => none }
def MixBoundsWrongFalsely : Prop := mixBoundsRow.holds Try.pinned (OpenSpec.ofChange mixBoundsWrong)

/-- 'escutcheonlaw45.MixRight': WHATEVER THE INPUT: true; the input reads as it did. -/
def mixRightSpec : ChangeSpec := { name := "mixRight", fn := fun _ => fun
  | [d1, d2, d3] => { results := [.lit (.bool true)], args := [d1, d2, d3] }
  | _ => none }
def mixRightRow : OpenClaim := { program := "ytbdefhekkafihaa", sum := "d869bca58e94f756dec95378c82c380e297253d41ce9d71eeb7c9cbac08bf3c9", func := "escutcheon/escutcheonlaw45.MixRight", spec := "mixRight", unfollowed := true, recurses := true, plainKeys := false, apart := false }
def MixRightSaid : Prop := mixRightRow.holds Try.pinned (OpenSpec.ofChange mixRightSpec)

/-- ITS FALSE NEIGHBOUR: 'it returns false'. Refute it at one input. -/
def mixRightWrong : ChangeSpec := { name := "mixRight", fn := fun _ => fun
  | [d1, d2, d3] => { results := [.lit (.bool false)], args := [d1, d2, d3] }
  | _ => none }
def MixRightWrongFalsely : Prop := mixRightRow.holds Try.pinned (OpenSpec.ofChange mixRightWrong)

/- THE SECOND FORM. 'bulk': how many values and letters a reading holds, each counted each time it is reached (what is shared counts as often as it is met; a slice's spare places count too). A statement '..UptoSaid' is the law's where the arguments, and the package variables that the reading takes, are together of bulk at most 1048576: NARROWER than '..Said'. Prove '..Said' where nothing that the law and all that it calls make is longer than what came in: it says more and counts as full. Else prove '..UptoSaid'. A law counts once. -/
mutual
def uptoBulk {H : Type} : DataW H → Nat
  | .lit (.string bytes) => bytes.length + 1
  | .lit _ => 1
  | .nil => 1
  | .ptr d => uptoBulk d + 1
  | .slice elems spare => uptoBulkAll elems + uptoBulkAll spare + 1
  | .agg parts => uptoBulkAll parts + 1
  | .iface _ d => uptoBulk d + 1
  | .map entries => uptoBulkEntries entries + 1
  | .held _ => 1
def uptoBulkAll {H : Type} : List (DataW H) → Nat
  | [] => 0
  | d :: r => uptoBulk d + uptoBulkAll r
def uptoBulkEntries {H : Type} : List (Lit × DataW H) → Nat
  | [] => 0
  | x :: r => uptoBulkEntry x + uptoBulkEntries r
def uptoBulkEntry {H : Type} : Lit × DataW H → Nat
  | (.string bytes, d) => bytes.length + uptoBulk d + 1
  | (_, d) => uptoBulk d + 1
 end
def uptoSmall : (H : Type) → List (DataW H) → Bool := fun _ ds => decide (uptoBulkAll ds ≤ 1048576)
def OpenSpec.upto (s : _root_.Go.ChangeSpec) : _root_.Go.OpenSpec := { _root_.Go.OpenSpec.ofChange s with cond := some uptoSmall }

/-- 'escutcheonlaw45.MixDraws', WHERE WHAT IT READS IS OF BULK AT MOST 1048576: true; the input reads as it did. -/
def mixDrawsUptoRow : OpenClaim := { program := "ytbdefhekkafihaa", sum := "d869bca58e94f756dec95378c82c380e297253d41ce9d71eeb7c9cbac08bf3c9", func := "escutcheon/escutcheonlaw45.MixDraws", spec := "mixDraws", unfollowed := true, recurses := true, plainKeys := false, apart := false, narrowed := true }
def MixDrawsUptoSaid : Prop := mixDrawsUptoRow.holds Try.pinned (OpenSpec.upto mixDrawsSpec)

/-- 'escutcheonlaw45.MixBounds', WHERE WHAT IT READS IS OF BULK AT MOST 1048576: true; the input reads as it did. -/
def mixBoundsUptoRow : OpenClaim := { program := "ytbdefhekkafihaa", sum := "d869bca58e94f756dec95378c82c380e297253d41ce9d71eeb7c9cbac08bf3c9", func := "escutcheon/escutcheonlaw45.MixBounds", spec := "mixBounds", unfollowed := true, recurses := true, plainKeys := false, apart := false, narrowed := true }
def MixBoundsUptoSaid : Prop := mixBoundsUptoRow.holds Try.pinned (OpenSpec.upto mixBoundsSpec)

/-- 'escutcheonlaw45.MixRight', WHERE WHAT IT READS IS OF BULK AT MOST 1048576: true; the input reads as it did. -/
def mixRightUptoRow : OpenClaim := { program := "ytbdefhekkafihaa", sum := "d869bca58e94f756dec95378c82c380e297253d41ce9d71eeb7c9cbac08bf3c9", func := "escutcheon/escutcheonlaw45.MixRight", spec := "mixRight", unfollowed := true, recurses := true, plainKeys := false, apart := false, narrowed := true }
def MixRightUptoSaid : Prop := mixRightUptoRow.holds Try.pinned (OpenSpec.upto mixRightSpec)

end Rows
end Go.Proofs.Ytbdefhekkafihaa
