/-
  No cell of these rows narrows 'for every input' (looked for: loops, veiled, ifaces, maps, wideKeys, modest, calm, conditions, laid).
  DERIVED. THE GIVEN ROWS OF THIS SEAT. 6 by the template 'for every input the law returns true; each argument reads behind the call as it read before'; 0 by the template 'total and deterministic' (their statements: YtjbhlckdaghppaaTotals.lean).
  GIVEN WITH THE SEED: the statements are not yours to turn. If you find one false, say at which input.
  Laid BY PROGRAM, IN A SANDBOX (cutbox-rows.mjs): the forced cells as the released guide's own fill.sh prints them over the translation 771629e23a758db2… (all of the seat's roots in one cut). By AI agents, Wed Nov 11 2026. No macro, syntax, notation, axiom, sorry.
-/
import Derived.Test.YtjbhlckdaghppaaChecked
import GoSem.Claim
import GoSem.ClaimJoined
import GoSem.ClaimMapViews
import Derived.JoinedTies
import Derived.KernelRfl
namespace Go.Proofs.Ytjbhlckdaghppaa
/- THE CELL 'sum', in the pinned program and in every row, IS THE sha256 OF THE DUMP (.gsa) THAT YtjbhlckdaghppaaProg.lean LOADS. Nothing in Lean hashes anything: it is a label: what it is worth is what the hold of that sum in a sandbox is worth. -/
noncomputable def Try.pinned : Pinned := { name := "ytjbhlckdaghppaa", sum := "771629e23a758db2e6cb3672263c31ff33ea59e031bf2638624b8ecae62ca724", checked := Try.checked }
namespace Rows
def none {H : Type} : Left H := { results := [], args := [] }

/-- 'escutcheonlaw20.StoreLast': WHATEVER THE INPUT: true; the input reads as it did. -/
def storeLastSpec : ChangeSpec := { name := "storeLast", fn := fun _ => fun
  | [d1, d2] => { results := [.lit (.bool true)], args := [d1, d2] }
  | _ => none }
def storeLastRow : OpenClaim := { program := "ytjbhlckdaghppaa", sum := "771629e23a758db2e6cb3672263c31ff33ea59e031bf2638624b8ecae62ca724", func := "escutcheon/escutcheonlaw20.StoreLast", spec := "storeLast", unfollowed := true, recurses := true, plainKeys := false, apart := false }
def StoreLastSaid : Prop := storeLastRow.holds Try.pinned (OpenSpec.ofChange storeLastSpec)

/-- ITS FALSE NEIGHBOUR: 'it returns false'. Refute it at one input. -/
def storeLastWrong : ChangeSpec := { name := "storeLast", fn := fun _ => fun
  | [d1, d2] => { results := [.lit (.bool false)], args := [d1, d2] }
  | _ => none }
def StoreLastWrongFalsely : Prop := storeLastRow.holds Try.pinned (OpenSpec.ofChange storeLastWrong)

/-- 'escutcheonlaw20.StoreDoes': WHATEVER THE INPUT: true; the input reads as it did. -/
def storeDoesSpec : ChangeSpec := { name := "storeDoes", fn := fun _ => fun
  | [d1, d2] => { results := [.lit (.bool true)], args := [d1, d2] }
  | _ => none }
def storeDoesRow : OpenClaim := { program := "ytjbhlckdaghppaa", sum := "771629e23a758db2e6cb3672263c31ff33ea59e031bf2638624b8ecae62ca724", func := "escutcheon/escutcheonlaw20.StoreDoes", spec := "storeDoes", unfollowed := true, recurses := true, plainKeys := false, apart := false }
def StoreDoesSaid : Prop := storeDoesRow.holds Try.pinned (OpenSpec.ofChange storeDoesSpec)

/-- ITS FALSE NEIGHBOUR: 'it returns false'. Refute it at one input. -/
def storeDoesWrong : ChangeSpec := { name := "storeDoes", fn := fun _ => fun
  | [d1, d2] => { results := [.lit (.bool false)], args := [d1, d2] }
  | _ => none }
def StoreDoesWrongFalsely : Prop := storeDoesRow.holds Try.pinned (OpenSpec.ofChange storeDoesWrong)

/-- 'escutcheonlaw20.StoreOwn': WHATEVER THE INPUT: true; the input reads as it did. -/
def storeOwnSpec : ChangeSpec := { name := "storeOwn", fn := fun _ => fun
  | [d1, d2, d3] => { results := [.lit (.bool true)], args := [d1, d2, d3] }
  | _ => none }
def storeOwnRow : OpenClaim := { program := "ytjbhlckdaghppaa", sum := "771629e23a758db2e6cb3672263c31ff33ea59e031bf2638624b8ecae62ca724", func := "escutcheon/escutcheonlaw20.StoreOwn", spec := "storeOwn", inPlace := ["maps.clone"], unfollowed := true, recurses := true, plainKeys := false, apart := false }
def StoreOwnSaid : Prop := storeOwnRow.holds Try.pinned (OpenSpec.ofChange storeOwnSpec)

/-- ITS FALSE NEIGHBOUR: 'it returns false'. Refute it at one input. -/
def storeOwnWrong : ChangeSpec := { name := "storeOwn", fn := fun _ => fun
  | [d1, d2, d3] => { results := [.lit (.bool false)], args := [d1, d2, d3] }
  | _ => none }
def StoreOwnWrongFalsely : Prop := storeOwnRow.holds Try.pinned (OpenSpec.ofChange storeOwnWrong)

/-- 'escutcheonlaw24.SerialDoes': WHATEVER THE INPUT: true; the input reads as it did. -/
def serialDoesSpec : ChangeSpec := { name := "serialDoes", fn := fun _ => fun
  | [d] => { results := [.lit (.bool true)], args := [d] }
  | _ => none }
def serialDoesRow : OpenClaim := { program := "ytjbhlckdaghppaa", sum := "771629e23a758db2e6cb3672263c31ff33ea59e031bf2638624b8ecae62ca724", func := "escutcheon/escutcheonlaw24.SerialDoes", spec := "serialDoes", unfollowed := true, recurses := true, plainKeys := false, apart := false }
def SerialDoesSaid : Prop := serialDoesRow.holds Try.pinned (OpenSpec.ofChange serialDoesSpec)

/-- ITS FALSE NEIGHBOUR: 'it returns false'. Refute it at one input. -/
def serialDoesWrong : ChangeSpec := { name := "serialDoes", fn := fun _ => fun
  | [d] => { results := [.lit (.bool false)], args := [d] }
  | _ => none }
def SerialDoesWrongFalsely : Prop := serialDoesRow.holds Try.pinned (OpenSpec.ofChange serialDoesWrong)

/-- 'escutcheonlaw24.SerialOne': WHATEVER THE INPUT: true; the input reads as it did. -/
def serialOneSpec : ChangeSpec := { name := "serialOne", fn := fun _ => fun
  | [d1, d2] => { results := [.lit (.bool true)], args := [d1, d2] }
  | _ => none }
def serialOneRow : OpenClaim := { program := "ytjbhlckdaghppaa", sum := "771629e23a758db2e6cb3672263c31ff33ea59e031bf2638624b8ecae62ca724", func := "escutcheon/escutcheonlaw24.SerialOne", spec := "serialOne", unfollowed := true, recurses := true, plainKeys := false, apart := false }
def SerialOneSaid : Prop := serialOneRow.holds Try.pinned (OpenSpec.ofChange serialOneSpec)

/-- ITS FALSE NEIGHBOUR: 'it returns false'. Refute it at one input. -/
def serialOneWrong : ChangeSpec := { name := "serialOne", fn := fun _ => fun
  | [d1, d2] => { results := [.lit (.bool false)], args := [d1, d2] }
  | _ => none }
def SerialOneWrongFalsely : Prop := serialOneRow.holds Try.pinned (OpenSpec.ofChange serialOneWrong)

/-- 'escutcheonlaw24.SerialAlone': WHATEVER THE INPUT: true; the input reads as it did. -/
def serialAloneSpec : ChangeSpec := { name := "serialAlone", fn := fun _ => fun
  | [d1, d2] => { results := [.lit (.bool true)], args := [d1, d2] }
  | _ => none }
def serialAloneRow : OpenClaim := { program := "ytjbhlckdaghppaa", sum := "771629e23a758db2e6cb3672263c31ff33ea59e031bf2638624b8ecae62ca724", func := "escutcheon/escutcheonlaw24.SerialAlone", spec := "serialAlone", unfollowed := true, recurses := true, plainKeys := false, apart := false }
def SerialAloneSaid : Prop := serialAloneRow.holds Try.pinned (OpenSpec.ofChange serialAloneSpec)

/-- ITS FALSE NEIGHBOUR: 'it returns false'. Refute it at one input. -/
def serialAloneWrong : ChangeSpec := { name := "serialAlone", fn := fun _ => fun
  | [d1, d2] => { results := [.lit (.bool false)], args := [d1, d2] }
  | _ => none }
def SerialAloneWrongFalsely : Prop := serialAloneRow.holds Try.pinned (OpenSpec.ofChange serialAloneWrong)

/- THE SECOND FORM. 'bulk': how many values and letters a reading holds, each counted each time it is reached (what is shared counts as often as it is met; a slice's spare places count too). A statement '..UptoSaid' is the law's where the arguments, and the package variables that the reading takes, are together of bulk at most 1048576: NARROWER than '..Said'. Prove '..Said' where nothing that the law and all that it calls make is longer than what came in: it says more and counts as full. Else prove '..UptoSaid'. A law counts once. -/
mutual
def uptoBulk {H : Type} : DataW H → Nat
  | .lit (.string bytes) => bytes.length + 1
  | .lit _ => 1
  | .nil => 1
  | .ptr d => uptoBulk d + 1
  | .slice elems spare => uptoBulkAll elems + uptoBulkAll spare + 1
  | .agg parts => uptoBulkAll parts + 1
  | .iface _ d => uptoBulk d + 1
  | .map entries => uptoBulkEntries entries + 1
  | .held _ => 1
def uptoBulkAll {H : Type} : List (DataW H) → Nat
  | [] => 0
  | d :: r => uptoBulk d + uptoBulkAll r
def uptoBulkEntries {H : Type} : List (Lit × DataW H) → Nat
  | [] => 0
  | x :: r => uptoBulkEntry x + uptoBulkEntries r
def uptoBulkEntry {H : Type} : Lit × DataW H → Nat
  | (.string bytes, d) => bytes.length + uptoBulk d + 1
  | (_, d) => uptoBulk d + 1
 end
def uptoSmall : (H : Type) → List (DataW H) → Bool := fun _ ds => decide (uptoBulkAll ds ≤ 1048576)
def OpenSpec.upto (s : _root_.Go.ChangeSpec) : _root_.Go.OpenSpec := { _root_.Go.OpenSpec.ofChange s with cond := some uptoSmall }

/-- 'escutcheonlaw20.StoreLast', WHERE WHAT IT READS IS OF BULK AT MOST 1048576: true; the input reads as it did. -/
def storeLastUptoRow : OpenClaim := { program := "ytjbhlckdaghppaa", sum := "771629e23a758db2e6cb3672263c31ff33ea59e031bf2638624b8ecae62ca724", func := "escutcheon/escutcheonlaw20.StoreLast", spec := "storeLast", unfollowed := true, recurses := true, plainKeys := false, apart := false, narrowed := true }
def StoreLastUptoSaid : Prop := storeLastUptoRow.holds Try.pinned (OpenSpec.upto storeLastSpec)

/-- 'escutcheonlaw20.StoreDoes', WHERE WHAT IT READS IS OF BULK AT MOST 1048576: true; the input reads as it did. -/
def storeDoesUptoRow : OpenClaim := { program := "ytjbhlckdaghppaa", sum := "771629e23a758db2e6cb3672263c31ff33ea59e031bf2638624b8ecae62ca724", func := "escutcheon/escutcheonlaw20.StoreDoes", spec := "storeDoes", unfollowed := true, recurses := true, plainKeys := false, apart := false, narrowed := true }
def StoreDoesUptoSaid : Prop := storeDoesUptoRow.holds Try.pinned (OpenSpec.upto storeDoesSpec)

/-- 'escutcheonlaw20.StoreOwn', WHERE WHAT IT READS IS OF BULK AT MOST 1048576: true; the input reads as it did. -/
def storeOwnUptoRow : OpenClaim := { program := "ytjbhlckdaghppaa", sum := "771629e23a758db2e6cb3672263c31ff33ea59e031bf2638624b8ecae62ca724", func := "escutcheon/escutcheonlaw20.StoreOwn", spec := "storeOwn", inPlace := ["maps.clone"], unfollowed := true, recurses := true, plainKeys := false, apart := false, narrowed := true }
def StoreOwnUptoSaid : Prop := storeOwnUptoRow.holds Try.pinned (OpenSpec.upto storeOwnSpec)

/-- 'escutcheonlaw24.SerialDoes', WHERE WHAT IT READS IS OF BULK AT MOST 1048576: true; the input reads as it did. -/
def serialDoesUptoRow : OpenClaim := { program := "ytjbhlckdaghppaa", sum := "771629e23a758db2e6cb3672263c31ff33ea59e031bf2638624b8ecae62ca724", func := "escutcheon/escutcheonlaw24.SerialDoes", spec := "serialDoes", unfollowed := true, recurses := true, plainKeys := false, apart := false, narrowed := true }
def SerialDoesUptoSaid : Prop := serialDoesUptoRow.holds Try.pinned (OpenSpec.upto serialDoesSpec)

/-- 'escutcheonlaw24.SerialOne', WHERE WHAT IT READS IS OF BULK AT MOST 1048576: true; the input reads as it did. -/
def serialOneUptoRow : OpenClaim := { program := "ytjbhlckdaghppaa", sum := "771629e23a758db2e6cb3672263c31ff33ea59e031bf2638624b8ecae62ca724", func := "escutcheon/escutcheonlaw24.SerialOne", spec := "serialOne", unfollowed := true, recurses := true, plainKeys := false, apart := false, narrowed := true }
def SerialOneUptoSaid : Prop := serialOneUptoRow.holds Try.pinned (OpenSpec.upto serialOneSpec)

/-- 'escutcheonlaw24.SerialAlone', WHERE WHAT IT READS IS OF BULK AT MOST 1048576: true; the input reads as it did. -/
def serialAloneUptoRow : OpenClaim := { program := "ytjbhlckdaghppaa", sum := "771629e23a758db2e6cb3672263c31ff33ea59e031bf2638624b8ecae62ca724", func := "escutcheon/escutcheonlaw24.SerialAlone", spec := "serialAlone", unfollowed := true, recurses := true, plainKeys := false, apart := false, narrowed := true }
def SerialAloneUptoSaid : Prop := serialAloneUptoRow.holds Try.pinned (OpenSpec.upto serialAloneSpec)

end Rows
end Go.Proofs.Ytjbhlckdaghppaa
