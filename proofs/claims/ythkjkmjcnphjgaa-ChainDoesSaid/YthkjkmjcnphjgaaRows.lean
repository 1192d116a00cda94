/-
  No cell of these rows narrows 'for every input' (looked for: loops, veiled, ifaces, maps, wideKeys, modest, calm, conditions, laid).
  DERIVED. THE GIVEN ROWS OF THIS SEAT. 10 by the template 'for every input the law returns true; each argument reads behind the call as it read before'; 0 by the template 'total and deterministic' (their statements: YthkjkmjcnphjgaaTotals.lean).
  GIVEN WITH THE SEED: the statements are not yours to turn. If you find one false, say at which input.
  Laid BY PROGRAM, IN A SANDBOX (cutbox-rows.mjs): the forced cells as the released guide's own fill.sh prints them over the translation ebddd38260140df6… (all of the seat's roots in one cut). By AI agents, Wed Nov 11 2026. No macro, syntax, notation, axiom, sorry.
-/
import Derived.Test.YthkjkmjcnphjgaaChecked
import GoSem.Claim
import GoSem.ClaimJoined
import GoSem.ClaimMapViews
import Derived.JoinedTies
import Derived.KernelRfl
namespace Go.Proofs.Ythkjkmjcnphjgaa
/- THE CELL 'sum', in the pinned program and in every row, IS THE sha256 OF THE DUMP (.gsa) THAT YthkjkmjcnphjgaaProg.lean LOADS. Nothing in Lean hashes anything: it is a label: what it is worth is what the hold of that sum in a sandbox is worth. -/
noncomputable def Try.pinned : Pinned := { name := "ythkjkmjcnphjgaa", sum := "ebddd38260140df6057a59ddd74bbbdbce2073cc73f0d083e773cca64cf10110", checked := Try.checked }
namespace Rows
def none {H : Type} : Left H := { results := [], args := [] }

/-- 'escutcheonlaw07.ChainBuilds': WHATEVER THE INPUT: true; the input reads as it did. -/
def chainBuildsSpec : ChangeSpec := { name := "chainBuilds", fn := fun _ => fun
  | [d1, d2] => { results := [.lit (.bool true)], args := [d1, d2] }
  | _ => none }
def chainBuildsRow : OpenClaim := { program := "ythkjkmjcnphjgaa", sum := "ebddd38260140df6057a59ddd74bbbdbce2073cc73f0d083e773cca64cf10110", func := "escutcheon/escutcheonlaw07.ChainBuilds", spec := "chainBuilds", apart := false }
def ChainBuildsSaid : Prop := chainBuildsRow.holds Try.pinned (OpenSpec.ofChange chainBuildsSpec)

/-- ITS FALSE NEIGHBOUR: 'it returns false'. Refute it at one input. -/
def chainBuildsWrong : ChangeSpec := { name := "chainBuilds", fn := fun _ => fun
  | [d1, d2] => { results := [.lit (.bool false)], args := [d1, d2] }
  | _ => none }
def ChainBuildsWrongFalsely : Prop := chainBuildsRow.holds Try.pinned (OpenSpec.ofChange chainBuildsWrong)

/-- 'escutcheonlaw07.ChainDoes': WHATEVER THE INPUT: true; the input reads as it did. -/
def chainDoesSpec : ChangeSpec := { name := "chainDoes", fn := fun _ => fun
  | [d1, d2] => { results := [.lit (.bool true)], args := [d1, d2] }
  | _ => none }
def chainDoesRow : OpenClaim := { program := "ythkjkmjcnphjgaa", sum := "ebddd38260140df6057a59ddd74bbbdbce2073cc73f0d083e773cca64cf10110", func := "escutcheon/escutcheonlaw07.ChainDoes", spec := "chainDoes", apart := false }
def ChainDoesSaid : Prop := chainDoesRow.holds Try.pinned (OpenSpec.ofChange chainDoesSpec)

/-- ITS FALSE NEIGHBOUR: 'it returns false'. Refute it at one input. -/
def chainDoesWrong : ChangeSpec := { name := "chainDoes", fn := fun _ => fun
  | [d1, d2] => { results := [.lit (.bool false)], args := [d1, d2] }
  | _ => none }
def ChainDoesWrongFalsely : Prop := chainDoesRow.holds Try.pinned (OpenSpec.ofChange chainDoesWrong)

/-- 'escutcheonlaw07.ChainOrder': WHATEVER THE INPUT: true; the input reads as it did. -/
def chainOrderSpec : ChangeSpec := { name := "chainOrder", fn := fun _ => fun
  | [d1, d2, d3] => { results := [.lit (.bool true)], args := [d1, d2, d3] }
  | _ => none }
def chainOrderRow : OpenClaim := { program := "ythkjkmjcnphjgaa", sum := "ebddd38260140df6057a59ddd74bbbdbce2073cc73f0d083e773cca64cf10110", func := "escutcheon/escutcheonlaw07.ChainOrder", spec := "chainOrder", apart := false }
def ChainOrderSaid : Prop := chainOrderRow.holds Try.pinned (OpenSpec.ofChange chainOrderSpec)

/-- ITS FALSE NEIGHBOUR: 'it returns false'. Refute it at one input. -/
def chainOrderWrong : ChangeSpec := { name := "chainOrder", fn := fun _ => fun
  | [d1, d2, d3] => { results := [.lit (.bool false)], args := [d1, d2, d3] }
  | _ => none }
def ChainOrderWrongFalsely : Prop := chainOrderRow.holds Try.pinned (OpenSpec.ofChange chainOrderWrong)

/-- 'escutcheonlaw17.NeedPlans': WHATEVER THE INPUT: true; the input reads as it did. -/
def needPlansSpec : ChangeSpec := { name := "needPlans", fn := fun _ => fun
  | [d1, d2, d3] => { results := [.lit (.bool true)], args := [d1, d2, d3] }
  | _ => none }
def needPlansRow : OpenClaim := { program := "ythkjkmjcnphjgaa", sum := "ebddd38260140df6057a59ddd74bbbdbce2073cc73f0d083e773cca64cf10110", func := "escutcheon/escutcheonlaw17.NeedPlans", spec := "needPlans", unfollowed := true, recurses := true, apart := false }
def NeedPlansSaid : Prop := needPlansRow.holds Try.pinned (OpenSpec.ofChange needPlansSpec)

/-- ITS FALSE NEIGHBOUR: 'it returns false'. Refute it at one input. -/
def needPlansWrong : ChangeSpec := { name := "needPlans", fn := fun _ => fun
  | [d1, d2, d3] => { results := [.lit (.bool false)], args := [d1, d2, d3] }
  | _ => none }
def NeedPlansWrongFalsely : Prop := needPlansRow.holds Try.pinned (OpenSpec.ofChange needPlansWrong)

/-- 'escutcheonlaw11.GroupLess': WHATEVER THE INPUT: true; the input reads as it did. -/
def groupLessSpec : ChangeSpec := { name := "groupLess", fn := fun _ => fun
  | [d1, d2, d3, d4] => { results := [.lit (.bool true)], args := [d1, d2, d3, d4] }
  | _ => none }
def groupLessRow : OpenClaim := { program := "ythkjkmjcnphjgaa", sum := "ebddd38260140df6057a59ddd74bbbdbce2073cc73f0d083e773cca64cf10110", func := "escutcheon/escutcheonlaw11.GroupLess", spec := "groupLess", unfollowed := true, recurses := true, apart := false }
def GroupLessSaid : Prop := groupLessRow.holds Try.pinned (OpenSpec.ofChange groupLessSpec)

/-- ITS FALSE NEIGHBOUR: 'it returns false'. Refute it at one input. -/
def groupLessWrong : ChangeSpec := { name := "groupLess", fn := fun _ => fun
  | [d1, d2, d3, d4] => { results := [.lit (.bool false)], args := [d1, d2, d3, d4] }
  | _ => none }
def GroupLessWrongFalsely : Prop := groupLessRow.holds Try.pinned (OpenSpec.ofChange groupLessWrong)

/-- 'escutcheonlaw11.GroupStays': WHATEVER THE INPUT: true; the input reads as it did. -/
def groupStaysSpec : ChangeSpec := { name := "groupStays", fn := fun _ => fun
  | [d1, d2, d3] => { results := [.lit (.bool true)], args := [d1, d2, d3] }
  | _ => none }
def groupStaysRow : OpenClaim := { program := "ythkjkmjcnphjgaa", sum := "ebddd38260140df6057a59ddd74bbbdbce2073cc73f0d083e773cca64cf10110", func := "escutcheon/escutcheonlaw11.GroupStays", spec := "groupStays", unfollowed := true, recurses := true, apart := false }
def GroupStaysSaid : Prop := groupStaysRow.holds Try.pinned (OpenSpec.ofChange groupStaysSpec)

/-- ITS FALSE NEIGHBOUR: 'it returns false'. Refute it at one input. -/
def groupStaysWrong : ChangeSpec := { name := "groupStays", fn := fun _ => fun
  | [d1, d2, d3] => { results := [.lit (.bool false)], args := [d1, d2, d3] }
  | _ => none }
def GroupStaysWrongFalsely : Prop := groupStaysRow.holds Try.pinned (OpenSpec.ofChange groupStaysWrong)

/-- 'escutcheonlaw11.GroupDoes': WHATEVER THE INPUT: true; the input reads as it did. -/
def groupDoesSpec : ChangeSpec := { name := "groupDoes", fn := fun _ => fun
  | [d1, d2, d3] => { results := [.lit (.bool true)], args := [d1, d2, d3] }
  | _ => none }
def groupDoesRow : OpenClaim := { program := "ythkjkmjcnphjgaa", sum := "ebddd38260140df6057a59ddd74bbbdbce2073cc73f0d083e773cca64cf10110", func := "escutcheon/escutcheonlaw11.GroupDoes", spec := "groupDoes", unfollowed := true, recurses := true, apart := false }
def GroupDoesSaid : Prop := groupDoesRow.holds Try.pinned (OpenSpec.ofChange groupDoesSpec)

/-- ITS FALSE NEIGHBOUR: 'it returns false'. Refute it at one input. -/
def groupDoesWrong : ChangeSpec := { name := "groupDoes", fn := fun _ => fun
  | [d1, d2, d3] => { results := [.lit (.bool false)], args := [d1, d2, d3] }
  | _ => none }
def GroupDoesWrongFalsely : Prop := groupDoesRow.holds Try.pinned (OpenSpec.ofChange groupDoesWrong)

/-- 'escutcheonlaw17.NeedEnough': WHATEVER THE INPUT: true; the input reads as it did. -/
def needEnoughSpec : ChangeSpec := { name := "needEnough", fn := fun _ => fun
  | [d1, d2, d3, d4] => { results := [.lit (.bool true)], args := [d1, d2, d3, d4] }
  | _ => none }
def needEnoughRow : OpenClaim := { program := "ythkjkmjcnphjgaa", sum := "ebddd38260140df6057a59ddd74bbbdbce2073cc73f0d083e773cca64cf10110", func := "escutcheon/escutcheonlaw17.NeedEnough", spec := "needEnough", unfollowed := true, recurses := true, apart := false }
def NeedEnoughSaid : Prop := needEnoughRow.holds Try.pinned (OpenSpec.ofChange needEnoughSpec)

/-- ITS FALSE NEIGHBOUR: 'it returns false'. Refute it at one input. -/
def needEnoughWrong : ChangeSpec := { name := "needEnough", fn := fun _ => fun
  | [d1, d2, d3, d4] => { results := [.lit (.bool false)], args := [d1, d2, d3, d4] }
  | _ => none }
def NeedEnoughWrongFalsely : Prop := needEnoughRow.holds Try.pinned (OpenSpec.ofChange needEnoughWrong)

/-- 'escutcheonlaw10.RequestStays': WHATEVER THE INPUT: true; the input reads as it did. -/
def requestStaysSpec : ChangeSpec := { name := "requestStays", fn := fun _ => fun
  | [d1, d2] => { results := [.lit (.bool true)], args := [d1, d2] }
  | _ => none }
def requestStaysRow : OpenClaim := { program := "ythkjkmjcnphjgaa", sum := "ebddd38260140df6057a59ddd74bbbdbce2073cc73f0d083e773cca64cf10110", func := "escutcheon/escutcheonlaw10.RequestStays", spec := "requestStays", inPlace := ["slices.overlaps[escutcheon/api.Wait]"], unfollowed := true, recurses := true, apart := false }
def RequestStaysSaid : Prop := requestStaysRow.holds Try.pinned (OpenSpec.ofChange requestStaysSpec)

/-- ITS FALSE NEIGHBOUR: 'it returns false'. Refute it at one input. -/
def requestStaysWrong : ChangeSpec := { name := "requestStays", fn := fun _ => fun
  | [d1, d2] => { results := [.lit (.bool false)], args := [d1, d2] }
  | _ => none }
def RequestStaysWrongFalsely : Prop := requestStaysRow.holds Try.pinned (OpenSpec.ofChange requestStaysWrong)

/-- 'escutcheonlaw17.NeedBack': WHATEVER THE INPUT: true; the input reads as it did. -/
def needBackSpec : ChangeSpec := { name := "needBack", fn := fun _ => fun
  | [d] => { results := [.lit (.bool true)], args := [d] }
  | _ => none }
def needBackRow : OpenClaim := { program := "ythkjkmjcnphjgaa", sum := "ebddd38260140df6057a59ddd74bbbdbce2073cc73f0d083e773cca64cf10110", func := "escutcheon/escutcheonlaw17.NeedBack", spec := "needBack", unfollowed := true, recurses := true, apart := false }
def NeedBackSaid : Prop := needBackRow.holds Try.pinned (OpenSpec.ofChange needBackSpec)

/-- ITS FALSE NEIGHBOUR: 'it returns false'. Refute it at one input. -/
def needBackWrong : ChangeSpec := { name := "needBack", fn := fun _ => fun
  | [d] => { results := [.lit (.bool false)], args := [d] }
  | _ => none }
def NeedBackWrongFalsely : Prop := needBackRow.holds Try.pinned (OpenSpec.ofChange needBackWrong)

/- THE SECOND FORM. 'bulk': how many values and letters a reading holds, each counted each time it is reached (what is shared counts as often as it is met; a slice's spare places count too). A statement '..UptoSaid' is the law's where the arguments, and the package variables that the reading takes, are together of bulk at most 1048576: NARROWER than '..Said'. Prove '..Said' where nothing that the law and all that it calls make is longer than what came in: it says more and counts as full. Else prove '..UptoSaid'. A law counts once. -/
mutual
def uptoBulk {H : Type} : DataW H → Nat
  | .lit (.string bytes) => bytes.length + 1
  | .lit _ => 1
  | .nil => 1
  | .ptr d => uptoBulk d + 1
  | .slice elems spare => uptoBulkAll elems + uptoBulkAll spare + 1
  | .agg parts => uptoBulkAll parts + 1
  | .iface _ d => uptoBulk d + 1
  | .map entries => uptoBulkEntries entries + 1
  | .held _ => 1
def uptoBulkAll {H : Type} : List (DataW H) → Nat
  | [] => 0
  | d :: r => uptoBulk d + uptoBulkAll r
def uptoBulkEntries {H : Type} : List (Lit × DataW H) → Nat
  | [] => 0
  | x :: r => uptoBulkEntry x + uptoBulkEntries r
def uptoBulkEntry {H : Type} : Lit × DataW H → Nat
  | (.string bytes, d) => bytes.length + uptoBulk d + 1
  | (_, d) => uptoBulk d + 1
 end
def uptoSmall : (H : Type) → List (DataW H) → Bool := fun _ ds => decide (uptoBulkAll ds ≤ 1048576)
def OpenSpec.upto (s : _root_.Go.ChangeSpec) : _root_.Go.OpenSpec := { _root_.Go.OpenSpec.ofChange s with cond := some uptoSmall }

/-- 'escutcheonlaw07.ChainBuilds', WHERE WHAT IT READS IS OF BULK AT MOST 1048576: true; the input reads as it did. -/
def chainBuildsUptoRow : OpenClaim := { program := "ythkjkmjcnphjgaa", sum := "ebddd38260140df6057a59ddd74bbbdbce2073cc73f0d083e773cca64cf10110", func := "escutcheon/escutcheonlaw07.ChainBuilds", spec := "chainBuilds", apart := false, narrowed := true }
def ChainBuildsUptoSaid : Prop := chainBuildsUptoRow.holds Try.pinned (OpenSpec.upto chainBuildsSpec)

/-- 'escutcheonlaw07.ChainDoes', WHERE WHAT IT READS IS OF BULK AT MOST 1048576: true; the input reads as it did. -/
def chainDoesUptoRow : OpenClaim := { program := "ythkjkmjcnphjgaa", sum := "ebddd38260140df6057a59ddd74bbbdbce2073cc73f0d083e773cca64cf10110", func := "escutcheon/escutcheonlaw07.ChainDoes", spec := "chainDoes", apart := false, narrowed := true }
def ChainDoesUptoSaid : Prop := chainDoesUptoRow.holds Try.pinned (OpenSpec.upto chainDoesSpec)

/-- 'escutcheonlaw07.ChainOrder', WHERE WHAT IT READS IS OF BULK AT MOST 1048576: true; the input reads as it did. -/
def chainOrderUptoRow : OpenClaim := { program := "ythkjkmjcnphjgaa", sum := "ebddd38260140df6057a59ddd74bbbdbce2073cc73f0d083e773cca64cf10110", func := "escutcheon/escutcheonlaw07.ChainOrder", spec := "chainOrder", apart := false, narrowed := true }
def ChainOrderUptoSaid : Prop := chainOrderUptoRow.holds Try.pinned (OpenSpec.upto chainOrderSpec)

/-- 'escutcheonlaw17.NeedPlans', WHERE WHAT IT READS IS OF BULK AT MOST 1048576: true; the input reads as it did. -/
def needPlansUptoRow : OpenClaim := { program := "ythkjkmjcnphjgaa", sum := "ebddd38260140df6057a59ddd74bbbdbce2073cc73f0d083e773cca64cf10110", func := "escutcheon/escutcheonlaw17.NeedPlans", spec := "needPlans", unfollowed := true, recurses := true, apart := false, narrowed := true }
def NeedPlansUptoSaid : Prop := needPlansUptoRow.holds Try.pinned (OpenSpec.upto needPlansSpec)

/-- 'escutcheonlaw11.GroupLess', WHERE WHAT IT READS IS OF BULK AT MOST 1048576: true; the input reads as it did. -/
def groupLessUptoRow : OpenClaim := { program := "ythkjkmjcnphjgaa", sum := "ebddd38260140df6057a59ddd74bbbdbce2073cc73f0d083e773cca64cf10110", func := "escutcheon/escutcheonlaw11.GroupLess", spec := "groupLess", unfollowed := true, recurses := true, apart := false, narrowed := true }
def GroupLessUptoSaid : Prop := groupLessUptoRow.holds Try.pinned (OpenSpec.upto groupLessSpec)

/-- 'escutcheonlaw11.GroupStays', WHERE WHAT IT READS IS OF BULK AT MOST 1048576: true; the input reads as it did. -/
def groupStaysUptoRow : OpenClaim := { program := "ythkjkmjcnphjgaa", sum := "ebddd38260140df6057a59ddd74bbbdbce2073cc73f0d083e773cca64cf10110", func := "escutcheon/escutcheonlaw11.GroupStays", spec := "groupStays", unfollowed := true, recurses := true, apart := false, narrowed := true }
def GroupStaysUptoSaid : Prop := groupStaysUptoRow.holds Try.pinned (OpenSpec.upto groupStaysSpec)

/-- 'escutcheonlaw11.GroupDoes', WHERE WHAT IT READS IS OF BULK AT MOST 1048576: true; the input reads as it did. -/
def groupDoesUptoRow : OpenClaim := { program := "ythkjkmjcnphjgaa", sum := "ebddd38260140df6057a59ddd74bbbdbce2073cc73f0d083e773cca64cf10110", func := "escutcheon/escutcheonlaw11.GroupDoes", spec := "groupDoes", unfollowed := true, recurses := true, apart := false, narrowed := true }
def GroupDoesUptoSaid : Prop := groupDoesUptoRow.holds Try.pinned (OpenSpec.upto groupDoesSpec)

/-- 'escutcheonlaw17.NeedEnough', WHERE WHAT IT READS IS OF BULK AT MOST 1048576: true; the input reads as it did. -/
def needEnoughUptoRow : OpenClaim := { program := "ythkjkmjcnphjgaa", sum := "ebddd38260140df6057a59ddd74bbbdbce2073cc73f0d083e773cca64cf10110", func := "escutcheon/escutcheonlaw17.NeedEnough", spec := "needEnough", unfollowed := true, recurses := true, apart := false, narrowed := true }
def NeedEnoughUptoSaid : Prop := needEnoughUptoRow.holds Try.pinned (OpenSpec.upto needEnoughSpec)

/-- 'escutcheonlaw10.RequestStays', WHERE WHAT IT READS IS OF BULK AT MOST 1048576: true; the input reads as it did. -/
def requestStaysUptoRow : OpenClaim := { program := "ythkjkmjcnphjgaa", sum := "ebddd38260140df6057a59ddd74bbbdbce2073cc73f0d083e773cca64cf10110", func := "escutcheon/escutcheonlaw10.RequestStays", spec := "requestStays", inPlace := ["slices.overlaps[escutcheon/api.Wait]"], unfollowed := true, recurses := true, apart := false, narrowed := true }
def RequestStaysUptoSaid : Prop := requestStaysUptoRow.holds Try.pinned (OpenSpec.upto requestStaysSpec)

/-- 'escutcheonlaw17.NeedBack', WHERE WHAT IT READS IS OF BULK AT MOST 1048576: true; the input reads as it did. -/
def needBackUptoRow : OpenClaim := { program := "ythkjkmjcnphjgaa", sum := "ebddd38260140df6057a59ddd74bbbdbce2073cc73f0d083e773cca64cf10110", func := "escutcheon/escutcheonlaw17.NeedBack", spec := "needBack", unfollowed := true, recurses := true, apart := false, narrowed := true }
def NeedBackUptoSaid : Prop := needBackUptoRow.holds Try.pinned (OpenSpec.upto needBackSpec)

end Rows
end Go.Proofs.Ythkjkmjcnphjgaa
