/-
  No cell of these rows narrows 'for every input' (looked for: loops, veiled, ifaces, maps, wideKeys, modest, calm, conditions, laid).
  DERIVED. THE GIVEN ROWS OF THIS SEAT. 10 by the template 'for every input the law returns true; each argument reads behind the call as it read before'; 0 by the template 'total and deterministic' (their statements: YtgpkidffhglngaaTotals.lean).
  GIVEN WITH THE SEED: the statements are not yours to turn. If you find one false, say at which input.
  Laid BY PROGRAM, IN A SANDBOX (cutbox-rows.mjs): the forced cells as the released guide's own fill.sh prints them over the translation 17816d0da9c871f7… (all of the seat's roots in one cut). By AI agents, Wed Nov 11 2026. No macro, syntax, notation, axiom, sorry.
-/
import Derived.Test.YtgpkidffhglngaaChecked
import GoSem.Claim
import GoSem.ClaimJoined
import GoSem.ClaimMapViews
import Derived.JoinedTies
import Derived.KernelRfl
namespace Go.Proofs.Ytgpkidffhglngaa
/- THE CELL 'sum', in the pinned program and in every row, IS THE sha256 OF THE DUMP (.gsa) THAT YtgpkidffhglngaaProg.lean LOADS. Nothing in Lean hashes anything: it is a label: what it is worth is what the hold of that sum in a sandbox is worth. -/
noncomputable def Try.pinned : Pinned := { name := "ytgpkidffhglngaa", sum := "17816d0da9c871f7eea7295f6b43e76e2f1fa725210a2b02135497941e19c708", checked := Try.checked }
namespace Rows
def none {H : Type} : Left H := { results := [], args := [] }

/-- 'escutcheonlaw08.OrderSeeds': WHATEVER THE INPUT: true; the input reads as it did. -/
def orderSeedsSpec : ChangeSpec := { name := "orderSeeds", fn := fun _ => fun
  | [d1, d2] => { results := [.lit (.bool true)], args := [d1, d2] }
  | _ => none }
def orderSeedsRow : OpenClaim := { program := "ytgpkidffhglngaa", sum := "17816d0da9c871f7eea7295f6b43e76e2f1fa725210a2b02135497941e19c708", func := "escutcheon/escutcheonlaw08.OrderSeeds", spec := "orderSeeds", apart := false }
def OrderSeedsSaid : Prop := orderSeedsRow.holds Try.pinned (OpenSpec.ofChange orderSeedsSpec)

/-- ITS FALSE NEIGHBOUR: 'it returns false'. Refute it at one input. -/
def orderSeedsWrong : ChangeSpec := { name := "orderSeeds", fn := fun _ => fun
  | [d1, d2] => { results := [.lit (.bool false)], args := [d1, d2] }
  | _ => none }
def OrderSeedsWrongFalsely : Prop := orderSeedsRow.holds Try.pinned (OpenSpec.ofChange orderSeedsWrong)

/-- 'escutcheonlaw08.OrderDraws': WHATEVER THE INPUT: true; the input reads as it did. -/
def orderDrawsSpec : ChangeSpec := { name := "orderDraws", fn := fun _ => fun
  | [d1, d2, d3, d4] => { results := [.lit (.bool true)], args := [d1, d2, d3, d4] }
  | _ => none }
def orderDrawsRow : OpenClaim := { program := "ytgpkidffhglngaa", sum := "17816d0da9c871f7eea7295f6b43e76e2f1fa725210a2b02135497941e19c708", func := "escutcheon/escutcheonlaw08.OrderDraws", spec := "orderDraws", apart := false }
def OrderDrawsSaid : Prop := orderDrawsRow.holds Try.pinned (OpenSpec.ofChange orderDrawsSpec)

/-- ITS FALSE NEIGHBOUR: 'it returns false'. Refute it at one input. -/
def orderDrawsWrong : ChangeSpec := { name := "orderDraws", fn := fun _ => fun
  | [d1, d2, d3, d4] => { results := [.lit (.bool false)], args := [d1, d2, d3, d4] }
  | _ => none }
def OrderDrawsWrongFalsely : Prop := orderDrawsRow.holds Try.pinned (OpenSpec.ofChange orderDrawsWrong)

/-- 'escutcheonlaw01.ModeLattice': WHATEVER THE INPUT: true; the input reads as it did. -/
def modeLatticeSpec : ChangeSpec := { name := "modeLattice", fn := fun _ => fun
  | [d1, d2, d3] => { results := [.lit (.bool true)], args := [d1, d2, d3] }
  | _ => none }
def modeLatticeRow : OpenClaim := { program := "ytgpkidffhglngaa", sum := "17816d0da9c871f7eea7295f6b43e76e2f1fa725210a2b02135497941e19c708", func := "escutcheon/escutcheonlaw01.ModeLattice", spec := "modeLattice", apart := false }
def ModeLatticeSaid : Prop := modeLatticeRow.holds Try.pinned (OpenSpec.ofChange modeLatticeSpec)

/-- ITS FALSE NEIGHBOUR: 'it returns false'. Refute it at one input. -/
def modeLatticeWrong : ChangeSpec := { name := "modeLattice", fn := fun _ => fun
  | [d1, d2, d3] => { results := [.lit (.bool false)], args := [d1, d2, d3] }
  | _ => none }
def ModeLatticeWrongFalsely : Prop := modeLatticeRow.holds Try.pinned (OpenSpec.ofChange modeLatticeWrong)

/-- 'escutcheonlaw33.StatAdds': WHATEVER THE INPUT: true; the input reads as it did. -/
def statAddsSpec : ChangeSpec := { name := "statAdds", fn := fun _ => fun
  | [d1, d2, d3, d4] => { results := [.lit (.bool true)], args := [d1, d2, d3, d4] }
  | _ => none }
def statAddsRow : OpenClaim := { program := "ytgpkidffhglngaa", sum := "17816d0da9c871f7eea7295f6b43e76e2f1fa725210a2b02135497941e19c708", func := "escutcheon/escutcheonlaw33.StatAdds", spec := "statAdds", apart := false }
def StatAddsSaid : Prop := statAddsRow.holds Try.pinned (OpenSpec.ofChange statAddsSpec)

/-- ITS FALSE NEIGHBOUR: 'it returns false'. Refute it at one input. -/
def statAddsWrong : ChangeSpec := { name := "statAdds", fn := fun _ => fun
  | [d1, d2, d3, d4] => { results := [.lit (.bool false)], args := [d1, d2, d3, d4] }
  | _ => none }
def StatAddsWrongFalsely : Prop := statAddsRow.holds Try.pinned (OpenSpec.ofChange statAddsWrong)

/-- 'escutcheonlaw01.ModeGroups': WHATEVER THE INPUT: true; the input reads as it did. -/
def modeGroupsSpec : ChangeSpec := { name := "modeGroups", fn := fun _ => fun
  | [d1, d2] => { results := [.lit (.bool true)], args := [d1, d2] }
  | _ => none }
def modeGroupsRow : OpenClaim := { program := "ytgpkidffhglngaa", sum := "17816d0da9c871f7eea7295f6b43e76e2f1fa725210a2b02135497941e19c708", func := "escutcheon/escutcheonlaw01.ModeGroups", spec := "modeGroups", apart := false }
def ModeGroupsSaid : Prop := modeGroupsRow.holds Try.pinned (OpenSpec.ofChange modeGroupsSpec)

/-- ITS FALSE NEIGHBOUR: 'it returns false'. Refute it at one input. -/
def modeGroupsWrong : ChangeSpec := { name := "modeGroups", fn := fun _ => fun
  | [d1, d2] => { results := [.lit (.bool false)], args := [d1, d2] }
  | _ => none }
def ModeGroupsWrongFalsely : Prop := modeGroupsRow.holds Try.pinned (OpenSpec.ofChange modeGroupsWrong)

/-- 'escutcheonlaw08.OrderRound': WHATEVER THE INPUT: true; the input reads as it did. -/
def orderRoundSpec : ChangeSpec := { name := "orderRound", fn := fun _ => fun
  | [d1, d2, d3, d4, d5] => { results := [.lit (.bool true)], args := [d1, d2, d3, d4, d5] }
  | _ => none }
def orderRoundRow : OpenClaim := { program := "ytgpkidffhglngaa", sum := "17816d0da9c871f7eea7295f6b43e76e2f1fa725210a2b02135497941e19c708", func := "escutcheon/escutcheonlaw08.OrderRound", spec := "orderRound", apart := false }
def OrderRoundSaid : Prop := orderRoundRow.holds Try.pinned (OpenSpec.ofChange orderRoundSpec)

/-- ITS FALSE NEIGHBOUR: 'it returns false'. Refute it at one input. -/
def orderRoundWrong : ChangeSpec := { name := "orderRound", fn := fun _ => fun
  | [d1, d2, d3, d4, d5] => { results := [.lit (.bool false)], args := [d1, d2, d3, d4, d5] }
  | _ => none }
def OrderRoundWrongFalsely : Prop := orderRoundRow.holds Try.pinned (OpenSpec.ofChange orderRoundWrong)

/-- 'escutcheonlaw01.ModeLess': WHATEVER THE INPUT: true; the input reads as it did. -/
def modeLessSpec : ChangeSpec := { name := "modeLess", fn := fun _ => fun
  | [d1, d2, d3] => { results := [.lit (.bool true)], args := [d1, d2, d3] }
  | _ => none }
def modeLessRow : OpenClaim := { program := "ytgpkidffhglngaa", sum := "17816d0da9c871f7eea7295f6b43e76e2f1fa725210a2b02135497941e19c708", func := "escutcheon/escutcheonlaw01.ModeLess", spec := "modeLess", apart := false }
def ModeLessSaid : Prop := modeLessRow.holds Try.pinned (OpenSpec.ofChange modeLessSpec)

/-- ITS FALSE NEIGHBOUR: 'it returns false'. Refute it at one input. -/
def modeLessWrong : ChangeSpec := { name := "modeLess", fn := fun _ => fun
  | [d1, d2, d3] => { results := [.lit (.bool false)], args := [d1, d2, d3] }
  | _ => none }
def ModeLessWrongFalsely : Prop := modeLessRow.holds Try.pinned (OpenSpec.ofChange modeLessWrong)

/-- 'escutcheonlaw01.ModeParents': WHATEVER THE INPUT: true; the input reads as it did. -/
def modeParentsSpec : ChangeSpec := { name := "modeParents", fn := fun _ => fun
  | [d1, d2] => { results := [.lit (.bool true)], args := [d1, d2] }
  | _ => none }
def modeParentsRow : OpenClaim := { program := "ytgpkidffhglngaa", sum := "17816d0da9c871f7eea7295f6b43e76e2f1fa725210a2b02135497941e19c708", func := "escutcheon/escutcheonlaw01.ModeParents", spec := "modeParents", apart := false }
def ModeParentsSaid : Prop := modeParentsRow.holds Try.pinned (OpenSpec.ofChange modeParentsSpec)

/-- ITS FALSE NEIGHBOUR: 'it returns false'. Refute it at one input. -/
def modeParentsWrong : ChangeSpec := { name := "modeParents", fn := fun _ => fun
  | [d1, d2] => { results := [.lit (.bool false)], args := [d1, d2] }
  | _ => none }
def ModeParentsWrongFalsely : Prop := modeParentsRow.holds Try.pinned (OpenSpec.ofChange modeParentsWrong)

/-- 'escutcheonlaw01.ModeTables': WHATEVER THE INPUT: true; the input reads as it did. -/
def modeTablesSpec : ChangeSpec := { name := "modeTables", fn := fun _ => fun
  | [d1, d2, d3] => { results := [.lit (.bool true)], args := [d1, d2, d3] }
  | _ => none }
def modeTablesRow : OpenClaim := { program := "ytgpkidffhglngaa", sum := "17816d0da9c871f7eea7295f6b43e76e2f1fa725210a2b02135497941e19c708", func := "escutcheon/escutcheonlaw01.ModeTables", spec := "modeTables", apart := false }
def ModeTablesSaid : Prop := modeTablesRow.holds Try.pinned (OpenSpec.ofChange modeTablesSpec)

/-- ITS FALSE NEIGHBOUR: 'it returns false'. Refute it at one input. -/
def modeTablesWrong : ChangeSpec := { name := "modeTables", fn := fun _ => fun
  | [d1, d2, d3] => { results := [.lit (.bool false)], args := [d1, d2, d3] }
  | _ => none }
def ModeTablesWrongFalsely : Prop := modeTablesRow.holds Try.pinned (OpenSpec.ofChange modeTablesWrong)

/-- 'escutcheonlaw08.OrderFair': WHATEVER THE INPUT: true; the input reads as it did. -/
def orderFairSpec : ChangeSpec := { name := "orderFair", fn := fun _ => fun
  | [d1, d2, d3] => { results := [.lit (.bool true)], args := [d1, d2, d3] }
  | _ => none }
def orderFairRow : OpenClaim := { program := "ytgpkidffhglngaa", sum := "17816d0da9c871f7eea7295f6b43e76e2f1fa725210a2b02135497941e19c708", func := "escutcheon/escutcheonlaw08.OrderFair", spec := "orderFair", apart := false }
def OrderFairSaid : Prop := orderFairRow.holds Try.pinned (OpenSpec.ofChange orderFairSpec)

/-- ITS FALSE NEIGHBOUR: 'it returns false'. Refute it at one input. -/
def orderFairWrong : ChangeSpec := { name := "orderFair", fn := fun _ => fun
  | [d1, d2, d3] => { results := [.lit (.bool false)], args := [d1, d2, d3] }
  | _ => none }
def OrderFairWrongFalsely : Prop := orderFairRow.holds Try.pinned (OpenSpec.ofChange orderFairWrong)

/- THE SECOND FORM. 'bulk': how many values and letters a reading holds, each counted each time it is reached (what is shared counts as often as it is met; a slice's spare places count too). A statement '..UptoSaid' is the law's where the arguments, and the package variables that the reading takes, are together of bulk at most 1048576: NARROWER than '..Said'. Prove '..Said' where nothing that the law and all that it calls make is longer than what came in: it says more and counts as full. Else prove '..UptoSaid'. A law counts once. -/
mutual
def uptoBulk {H : Type} : DataW H → Nat
  | .lit (.string bytes) => bytes.length + 1
  | .lit _ => 1
  | .nil => 1
  | .ptr d => uptoBulk d + 1
  | .slice elems spare => uptoBulkAll elems + uptoBulkAll spare + 1
  | .agg parts => uptoBulkAll parts + 1
  | .iface _ d => uptoBulk d + 1
  | .map entries => uptoBulkEntries entries + 1
  | .held _ => 1
def uptoBulkAll {H : Type} : List (DataW H) → Nat
  | [] => 0
  | d :: r => uptoBulk d + uptoBulkAll r
def uptoBulkEntries {H : Type} : List (Lit × DataW H) → Nat
  | [] => 0
  | x :: r => uptoBulkEntry x + uptoBulkEntries r
def uptoBulkEntry {H : Type} : Lit × DataW H → Nat
  | (.string bytes, d) => bytes.length + uptoBulk d + 1
  | (_, d) => uptoBulk d + 1
 end
def uptoSmall : (H : Type) → List (DataW H) → Bool := fun _ ds => decide (uptoBulkAll ds ≤ 1048576)
def OpenSpec.upto (s : _root_.Go.ChangeSpec) : _root_.Go.OpenSpec := { _root_.Go.OpenSpec.ofChange s with cond := some uptoSmall }

/-- 'escutcheonlaw08.OrderSeeds', WHERE WHAT IT READS IS OF BULK AT MOST 1048576: true; the input reads as it did. -/
def orderSeedsUptoRow : OpenClaim := { program := "ytgpkidffhglngaa", sum := "17816d0da9c871f7eea7295f6b43e76e2f1fa725210a2b02135497941e19c708", func := "escutcheon/escutcheonlaw08.OrderSeeds", spec := "orderSeeds", apart := false, narrowed := true }
def OrderSeedsUptoSaid : Prop := orderSeedsUptoRow.holds Try.pinned (OpenSpec.upto orderSeedsSpec)

/-- 'escutcheonlaw08.OrderDraws', WHERE WHAT IT READS IS OF BULK AT MOST 1048576: true; the input reads as it did. -/
def orderDrawsUptoRow : OpenClaim := { program := "ytgpkidffhglngaa", sum := "17816d0da9c871f7eea7295f6b43e76e2f1fa725210a2b02135497941e19c708", func := "escutcheon/escutcheonlaw08.OrderDraws", spec := "orderDraws", apart := false, narrowed := true }
def OrderDrawsUptoSaid : Prop := orderDrawsUptoRow.holds Try.pinned (OpenSpec.upto orderDrawsSpec)

/-- 'escutcheonlaw01.ModeLattice', WHERE WHAT IT READS IS OF BULK AT MOST 1048576: true; the input reads as it did. -/
def modeLatticeUptoRow : OpenClaim := { program := "ytgpkidffhglngaa", sum := "17816d0da9c871f7eea7295f6b43e76e2f1fa725210a2b02135497941e19c708", func := "escutcheon/escutcheonlaw01.ModeLattice", spec := "modeLattice", apart := false, narrowed := true }
def ModeLatticeUptoSaid : Prop := modeLatticeUptoRow.holds Try.pinned (OpenSpec.upto modeLatticeSpec)

/-- 'escutcheonlaw33.StatAdds', WHERE WHAT IT READS IS OF BULK AT MOST 1048576: true; the input reads as it did. -/
def statAddsUptoRow : OpenClaim := { program := "ytgpkidffhglngaa", sum := "17816d0da9c871f7eea7295f6b43e76e2f1fa725210a2b02135497941e19c708", func := "escutcheon/escutcheonlaw33.StatAdds", spec := "statAdds", apart := false, narrowed := true }
def StatAddsUptoSaid : Prop := statAddsUptoRow.holds Try.pinned (OpenSpec.upto statAddsSpec)

/-- 'escutcheonlaw01.ModeGroups', WHERE WHAT IT READS IS OF BULK AT MOST 1048576: true; the input reads as it did. -/
def modeGroupsUptoRow : OpenClaim := { program := "ytgpkidffhglngaa", sum := "17816d0da9c871f7eea7295f6b43e76e2f1fa725210a2b02135497941e19c708", func := "escutcheon/escutcheonlaw01.ModeGroups", spec := "modeGroups", apart := false, narrowed := true }
def ModeGroupsUptoSaid : Prop := modeGroupsUptoRow.holds Try.pinned (OpenSpec.upto modeGroupsSpec)

/-- 'escutcheonlaw08.OrderRound', WHERE WHAT IT READS IS OF BULK AT MOST 1048576: true; the input reads as it did. -/
def orderRoundUptoRow : OpenClaim := { program := "ytgpkidffhglngaa", sum := "17816d0da9c871f7eea7295f6b43e76e2f1fa725210a2b02135497941e19c708", func := "escutcheon/escutcheonlaw08.OrderRound", spec := "orderRound", apart := false, narrowed := true }
def OrderRoundUptoSaid : Prop := orderRoundUptoRow.holds Try.pinned (OpenSpec.upto orderRoundSpec)

/-- 'escutcheonlaw01.ModeLess', WHERE WHAT IT READS IS OF BULK AT MOST 1048576: true; the input reads as it did. -/
def modeLessUptoRow : OpenClaim := { program := "ytgpkidffhglngaa", sum := "17816d0da9c871f7eea7295f6b43e76e2f1fa725210a2b02135497941e19c708", func := "escutcheon/escutcheonlaw01.ModeLess", spec := "modeLess", apart := false, narrowed := true }
def ModeLessUptoSaid : Prop := modeLessUptoRow.holds Try.pinned (OpenSpec.upto modeLessSpec)

/-- 'escutcheonlaw01.ModeParents', WHERE WHAT IT READS IS OF BULK AT MOST 1048576: true; the input reads as it did. -/
def modeParentsUptoRow : OpenClaim := { program := "ytgpkidffhglngaa", sum := "17816d0da9c871f7eea7295f6b43e76e2f1fa725210a2b02135497941e19c708", func := "escutcheon/escutcheonlaw01.ModeParents", spec := "modeParents", apart := false, narrowed := true }
def ModeParentsUptoSaid : Prop := modeParentsUptoRow.holds Try.pinned (OpenSpec.upto modeParentsSpec)

/-- 'escutcheonlaw01.ModeTables', WHERE WHAT IT READS IS OF BULK AT MOST 1048576: true; the input reads as it did. -/
def modeTablesUptoRow : OpenClaim := { program := "ytgpkidffhglngaa", sum := "17816d0da9c871f7eea7295f6b43e76e2f1fa725210a2b02135497941e19c708", func := "escutcheon/escutcheonlaw01.ModeTables", spec := "modeTables", apart := false, narrowed := true }
def ModeTablesUptoSaid : Prop := modeTablesUptoRow.holds Try.pinned (OpenSpec.upto modeTablesSpec)

/-- 'escutcheonlaw08.OrderFair', WHERE WHAT IT READS IS OF BULK AT MOST 1048576: true; the input reads as it did. -/
def orderFairUptoRow : OpenClaim := { program := "ytgpkidffhglngaa", sum := "17816d0da9c871f7eea7295f6b43e76e2f1fa725210a2b02135497941e19c708", func := "escutcheon/escutcheonlaw08.OrderFair", spec := "orderFair", apart := false, narrowed := true }
def OrderFairUptoSaid : Prop := orderFairUptoRow.holds Try.pinned (OpenSpec.upto orderFairSpec)

end Rows
end Go.Proofs.Ytgpkidffhglngaa
