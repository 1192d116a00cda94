/- Nodes: those above, by the program and by the reference. No condition. -/
import Derived.Test.YtpabfffnjcbhkaaPth
import Derived.RegionTactic
import Derived.Deep.QuietTactic
import Derived.BigQuiet
set_option linter.unusedVariables false
set_option linter.unusedSimpArgs false
namespace Go.Proofs.Ytpabfffnjcbhkaa
open Go.RowKit (wrap32 wrap64)
open Go.RowKit Go.Shelf
/-- The node of the first d numbers. -/
def front (p : Pt) (d : Nat) : Pt := ⟨if 0 < d then p.n0 else 0, if 1 < d then p.n1 else 0, if 2 < d then p.n2 else 0, if 3 < d then p.n3 else 0, d⟩
def ways (p : Pt) : List Pt := if mayP p then (List.range p.dep.toNat).map (fun i => front p (i + 1)) else []
end Go.Proofs.Ytpabfffnjcbhkaa
