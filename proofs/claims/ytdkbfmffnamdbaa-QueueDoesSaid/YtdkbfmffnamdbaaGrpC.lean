/- The statements GroupLess, GroupStays: the walks. No condition. -/
import Derived.Test.YtdkbfmffnamdbaaGrpB
import Derived.Lib.QuietBelow
import Derived.Deep.QuietTactic
import Derived.BigQuiet
set_option linter.unusedVariables false
set_option linter.unusedSimpArgs false
namespace Go.Proofs.Ytdkbfmffnamdbaa
open Go.RowKit (wrap32 wrap64)
open Go.RowKit Go.Shelf Go.Sort
end Go.Proofs.Ytdkbfmffnamdbaa
