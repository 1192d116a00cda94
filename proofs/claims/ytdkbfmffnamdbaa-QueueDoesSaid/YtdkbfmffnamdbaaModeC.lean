/- The statements of chapter 1 (mode): the walks. No condition. -/
import Derived.Test.YtdkbfmffnamdbaaModeB
set_option linter.unusedVariables false
set_option linter.unusedSimpArgs false
namespace Go.Proofs.Ytdkbfmffnamdbaa
open Go.RowKit (wrap32 wrap64)
open Go.RowKit

end Go.Proofs.Ytdkbfmffnamdbaa
