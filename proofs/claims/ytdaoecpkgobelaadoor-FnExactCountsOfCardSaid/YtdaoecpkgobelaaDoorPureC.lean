/- Grids: slots, patterns, words in slots. -/
import Derived.Test.YtdaoecpkgobelaaDoorPureB
namespace Go.Proofs.YtdaoecpkgobelaaDoor
open Go Go.RowKit
set_option linter.unusedSimpArgs false
set_option linter.unusedVariables false
set_option linter.unusedSectionVars false

end Go.Proofs.YtdaoecpkgobelaaDoor
