/- Slices of structs of any cells: what a row's premise tells of them. -/
import Derived.Test.YtodofkolnmoliaaDoorAbsTyped
set_option linter.unusedSimpArgs false
set_option linter.unusedVariables false
namespace Go.Abs
end Go.Abs
