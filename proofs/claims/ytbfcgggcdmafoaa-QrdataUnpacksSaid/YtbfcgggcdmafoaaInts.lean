/-
  The contract of barscanref01.Ints.
  Conditions: the slices' cells are those of the lists; lengths fit in an int.
-/
import Derived.Test.YtbfcgggcdmafoaaRows
import Derived.Test.YtbfcgggcdmafoaaLib
import Derived.Deep.QuietTactic
import Derived.BigQuiet
namespace Go.Proofs.Ytbfcgggcdmafoaa
open Go.RowKit Go.Bs

end Go.Proofs.Ytbfcgggcdmafoaa
