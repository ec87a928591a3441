/- The texts of this seat, one behind another (part 18 of 25): the frame (an abstract machine), the contracts of functions, the laws. -/
import Derived.Test.YthmpaddhmgnkbaaDoorZ17
import Derived.DataShut
import Derived.OpenShut
import Derived.WideKeyArgs
section
/- The frame Am, a text beside the others: an argument that is a slice of numbers, from its reading to the abstract heap. Nothing of a program stands here. -/
set_option linter.unusedVariables false
set_option linter.unusedSimpArgs false
namespace Go.Proofs.YthmpaddhmgnkbaaDoor.Am
open Go Go.RowKit Go.ChangeShapes Go.WideShapes
section
variable {H : Type} {enc : TypeId × Value → H} {P : Program} {W : World}
end
end Go.Proofs.YthmpaddhmgnkbaaDoor.Am
end
