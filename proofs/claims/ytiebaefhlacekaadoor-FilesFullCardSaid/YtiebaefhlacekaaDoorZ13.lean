/- The texts of this seat, one behind another (part 13 of 15): the frame (an abstract machine), the contracts of functions, the laws. -/
import Derived.Test.YtiebaefhlacekaaDoorZ12
import Derived.Test.YtiebaefhlacekaaDoorCards
import Derived.Test.YtiebaefhlacekaaDoorTie
import Derived.WalkKit
import Derived.ProofKit
import Derived.OpenShut
import Derived.Deep.DeepHandedRow
import Derived.Deep.DeepWitnessRowRef
import Derived.Deep.Slices
import Derived.Lib.LaidTab
import Derived.LaidMore
import Derived.Lay
section
/- What rows as cards want, in a program whose package variables the laws never read. -/
namespace Go.Proofs.YtiebaefhlacekaaDoor.Am
open Go
theorem cards_here : True := trivial
end Go.Proofs.YtiebaefhlacekaaDoor.Am
end
