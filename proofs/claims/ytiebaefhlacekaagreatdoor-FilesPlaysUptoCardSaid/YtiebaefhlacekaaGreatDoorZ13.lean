/- The texts of this seat, one behind another (part 13 of 16): the frame (an abstract machine), the contracts of functions, the laws. -/
import Derived.Test.YtiebaefhlacekaaGreatDoorZ12
import Derived.Test.YtiebaefhlacekaaGreatDoorCards
import Derived.Test.YtiebaefhlacekaaGreatDoorTie
import Derived.WalkKit
import Derived.ProofKit
import Derived.OpenShut
import Derived.Deep.DeepHandedRow
import Derived.Deep.DeepWitnessRowRef
import Derived.Deep.Slices
import Derived.Lib.LaidTab
import Derived.LaidMore
import Derived.Lay
section
/- What rows as cards want, in a program whose package variables the laws never read. -/
namespace Go.Proofs.YtiebaefhlacekaaGreatDoor.Am
open Go
theorem cards_here : True := trivial
end Go.Proofs.YtiebaefhlacekaaGreatDoor.Am
end
