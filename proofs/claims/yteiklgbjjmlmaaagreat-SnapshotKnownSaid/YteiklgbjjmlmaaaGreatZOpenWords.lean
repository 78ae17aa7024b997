
/- How an argument of type []string is opened, within the form's reach. -/
import Derived.Test.YteiklgbjjmlmaaaGreatZBytes
import Derived.ProofKit
import Derived.OpenShut
import Derived.ShutString
import Derived.ChangeOld
import Derived.SizedLaws
namespace Pantry
open Go Go.RowKit Go.ChangeShapes Go.WideShapes Go.ChangeAt
section
variable {H : Type} {enc : TypeId × Value → H} {P : Program} {w : World}
end
end Pantry
