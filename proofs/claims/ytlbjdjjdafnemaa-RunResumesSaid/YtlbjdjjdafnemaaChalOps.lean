/- trust.Ask, Look and their references, walked. Conditions: those that each contract writes. -/
import Derived.Test.YtlbjdjjdafnemaaTrust2
import Derived.Test.YtlbjdjjdafnemaaAppNil
namespace Go.Proofs.Ytlbjdjjdafnemaa
open Go.RowKit

/- ref.ChallengerCopy: a challenger in memory of its own. -/
end Go.Proofs.Ytlbjdjjdafnemaa
