/- No comparison of structs is asked of this seat's code. Conditions: none. -/
import Derived.Test.YtcdeeppiljcddaaAm26
import Derived.Test.YtcdeeppiljcddaaEqs
namespace Go.Proofs.Ytcdeeppiljcddaa.AM
theorem eq_ok : EqOK Try.prog hint.eqt := eqOK_none _
end Go.Proofs.Ytcdeeppiljcddaa.AM
