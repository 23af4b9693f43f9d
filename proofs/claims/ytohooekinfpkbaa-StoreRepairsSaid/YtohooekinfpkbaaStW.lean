/- The look at the examples, reckoned. -/
import Derived.Test.YtohooekinfpkbaaWd
import Derived.Test.YtohooekinfpkbaaSa
open Go Go.Fw
namespace Go.Proofs
def fs17 : List Nat := [17, 20, 24, 26, 29, 51, 52, 53, 56, 58, 59, 60, 61, 63, 64, 65, 68, 69, 70, 71, 72, 87, 88, 90, 92, 93, 94, 105, 106]
theorem fs17_ok : okAll Try.prog fs17 = true := by kernel_rfl
theorem run17 : callE Try.prog T fs17 (exec Try.prog T fs17 2000) 17 #[] ⟨0, .nil⟩ = some (.bool true, ⟨0, .nil⟩, []) := by kernel_rfl
theorem works_call (h : Hp) : CallX Try.prog 17 #[] h (.bool true) h := reckoned Tok hm (okAll_ok fs17_ok) run17 h
end Go.Proofs
