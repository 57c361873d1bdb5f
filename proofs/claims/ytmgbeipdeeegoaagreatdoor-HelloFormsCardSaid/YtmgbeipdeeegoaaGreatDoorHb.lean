/- The base of the row of contracts of this seat. -/
import Derived.Test.YtmgbeipdeeegoaaGreatDoorCd1
import Derived.Test.YtmgbeipdeeegoaaGreatDoorAe25
import Derived.KernelRfl
namespace Go.Proofs.YtmgbeipdeeegoaaGreatDoor.S
open Go.AE
set_option maxRecDepth 100000
def XX : FuncId × FuncId := (94, 95)
theorem extAdd : ExtOk Tryz.prog XX.1 add64Entry := ⟨Tryz.f94, by kernel_rfl, by kernel_rfl, by kernel_rfl, by kernel_rfl, by kernel_rfl⟩
theorem extSub : ExtOk Tryz.prog XX.2 sub64Entry := ⟨Tryz.f95, by kernel_rfl, by kernel_rfl, by kernel_rfl, by kernel_rfl, by kernel_rfl⟩
theorem mixed : Tryz.prog.follows .mixedOrders = true := by kernel_rfl
end Go.Proofs.YtmgbeipdeeegoaaGreatDoor.S
