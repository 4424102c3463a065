/- V: the library's functions of this seat that are known by their contracts. -/
import Derived.Test.YtbainicckdjoaaaGreatDoorShelf
import Derived.Test.YtbainicckdjoaaaGreatDoorVxX
namespace Go.Vx.YtbainicckdjoaaaGreatDoor
open Go.Proofs
theorem fitx104 : Fit1 Tryz.prog 104 (.ext indexByteV) := fit_indexByte (c := (Tryz.f104.body).get rfl) Tryz.func104 (by kernel_rfl) rfl Tryz.strings_IndexByte
theorem fitx131 : Fit1 Tryz.prog 131 (.ext repeatV) := fit_repeat (c := (Tryz.f131.body).get rfl) Tryz.func131 (by kernel_rfl) rfl Tryz.strings_Repeat
end Go.Vx.YtbainicckdjoaaaGreatDoor
