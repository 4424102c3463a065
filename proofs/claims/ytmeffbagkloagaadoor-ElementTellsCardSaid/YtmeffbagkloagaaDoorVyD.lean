/- V: the library's functions of this seat that are known by their contracts. -/
import Derived.Test.YtmeffbagkloagaaDoorRows
import Derived.Test.YtmeffbagkloagaaDoorVwD
import Derived.LaidByTextLater
namespace Go.Vx.YtmeffbagkloagaaDoor
open Go.Proofs
variable {G : Nat → Obj → Prop}
theorem fitx60 : Fit1 Tryd.prog G 60 (.ext indexByteV) := fit_indexByte (c := (Tryd.f60.body).get rfl) Tryd.func60 (by kernel_rfl) rfl Tryd.strings_IndexByte
theorem fitx33 : Fit1 Tryd.prog G 33 (.ext repeatV) := fit_repeat (c := (Tryd.f33.body).get rfl) Tryd.func33 (by kernel_rfl) rfl Tryd.strings_Repeat
/-- The table of powers of ten holds what the program's text lays. -/
def tabOk (W : World) : Prop := Lib.TabIs Tryd.prog W "internal/strconv.uint64pow10" .u64 Lib.pow10Tab
def gl (W : World) : Nat → Obj → Prop := one1G 0 W
theorem globalN : Tryd.prog.globalNamed "internal/strconv.uint64pow10" = some 0 := by kernel_rfl
theorem fitx40 {W : World} (hT : tabOk W) : Fit1 Tryd.prog (gl W) 40 (.ext formatUintV) := fit_formatUint (c := (Tryd.f40.body).get rfl) Tryd.func40 (by kernel_rfl) rfl globalN hT Tryd.formatUint10
theorem tabOk_of {W : World} (h : laidMetH Tryd.prog [("math/bits.deBruijn32tab", YtmeffbagkloagaaDoor.Rows.laid_math_bits_deBruijn32tab), ("math/bits.deBruijn64tab", YtmeffbagkloagaaDoor.Rows.laid_math_bits_deBruijn64tab), ("internal/strconv.uint64pow10", YtmeffbagkloagaaDoor.Rows.laid_internal_strconv_uint64pow10)] W) : tabOk W := by
  rw [MakeChecks.laidMetH_plain _ _ _ (by kernel_rfl)] at h
  obtain ⟨ps, h, _⟩ := h
  refine tabIs_head (e := 47) (n := 20) (g := 0) (t := 97) globalN (by kernel_rfl) Tryd.underlying97 Tryd.underlying47 (by kernel_rfl) (by kernel_rfl) (laid_tail (laid_tail ⟨ps, h⟩))
end Go.Vx.YtmeffbagkloagaaDoor
