/- V: the library's functions of this seat that are known by their contracts. -/
import Derived.Test.YtjnjklnfcpgmpaaDoorRows
import Derived.Test.YtjnjklnfcpgmpaaDoorVwJ
import Derived.Test.YtjnjklnfcpgmpaaDoorVhJ
import Derived.LaidByTextLater
namespace Go.Vx.YtjnjklnfcpgmpaaDoor
open Go.Proofs
variable {G : Nat → Obj → Prop}
theorem fitx28 : Fit1 Tryd.prog G 28 (.ext indexByteV) := fit_indexByte (c := (Tryd.f28.body).get rfl) Tryd.func28 (by kernel_rfl) rfl Tryd.strings_IndexByte
theorem fitx24 : Fit1 Tryd.prog G 24 (.ext repeatV) := fit_repeat (c := (Tryd.f24.body).get rfl) Tryd.func24 (by kernel_rfl) rfl Tryd.strings_Repeat
theorem fitx21 : Fit1 Tryd.prog G 21 (.ext hexV) := fit_hex (c := (Tryd.f21.body).get rfl) Tryd.func21 (by kernel_rfl) rfl fun p cap bs w h1 h2 h3 => Tryd.hex_walk p cap bs w h1 h2 h3
/-- The table of powers of ten holds what the program's text lays. -/
def tabOk (W : World) : Prop := Lib.TabIs Tryd.prog W "internal/strconv.uint64pow10" .u64 Lib.pow10Tab
def gl (W : World) : Nat → Obj → Prop := one1G 0 W
theorem globalN : Tryd.prog.globalNamed "internal/strconv.uint64pow10" = some 0 := by kernel_rfl
theorem fitx32 {W : World} (hT : tabOk W) : Fit1 Tryd.prog (gl W) 32 (.ext formatUintV) := fit_formatUint (c := (Tryd.f32.body).get rfl) Tryd.func32 (by kernel_rfl) rfl globalN hT Tryd.formatUint10
theorem tabOk_of {W : World} (h : laidMetH Tryd.prog [("math/bits.deBruijn32tab", YtjnjklnfcpgmpaaDoor.Rows.laid_math_bits_deBruijn32tab), ("math/bits.deBruijn64tab", YtjnjklnfcpgmpaaDoor.Rows.laid_math_bits_deBruijn64tab), ("internal/strconv.uint64pow10", YtjnjklnfcpgmpaaDoor.Rows.laid_internal_strconv_uint64pow10)] W) : tabOk W := by
  rw [MakeChecks.laidMetH_plain _ _ _ (by kernel_rfl)] at h
  obtain ⟨ps, h, _⟩ := h
  refine tabIs_head (e := 22) (n := 20) (g := 0) (t := 79) globalN (by kernel_rfl) Tryd.underlying79 Tryd.underlying22 (by kernel_rfl) (by kernel_rfl) (laid_tail (laid_tail ⟨ps, h⟩))
end Go.Vx.YtjnjklnfcpgmpaaDoor
