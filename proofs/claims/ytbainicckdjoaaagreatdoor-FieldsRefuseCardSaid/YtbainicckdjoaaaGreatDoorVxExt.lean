/- V: functions of Go's library that are known by their contracts. -/
import Derived.Test.YtbainicckdjoaaaGreatDoorVxV
import Derived.Lib.Bytealg
import Derived.Lib.Repeat
set_option linter.unusedVariables false
namespace Go.Vx
/-- strings.Repeat -/
def repeatV : List AV → Heap → Option AV
  | [.str s, .int .i64 n], _ => if 0 ≤ n ∧ n ≤ 9223372036854775807 ∧ s.length * n.toNat ≤ 140737488355328 then some (.str (Lib.repeatL s n.toNat)) else none
  | _, _ => none
/-- strings.IndexByte -/
def indexByteV : List AV → Heap → Option AV
  | [.str s, .int .u8 c], _ => some (.int .i64 (Lib.indexByte s c.toNat.toUInt8))
  | _, _ => none
end Go.Vx
