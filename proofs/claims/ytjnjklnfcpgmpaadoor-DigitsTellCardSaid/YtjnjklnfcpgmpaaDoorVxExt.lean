/- V: functions of Go's library that are known by their contracts. -/
import Derived.Test.YtjnjklnfcpgmpaaDoorVxV
import Derived.Lib.Bytealg
import Derived.Lib.Repeat
import Derived.Lib.ItoaNum
set_option linter.unusedVariables false
namespace Go.Vx
/-- strings.Repeat -/
def repeatV : List AV → Heap → Option AV
  | [.str s, .int .i64 n], _ => if 0 ≤ n ∧ n ≤ 9223372036854775807 ∧ s.length * n.toNat ≤ 140737488355328 then some (.str (Lib.repeatL s n.toNat)) else none
  | _, _ => none
/-- strings.IndexByte -/
def indexByteV : List AV → Heap → Option AV
  | [.str s, .int .u8 c], _ => some (.int .i64 (Lib.indexByte s c.toNat.toUInt8))
  | _, _ => none
/-- A number's digits, at most so many. -/
def decD : Nat → Nat → List UInt8
  | 0, _ => []
  | f + 1, u => if u < 10 then [UInt8.ofNat (48 + u)] else decD f (u / 10) ++ [UInt8.ofNat (48 + u % 10)]
theorem decD_eq : ∀ (f u : Nat), u < 10 ^ (f + 1) → decD (f + 1) u = Lib.decDigits u := by
  intro f
  induction f with
  | zero => intro u h; rw [Lib.decDigits_one (by omega)]; simp only [decD]; rw [if_pos (by omega)]
  | succ f ih =>
    intro u h
    rw [Lib.decDigits]
    rw [decD]
    split
    · rfl
    · rw [ih _ (by rw [Nat.pow_succ] at h; omega)]
/-- strconv.FormatUint at base 10 -/
def fmtU : AV → AV → Option AV
  | .int k v, .int k' b => if k = .u64 ∧ k' = .i64 ∧ b = 10 ∧ 0 ≤ v ∧ v < 18446744073709551616 then some (.str (decD 20 v.toNat)) else none
  | _, _ => none
def formatUintV : List AV → Heap → Option AV
  | [a, b], _ => fmtU a b
  | _, _ => none
theorem repeatV_sh : ExtSh repeatV := fun H0 args H => by
  unfold repeatV
  match args with
  | [] => rfl
  | [a] => cases a <;> rfl
  | [a, b] =>
    cases a <;> cases b <;> simp only [AV.shL, AV.sh, Option.map_none]
    case str.int s k n => cases k <;> simp only [Option.map_none]; split <;> rfl
  | a :: b :: c :: r => cases a <;> cases b <;> first | rfl | (rename_i k n; cases k <;> rfl)
theorem indexByteV_sh : ExtSh indexByteV := fun H0 args H => by
  unfold indexByteV
  match args with
  | [] => rfl
  | [a] => cases a <;> rfl
  | [a, b] =>
    cases a <;> cases b <;> simp only [AV.shL, AV.sh, Option.map_none]
    case str.int s k n => cases k <;> rfl
  | a :: b :: c :: r => cases a <;> cases b <;> first | rfl | (rename_i k n; cases k <;> rfl)
theorem formatUintV_sh : ExtSh formatUintV := fun H0 args H => by
  match args with
  | [] => rfl
  | [a] => rfl
  | [a, b] =>
    show fmtU (a.sh H0.length) (b.sh H0.length) = (fmtU a b).map (AV.sh H0.length)
    cases a <;> cases b <;> simp only [AV.sh, fmtU, Option.map_none]
    split <;> rfl
  | a :: b :: c :: r => rfl
end Go.Vx
