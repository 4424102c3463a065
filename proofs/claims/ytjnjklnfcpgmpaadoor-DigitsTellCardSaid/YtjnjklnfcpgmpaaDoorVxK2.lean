/- V: runs that the kernel reckons. -/
import Derived.KernelRfl
import Derived.Test.YtjnjklnfcpgmpaaDoorVxV
set_option linter.unusedVariables false
namespace Go.Vx
def isTrue : Option AV → Bool
  | some (.bool true) => true
  | _ => false
theorem isTrue_eq {o : Option AV} (h : isTrue o = true) : o = some (.bool true) := by
  match o, h with
  | some (.bool true), _ => rfl
def okRun (r : Option St) (res : List Res) : Bool := match r with
  | some (.exit _, _, _) => false
  | some (_, e, H) => isTrue (vres e H res)
  | none => false
theorem W_done {L : Nat} {pc : Nat → List AV → Heap → Option AV} {call : CallF} {fl : Nat} {c : VC} {e : Env} {H : Heap} {res : List Res} (h : okRun (vexec L pc call fl c e H) res = true) : W L pc call fl c e H (retQ res fun v _ => v = .bool true) := by
  cases hr : vexec L pc call fl c e H with
  | none => rw [hr] at h; cases h
  | some s =>
    obtain ⟨x, e', H'⟩ := s
    rw [hr] at h
    refine ⟨x, e', H', hr, ?_⟩
    cases x with
    | normal => exact ⟨_, isTrue_eq h, rfl⟩
    | ret => exact ⟨_, isTrue_eq h, rfl⟩
    | exit id => cases h
theorem wop_litMut {call : CallF} {fl : Nat} {e : Env} {H : Heap} {z len : Nat} {zero : AV} {ps : List (Nat × Opd)} : wop call fl e H (.litMut z zero len ps) = (parts1 z e (List.replicate len zero) ps).map fun es => (.rsl H.length z 0 len (some len), H ++ [.row z es]) := rfl
def markV (fl : Nat) (H : Heap) (x : AV) : Option (AV × Heap) := match x with
    | .rsl b z o n c => match H[b]? with
      | some (.row z' es) => if fl ≤ b ∧ 0 < z ∧ z = z' ∧ o = 0 ∧ 0 < n ∧ n ≤ es.length then some (.rsl b z o n c, H) else none
      | _ => none
    | _ => none
theorem wop_mark {call : CallF} {fl : Nat} {e : Env} {H : Heap} {x : Opd} : wop call fl e H (.mark x) = markV fl H (x.ev e) := rfl
end Go.Vx
