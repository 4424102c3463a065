/- V: texts, arrays, copies: for rewriting; loops. -/
import Derived.Test.YtjnjklnfcpgmpaaDoorVxO
import Derived.Test.YtjnjklnfcpgmpaaDoorVxK2
set_option linter.unusedVariables false
set_option linter.unusedSimpArgs false
namespace Go.Vx

section
variable {pc : Nat → List AV → Heap → Option AV} {call : CallF} {fl : Nat} {e : Env} {H : Heap}
def idxStrV (x i : AV) : Option AV := match x, i with
    | .str s, .int _ n => if 0 ≤ n then (s[n.toNat]?).map byteV else none
    | _, _ => none
theorem pop_idxStr {x i : Opd} : pop e (.idxStr x i) = idxStrV (x.ev e) (i.ev e) := rfl
theorem idxStrV_ok {s : List UInt8} {k : IntKind} {i : Nat} {b : UInt8} (h : s[i]? = some b) : idxStrV (.str s) (.int k (i : Int)) = some (byteV b) := by
  have : (0 : Int) ≤ (i : Int) := by omega
  simp [idxStrV, this, h]
def sliceStrV (x : AV) (lo hi : Option AV) : Option AV := match x with
    | .str s => match bound 0 lo, bound s.length hi with
      | some l, some h => if l ≤ h ∧ h ≤ s.length then some (.str ((s.take h).drop l)) else none
      | _, _ => none
    | _ => none
theorem pop_sliceStr {x : Opd} {lo hi : Option Opd} : pop e (.sliceStr x lo hi) = sliceStrV (x.ev e) (lo.map (·.ev e)) (hi.map (·.ev e)) := by
  simp only [pop, sliceStrV]
  cases x.ev e <;> rfl
theorem sliceStrV_lo {s : List UInt8} {k : IntKind} {l : Nat} (h : l ≤ s.length) : sliceStrV (.str s) (some (.int k (l : Int))) none = some (.str (s.drop l)) := by
  simp only [sliceStrV, bound_int, bound_none, h, Nat.le_refl, and_self, if_true, List.take_length]
theorem sliceStrV_hi {s : List UInt8} {k : IntKind} {n : Nat} (h : n ≤ s.length) : sliceStrV (.str s) none (some (.int k (n : Int))) = some (.str (s.take n)) := by
  simp only [sliceStrV, bound_int, bound_none, h, Nat.zero_le, and_self, if_true, List.drop_zero]
def strBytesV (H : Heap) (x : AV) : Option (AV × Heap) := match x with
    | .str s => if (s.length : Int) ≤ limit then some (.rsl H.length 1 0 s.length none, H ++ [.row 1 (s.map byteV)]) else none
    | _ => none
theorem wop_strBytes {x : Opd} : wop call fl e H (.strBytes x) = strBytesV H (x.ev e) := rfl
theorem strBytesV_ok {s : List UInt8} (h : (s.length : Int) ≤ limit) : strBytesV H (.str s) = some (.rsl H.length 1 0 s.length none, H ++ [.row 1 (s.map byteV)]) := by simp [strBytesV, h]
theorem is_add {a b : List UInt8} (h : ((a.length + b.length : Nat) : Int) ≤ limit) : ibin .add (.str a) (.str b) = some (.str (a ++ b)) := by simp only [ibin, h, if_true]
def eqaggV (ks : List Nat) (neq : Bool) (x y : AV) : Option AV := match x, y with
    | .agg a, .agg b => (eqCells ks a b).map fun r => .bool (if neq then !r else r)
    | _, _ => none
theorem pop_eqagg {ks : List Nat} {neq : Bool} {x y : Opd} : pop e (.eqagg ks neq x y) = eqaggV ks neq (x.ev e) (y.ev e) := rfl
def cloneV (H : Heap) (z bytes : Nat) (x : AV) : Option AV := if srcZ x z then (srcE H x).bind fun es =>
      if ((es.length * bytes : Nat) : Int) ≤ limit then some (match es with | [] => .nilsl | _ => .sl z false es) else none
    else none
theorem rop_cloneV {z bytes : Nat} {x : Opd} : rop pc e H (.clone z bytes x) = cloneV H z bytes (x.ev e) := rfl
end

theorem cellR_at {H : Heap} {ag : Option Nat} {b o : Nat} : cellR H ag (.ptr b o) = boxLd H[b]? ag o := rfl
theorem gV_undef {b : Bool} {A : Option (AV × Heap)} {H : Heap} : gV undefV b A H = some (undefV, H) := rfl
theorem vres_2g {e : Env} {H : Heap} {r s : Res} : vres e H [r, s] = (vres1 e H r).bind fun a => (vres1 e H s).map fun b => .tup [a, b] := by
  simp only [vres, List.mapM_cons, List.mapM_nil]
  cases vres1 e H r with
  | none => rfl
  | some a => cases vres1 e H s <;> rfl
theorem vres_3g {e : Env} {H : Heap} {r s t : Res} : vres e H [r, s, t] = (vres1 e H r).bind fun a => (vres1 e H s).bind fun b => (vres1 e H t).map fun c => .tup [a, b, c] := by
  simp only [vres, List.mapM_cons, List.mapM_nil]
  cases vres1 e H r with
  | none => rfl
  | some a =>
    cases vres1 e H s with
    | none => rfl
    | some b => cases vres1 e H t <;> rfl
/-- A byte of a text is a whole number below 256. -/
theorem byteV_int (b : UInt8) : byteV b = .int .u8 (b.toNat : Int) := rfl

section
variable {L : Nat} {pc : Nat → List AV → Heap → Option AV} {call : CallF} {fl : Nat}
theorem Wl_inv {c : VC} {Q : Qt} (I : Nat → Env → Heap → Prop) (P : VX → Env → Heap → Prop) (n : Nat)
    (hs : ∀ k e H, k < n → I k e H → W L pc call fl c e H fun x e' H' => match x with | .normal => ∃ k', k' < k ∧ I k' e' H' | x => P x e' H')
    (k : Nat) {e : Env} {H : Heap} (hk : k < n) (hI : I k e H) (hP : ∀ x e H, P x e H → Q x e H) : Wl L pc call fl c n e H Q := by
  obtain ⟨x, e', H', h1, h2⟩ := Wl_rule (Q := P) I n hs k e H hk hI
  exact ⟨x, e', H', h1, hP _ _ _ h2⟩
end
end Go.Vx
