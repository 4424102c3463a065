/- A part of the proof: lemmas about runs of the program's code. No condition beyond those that the lemmas state. -/
import Derived.Test.YtbainicckdjoaaaGreatDoorVcE
import Derived.Test.YtbainicckdjoaaaGreatDoorVxK2
set_option linter.unusedVariables false
set_option linter.unusedSimpArgs false
set_option maxRecDepth 100000
namespace Go.Vx.YtbainicckdjoaaaGreatDoor

theorem Wo_run {pc : Nat → List AV → Heap → Option AV} {call : CallF} {fl : Nat} {ops : List VOper} {e e' : Env} {H H' : Heap} {Q : Qt} (hs : vops pc call fl ops e H = some (e', H')) (h : Q .normal e' H') : Wo pc call fl ops e H Q := ⟨e', H', hs, h⟩

def stE (o : Option (Env × Heap)) : Env := match o with | some (e, _) => e | none => fun _ => undefV
def stH (o : Option (Env × Heap)) : Heap := match o with | some (_, H) => H | none => []
theorem st_eq {o : Option (Env × Heap)} (h : o.isSome = true) : o = some (stE o, stH o) := by
  cases o with
  | none => cases h
  | some p => rfl

theorem Wo_same {pc : Nat → List AV → Heap → Option AV} {call : CallF} {fl : Nat} {ops : List VOper} {e : Env} {H : Heap} {Q : Qt} (f : Env → Env) (hs : vops pc call fl ops e H = some (f e, H)) (h : Q .normal (f e) H) : Wo pc call fl ops e H Q := ⟨f e, H, hs, h⟩

theorem refuse_0 (what : Int) (k : Nat) (hk : (IntKind.u64.wrap what).tmod 9 = k) (hk' : k = 0) : ∃ v H', vcall (vlook tbl) 5000 (60 + 1) 0 3 [.int .i64 what] [] = some (v, H') ∧ v = .bool true := by
  refine call_W (vf := f3) rfl ?_
  simp only [f3, b3]
  rw [W_seq, W_reg]
  refine Wo_run (st_eq (by kernel_rfl)) ?_
  rw [seqQ_normal, W_seq, W_reg]
  refine Wo_run (st_eq (by kernel_rfl)) ?_
  rw [seqQ_normal, W_seq, W_reg]
  refine Wo_run (st_eq (by kernel_rfl)) ?_
  rw [seqQ_normal, W_seq, W_seq, W_reg]
  refine Wo_same (fun e => upd (upd (upd e (some 23) (.int .i64 what)) (some 24) (.int .u64 (IntKind.u64.wrap what))) (some 25) (.int .u64 k)) (by rw [← hk]; kernel_rfl) ?_
  rw [seqQ_normal, ← W_seq]
  refine W_done ?_
  subst hk'
  show _ = true
  kernel_rfl
theorem refuse_1 (what : Int) (k : Nat) (hk : (IntKind.u64.wrap what).tmod 9 = k) (hk' : k = 1) : ∃ v H', vcall (vlook tbl) 5000 (60 + 1) 0 3 [.int .i64 what] [] = some (v, H') ∧ v = .bool true := by
  refine call_W (vf := f3) rfl ?_
  simp only [f3, b3]
  rw [W_seq, W_reg]
  refine Wo_run (st_eq (by kernel_rfl)) ?_
  rw [seqQ_normal, W_seq, W_reg]
  refine Wo_run (st_eq (by kernel_rfl)) ?_
  rw [seqQ_normal, W_seq, W_reg]
  refine Wo_run (st_eq (by kernel_rfl)) ?_
  rw [seqQ_normal, W_seq, W_seq, W_reg]
  refine Wo_same (fun e => upd (upd (upd e (some 23) (.int .i64 what)) (some 24) (.int .u64 (IntKind.u64.wrap what))) (some 25) (.int .u64 k)) (by rw [← hk]; kernel_rfl) ?_
  rw [seqQ_normal, ← W_seq]
  refine W_done ?_
  subst hk'
  show _ = true
  kernel_rfl
theorem refuse_2 (what : Int) (k : Nat) (hk : (IntKind.u64.wrap what).tmod 9 = k) (hk' : k = 2) : ∃ v H', vcall (vlook tbl) 5000 (60 + 1) 0 3 [.int .i64 what] [] = some (v, H') ∧ v = .bool true := by
  refine call_W (vf := f3) rfl ?_
  simp only [f3, b3]
  rw [W_seq, W_reg]
  refine Wo_run (st_eq (by kernel_rfl)) ?_
  rw [seqQ_normal, W_seq, W_reg]
  refine Wo_run (st_eq (by kernel_rfl)) ?_
  rw [seqQ_normal, W_seq, W_reg]
  refine Wo_run (st_eq (by kernel_rfl)) ?_
  rw [seqQ_normal, W_seq, W_seq, W_reg]
  refine Wo_same (fun e => upd (upd (upd e (some 23) (.int .i64 what)) (some 24) (.int .u64 (IntKind.u64.wrap what))) (some 25) (.int .u64 k)) (by rw [← hk]; kernel_rfl) ?_
  rw [seqQ_normal, ← W_seq]
  refine W_done ?_
  subst hk'
  show _ = true
  kernel_rfl
end Go.Vx.YtbainicckdjoaaaGreatDoor
