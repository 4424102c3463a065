/- A part of the proof: lemmas about runs of the program's code. No condition beyond those that the lemmas state. -/
import Derived.Test.YtbainicckdjoaaaGreatDoorVcE
import Derived.Test.YtbainicckdjoaaaGreatDoorVfR0
set_option linter.unusedVariables false
set_option linter.unusedSimpArgs false
set_option maxRecDepth 100000
namespace Go.Vx.YtbainicckdjoaaaGreatDoor

theorem refuse_3 (what : Int) (k : Nat) (hk : (IntKind.u64.wrap what).tmod 9 = k) (hk' : k = 3) : ∃ v H', vcall (vlook tbl) 5000 (60 + 1) 0 3 [.int .i64 what] [] = some (v, H') ∧ v = .bool true := by
  refine call_W (vf := f3) rfl ?_
  simp only [f3, b3]
  rw [W_seq, W_reg]
  refine Wo_run (st_eq (by kernel_rfl)) ?_
  rw [seqQ_normal, W_seq, W_reg]
  refine Wo_run (st_eq (by kernel_rfl)) ?_
  rw [seqQ_normal, W_seq, W_reg]
  refine Wo_run (st_eq (by kernel_rfl)) ?_
  rw [seqQ_normal, W_seq, W_seq, W_reg]
  refine Wo_same (fun e => upd (upd (upd e (some 23) (.int .i64 what)) (some 24) (.int .u64 (IntKind.u64.wrap what))) (some 25) (.int .u64 k)) (by rw [← hk]; kernel_rfl) ?_
  rw [seqQ_normal, ← W_seq]
  refine W_done ?_
  subst hk'
  show _ = true
  kernel_rfl
theorem refuse_4 (what : Int) (k : Nat) (hk : (IntKind.u64.wrap what).tmod 9 = k) (hk' : k = 4) : ∃ v H', vcall (vlook tbl) 5000 (60 + 1) 0 3 [.int .i64 what] [] = some (v, H') ∧ v = .bool true := by
  refine call_W (vf := f3) rfl ?_
  simp only [f3, b3]
  rw [W_seq, W_reg]
  refine Wo_run (st_eq (by kernel_rfl)) ?_
  rw [seqQ_normal, W_seq, W_reg]
  refine Wo_run (st_eq (by kernel_rfl)) ?_
  rw [seqQ_normal, W_seq, W_reg]
  refine Wo_run (st_eq (by kernel_rfl)) ?_
  rw [seqQ_normal, W_seq, W_seq, W_reg]
  refine Wo_same (fun e => upd (upd (upd e (some 23) (.int .i64 what)) (some 24) (.int .u64 (IntKind.u64.wrap what))) (some 25) (.int .u64 k)) (by rw [← hk]; kernel_rfl) ?_
  rw [seqQ_normal, ← W_seq]
  refine W_done ?_
  subst hk'
  show _ = true
  kernel_rfl
theorem refuse_5 (what : Int) (k : Nat) (hk : (IntKind.u64.wrap what).tmod 9 = k) (hk' : k = 5) : ∃ v H', vcall (vlook tbl) 5000 (60 + 1) 0 3 [.int .i64 what] [] = some (v, H') ∧ v = .bool true := by
  refine call_W (vf := f3) rfl ?_
  simp only [f3, b3]
  rw [W_seq, W_reg]
  refine Wo_run (st_eq (by kernel_rfl)) ?_
  rw [seqQ_normal, W_seq, W_reg]
  refine Wo_run (st_eq (by kernel_rfl)) ?_
  rw [seqQ_normal, W_seq, W_reg]
  refine Wo_run (st_eq (by kernel_rfl)) ?_
  rw [seqQ_normal, W_seq, W_seq, W_reg]
  refine Wo_same (fun e => upd (upd (upd e (some 23) (.int .i64 what)) (some 24) (.int .u64 (IntKind.u64.wrap what))) (some 25) (.int .u64 k)) (by rw [← hk]; kernel_rfl) ?_
  rw [seqQ_normal, ← W_seq]
  refine W_done ?_
  subst hk'
  show _ = true
  kernel_rfl
end Go.Vx.YtbainicckdjoaaaGreatDoor
