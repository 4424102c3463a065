/- A part of the proof: lemmas about runs of the program's code. No condition beyond those that the lemmas state. -/
import Derived.Test.YtbjcimdflehfjaaVtE
set_option linter.unusedVariables false
set_option linter.unusedSimpArgs false
set_option maxRecDepth 20000
namespace Go.Vx.Ytbjcimdflehfjaa
variable {L d : Nat} {H : Heap}

/-- Bytes that are a value. -/
inductive PB : AV → List UInt8 → Prop
  | nil : PB .nilsl []
  | sl (f : Bool) (bs : List UInt8) : PB (.sl 1 f (bs.map byteV)) bs
theorem PB.bs {u : AV} {bs : List UInt8} (h : PB u bs) (H : Heap) : BS H u bs := by cases h with
  | nil => exact .nil
  | sl f bs => exact .sl f _
theorem PB.sol {u : AV} {bs : List UInt8} (h : PB u bs) : Go.Vx.sol 2 u = true := by
  cases h with
  | nil => rfl
  | sl f bs => simp only [Go.Vx.sol]; exact solL_mem.2 (sol_bytes 0 bs)
theorem PB.of {u : AV} {bs : List UInt8} (h : BS H u bs) (hs : Go.Vx.sol 2 u = true) : PB u bs := by
  have h : SL H 1 u (bs.map byteV) := h
  generalize he : bs.map byteV = es at h
  cases h with
  | nil =>
    have : bs = [] := by simpa using he
    subst this; exact .nil
  | sl f es => subst he; exact .sl f bs
  | rsl b o n c rs es hb _ _ _ => simp [Go.Vx.sol] at hs
/-- A piece of them. -/
theorem PB.slice {u : AV} {bs : List UInt8} (h : PB u bs) {l n : Nat} (hl : l ≤ n) (hn : n ≤ bs.length) (k k' : IntKind) : ∃ u', sliceV 1 u (some (.int k l)) (some (.int k' n)) = some u' ∧ PB u' ((bs.take n).drop l) := by
  cases h with
  | nil =>
    have e1 : n = 0 := by simpa using hn
    subst e1
    have e2 : l = 0 := by omega
    subst e2
    exact ⟨.nilsl, rfl, .nil⟩
  | sl f bs =>
    refine ⟨_, ?_, .sl (f && n == (bs.map byteV).length) _⟩
    have : 1 = 1 ∧ l ≤ n ∧ n ≤ (bs.map byteV).length := ⟨rfl, hl, by simpa using hn⟩
    simp only [sliceV, bound_int, this, and_self, if_true, List.map_drop, List.map_take]
theorem PB.tail {u : AV} {bs : List UInt8} (h : PB u bs) {l : Nat} (hl : l ≤ bs.length) (k : IntKind) : ∃ u', sliceV 1 u (some (.int k l)) none = some u' ∧ PB u' (bs.drop l) := by
  cases h with
  | nil =>
    have e2 : l = 0 := by simpa using hl
    subst e2
    exact ⟨.nilsl, rfl, .nil⟩
  | sl f bs =>
    refine ⟨_, ?_, .sl (f && (bs.map byteV).length == (bs.map byteV).length) _⟩
    have : 1 = 1 ∧ l ≤ (bs.map byteV).length ∧ (bs.map byteV).length ≤ (bs.map byteV).length := ⟨rfl, by simpa using hl, Nat.le_refl _⟩
    simp only [sliceV, bound_int, bound_none, this, and_self, if_true, List.map_drop, List.take_length]

theorem cloneP_ok {v : AV} {bs : List UInt8} (hv : BS H v bs) (hl : bs.length ≤ 10000000) : ∃ v', asPure (vcall (vlook tbl) L (d + 1)) 67 [v] H = some v' ∧ PB v' bs := by
  obtain ⟨v', h1, h2, h3⟩ := clone_ok (L := L) (d := d) hv hl
  exact ⟨v', h1, .of h2 h3⟩
theorem concatP_ok {v1 v2 : AV} {b1 b2 : List UInt8} (h1 : BS H v1 b1) (h2 : BS H v2 b2) (l1 : b1.length ≤ 10000000) (l2 : b2.length ≤ 10000000) (hL : 10 ≤ L) :
    ∃ v', asPure (vcall (vlook tbl) L (d + 2)) 42 [.sl 1 true [v1, v2]] H = some v' ∧ PB v' (b1 ++ b2) := by
  obtain ⟨v', k1, k2, k3⟩ := concat_ok (L := L) (d := d) h1 h2 l1 l2 hL
  exact ⟨v', k1, .of k2 k3⟩

/-- A cursor. -/
def CurAt (H : Heap) (b : Nat) (u : AV) (at' : Nat) : Prop := H[b]? = some (.box [u, .int .i64 at'])

theorem curNew_ok {fl : Nat} {v : AV} {bs : List UInt8} (hv : BS H v bs) (hl : bs.length ≤ 10000000) :
    ∃ u, vcall (vlook tbl) L (d + 2) fl 61 [v] H = some (.ptr H.length 0, H ++ [.box [u, .int .i64 0]]) ∧ PB u bs := by
  obtain ⟨u, h1, h2⟩ := cloneP_ok (L := L) (d := d) hv hl
  have q := (h2.bs H).fits
  refine ⟨u, call_eq (vf := f61) rfl ?_, h2⟩
  simp only [f61, b61]
  simp (disch := (first | assumption | decide | omega | (simp only [AV.fits, AV.cells, AV.isTup, List.length_cons, List.length_nil, Nat.reduceAdd, Nat.reduceBEq, beq_self_eq_true, Bool.not_false, Bool.and_self, Bool.true_and, Nat.zero_add]; done) | (simp only [List.length_append, List.length_set, List.length_cons, List.length_nil, List.length_replicate]; omega) | (simp [calm, VOper.isR]; done) | fail)) only [W_skip, W_exit, W_ret, W_seq, W_cond, Wc_true, Wc_false, W_block, W_reg, W_draw, Wd_nil, Wd_cons, Wdv_p, Wdv_w, Wdv_r, rdS_t, rdS_f, Seen_ok, okV_some, same_refl, List.all_cons, List.all_nil, Bool.and_true, Bool.true_and, Bool.and_self, Wo_nil, Wo_cons, Wv_some, seqQ_normal, seqQ_exit, seqQ_ret, loopQ_normal, loopQ_exit, loopQ_ret, blockQ_normal, blockQ_ret, blockQ_exit, retQ_normal, retQ_ret, vres_0, vres_1, vres_2, vres_3, vres1_tmp, vres1_cell, cellR_ptr, ↓upd_if, upd_no, step_none, step_guard, gV_tt, gV_ff, gV_tf, gV_ft, vop_p, vop_r, vop_w, pV_some, ev_tmp, ev_cst, pop_mov, pop_pick, pickV_t, pickV_f, pop_nilck, nilckV_ptr, nilckV_eptr, nilckV_dptr, nilckV_fn, pop_ibin, ib_add, ib_sub, ib_mul, ib_quo, ib_rem, ib_eql, ib_neq, ib_lss, ib_leq, ib_gtr, ib_geq, is_eql, is_neq, pop_beq, beqV_f, beqV_t, pop_nileq, nileqV_f, nileqV_t, nq_pp, nq_ep, nq_dp, nq_np, nq_ns, nq_sl, nq_rsl, nq_fn, nq_nf, pop_un, un_not, un_neg, pop_conv, convV_int, convV_str, pop_mkfn, pop_ext, extV_0, extV_1, extV_2, pop_fieldA, fieldAV_ptr, fieldAV_eptr, fieldAV_dptr, pop_fieldV, fieldVV_agg, ld_none, ld_some, pop_len, lenV_nil, lenV_sl, lenV_rsl, pop_lenStr, lenStrV_str, pop_cap, capV_nil, capV_sl, capV_rsl, pop_mm, mmV_max, mmV_min, get_set_self, get_set_ne, get_add_lt, get_add_eq, rop_loadV, loadV_ptr, loadV_dptr, boxLd_box, wop_store, wop_append, cast0, Int.zero_add, Int.add_zero, wop_appendN, W_loop, wrap_i64, storeV_at, storeB_box, cells_int, cells_bool, cells_str, cells_nilsl, cells_sl, cells_rsl, cells_nilp, cells_ptr, cells_agg, splice_0, splice_s, List.length_cons, List.length_nil, wop_alloc, wop_box, boxV_ok, wop_mksl, wop_call, callV_fn, rop_pcall, pcallV_fn, pop_build, parts2_nil, parts2_cons, part2V_ok, pop_lit, parts1_nil, parts1_cons, part1V_ok, pop_idxArr, pop_idxA, pop_slice, rop_bytesStr, if_true, if_false, ↓reduceIte, Nat.reduceEqDiff, Int.reduceEq, Int.reduceLT, Int.reduceLE, Int.reduceNe, Int.reduceAdd, Int.reduceSub, Int.reduceNeg, reduceCtorEq, Bool.not_true, Bool.not_false, decide_true, decide_false, dec_t, dec_f, Bool.false_eq_true, List.drop_succ_cons, List.drop_zero, List.take_succ_cons, List.take_zero, List.map_cons, List.map_nil, List.nil_append, List.cons_append, List.append_nil, Nat.zero_add, Nat.add_zero, Nat.reduceAdd, Nat.reduceMul, Nat.reduceSub, Option.map_some, Option.map_none, Option.some.injEq, exists_eq_left', Int.toNat_natCast, fz_int, fz_bool, fz_str, fz_nilsl, fz_nilp, fz_ptr, true_or, or_true, or_false, false_or, true_and, and_true, false_and, and_false, Int.reduceToNat, Nat.zero_mul, Nat.one_mul, Nat.mul_one, envOf, List.getElem?_cons_zero, List.getElem?_cons_succ, Option.getD_some, decide_eq_true_eq, h1, (h2.bs H).cells]

theorem left_ok {b : Nat} {u : AV} {bs : List UInt8} {at' : Nat} (hc : CurAt H b u at') (hu : PB u bs) (ha : at' ≤ bs.length) (hl : bs.length ≤ 10000000) :
    asPure (vcall (vlook tbl) L (d + 1)) 62 [.ptr b 0] H = some (.int .i64 ((bs.length - at' : Nat) : Int)) := by
  unfold CurAt at hc
  have e : (bs.length : Int) - (at' : Int) = ((bs.length - at' : Nat) : Int) := by omega
  refine pure_eq (vf := f62) rfl ?_
  simp only [f62, b62]
  simp (disch := (first | assumption | decide | omega | (simp only [AV.fits, AV.cells, AV.isTup, List.length_cons, List.length_nil, Nat.reduceAdd, Nat.reduceBEq, beq_self_eq_true, Bool.not_false, Bool.and_self, Bool.true_and, Nat.zero_add]; done) | (simp only [List.length_append, List.length_set, List.length_cons, List.length_nil, List.length_replicate]; omega) | (simp [calm, VOper.isR]; done) | fail)) only [W_skip, W_exit, W_ret, W_seq, W_cond, Wc_true, Wc_false, W_block, W_reg, W_draw, Wd_nil, Wd_cons, Wdv_p, Wdv_w, Wdv_r, rdS_t, rdS_f, Seen_ok, okV_some, same_refl, List.all_cons, List.all_nil, Bool.and_true, Bool.true_and, Bool.and_self, Wo_nil, Wo_cons, Wv_some, seqQ_normal, seqQ_exit, seqQ_ret, loopQ_normal, loopQ_exit, loopQ_ret, blockQ_normal, blockQ_ret, blockQ_exit, retQ_normal, retQ_ret, vres_0, vres_1, vres_2, vres_3, vres1_tmp, vres1_cell, cellR_ptr, ↓upd_if, upd_no, step_none, step_guard, gV_tt, gV_ff, gV_tf, gV_ft, vop_p, vop_r, vop_w, pV_some, ev_tmp, ev_cst, pop_mov, pop_pick, pickV_t, pickV_f, pop_nilck, nilckV_ptr, nilckV_eptr, nilckV_dptr, nilckV_fn, pop_ibin, ib_add, ib_sub, ib_mul, ib_quo, ib_rem, ib_eql, ib_neq, ib_lss, ib_leq, ib_gtr, ib_geq, is_eql, is_neq, pop_beq, beqV_f, beqV_t, pop_nileq, nileqV_f, nileqV_t, nq_pp, nq_ep, nq_dp, nq_np, nq_ns, nq_sl, nq_rsl, nq_fn, nq_nf, pop_un, un_not, un_neg, pop_conv, convV_int, convV_str, pop_mkfn, pop_ext, extV_0, extV_1, extV_2, pop_fieldA, fieldAV_ptr, fieldAV_eptr, fieldAV_dptr, pop_fieldV, fieldVV_agg, ld_none, ld_some, pop_len, lenV_nil, lenV_sl, lenV_rsl, pop_lenStr, lenStrV_str, pop_cap, capV_nil, capV_sl, capV_rsl, pop_mm, mmV_max, mmV_min, get_set_self, get_set_ne, get_add_lt, get_add_eq, rop_loadV, loadV_ptr, loadV_dptr, boxLd_box, wop_store, wop_append, cast0, Int.zero_add, Int.add_zero, wop_appendN, W_loop, wrap_i64, storeV_at, storeB_box, cells_int, cells_bool, cells_str, cells_nilsl, cells_sl, cells_rsl, cells_nilp, cells_ptr, cells_agg, splice_0, splice_s, List.length_cons, List.length_nil, wop_alloc, wop_box, boxV_ok, wop_mksl, wop_call, callV_fn, rop_pcall, pcallV_fn, pop_build, parts2_nil, parts2_cons, part2V_ok, pop_lit, parts1_nil, parts1_cons, part1V_ok, pop_idxArr, pop_idxA, pop_slice, rop_bytesStr, if_true, if_false, ↓reduceIte, Nat.reduceEqDiff, Int.reduceEq, Int.reduceLT, Int.reduceLE, Int.reduceNe, Int.reduceAdd, Int.reduceSub, Int.reduceNeg, reduceCtorEq, Bool.not_true, Bool.not_false, decide_true, decide_false, dec_t, dec_f, Bool.false_eq_true, List.drop_succ_cons, List.drop_zero, List.take_succ_cons, List.take_zero, List.map_cons, List.map_nil, List.nil_append, List.cons_append, List.append_nil, Nat.zero_add, Nat.add_zero, Nat.reduceAdd, Nat.reduceMul, Nat.reduceSub, Option.map_some, Option.map_none, Option.some.injEq, exists_eq_left', Int.toNat_natCast, fz_int, fz_bool, fz_str, fz_nilsl, fz_nilp, fz_ptr, true_or, or_true, or_false, false_or, true_and, and_true, false_and, and_false, Int.reduceToNat, Nat.zero_mul, Nat.one_mul, Nat.mul_one, envOf, List.getElem?_cons_zero, List.getElem?_cons_succ, Option.getD_some, decide_eq_true_eq, hc, (hu.bs H).blen, e]

theorem at_ok {b : Nat} {u : AV} {at' : Nat} (hc : CurAt H b u at') : asPure (vcall (vlook tbl) L (d + 1)) 78 [.ptr b 0] H = some (.int .i64 at') := by
  unfold CurAt at hc
  refine pure_eq (vf := f78) rfl ?_
  simp only [f78, b78]
  simp (disch := (first | assumption | decide | omega | (simp only [AV.fits, AV.cells, AV.isTup, List.length_cons, List.length_nil, Nat.reduceAdd, Nat.reduceBEq, beq_self_eq_true, Bool.not_false, Bool.and_self, Bool.true_and, Nat.zero_add]; done) | (simp only [List.length_append, List.length_set, List.length_cons, List.length_nil, List.length_replicate]; omega) | (simp [calm, VOper.isR]; done) | fail)) only [W_skip, W_exit, W_ret, W_seq, W_cond, Wc_true, Wc_false, W_block, W_reg, W_draw, Wd_nil, Wd_cons, Wdv_p, Wdv_w, Wdv_r, rdS_t, rdS_f, Seen_ok, okV_some, same_refl, List.all_cons, List.all_nil, Bool.and_true, Bool.true_and, Bool.and_self, Wo_nil, Wo_cons, Wv_some, seqQ_normal, seqQ_exit, seqQ_ret, loopQ_normal, loopQ_exit, loopQ_ret, blockQ_normal, blockQ_ret, blockQ_exit, retQ_normal, retQ_ret, vres_0, vres_1, vres_2, vres_3, vres1_tmp, vres1_cell, cellR_ptr, ↓upd_if, upd_no, step_none, step_guard, gV_tt, gV_ff, gV_tf, gV_ft, vop_p, vop_r, vop_w, pV_some, ev_tmp, ev_cst, pop_mov, pop_pick, pickV_t, pickV_f, pop_nilck, nilckV_ptr, nilckV_eptr, nilckV_dptr, nilckV_fn, pop_ibin, ib_add, ib_sub, ib_mul, ib_quo, ib_rem, ib_eql, ib_neq, ib_lss, ib_leq, ib_gtr, ib_geq, is_eql, is_neq, pop_beq, beqV_f, beqV_t, pop_nileq, nileqV_f, nileqV_t, nq_pp, nq_ep, nq_dp, nq_np, nq_ns, nq_sl, nq_rsl, nq_fn, nq_nf, pop_un, un_not, un_neg, pop_conv, convV_int, convV_str, pop_mkfn, pop_ext, extV_0, extV_1, extV_2, pop_fieldA, fieldAV_ptr, fieldAV_eptr, fieldAV_dptr, pop_fieldV, fieldVV_agg, ld_none, ld_some, pop_len, lenV_nil, lenV_sl, lenV_rsl, pop_lenStr, lenStrV_str, pop_cap, capV_nil, capV_sl, capV_rsl, pop_mm, mmV_max, mmV_min, get_set_self, get_set_ne, get_add_lt, get_add_eq, rop_loadV, loadV_ptr, loadV_dptr, boxLd_box, wop_store, wop_append, cast0, Int.zero_add, Int.add_zero, wop_appendN, W_loop, wrap_i64, storeV_at, storeB_box, cells_int, cells_bool, cells_str, cells_nilsl, cells_sl, cells_rsl, cells_nilp, cells_ptr, cells_agg, splice_0, splice_s, List.length_cons, List.length_nil, wop_alloc, wop_box, boxV_ok, wop_mksl, wop_call, callV_fn, rop_pcall, pcallV_fn, pop_build, parts2_nil, parts2_cons, part2V_ok, pop_lit, parts1_nil, parts1_cons, part1V_ok, pop_idxArr, pop_idxA, pop_slice, rop_bytesStr, if_true, if_false, ↓reduceIte, Nat.reduceEqDiff, Int.reduceEq, Int.reduceLT, Int.reduceLE, Int.reduceNe, Int.reduceAdd, Int.reduceSub, Int.reduceNeg, reduceCtorEq, Bool.not_true, Bool.not_false, decide_true, decide_false, dec_t, dec_f, Bool.false_eq_true, List.drop_succ_cons, List.drop_zero, List.take_succ_cons, List.take_zero, List.map_cons, List.map_nil, List.nil_append, List.cons_append, List.append_nil, Nat.zero_add, Nat.add_zero, Nat.reduceAdd, Nat.reduceMul, Nat.reduceSub, Option.map_some, Option.map_none, Option.some.injEq, exists_eq_left', Int.toNat_natCast, fz_int, fz_bool, fz_str, fz_nilsl, fz_nilp, fz_ptr, true_or, or_true, or_false, false_or, true_and, and_true, false_and, and_false, Int.reduceToNat, Nat.zero_mul, Nat.one_mul, Nat.mul_one, envOf, List.getElem?_cons_zero, List.getElem?_cons_succ, Option.getD_some, decide_eq_true_eq, hc]

/-- take: too short. -/
theorem take_short {fl b : Nat} {u : AV} {bs : List UInt8} {at' n : Nat} (hc : CurAt H b u at') (hu : PB u bs) (ha : at' ≤ bs.length) (hl : bs.length ≤ 10000000) (hn : bs.length - at' < n) :
    vcall (vlook tbl) L (d + 2) fl 98 [.ptr b 0, .int .i64 n] H = some (.tup [.nilsl, .int .i64 3], H) := by
  have h1 := left_ok (L := L) (d := d) hc hu ha hl
  refine call_eq (vf := f98) rfl ?_
  simp only [f98, b98]
  simp (disch := (first | assumption | decide | omega | (simp only [AV.fits, AV.cells, AV.isTup, List.length_cons, List.length_nil, Nat.reduceAdd, Nat.reduceBEq, beq_self_eq_true, Bool.not_false, Bool.and_self, Bool.true_and, Nat.zero_add]; done) | (simp only [List.length_append, List.length_set, List.length_cons, List.length_nil, List.length_replicate]; omega) | (simp [calm, VOper.isR]; done) | fail)) only [W_skip, W_exit, W_ret, W_seq, W_cond, Wc_true, Wc_false, W_block, W_reg, W_draw, Wd_nil, Wd_cons, Wdv_p, Wdv_w, Wdv_r, rdS_t, rdS_f, Seen_ok, okV_some, same_refl, List.all_cons, List.all_nil, Bool.and_true, Bool.true_and, Bool.and_self, Wo_nil, Wo_cons, Wv_some, seqQ_normal, seqQ_exit, seqQ_ret, loopQ_normal, loopQ_exit, loopQ_ret, blockQ_normal, blockQ_ret, blockQ_exit, retQ_normal, retQ_ret, vres_0, vres_1, vres_2, vres_3, vres1_tmp, vres1_cell, cellR_ptr, ↓upd_if, upd_no, step_none, step_guard, gV_tt, gV_ff, gV_tf, gV_ft, vop_p, vop_r, vop_w, pV_some, ev_tmp, ev_cst, pop_mov, pop_pick, pickV_t, pickV_f, pop_nilck, nilckV_ptr, nilckV_eptr, nilckV_dptr, nilckV_fn, pop_ibin, ib_add, ib_sub, ib_mul, ib_quo, ib_rem, ib_eql, ib_neq, ib_lss, ib_leq, ib_gtr, ib_geq, is_eql, is_neq, pop_beq, beqV_f, beqV_t, pop_nileq, nileqV_f, nileqV_t, nq_pp, nq_ep, nq_dp, nq_np, nq_ns, nq_sl, nq_rsl, nq_fn, nq_nf, pop_un, un_not, un_neg, pop_conv, convV_int, convV_str, pop_mkfn, pop_ext, extV_0, extV_1, extV_2, pop_fieldA, fieldAV_ptr, fieldAV_eptr, fieldAV_dptr, pop_fieldV, fieldVV_agg, ld_none, ld_some, pop_len, lenV_nil, lenV_sl, lenV_rsl, pop_lenStr, lenStrV_str, pop_cap, capV_nil, capV_sl, capV_rsl, pop_mm, mmV_max, mmV_min, get_set_self, get_set_ne, get_add_lt, get_add_eq, rop_loadV, loadV_ptr, loadV_dptr, boxLd_box, wop_store, wop_append, cast0, Int.zero_add, Int.add_zero, wop_appendN, W_loop, wrap_i64, storeV_at, storeB_box, cells_int, cells_bool, cells_str, cells_nilsl, cells_sl, cells_rsl, cells_nilp, cells_ptr, cells_agg, splice_0, splice_s, List.length_cons, List.length_nil, wop_alloc, wop_box, boxV_ok, wop_mksl, wop_call, callV_fn, rop_pcall, pcallV_fn, pop_build, parts2_nil, parts2_cons, part2V_ok, pop_lit, parts1_nil, parts1_cons, part1V_ok, pop_idxArr, pop_idxA, pop_slice, rop_bytesStr, if_true, if_false, ↓reduceIte, Nat.reduceEqDiff, Int.reduceEq, Int.reduceLT, Int.reduceLE, Int.reduceNe, Int.reduceAdd, Int.reduceSub, Int.reduceNeg, reduceCtorEq, Bool.not_true, Bool.not_false, decide_true, decide_false, dec_t, dec_f, Bool.false_eq_true, List.drop_succ_cons, List.drop_zero, List.take_succ_cons, List.take_zero, List.map_cons, List.map_nil, List.nil_append, List.cons_append, List.append_nil, Nat.zero_add, Nat.add_zero, Nat.reduceAdd, Nat.reduceMul, Nat.reduceSub, Option.map_some, Option.map_none, Option.some.injEq, exists_eq_left', Int.toNat_natCast, fz_int, fz_bool, fz_str, fz_nilsl, fz_nilp, fz_ptr, true_or, or_true, or_false, false_or, true_and, and_true, false_and, and_false, Int.reduceToNat, Nat.zero_mul, Nat.one_mul, Nat.mul_one, envOf, List.getElem?_cons_zero, List.getElem?_cons_succ, Option.getD_some, decide_eq_true_eq, h1]
theorem take_ok {fl b : Nat} {u : AV} {bs : List UInt8} {at' n : Nat} (hc : CurAt H b u at') (hu : PB u bs) (hl : bs.length ≤ 10000000) (hn : at' + n ≤ bs.length) (hf : fl ≤ b) :
    ∃ u', vcall (vlook tbl) L (d + 2) fl 98 [.ptr b 0, .int .i64 n] H = some (.tup [u', .int .i64 0], H.set b (.box [u, .int .i64 ((at' + n : Nat) : Int)])) ∧ PB u' ((bs.drop at').take n) := by
  have h1 := left_ok (L := L) (d := d) hc hu (by omega) hl
  unfold CurAt at hc
  have hb := lt_of_get hc
  obtain ⟨u', h2, h3⟩ := hu.slice (l := at') (n := at' + n) (by omega) hn .i64 .i64
  have e1 : (at' : Int) + (n : Int) = ((at' + n : Nat) : Int) := by omega
  have e2 : ((at' + n : Nat) : Int) - (n : Int) = (at' : Int) := by omega
  have e3 : (bs.take (at' + n)).drop at' = (bs.drop at').take n := by rw [List.drop_take]; simp
  rw [e3] at h3
  refine ⟨u', call_eq (vf := f98) rfl ?_, h3⟩
  simp only [f98, b98]
  simp (disch := (first | assumption | decide | omega | (simp only [AV.fits, AV.cells, AV.isTup, List.length_cons, List.length_nil, Nat.reduceAdd, Nat.reduceBEq, beq_self_eq_true, Bool.not_false, Bool.and_self, Bool.true_and, Nat.zero_add]; done) | (simp only [List.length_append, List.length_set, List.length_cons, List.length_nil, List.length_replicate]; omega) | (simp [calm, VOper.isR]; done) | fail)) only [W_skip, W_exit, W_ret, W_seq, W_cond, Wc_true, Wc_false, W_block, W_reg, W_draw, Wd_nil, Wd_cons, Wdv_p, Wdv_w, Wdv_r, rdS_t, rdS_f, Seen_ok, okV_some, same_refl, List.all_cons, List.all_nil, Bool.and_true, Bool.true_and, Bool.and_self, Wo_nil, Wo_cons, Wv_some, seqQ_normal, seqQ_exit, seqQ_ret, loopQ_normal, loopQ_exit, loopQ_ret, blockQ_normal, blockQ_ret, blockQ_exit, retQ_normal, retQ_ret, vres_0, vres_1, vres_2, vres_3, vres1_tmp, vres1_cell, cellR_ptr, ↓upd_if, upd_no, step_none, step_guard, gV_tt, gV_ff, gV_tf, gV_ft, vop_p, vop_r, vop_w, pV_some, ev_tmp, ev_cst, pop_mov, pop_pick, pickV_t, pickV_f, pop_nilck, nilckV_ptr, nilckV_eptr, nilckV_dptr, nilckV_fn, pop_ibin, ib_add, ib_sub, ib_mul, ib_quo, ib_rem, ib_eql, ib_neq, ib_lss, ib_leq, ib_gtr, ib_geq, is_eql, is_neq, pop_beq, beqV_f, beqV_t, pop_nileq, nileqV_f, nileqV_t, nq_pp, nq_ep, nq_dp, nq_np, nq_ns, nq_sl, nq_rsl, nq_fn, nq_nf, pop_un, un_not, un_neg, pop_conv, convV_int, convV_str, pop_mkfn, pop_ext, extV_0, extV_1, extV_2, pop_fieldA, fieldAV_ptr, fieldAV_eptr, fieldAV_dptr, pop_fieldV, fieldVV_agg, ld_none, ld_some, pop_len, lenV_nil, lenV_sl, lenV_rsl, pop_lenStr, lenStrV_str, pop_cap, capV_nil, capV_sl, capV_rsl, pop_mm, mmV_max, mmV_min, get_set_self, get_set_ne, get_add_lt, get_add_eq, rop_loadV, loadV_ptr, loadV_dptr, boxLd_box, wop_store, wop_append, cast0, Int.zero_add, Int.add_zero, wop_appendN, W_loop, wrap_i64, storeV_at, storeB_box, cells_int, cells_bool, cells_str, cells_nilsl, cells_sl, cells_rsl, cells_nilp, cells_ptr, cells_agg, splice_0, splice_s, List.length_cons, List.length_nil, wop_alloc, wop_box, boxV_ok, wop_mksl, wop_call, callV_fn, rop_pcall, pcallV_fn, pop_build, parts2_nil, parts2_cons, part2V_ok, pop_lit, parts1_nil, parts1_cons, part1V_ok, pop_idxArr, pop_idxA, pop_slice, rop_bytesStr, if_true, if_false, ↓reduceIte, Nat.reduceEqDiff, Int.reduceEq, Int.reduceLT, Int.reduceLE, Int.reduceNe, Int.reduceAdd, Int.reduceSub, Int.reduceNeg, reduceCtorEq, Bool.not_true, Bool.not_false, decide_true, decide_false, dec_t, dec_f, Bool.false_eq_true, List.drop_succ_cons, List.drop_zero, List.take_succ_cons, List.take_zero, List.map_cons, List.map_nil, List.nil_append, List.cons_append, List.append_nil, Nat.zero_add, Nat.add_zero, Nat.reduceAdd, Nat.reduceMul, Nat.reduceSub, Option.map_some, Option.map_none, Option.some.injEq, exists_eq_left', Int.toNat_natCast, fz_int, fz_bool, fz_str, fz_nilsl, fz_nilp, fz_ptr, true_or, or_true, or_false, false_or, true_and, and_true, false_and, and_false, Int.reduceToNat, Nat.zero_mul, Nat.one_mul, Nat.mul_one, envOf, List.getElem?_cons_zero, List.getElem?_cons_succ, Option.getD_some, decide_eq_true_eq, h1, hc, e1, e2, h2]
end Go.Vx.Ytbjcimdflehfjaa
