/- A part of the proof: lemmas about runs of the program's code. No condition beyond those that the lemmas state. -/
import Derived.Test.YtmeffbagkloagaaDoorVeD
set_option linter.unusedVariables false
set_option linter.unusedSimpArgs false
set_option maxRecDepth 100000
namespace Go.Vx.YtmeffbagkloagaaDoor
variable {L d : Nat} {H : Heap}

def headF (no : Int) (n : Nat) : List UInt8 := match fmt no with
  | none => []
  | some (_, dg, _) => if 0 < dg then (textF n dg).1 else []
def writeF (no : Int) (s : List UInt8) : List UInt8 × Int := if checkF no s = 0 then (headF no s.length ++ s, 0) else ([], checkF no s)
theorem write_ok {no : Int} {v : AV} {s : List UInt8} (hv : BS H v s) (hL : 2000000 ≤ L) (hl : s.length ≤ 1000000) :
    ∃ v', asPure (vcall (vlook tbl) L (d + 8)) 11 [.agg [.int .i64 no, v]] H = some (.tup [v', .int .i64 (writeF no s).2]) ∧ PB v' (writeF no s).1 := by
  have q1 := hv.fits
  have hlen := hv.blen
  have c1 := check_ok (L := L) (d := d) (H := H ++ [.box [.int .i64 no, v]]) (no := no) hv.add (by omega) (by omega) (by omega)
  unfold writeF
  by_cases he : checkF no s = 0
  · rw [if_pos he]
    rw [he] at c1
    have o1 := of_ok (L := L) (d := d + 4) (H := H ++ [.box [.int .i64 no, v]]) (no := no) (by omega)
    unfold fmtV at o1
    unfold headF
    cases hf : fmt no with
    | none => simp [checkF, hf] at he
    | some p =>
      obtain ⟨k, dg, mx⟩ := p
      rw [hf] at o1
      have ew : IntKind.u64.wrap ((s.length : Nat) : Int) = ((s.length : Nat) : Int) := wrap_u64 (by omega) (by omega)
      have key : ∀ hd : List UInt8, hd.length ≤ 100 → ∃ v' H3 H4 w', strBytesV (H ++ [.box [.int .i64 no, v]] ++ [.box [.int .i64 no, .int .i64 k, .int .i64 dg, .int .i64 mx]]) (.str hd) = some (v', H3) ∧ boxLd H3[H.length]? none 1 = some v ∧
          ∃ w, appendV H.length H3 1 1 v' v = some (w, H4) ∧ freeze H4 H.length 12 (.tup [w, .int .i64 0]) = some (.tup [w', .int .i64 0]) ∧ PB w' (hd ++ s) := by
        intro hd hdl
        have e1 := strBytesV_ok (H := H ++ [.box [.int .i64 no, v]] ++ [.box [.int .i64 no, .int .i64 k, .int .i64 dg, .int .i64 mx]]) (s := hd) (by simp [limit]; omega)
        have hs1 : NewB (H ++ [.box [.int .i64 no, v]] ++ [.box [.int .i64 no, .int .i64 k, .int .i64 dg, .int .i64 mx]] ++ [.row 1 (hd.map byteV)]) H.length (.rsl (H ++ [AO.box [.int .i64 no, v]] ++ [AO.box [.int .i64 no, .int .i64 k, .int .i64 dg, .int .i64 mx]]).length 1 0 hd.length none) hd :=
          .inr ⟨_, none, by simp, rfl, get_add_eq rfl, by simp⟩
        obtain ⟨w, H4, a1, a2, a3, a4⟩ := hs1.app (fl := H.length) (fun b c hb => by cases hb; exact ⟨rfl, by simp⟩) hv.add.add.add (by simp) (by omega)
        obtain ⟨w', t1, t2⟩ := a2.tup2 (a := 0)
        refine ⟨_, _, H4, w', e1, ?_, w, a1, t1, t2⟩
        have : (H ++ [AO.box [.int .i64 no, v]] ++ [AO.box [.int .i64 no, .int .i64 k, .int .i64 dg, .int .i64 mx]] ++ [AO.row 1 (hd.map byteV)])[H.length]? = some (.box [.int .i64 no, v]) := by
          rw [get_add_lt (by simp), get_add_lt (by simp), get_add_eq rfl]
        rw [this]
        rfl
      by_cases hd : 0 < dg
      · have t1 := text_ok (L := L) (d := d + 4) (H := H ++ [.box [.int .i64 no, v]] ++ [.box [.int .i64 no, .int .i64 k, .int .i64 dg, .int .i64 mx]]) (v := s.length) (w := dg) (by omega)
        have hdl : (textF s.length dg).1.length ≤ 100 := by
          unfold textF
          have := decD_len 20 s.length
          split
          · simp
          · split
            · simp
            · simp; omega
        obtain ⟨v', H3, H4, w', k1, k2, w, k3, k4, k5⟩ := key _ hdl
        simp only [hd, if_true]
        refine ⟨w', pure_eq (vf := f11) rfl ?_, k5⟩
        simp only [f11, b11]
        simp (disch := (first | assumption | decide | omega | (simp only [AV.fits, AV.cells, AV.isTup, List.length_cons, List.length_nil, Nat.reduceAdd, Nat.reduceBEq, beq_self_eq_true, Bool.not_false, Bool.and_self, Bool.true_and, Nat.zero_add]; done) | (simp only [List.length_append, List.length_set, List.length_cons, List.length_nil, List.length_replicate]; omega) | (simp [calm, VOper.isR]; done) | fail)) only [W_skip, W_exit, W_ret, W_seq, W_cond, Wc_true, Wc_false, W_block, W_reg, W_draw, Wd_nil, Wd_cons, Wdv_p, Wdv_w, Wdv_r, rdS_t, rdS_f, Seen_ok, okV_some, same_refl, List.all_cons, List.all_nil, Bool.and_true, Bool.true_and, Bool.and_self, Wo_nil, Wo_cons, Wv_some, seqQ_normal, seqQ_exit, seqQ_ret, loopQ_normal, loopQ_exit, loopQ_ret, blockQ_normal, blockQ_ret, blockQ_exit, retQ_normal, retQ_ret, vres_0, vres_1, vres_2, vres_3, vres1_tmp, vres1_cell, cellR_ptr, ↓upd_if, upd_no, step_none, step_guard, gV_tt, gV_ff, gV_tf, gV_ft, vop_p, vop_r, vop_w, pV_some, ev_tmp, ev_cst, pop_mov, pop_pick, pickV_t, pickV_f, pop_nilck, nilckV_ptr, nilckV_eptr, nilckV_dptr, nilckV_fn, pop_ibin, ib_add, ib_sub, ib_mul, ib_quo, ib_rem, ib_eql, ib_neq, ib_lss, ib_leq, ib_gtr, ib_geq, is_eql, is_neq, pop_beq, beqV_f, beqV_t, pop_nileq, nileqV_f, nileqV_t, nq_pp, nq_ep, nq_dp, nq_np, nq_ns, nq_sl, nq_rsl, nq_fn, nq_nf, pop_un, un_not, un_neg, pop_conv, convV_int, convV_str, pop_mkfn, pop_ext, extV_0, extV_1, extV_2, pop_fieldA, fieldAV_ptr, fieldAV_eptr, fieldAV_dptr, pop_fieldV, fieldVV_agg, ld_none, ld_some, pop_len, lenV_nil, lenV_sl, lenV_rsl, pop_lenStr, lenStrV_str, pop_cap, capV_nil, capV_sl, capV_rsl, pop_mm, mmV_max, mmV_min, get_set_self, get_set_ne, get_add_lt, get_add_eq, rop_loadV, loadV_ptr, loadV_dptr, boxLd_box, wop_store, wop_append, cast0, Int.zero_add, Int.add_zero, wop_appendN, W_loop, wrap_i64, storeV_at, storeB_box, cells_int, cells_bool, cells_str, cells_nilsl, cells_sl, cells_rsl, cells_nilp, cells_ptr, cells_agg, splice_0, splice_s, List.length_cons, List.length_nil, wop_alloc, wop_box, boxV_ok, wop_mksl, wop_call, callV_fn, rop_pcall, pcallV_fn, pop_build, parts2_nil, parts2_cons, part2V_ok, pop_lit, parts1_nil, parts1_cons, part1V_ok, pop_idxArr, pop_idxA, pop_slice, rop_bytesStr, if_true, if_false, ↓reduceIte, Nat.reduceEqDiff, Int.reduceEq, Int.reduceLT, Int.reduceLE, Int.reduceNe, Int.reduceAdd, Int.reduceSub, Int.reduceNeg, reduceCtorEq, Bool.not_true, Bool.not_false, decide_true, decide_false, dec_t, dec_f, Bool.false_eq_true, List.drop_succ_cons, List.drop_zero, List.take_succ_cons, List.take_zero, List.map_cons, List.map_nil, List.nil_append, List.cons_append, List.append_nil, Nat.zero_add, Nat.add_zero, Nat.reduceAdd, Nat.reduceMul, Nat.reduceSub, Option.map_some, Option.map_none, Option.some.injEq, exists_eq_left', Int.toNat_natCast, fz_int, fz_bool, fz_str, fz_nilsl, fz_nilp, fz_ptr, true_or, or_true, or_false, false_or, true_and, and_true, false_and, and_false, Int.reduceToNat, Nat.zero_mul, Nat.one_mul, Nat.mul_one, envOf, List.getElem?_cons_zero, List.getElem?_cons_succ, Option.getD_some, decide_eq_true_eq, pop_idxStr, pop_sliceStr, wop_strBytes, wop_litMut, wop_mark, rop_cloneV, pop_eqagg, set_add_eq, vres_2g, vres_3g, cellR_at, gV_undef, Option.bind_some, Bool.false_and, Bool.and_false, Bool.true_or, Bool.or_true, Bool.false_or, Bool.or_false, c1, o1, hd, hlen, ew, t1, k1, k2, k3, k4]
      · obtain ⟨v', H3, H4, w', k1, k2, w, k3, k4, k5⟩ := key [] (by simp)
        simp only [hd, if_false]
        refine ⟨w', pure_eq (vf := f11) rfl ?_, k5⟩
        simp only [f11, b11]
        simp (disch := (first | assumption | decide | omega | (simp only [AV.fits, AV.cells, AV.isTup, List.length_cons, List.length_nil, Nat.reduceAdd, Nat.reduceBEq, beq_self_eq_true, Bool.not_false, Bool.and_self, Bool.true_and, Nat.zero_add]; done) | (simp only [List.length_append, List.length_set, List.length_cons, List.length_nil, List.length_replicate]; omega) | (simp [calm, VOper.isR]; done) | fail)) only [W_skip, W_exit, W_ret, W_seq, W_cond, Wc_true, Wc_false, W_block, W_reg, W_draw, Wd_nil, Wd_cons, Wdv_p, Wdv_w, Wdv_r, rdS_t, rdS_f, Seen_ok, okV_some, same_refl, List.all_cons, List.all_nil, Bool.and_true, Bool.true_and, Bool.and_self, Wo_nil, Wo_cons, Wv_some, seqQ_normal, seqQ_exit, seqQ_ret, loopQ_normal, loopQ_exit, loopQ_ret, blockQ_normal, blockQ_ret, blockQ_exit, retQ_normal, retQ_ret, vres_0, vres_1, vres_2, vres_3, vres1_tmp, vres1_cell, cellR_ptr, ↓upd_if, upd_no, step_none, step_guard, gV_tt, gV_ff, gV_tf, gV_ft, vop_p, vop_r, vop_w, pV_some, ev_tmp, ev_cst, pop_mov, pop_pick, pickV_t, pickV_f, pop_nilck, nilckV_ptr, nilckV_eptr, nilckV_dptr, nilckV_fn, pop_ibin, ib_add, ib_sub, ib_mul, ib_quo, ib_rem, ib_eql, ib_neq, ib_lss, ib_leq, ib_gtr, ib_geq, is_eql, is_neq, pop_beq, beqV_f, beqV_t, pop_nileq, nileqV_f, nileqV_t, nq_pp, nq_ep, nq_dp, nq_np, nq_ns, nq_sl, nq_rsl, nq_fn, nq_nf, pop_un, un_not, un_neg, pop_conv, convV_int, convV_str, pop_mkfn, pop_ext, extV_0, extV_1, extV_2, pop_fieldA, fieldAV_ptr, fieldAV_eptr, fieldAV_dptr, pop_fieldV, fieldVV_agg, ld_none, ld_some, pop_len, lenV_nil, lenV_sl, lenV_rsl, pop_lenStr, lenStrV_str, pop_cap, capV_nil, capV_sl, capV_rsl, pop_mm, mmV_max, mmV_min, get_set_self, get_set_ne, get_add_lt, get_add_eq, rop_loadV, loadV_ptr, loadV_dptr, boxLd_box, wop_store, wop_append, cast0, Int.zero_add, Int.add_zero, wop_appendN, W_loop, wrap_i64, storeV_at, storeB_box, cells_int, cells_bool, cells_str, cells_nilsl, cells_sl, cells_rsl, cells_nilp, cells_ptr, cells_agg, splice_0, splice_s, List.length_cons, List.length_nil, wop_alloc, wop_box, boxV_ok, wop_mksl, wop_call, callV_fn, rop_pcall, pcallV_fn, pop_build, parts2_nil, parts2_cons, part2V_ok, pop_lit, parts1_nil, parts1_cons, part1V_ok, pop_idxArr, pop_idxA, pop_slice, rop_bytesStr, if_true, if_false, ↓reduceIte, Nat.reduceEqDiff, Int.reduceEq, Int.reduceLT, Int.reduceLE, Int.reduceNe, Int.reduceAdd, Int.reduceSub, Int.reduceNeg, reduceCtorEq, Bool.not_true, Bool.not_false, decide_true, decide_false, dec_t, dec_f, Bool.false_eq_true, List.drop_succ_cons, List.drop_zero, List.take_succ_cons, List.take_zero, List.map_cons, List.map_nil, List.nil_append, List.cons_append, List.append_nil, Nat.zero_add, Nat.add_zero, Nat.reduceAdd, Nat.reduceMul, Nat.reduceSub, Option.map_some, Option.map_none, Option.some.injEq, exists_eq_left', Int.toNat_natCast, fz_int, fz_bool, fz_str, fz_nilsl, fz_nilp, fz_ptr, true_or, or_true, or_false, false_or, true_and, and_true, false_and, and_false, Int.reduceToNat, Nat.zero_mul, Nat.one_mul, Nat.mul_one, envOf, List.getElem?_cons_zero, List.getElem?_cons_succ, Option.getD_some, decide_eq_true_eq, pop_idxStr, pop_sliceStr, wop_strBytes, wop_litMut, wop_mark, rop_cloneV, pop_eqagg, set_add_eq, vres_2g, vres_3g, cellR_at, gV_undef, Option.bind_some, Bool.false_and, Bool.and_false, Bool.true_or, Bool.or_true, Bool.false_or, Bool.or_false, c1, o1, hd, k1, k2, k3, k4]
  · rw [if_neg he]
    refine ⟨.nilsl, pure_eq (vf := f11) rfl ?_, .nil⟩
    simp only [f11, b11]
    simp (disch := (first | assumption | decide | omega | (simp only [AV.fits, AV.cells, AV.isTup, List.length_cons, List.length_nil, Nat.reduceAdd, Nat.reduceBEq, beq_self_eq_true, Bool.not_false, Bool.and_self, Bool.true_and, Nat.zero_add]; done) | (simp only [List.length_append, List.length_set, List.length_cons, List.length_nil, List.length_replicate]; omega) | (simp [calm, VOper.isR]; done) | fail)) only [W_skip, W_exit, W_ret, W_seq, W_cond, Wc_true, Wc_false, W_block, W_reg, W_draw, Wd_nil, Wd_cons, Wdv_p, Wdv_w, Wdv_r, rdS_t, rdS_f, Seen_ok, okV_some, same_refl, List.all_cons, List.all_nil, Bool.and_true, Bool.true_and, Bool.and_self, Wo_nil, Wo_cons, Wv_some, seqQ_normal, seqQ_exit, seqQ_ret, loopQ_normal, loopQ_exit, loopQ_ret, blockQ_normal, blockQ_ret, blockQ_exit, retQ_normal, retQ_ret, vres_0, vres_1, vres_2, vres_3, vres1_tmp, vres1_cell, cellR_ptr, ↓upd_if, upd_no, step_none, step_guard, gV_tt, gV_ff, gV_tf, gV_ft, vop_p, vop_r, vop_w, pV_some, ev_tmp, ev_cst, pop_mov, pop_pick, pickV_t, pickV_f, pop_nilck, nilckV_ptr, nilckV_eptr, nilckV_dptr, nilckV_fn, pop_ibin, ib_add, ib_sub, ib_mul, ib_quo, ib_rem, ib_eql, ib_neq, ib_lss, ib_leq, ib_gtr, ib_geq, is_eql, is_neq, pop_beq, beqV_f, beqV_t, pop_nileq, nileqV_f, nileqV_t, nq_pp, nq_ep, nq_dp, nq_np, nq_ns, nq_sl, nq_rsl, nq_fn, nq_nf, pop_un, un_not, un_neg, pop_conv, convV_int, convV_str, pop_mkfn, pop_ext, extV_0, extV_1, extV_2, pop_fieldA, fieldAV_ptr, fieldAV_eptr, fieldAV_dptr, pop_fieldV, fieldVV_agg, ld_none, ld_some, pop_len, lenV_nil, lenV_sl, lenV_rsl, pop_lenStr, lenStrV_str, pop_cap, capV_nil, capV_sl, capV_rsl, pop_mm, mmV_max, mmV_min, get_set_self, get_set_ne, get_add_lt, get_add_eq, rop_loadV, loadV_ptr, loadV_dptr, boxLd_box, wop_store, wop_append, cast0, Int.zero_add, Int.add_zero, wop_appendN, W_loop, wrap_i64, storeV_at, storeB_box, cells_int, cells_bool, cells_str, cells_nilsl, cells_sl, cells_rsl, cells_nilp, cells_ptr, cells_agg, splice_0, splice_s, List.length_cons, List.length_nil, wop_alloc, wop_box, boxV_ok, wop_mksl, wop_call, callV_fn, rop_pcall, pcallV_fn, pop_build, parts2_nil, parts2_cons, part2V_ok, pop_lit, parts1_nil, parts1_cons, part1V_ok, pop_idxArr, pop_idxA, pop_slice, rop_bytesStr, if_true, if_false, ↓reduceIte, Nat.reduceEqDiff, Int.reduceEq, Int.reduceLT, Int.reduceLE, Int.reduceNe, Int.reduceAdd, Int.reduceSub, Int.reduceNeg, reduceCtorEq, Bool.not_true, Bool.not_false, decide_true, decide_false, dec_t, dec_f, Bool.false_eq_true, List.drop_succ_cons, List.drop_zero, List.take_succ_cons, List.take_zero, List.map_cons, List.map_nil, List.nil_append, List.cons_append, List.append_nil, Nat.zero_add, Nat.add_zero, Nat.reduceAdd, Nat.reduceMul, Nat.reduceSub, Option.map_some, Option.map_none, Option.some.injEq, exists_eq_left', Int.toNat_natCast, fz_int, fz_bool, fz_str, fz_nilsl, fz_nilp, fz_ptr, true_or, or_true, or_false, false_or, true_and, and_true, false_and, and_false, Int.reduceToNat, Nat.zero_mul, Nat.one_mul, Nat.mul_one, envOf, List.getElem?_cons_zero, List.getElem?_cons_succ, Option.getD_some, decide_eq_true_eq, pop_idxStr, pop_sliceStr, wop_strBytes, wop_litMut, wop_mark, rop_cloneV, pop_eqagg, set_add_eq, vres_2g, vres_3g, cellR_at, gV_undef, Option.bind_some, Bool.false_and, Bool.and_false, Bool.true_or, Bool.or_true, Bool.false_or, Bool.or_false, c1, he]
    rfl

theorem bytes_ok {a b : AV} {as bs : List UInt8} (ha : BS H a as) (hb : BS H b bs) : asPure (vcall (vlook tbl) L (d + 1)) 15 [a, b] H = some (.bool (as == bs)) := by
  refine pure_eq (vf := f15) rfl ?_
  simp only [f15, b15]
  simp (disch := (first | assumption | decide | omega | (simp only [AV.fits, AV.cells, AV.isTup, List.length_cons, List.length_nil, Nat.reduceAdd, Nat.reduceBEq, beq_self_eq_true, Bool.not_false, Bool.and_self, Bool.true_and, Nat.zero_add]; done) | (simp only [List.length_append, List.length_set, List.length_cons, List.length_nil, List.length_replicate]; omega) | (simp [calm, VOper.isR]; done) | fail)) only [W_skip, W_exit, W_ret, W_seq, W_cond, Wc_true, Wc_false, W_block, W_reg, W_draw, Wd_nil, Wd_cons, Wdv_p, Wdv_w, Wdv_r, rdS_t, rdS_f, Seen_ok, okV_some, same_refl, List.all_cons, List.all_nil, Bool.and_true, Bool.true_and, Bool.and_self, Wo_nil, Wo_cons, Wv_some, seqQ_normal, seqQ_exit, seqQ_ret, loopQ_normal, loopQ_exit, loopQ_ret, blockQ_normal, blockQ_ret, blockQ_exit, retQ_normal, retQ_ret, vres_0, vres_1, vres_2, vres_3, vres1_tmp, vres1_cell, cellR_ptr, ↓upd_if, upd_no, step_none, step_guard, gV_tt, gV_ff, gV_tf, gV_ft, vop_p, vop_r, vop_w, pV_some, ev_tmp, ev_cst, pop_mov, pop_pick, pickV_t, pickV_f, pop_nilck, nilckV_ptr, nilckV_eptr, nilckV_dptr, nilckV_fn, pop_ibin, ib_add, ib_sub, ib_mul, ib_quo, ib_rem, ib_eql, ib_neq, ib_lss, ib_leq, ib_gtr, ib_geq, is_eql, is_neq, pop_beq, beqV_f, beqV_t, pop_nileq, nileqV_f, nileqV_t, nq_pp, nq_ep, nq_dp, nq_np, nq_ns, nq_sl, nq_rsl, nq_fn, nq_nf, pop_un, un_not, un_neg, pop_conv, convV_int, convV_str, pop_mkfn, pop_ext, extV_0, extV_1, extV_2, pop_fieldA, fieldAV_ptr, fieldAV_eptr, fieldAV_dptr, pop_fieldV, fieldVV_agg, ld_none, ld_some, pop_len, lenV_nil, lenV_sl, lenV_rsl, pop_lenStr, lenStrV_str, pop_cap, capV_nil, capV_sl, capV_rsl, pop_mm, mmV_max, mmV_min, get_set_self, get_set_ne, get_add_lt, get_add_eq, rop_loadV, loadV_ptr, loadV_dptr, boxLd_box, wop_store, wop_append, cast0, Int.zero_add, Int.add_zero, wop_appendN, W_loop, wrap_i64, storeV_at, storeB_box, cells_int, cells_bool, cells_str, cells_nilsl, cells_sl, cells_rsl, cells_nilp, cells_ptr, cells_agg, splice_0, splice_s, List.length_cons, List.length_nil, wop_alloc, wop_box, boxV_ok, wop_mksl, wop_call, callV_fn, rop_pcall, pcallV_fn, pop_build, parts2_nil, parts2_cons, part2V_ok, pop_lit, parts1_nil, parts1_cons, part1V_ok, pop_idxArr, pop_idxA, pop_slice, rop_bytesStr, if_true, if_false, ↓reduceIte, Nat.reduceEqDiff, Int.reduceEq, Int.reduceLT, Int.reduceLE, Int.reduceNe, Int.reduceAdd, Int.reduceSub, Int.reduceNeg, reduceCtorEq, Bool.not_true, Bool.not_false, decide_true, decide_false, dec_t, dec_f, Bool.false_eq_true, List.drop_succ_cons, List.drop_zero, List.take_succ_cons, List.take_zero, List.map_cons, List.map_nil, List.nil_append, List.cons_append, List.append_nil, Nat.zero_add, Nat.add_zero, Nat.reduceAdd, Nat.reduceMul, Nat.reduceSub, Option.map_some, Option.map_none, Option.some.injEq, exists_eq_left', Int.toNat_natCast, fz_int, fz_bool, fz_str, fz_nilsl, fz_nilp, fz_ptr, true_or, or_true, or_false, false_or, true_and, and_true, false_and, and_false, Int.reduceToNat, Nat.zero_mul, Nat.one_mul, Nat.mul_one, envOf, List.getElem?_cons_zero, List.getElem?_cons_succ, Option.getD_some, decide_eq_true_eq, pop_idxStr, pop_sliceStr, wop_strBytes, wop_litMut, wop_mark, rop_cloneV, pop_eqagg, set_add_eq, vres_2g, vres_3g, cellR_at, gV_undef, Option.bind_some, Bool.false_and, Bool.and_false, Bool.true_or, Bool.or_true, Bool.false_or, Bool.or_false, ha.str, hb.str]

/-! ### what is written is read -/
theorem decD_dig : ∀ (f u : Nat), (decD f u).all dig = true := by
  intro f
  induction f with
  | zero => intro u; rfl
  | succ f ih =>
    intro u
    have key : ∀ m, m < 10 → dig (UInt8.ofNat (48 + m)) = true := fun m hm => (dig_iff _).2 (by rw [UInt8.toNat_ofNat']; omega)
    rw [decD]
    split
    · rename_i h; simp only [List.all_cons, List.all_nil, key u h, Bool.and_true]
    · rw [List.all_append, ih]; simp only [List.all_cons, List.all_nil, key _ (Nat.mod_lt u (by omega : 0 < 10)), Bool.and_true]
theorem decD_num : ∀ (f u : Nat), u < 10 ^ (f + 1) → numV (decD (f + 1) u) = u := by
  intro f
  induction f with
  | zero => intro u h; simp only [decD]; rw [if_pos (by omega)]; simp [numV]; omega
  | succ f ih =>
    intro u h
    rw [decD]
    split
    · simp [numV]; omega
    · rw [numV_snoc, ih _ (by rw [Nat.pow_succ] at h; omega)]
      have : (UInt8.ofNat (48 + u % 10)).toNat = 48 + u % 10 := by rw [UInt8.toNat_ofNat']; omega
      rw [this]; omega
theorem decD_short : ∀ (f n u : Nat), u < 10 ^ n → 1 ≤ n → (decD f u).length ≤ n := by
  intro f
  induction f with
  | zero => intro n u _ _; simp [decD]
  | succ f ih =>
    intro n u h h1
    rw [decD]
    split
    · simp; omega
    · rename_i hu
      have h2 : 2 ≤ n := by
        rcases Nat.lt_or_ge n 2 with h | h
        · have : n = 1 := by omega
          subst this; simp at *; omega
        · exact h
      obtain ⟨m, rfl⟩ : ∃ m, n = m + 1 := ⟨n - 1, by omega⟩
      have := ih m (u / 10) (by rw [Nat.pow_succ] at h; omega) (by omega)
      simp; omega
theorem numV_zeros (n : Nat) (s : List UInt8) : numV (List.replicate n 48 ++ s) = numV s := by
  unfold numV
  rw [List.foldl_append]
  congr 1
  induction n with
  | zero => rfl
  | succ n ih => simpa [List.replicate_succ] using ih
/-- A number in so many digits, read again. -/
theorem text_back {n m : Nat} (h : n < 10 ^ m) (h1 : 1 ≤ m) (h2 : m ≤ 18) : (textF n m).1.length = m ∧ (textF n m).2 = 0 ∧ numOk (textF n m).1 = true ∧ numV (textF n m).1 = n := by
  have hs := decD_short 20 m n h h1
  have hp : 10 ^ m ≤ 10 ^ 20 := Nat.pow_le_pow_right (by omega) (by omega)
  have he : textF n m = (List.replicate (m - (decD 20 n).length) 48 ++ decD 20 n, 0) := by
    unfold textF
    rw [if_neg (by omega), if_neg (by omega), Int.toNat_natCast]
  rw [he]
  have hl : (List.replicate (m - (decD 20 n).length) (48 : UInt8) ++ decD 20 n).length = m := by simp; omega
  refine ⟨hl, rfl, ?_, ?_⟩
  · unfold numOk
    rw [hl, List.all_append, decD_dig]
    have h48 : (List.replicate (m - (decD 20 n).length) (48 : UInt8)).all dig = true := by
      rw [List.all_eq_true]; intro c hc; rw [List.eq_of_mem_replicate hc]; decide
    have a1 : (1 : Int) ≤ (m : Int) := by omega
    have a2 : (m : Int) ≤ 18 := by omega
    simp [h48, a1, a2]
  · rw [numV_zeros, decD_num 19 n (by omega)]
theorem check_zero {no : Int} {s : List UInt8} (h : checkF no s = 0) : ∃ k dg mx, fmt no = some (k, dg, mx) ∧ longF dg mx s.length = true ∧ pass k mx s = true := by
  unfold checkF at h
  cases hf : fmt no with
  | none => rw [hf] at h; simp at h
  | some p =>
    obtain ⟨k, dg, mx⟩ := p
    rw [hf] at h
    simp only at h
    split at h
    · split at h
      · exact ⟨k, dg, mx, rfl, by assumption, by assumption⟩
      · simp at h
    · simp at h
/-- What is written is read, with what stands behind it; cut anywhere it is too short. -/
theorem write_read {no : Int} {s more : List UInt8} (h : checkF no s = 0) :
    0 < (writeF no s).1.length ∧ (writeF no s).2 = 0 ∧ readF no ((writeF no s).1 ++ more) = (s, ((writeF no s).1.length : Int), 0) ∧ ∀ cut, cut < (writeF no s).1.length → (readF no ((writeF no s).1.take cut)).2.2 = 3 := by
  obtain ⟨k, dg, mx, hf, hl, hp⟩ := check_zero h
  have hm := List.all_eq_true.1 fmts_ok _ (fmt_mem hf)
  simp only [Bool.and_eq_true, decide_eq_true_eq] at hm
  obtain ⟨⟨⟨⟨g0, g1⟩, g2⟩, g3⟩, g4⟩ := hm
  obtain ⟨m, rfl⟩ : ∃ m : Nat, dg = m := ⟨dg.toNat, by omega⟩
  have hw : writeF no s = (headF no s.length ++ s, 0) := by unfold writeF; rw [if_pos h]
  have hll := hl
  unfold longF at hll
  simp only [Bool.or_eq_true, Bool.and_eq_true, decide_eq_true_eq] at hll
  have hs1 : 1 ≤ s.length ∧ (s.length : Int) ≤ mx := by omega
  rw [hw]
  by_cases hd : m = 0
  · subst hd
    have hh : headF no s.length = [] := by unfold headF; rw [hf]; rfl
    have hlen : (s.length : Int) = mx := by omega
    rw [hh]
    simp only [List.nil_append]
    refine ⟨by omega, trivial, ?_, ?_⟩
    · unfold readF
      rw [hf]
      have hz : sizeF 0 mx (s ++ more) = (mx, 0) := by unfold sizeF; rw [if_pos rfl]
      have hn : ¬ (((s ++ more).length : Nat) : Int) < 0 + mx := by simp; omega
      have ht : ((s ++ more).take (0 + mx).toNat).drop (0 : Int).toNat = s := by
        have : (0 + mx).toNat = s.length := by omega
        rw [this]; simp
      simp only [Int.natCast_zero, hz, if_true, hn, if_false, ht, hp, hlen]
      simp
    · intro cut hc
      unfold readF
      rw [hf]
      have hz : sizeF 0 mx (s.take cut) = (mx, 0) := by unfold sizeF; rw [if_pos rfl]
      have hn : (((s.take cut).length : Nat) : Int) < 0 + mx := by simp; omega
      simp only [Int.natCast_zero, hz, if_true, hn]
  · have hmx : (10 : Int) ^ m = ((10 ^ m : Nat) : Int) := by simp
    have hs10 : s.length < 10 ^ m := by
      rcases g4 with g4 | g4
      · omega
      · simp only [Int.toNat_natCast, hmx] at g4; omega
    obtain ⟨b1, b2, b3, b4⟩ := text_back (n := s.length) (m := m) hs10 (by omega) (by omega)
    have hh : headF no s.length = (textF s.length m).1 := by
      unfold headF; rw [hf]
      have : (0 : Int) < (m : Int) := by omega
      simp only [this, if_true]
    rw [hh]
    generalize (textF s.length m).1 = hd at b1 b3 b4
    have hd0 : ¬ (m : Int) = 0 := by omega
    refine ⟨by simp; omega, rfl, ?_, ?_⟩
    · unfold readF
      rw [hf]
      have ht1 : (hd ++ s ++ more).take m = hd := by rw [List.append_assoc, ← b1, List.take_left]
      have hz : sizeF m mx (hd ++ s ++ more) = ((s.length : Int), 0) := by
        unfold sizeF
        rw [if_neg hd0, if_neg (by simp; omega), Int.toNat_natCast, ht1, b3, b4, hl]
        rfl
      have hn : ¬ (((hd ++ s ++ more).length : Nat) : Int) < (m : Int) + (s.length : Int) := by simp; omega
      have ht : ((hd ++ s ++ more).take ((m : Int) + (s.length : Int)).toNat).drop (m : Int).toNat = s := by
        have : ((m : Int) + (s.length : Int)).toNat = (hd ++ s).length := by simp; omega
        rw [this, List.take_left, Int.toNat_natCast, ← b1, List.drop_left]
      simp only [hz, if_true, hn, if_false, ht, hp]
      simp [b1]
    · intro cut hc
      unfold readF
      rw [hf]
      by_cases hcm : cut < m
      · have hz : sizeF m mx ((hd ++ s).take cut) = (0, 3) := by
          unfold sizeF
          rw [if_neg hd0, if_pos (by simp; omega)]
        simp only [hz]
        rfl
      · have ht1 : ((hd ++ s).take cut).take m = hd := by
          rw [List.take_take, Nat.min_eq_left (by omega), ← b1, List.take_left]
        have hz : sizeF m mx ((hd ++ s).take cut) = ((s.length : Int), 0) := by
          unfold sizeF
          rw [if_neg hd0, if_neg (by simp; omega), Int.toNat_natCast, ht1, b3, b4, hl]
          rfl
        have hn : ((((hd ++ s).take cut).length : Nat) : Int) < (m : Int) + (s.length : Int) := by simp at hc ⊢; omega
        simp only [hz, if_true, hn]
end Go.Vx.YtmeffbagkloagaaDoor
