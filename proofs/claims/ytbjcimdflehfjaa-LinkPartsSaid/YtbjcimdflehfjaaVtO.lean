/- A part of the proof: lemmas about runs of the program's code. No condition beyond those that the lemmas state. -/
import Derived.Test.YtbjcimdflehfjaaVtN
set_option linter.unusedVariables false
set_option linter.unusedSimpArgs false
set_option maxRecDepth 20000
namespace Go.Vx.Ytbjcimdflehfjaa
variable {L d : Nat} {H : Heap}

theorem feed_ok {fl b : Nat} {ws cs r : List UInt8} {fs : List (List UInt8)} {v : AV} (hl : LinkAt H b ws) (hv : BS H v cs) (hp : Parse (ws ++ cs) fs r) (hw : ws.length + cs.length ≤ 1000000) (hf : fl ≤ b) (hL : 2000000 ≤ L) :
    ∃ v' H' us, vcall (vlook tbl) L (d + 7) fl 33 [.ptr b 0, v] H = some (.tup [v', .int .i64 0], H') ∧ Own H' H.length v' us ∧ PBs us fs ∧ LinkAt H' b r ∧ Frm H H' b := by
  obtain ⟨u, hb, hu⟩ := hl
  have hbl := lt_of_get hb
  obtain ⟨w, c1, c2⟩ := concatP_ok (L := L) (d := d + 4) (hu.bs H) hv (by omega) (by omega) (by omega)
  have hb2 : (H.set b (.box [w, .bool false]))[b]? = some (.box [w, .bool false]) := get_set_self hbl
  have fr2 : Frm H (H.set b (.box [w, .bool false])) b := ⟨by simp, fun b' hne _ => get_set_ne (Ne.symm hne)⟩
  obtain ⟨v', H', us, e1, e2, e3, e4, e5⟩ := every_ok (L := L) (d := d) (fl := fl) (H := H.set b (.box [w, .bool false])) ⟨w, hb2, c2⟩ hp (by simp; omega) hf hL
  have e4' := e4
  obtain ⟨z, hb3, hz⟩ := e4
  have q0 := (hu.bs H).fits
  have q1 := hv.fits
  have q2 := (c2.bs H).fits
  rw [List.length_set] at e2
  refine ⟨v', H', us, call_eq (vf := f33) rfl ?_, e2, e3, e4', fr2.trans e5⟩
  simp only [f33, b33]
  simp (disch := (first | assumption | decide | omega | (simp only [AV.fits, AV.cells, AV.isTup, List.length_cons, List.length_nil, Nat.reduceAdd, Nat.reduceBEq, beq_self_eq_true, Bool.not_false, Bool.and_self, Bool.true_and, Nat.zero_add]; done) | (simp only [List.length_append, List.length_set, List.length_cons, List.length_nil, List.length_replicate]; omega) | (simp [calm, VOper.isR]; done) | fail)) only [W_skip, W_exit, W_ret, W_seq, W_cond, Wc_true, Wc_false, W_block, W_reg, W_draw, Wd_nil, Wd_cons, Wdv_p, Wdv_w, Wdv_r, rdS_t, rdS_f, Seen_ok, okV_some, same_refl, List.all_cons, List.all_nil, Bool.and_true, Bool.true_and, Bool.and_self, Wo_nil, Wo_cons, Wv_some, seqQ_normal, seqQ_exit, seqQ_ret, loopQ_normal, loopQ_exit, loopQ_ret, blockQ_normal, blockQ_ret, blockQ_exit, retQ_normal, retQ_ret, vres_0, vres_1, vres_2, vres_3, vres1_tmp, vres1_cell, cellR_ptr, ↓upd_if, upd_no, step_none, step_guard, gV_tt, gV_ff, gV_tf, gV_ft, vop_p, vop_r, vop_w, pV_some, ev_tmp, ev_cst, pop_mov, pop_pick, pickV_t, pickV_f, pop_nilck, nilckV_ptr, nilckV_eptr, nilckV_dptr, nilckV_fn, pop_ibin, ib_add, ib_sub, ib_mul, ib_quo, ib_rem, ib_eql, ib_neq, ib_lss, ib_leq, ib_gtr, ib_geq, is_eql, is_neq, pop_beq, beqV_f, beqV_t, pop_nileq, nileqV_f, nileqV_t, nq_pp, nq_ep, nq_dp, nq_np, nq_ns, nq_sl, nq_rsl, nq_fn, nq_nf, pop_un, un_not, un_neg, pop_conv, convV_int, convV_str, pop_mkfn, pop_ext, extV_0, extV_1, extV_2, pop_fieldA, fieldAV_ptr, fieldAV_eptr, fieldAV_dptr, pop_fieldV, fieldVV_agg, ld_none, ld_some, pop_len, lenV_nil, lenV_sl, lenV_rsl, pop_lenStr, lenStrV_str, pop_cap, capV_nil, capV_sl, capV_rsl, pop_mm, mmV_max, mmV_min, get_set_self, get_set_ne, get_add_lt, get_add_eq, rop_loadV, loadV_ptr, loadV_dptr, boxLd_box, wop_store, wop_append, cast0, Int.zero_add, Int.add_zero, wop_appendN, W_loop, wrap_i64, storeV_at, storeB_box, cells_int, cells_bool, cells_str, cells_nilsl, cells_sl, cells_rsl, cells_nilp, cells_ptr, cells_agg, splice_0, splice_s, List.length_cons, List.length_nil, wop_alloc, wop_box, boxV_ok, wop_mksl, wop_call, callV_fn, rop_pcall, pcallV_fn, pop_build, parts2_nil, parts2_cons, part2V_ok, pop_lit, parts1_nil, parts1_cons, part1V_ok, pop_idxArr, pop_idxA, pop_slice, rop_bytesStr, if_true, if_false, ↓reduceIte, Nat.reduceEqDiff, Int.reduceEq, Int.reduceLT, Int.reduceLE, Int.reduceNe, Int.reduceAdd, Int.reduceSub, Int.reduceNeg, reduceCtorEq, Bool.not_true, Bool.not_false, decide_true, decide_false, dec_t, dec_f, Bool.false_eq_true, List.drop_succ_cons, List.drop_zero, List.take_succ_cons, List.take_zero, List.map_cons, List.map_nil, List.nil_append, List.cons_append, List.append_nil, Nat.zero_add, Nat.add_zero, Nat.reduceAdd, Nat.reduceMul, Nat.reduceSub, Option.map_some, Option.map_none, Option.some.injEq, exists_eq_left', Int.toNat_natCast, fz_int, fz_bool, fz_str, fz_nilsl, fz_nilp, fz_ptr, true_or, or_true, or_false, false_or, true_and, and_true, false_and, and_false, Int.reduceToNat, Nat.zero_mul, Nat.one_mul, Nat.mul_one, envOf, List.getElem?_cons_zero, List.getElem?_cons_succ, Option.getD_some, decide_eq_true_eq, hb, c1, List.replicate_succ, List.replicate_zero, List.set_cons_zero, List.set_cons_succ, (c2.bs H).cells, e1, hb3]

theorem framed_len (f : List UInt8) : (framed f).length = 2 + f.length := by simp [framed, beBytes_len]
/-- A whole frame ahead. -/
theorem parse_framed {f ws r : List UInt8} {fs : List (List UInt8)} (h1 : 1 ≤ f.length) (h2 : f.length ≤ 4096) (h : Parse ws fs r) : Parse (framed f ++ ws) (f :: fs) r := by
  have hb := beBytes_len 2 f.length
  have hn : beNum ((framed f ++ ws).take 2) = f.length := by
    unfold framed
    rw [List.append_assoc, List.take_append_of_le_length (by omega), List.take_of_length_le (by omega)]
    exact beNum_beBytes 2 _ (by omega)
  have hd : (framed f ++ ws).drop (2 + f.length) = ws := by
    rw [← framed_len, List.drop_left]
  have ht : ((framed f ++ ws).drop 2).take f.length = f := by
    unfold framed
    rw [List.append_assoc, List.drop_append_of_le_length (by omega), List.drop_of_length_le (by omega), List.nil_append, List.take_left]
  have := Parse.frame (ws := framed f ++ ws) (fs := fs) (r := r) hn h1 h2 (by simp [framed_len]) (by rw [hd]; exact h)
  rw [ht] at this
  exact this
/-- A piece of a frame. -/
theorem short_piece {f : List UInt8} {k : Nat} (h1 : 1 ≤ f.length) (h2 : f.length ≤ 4096) (hk : k < 2 + f.length) : short ((framed f).take k) := by
  by_cases h : k < 2
  · left; simp; omega
  · right
    have hb := beBytes_len 2 f.length
    have hn : beNum (((framed f).take k).take 2) = f.length := by
      rw [List.take_take, Nat.min_eq_left (by omega)]
      unfold framed
      rw [List.take_append_of_le_length (by omega), List.take_of_length_le (by omega)]
      exact beNum_beBytes 2 _ (by omega)
    rw [hn]
    refine ⟨by simp [framed_len]; omega, h1, h2, ?_⟩
    simp [framed_len]; omega

theorem awake6_ok (hL : 2000000 ≤ L) : asPure (vcall (vlook tbl) L (d + 8)) 32 [] H = some (.bool true) := by
  have e1 := linkNew_ok (L := L) (d := d + 6) (fl := H.length) (H := H)
  have l1 : LinkAt (H ++ [.box [.nilsl, .bool false]]) H.length [] := ⟨.nilsl, get_add_eq rfl, .nil⟩
  have hb : BS (H ++ [.box [.nilsl, .bool false]]) (.sl 1 true [.int .u8 0, .int .u8 1, .int .u8 7]) [0, 1, 7] := .sl true _
  have hpar : Parse ([] ++ [0, 1, 7]) [[7]] [] := parse_framed (f := [7]) (ws := []) (by decide) (by decide) (.stop (.inl (by decide)))
  obtain ⟨v, H2, us, e2, o2, p2, l2, f2⟩ := feed_ok (L := L) (d := d) (fl := H.length) l1 hb hpar (by decide) (Nat.le_refl _) hL
  cases p2 with
  | cons hu hs =>
  cases hs
  rename_i u
  have hsl := o2.sl
  obtain ⟨p, g1, g2, _⟩ := hsl.get (by omega) (i := 0) (x := u) rfl .i64
  have g3 := g2 none
  rw [(hu.bs H2).cells] at g3
  have z0 : ((0 : Nat) : Int) = 0 := rfl
  rw [z0] at g1
  have b7 : BS H2 (.sl 1 true [.int .u8 7]) [7] := .sl true _
  obtain ⟨w, e3, p3⟩ := frame_ok (L := L) (d := d + 3) (H := H2) b7 (by decide) (by decide) (by omega)
  have fr7 : framed [7] = [0, 1, 7] := by rfl
  rw [fr7] at p3
  have b3 : BS H2 (.sl 1 true [.int .u8 0, .int .u8 1, .int .u8 7]) [0, 1, 7] := .sl true _
  have c1 := bytes_ok (L := L) (d := d + 6) (hu.bs H2) b7
  have c2 := bytes_ok (L := L) (d := d + 6) (p3.bs H2) b3
  have k1 : (([7] : List UInt8) == [7]) = true := rfl
  have k2 : (([0, 1, 7] : List UInt8) == [0, 1, 7]) = true := rfl
  have hlen := hsl.len
  refine pure_eq (vf := f32) rfl ?_
  simp only [f32, b32]
  simp (disch := (first | assumption | decide | omega | (simp only [AV.fits, AV.cells, AV.isTup, List.length_cons, List.length_nil, Nat.reduceAdd, Nat.reduceBEq, beq_self_eq_true, Bool.not_false, Bool.and_self, Bool.true_and, Nat.zero_add]; done) | (simp only [List.length_append, List.length_set, List.length_cons, List.length_nil, List.length_replicate]; omega) | (simp [calm, VOper.isR]; done) | fail)) only [W_skip, W_exit, W_ret, W_seq, W_cond, Wc_true, Wc_false, W_block, W_reg, W_draw, Wd_nil, Wd_cons, Wdv_p, Wdv_w, Wdv_r, rdS_t, rdS_f, Seen_ok, okV_some, same_refl, List.all_cons, List.all_nil, Bool.and_true, Bool.true_and, Bool.and_self, Wo_nil, Wo_cons, Wv_some, seqQ_normal, seqQ_exit, seqQ_ret, loopQ_normal, loopQ_exit, loopQ_ret, blockQ_normal, blockQ_ret, blockQ_exit, retQ_normal, retQ_ret, vres_0, vres_1, vres_2, vres_3, vres1_tmp, vres1_cell, cellR_ptr, ↓upd_if, upd_no, step_none, step_guard, gV_tt, gV_ff, gV_tf, gV_ft, vop_p, vop_r, vop_w, pV_some, ev_tmp, ev_cst, pop_mov, pop_pick, pickV_t, pickV_f, pop_nilck, nilckV_ptr, nilckV_eptr, nilckV_dptr, nilckV_fn, pop_ibin, ib_add, ib_sub, ib_mul, ib_quo, ib_rem, ib_eql, ib_neq, ib_lss, ib_leq, ib_gtr, ib_geq, is_eql, is_neq, pop_beq, beqV_f, beqV_t, pop_nileq, nileqV_f, nileqV_t, nq_pp, nq_ep, nq_dp, nq_np, nq_ns, nq_sl, nq_rsl, nq_fn, nq_nf, pop_un, un_not, un_neg, pop_conv, convV_int, convV_str, pop_mkfn, pop_ext, extV_0, extV_1, extV_2, pop_fieldA, fieldAV_ptr, fieldAV_eptr, fieldAV_dptr, pop_fieldV, fieldVV_agg, ld_none, ld_some, pop_len, lenV_nil, lenV_sl, lenV_rsl, pop_lenStr, lenStrV_str, pop_cap, capV_nil, capV_sl, capV_rsl, pop_mm, mmV_max, mmV_min, get_set_self, get_set_ne, get_add_lt, get_add_eq, rop_loadV, loadV_ptr, loadV_dptr, boxLd_box, wop_store, wop_append, cast0, Int.zero_add, Int.add_zero, wop_appendN, W_loop, wrap_i64, storeV_at, storeB_box, cells_int, cells_bool, cells_str, cells_nilsl, cells_sl, cells_rsl, cells_nilp, cells_ptr, cells_agg, splice_0, splice_s, List.length_cons, List.length_nil, wop_alloc, wop_box, boxV_ok, wop_mksl, wop_call, callV_fn, rop_pcall, pcallV_fn, pop_build, parts2_nil, parts2_cons, part2V_ok, pop_lit, parts1_nil, parts1_cons, part1V_ok, pop_idxArr, pop_idxA, pop_slice, rop_bytesStr, if_true, if_false, ↓reduceIte, Nat.reduceEqDiff, Int.reduceEq, Int.reduceLT, Int.reduceLE, Int.reduceNe, Int.reduceAdd, Int.reduceSub, Int.reduceNeg, reduceCtorEq, Bool.not_true, Bool.not_false, decide_true, decide_false, dec_t, dec_f, Bool.false_eq_true, List.drop_succ_cons, List.drop_zero, List.take_succ_cons, List.take_zero, List.map_cons, List.map_nil, List.nil_append, List.cons_append, List.append_nil, Nat.zero_add, Nat.add_zero, Nat.reduceAdd, Nat.reduceMul, Nat.reduceSub, Option.map_some, Option.map_none, Option.some.injEq, exists_eq_left', Int.toNat_natCast, fz_int, fz_bool, fz_str, fz_nilsl, fz_nilp, fz_ptr, true_or, or_true, or_false, false_or, true_and, and_true, false_and, and_false, Int.reduceToNat, Nat.zero_mul, Nat.one_mul, Nat.mul_one, envOf, List.getElem?_cons_zero, List.getElem?_cons_succ, Option.getD_some, decide_eq_true_eq, e1, List.replicate_succ, List.replicate_zero, List.set_cons_zero, List.set_cons_succ, e2, e3, hlen, g1, g3, c1, c2, k1, k2]
end Go.Vx.Ytbjcimdflehfjaa
