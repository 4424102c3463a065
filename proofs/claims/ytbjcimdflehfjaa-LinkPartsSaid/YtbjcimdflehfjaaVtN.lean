/- A part of the proof: lemmas about runs of the program's code. No condition beyond those that the lemmas state. -/
import Derived.Test.YtbjcimdflehfjaaVtM
set_option linter.unusedVariables false
set_option linter.unusedSimpArgs false
set_option maxRecDepth 20000
namespace Go.Vx.Ytbjcimdflehfjaa
variable {L d : Nat} {H : Heap}

/-- What waits, taken apart. -/
inductive Parse : List UInt8 → List (List UInt8) → List UInt8 → Prop
  | stop {ws : List UInt8} (h : short ws) : Parse ws [] ws
  | frame {ws r : List UInt8} {fs : List (List UInt8)} {n : Nat} (hn : beNum (ws.take 2) = n) (h1 : 1 ≤ n) (h2 : n ≤ 4096) (h3 : 2 + n ≤ ws.length) (hr : Parse (ws.drop (2 + n)) fs r) : Parse ws ((ws.drop 2).take n :: fs) r

/-- Slices of bytes, one by one. -/
inductive PBs : List AV → List (List UInt8) → Prop
  | nil : PBs [] []
  | cons {u : AV} {f : List UInt8} {us : List AV} {fs : List (List UInt8)} (h : PB u f) (hs : PBs us fs) : PBs (u :: us) (f :: fs)
theorem PBs.length {us : List AV} {fs : List (List UInt8)} (h : PBs us fs) : us.length = fs.length := by
  induction h with
  | nil => rfl
  | cons h hs ih => simp [ih]
theorem PBs.snoc {us : List AV} {fs : List (List UInt8)} {u : AV} {f : List UInt8} (h : PBs us fs) (hu : PB u f) : PBs (us ++ [u]) (fs ++ [f]) := by
  induction h with
  | nil => exact .cons hu .nil
  | cons h hs ih => exact .cons h ih

/-- A slice that nobody else has: its block, if it has one, is not older than n. -/
def Own (H : Heap) (n : Nat) (v : AV) (us : List AV) : Prop := (v = .nilsl ∧ us = []) ∨ ∃ b, n ≤ b ∧ v = .rsl b 1 0 us.length none ∧ H[b]? = some (.row 1 us)
theorem Own.sl {n : Nat} {v : AV} {us : List AV} (h : Own H n v us) : SL H 1 v us := by
  rcases h with ⟨rfl, rfl⟩ | ⟨b, _, rfl, hb⟩
  · exact .nil
  · exact .rsl b 0 _ _ _ _ hb (by simp) (by simp) (by simp)
theorem Own.snoc {fl n : Nat} {v u : AV} {us : List AV} {bytes : Nat} (h : Own H n v us) (hf : fl ≤ n) (hn : n ≤ H.length) (hl : (us.length + 1) * bytes ≤ 70368744177664) :
    ∃ v' H', appended fl H 1 bytes v [u] = some (v', H') ∧ Own H' n v' (us ++ [u]) ∧ H.length ≤ H'.length ∧ ∀ b, b < n → H'[b]? = H[b]? := by
  rcases h with ⟨rfl, rfl⟩ | ⟨b, hb1, rfl, hb⟩
  · refine ⟨_, _, app_nil (by simp at hl; simp [limit]; omega) (by simp), .inr ⟨H.length, hn, rfl, get_add_eq rfl⟩, by simp, fun b hb => get_add_lt (by omega)⟩
  · have hbl := lt_of_get hb
    refine ⟨_, _, app_own (es := us) (by simp only [List.length_cons, List.length_nil, Nat.zero_add]; unfold limit; omega) hb (Nat.le_refl _) (by omega), .inr ⟨H.length, hn, by simp, ?_⟩, by simp, fun b' hb' => ?_⟩
    · rw [List.take_length]; exact get_add_eq (by simp)
    · rw [get_add_lt (by simp; omega), get_set_ne (by omega)]
theorem Own.keep {n b0 : Nat} {H' : Heap} {v : AV} {us : List AV} (h : Own H n v us) (hb : b0 < n) (hk : Frm H H' b0) : Own H' n v us := by
  rcases h with ⟨rfl, rfl⟩ | ⟨b, hb1, rfl, hb2⟩
  · exact .inl ⟨rfl, rfl⟩
  · exact .inr ⟨b, hb1, rfl, (hk.same b (by omega) (lt_of_get hb2)).trans hb2⟩

theorem every_ok {fl b : Nat} {ws r : List UInt8} {fs : List (List UInt8)} (hl : LinkAt H b ws) (hp : Parse ws fs r) (hw : ws.length ≤ 1000000) (hf : fl ≤ b) (hL : 2000000 ≤ L) :
    ∃ v H' us, vcall (vlook tbl) L (d + 6) fl 56 [.fn 57 [.ptr b 0] []] H = some (v, H') ∧ Own H' H.length v us ∧ PBs us fs ∧ LinkAt H' b r ∧ Frm H H' b := by
  suffices h : ∃ v H', vcall (vlook tbl) L (d + 6) fl 56 [.fn 57 [.ptr b 0] []] H = some (v, H') ∧ ∃ us, Own H' H.length v us ∧ PBs us fs ∧ LinkAt H' b r ∧ Frm H H' b by
    obtain ⟨v, H', h1, us, h2⟩ := h
    exact ⟨v, H', us, h1, h2⟩
  have hb0 : b < H.length := by obtain ⟨u, hb, _⟩ := hl; exact lt_of_get hb
  -- one call of next
  have step : ∀ (H1 : Heap) (ws1 : List UInt8) (fs1 : List (List UInt8)), LinkAt H1 b ws1 → Parse ws1 fs1 r → ws1.length ≤ 1000000 → Frm H H1 b →
      ∃ u is H2, vcall (vlook tbl) L (d + 5) fl 57 [.ptr b 0] H1 = some (.tup [u, .bool is], H2) ∧ Frm H1 H2 b ∧
        ((is = false ∧ fs1 = [] ∧ LinkAt H2 b r) ∨ (is = true ∧ ∃ f fs2 ws2, fs1 = f :: fs2 ∧ PB u f ∧ LinkAt H2 b ws2 ∧ Parse ws2 fs2 r ∧ ws2.length ≤ 1000000)) := by
    intro H1 ws1 fs1 hl1 hp1 hw1 hfr
    cases hp1 with
    | stop h =>
      obtain ⟨H2, e1, e2, e3⟩ := next_stop (L := L) (d := d) (fl := fl) hl1 h hw1 hf (by omega)
      exact ⟨_, _, H2, e1, e3, .inl ⟨rfl, rfl, e2⟩⟩
    | frame hn h1 h2 h3 hr =>
      obtain ⟨u', H2, e1, e2, e3, e4⟩ := next_frame (L := L) (d := d) (fl := fl) hl1 hn h1 h2 h3 hw1 hf (by omega)
      exact ⟨u', true, H2, e1, e4, .inr ⟨rfl, _, _, _, rfl, e2, e3, hr, by simp; omega⟩⟩
  refine call_W (vf := f56) rfl ?_
  obtain ⟨u, is, H2, e1, f1, st⟩ := step H ws fs hl hp hw ⟨Nat.le_refl _, fun _ _ _ => rfl⟩
  simp only [f56, b56]
  simp (disch := (first | assumption | decide | omega | (simp only [AV.fits, AV.cells, AV.isTup, List.length_cons, List.length_nil, Nat.reduceAdd, Nat.reduceBEq, beq_self_eq_true, Bool.not_false, Bool.and_self, Bool.true_and, Nat.zero_add]; done) | (simp only [List.length_append, List.length_set, List.length_cons, List.length_nil, List.length_replicate]; omega) | (simp [calm, VOper.isR]; done) | fail)) only [W_skip, W_exit, W_ret, W_seq, W_cond, Wc_true, Wc_false, W_block, W_reg, W_draw, Wd_nil, Wd_cons, Wdv_p, Wdv_w, Wdv_r, rdS_t, rdS_f, Seen_ok, okV_some, same_refl, List.all_cons, List.all_nil, Bool.and_true, Bool.true_and, Bool.and_self, Wo_nil, Wo_cons, Wv_some, seqQ_normal, seqQ_exit, seqQ_ret, loopQ_normal, loopQ_exit, loopQ_ret, blockQ_normal, blockQ_ret, blockQ_exit, retQ_normal, retQ_ret, vres_0, vres_1, vres_2, vres_3, vres1_tmp, vres1_cell, cellR_ptr, ↓upd_if, upd_no, step_none, step_guard, gV_tt, gV_ff, gV_tf, gV_ft, vop_p, vop_r, vop_w, pV_some, ev_tmp, ev_cst, pop_mov, pop_pick, pickV_t, pickV_f, pop_nilck, nilckV_ptr, nilckV_eptr, nilckV_dptr, nilckV_fn, pop_ibin, ib_add, ib_sub, ib_mul, ib_quo, ib_rem, ib_eql, ib_neq, ib_lss, ib_leq, ib_gtr, ib_geq, is_eql, is_neq, pop_beq, beqV_f, beqV_t, pop_nileq, nileqV_f, nileqV_t, nq_pp, nq_ep, nq_dp, nq_np, nq_ns, nq_sl, nq_rsl, nq_fn, nq_nf, pop_un, un_not, un_neg, pop_conv, convV_int, convV_str, pop_mkfn, pop_ext, extV_0, extV_1, extV_2, pop_fieldA, fieldAV_ptr, fieldAV_eptr, fieldAV_dptr, pop_fieldV, fieldVV_agg, ld_none, ld_some, pop_len, lenV_nil, lenV_sl, lenV_rsl, pop_lenStr, lenStrV_str, pop_cap, capV_nil, capV_sl, capV_rsl, pop_mm, mmV_max, mmV_min, get_set_self, get_set_ne, get_add_lt, get_add_eq, rop_loadV, loadV_ptr, loadV_dptr, boxLd_box, wop_store, wop_append, cast0, Int.zero_add, Int.add_zero, wop_appendN, W_loop, wrap_i64, storeV_at, storeB_box, cells_int, cells_bool, cells_str, cells_nilsl, cells_sl, cells_rsl, cells_nilp, cells_ptr, cells_agg, splice_0, splice_s, List.length_cons, List.length_nil, wop_alloc, wop_box, boxV_ok, wop_mksl, wop_call, callV_fn, rop_pcall, pcallV_fn, pop_build, parts2_nil, parts2_cons, part2V_ok, pop_lit, parts1_nil, parts1_cons, part1V_ok, pop_idxArr, pop_idxA, pop_slice, rop_bytesStr, if_true, if_false, ↓reduceIte, Nat.reduceEqDiff, Int.reduceEq, Int.reduceLT, Int.reduceLE, Int.reduceNe, Int.reduceAdd, Int.reduceSub, Int.reduceNeg, reduceCtorEq, Bool.not_true, Bool.not_false, decide_true, decide_false, dec_t, dec_f, Bool.false_eq_true, List.drop_succ_cons, List.drop_zero, List.take_succ_cons, List.take_zero, List.map_cons, List.map_nil, List.nil_append, List.cons_append, List.append_nil, Nat.zero_add, Nat.add_zero, Nat.reduceAdd, Nat.reduceMul, Nat.reduceSub, Option.map_some, Option.map_none, Option.some.injEq, exists_eq_left', Int.toNat_natCast, fz_int, fz_bool, fz_str, fz_nilsl, fz_nilp, fz_ptr, true_or, or_true, or_false, false_or, true_and, and_true, false_and, and_false, Int.reduceToNat, Nat.zero_mul, Nat.one_mul, Nat.mul_one, envOf, List.getElem?_cons_zero, List.getElem?_cons_succ, Option.getD_some, decide_eq_true_eq, e1]
  have hfl : fs.length < L ∧ fs.length ≤ 1000000 := by
    have : ∀ (ws : List UInt8) (fs : List (List UInt8)) (r : List UInt8), Parse ws fs r → fs.length ≤ ws.length := by
      intro ws fs r h
      induction h with
      | stop h => simp
      | frame hn h1 h2 h3 hr ih => simp at ih ⊢; omega
    have := this ws fs r hp
    omega
  refine Wl_rule (fun k e H3 => ∃ (u : AV) (is : Bool) (done todo : List (List UInt8)) (v : AV) (us : List AV), done ++ todo = fs ∧ k = todo.length ∧ e 0 = .fn 57 [.ptr b 0] [] ∧ e 3 = v ∧ e 4 = u ∧ e 5 = .bool is ∧ Own H3 H.length v us ∧ PBs us done ∧ Frm H H3 b ∧
      ((is = false ∧ todo = [] ∧ LinkAt H3 b r) ∨ (is = true ∧ ∃ f fs2 ws2, todo = f :: fs2 ∧ PB u f ∧ LinkAt H3 b ws2 ∧ Parse ws2 fs2 r ∧ ws2.length ≤ 1000000))) L ?_ fs.length _ _ hfl.1 ⟨u, is, [], fs, .nilsl, [], rfl, rfl, rfl, rfl, rfl, rfl, .inl ⟨rfl, rfl⟩, .nil, f1, st⟩
  rintro k e H3 hk ⟨u, is, done, todo, v, us, hdt, hkt, q0, q3, q4, q5, hown, hpbs, hfr, hst⟩
  rcases hst with ⟨rfl, rfl, hlr⟩ | ⟨rfl, f, fs2, ws2, rfl, hpu, hlr, hps, hw2⟩
  · simp at hdt
    subst hdt
    simp (disch := (first | assumption | decide | omega | (simp only [AV.fits, AV.cells, AV.isTup, List.length_cons, List.length_nil, Nat.reduceAdd, Nat.reduceBEq, beq_self_eq_true, Bool.not_false, Bool.and_self, Bool.true_and, Nat.zero_add]; done) | (simp only [List.length_append, List.length_set, List.length_cons, List.length_nil, List.length_replicate]; omega) | (simp [calm, VOper.isR]; done) | fail)) only [W_skip, W_exit, W_ret, W_seq, W_cond, Wc_true, Wc_false, W_block, W_reg, W_draw, Wd_nil, Wd_cons, Wdv_p, Wdv_w, Wdv_r, rdS_t, rdS_f, Seen_ok, okV_some, same_refl, List.all_cons, List.all_nil, Bool.and_true, Bool.true_and, Bool.and_self, Wo_nil, Wo_cons, Wv_some, seqQ_normal, seqQ_exit, seqQ_ret, loopQ_normal, loopQ_exit, loopQ_ret, blockQ_normal, blockQ_ret, blockQ_exit, retQ_normal, retQ_ret, vres_0, vres_1, vres_2, vres_3, vres1_tmp, vres1_cell, cellR_ptr, ↓upd_if, upd_no, step_none, step_guard, gV_tt, gV_ff, gV_tf, gV_ft, vop_p, vop_r, vop_w, pV_some, ev_tmp, ev_cst, pop_mov, pop_pick, pickV_t, pickV_f, pop_nilck, nilckV_ptr, nilckV_eptr, nilckV_dptr, nilckV_fn, pop_ibin, ib_add, ib_sub, ib_mul, ib_quo, ib_rem, ib_eql, ib_neq, ib_lss, ib_leq, ib_gtr, ib_geq, is_eql, is_neq, pop_beq, beqV_f, beqV_t, pop_nileq, nileqV_f, nileqV_t, nq_pp, nq_ep, nq_dp, nq_np, nq_ns, nq_sl, nq_rsl, nq_fn, nq_nf, pop_un, un_not, un_neg, pop_conv, convV_int, convV_str, pop_mkfn, pop_ext, extV_0, extV_1, extV_2, pop_fieldA, fieldAV_ptr, fieldAV_eptr, fieldAV_dptr, pop_fieldV, fieldVV_agg, ld_none, ld_some, pop_len, lenV_nil, lenV_sl, lenV_rsl, pop_lenStr, lenStrV_str, pop_cap, capV_nil, capV_sl, capV_rsl, pop_mm, mmV_max, mmV_min, get_set_self, get_set_ne, get_add_lt, get_add_eq, rop_loadV, loadV_ptr, loadV_dptr, boxLd_box, wop_store, wop_append, cast0, Int.zero_add, Int.add_zero, wop_appendN, W_loop, wrap_i64, storeV_at, storeB_box, cells_int, cells_bool, cells_str, cells_nilsl, cells_sl, cells_rsl, cells_nilp, cells_ptr, cells_agg, splice_0, splice_s, List.length_cons, List.length_nil, wop_alloc, wop_box, boxV_ok, wop_mksl, wop_call, callV_fn, rop_pcall, pcallV_fn, pop_build, parts2_nil, parts2_cons, part2V_ok, pop_lit, parts1_nil, parts1_cons, part1V_ok, pop_idxArr, pop_idxA, pop_slice, rop_bytesStr, if_true, if_false, ↓reduceIte, Nat.reduceEqDiff, Int.reduceEq, Int.reduceLT, Int.reduceLE, Int.reduceNe, Int.reduceAdd, Int.reduceSub, Int.reduceNeg, reduceCtorEq, Bool.not_true, Bool.not_false, decide_true, decide_false, dec_t, dec_f, Bool.false_eq_true, List.drop_succ_cons, List.drop_zero, List.take_succ_cons, List.take_zero, List.map_cons, List.map_nil, List.nil_append, List.cons_append, List.append_nil, Nat.zero_add, Nat.add_zero, Nat.reduceAdd, Nat.reduceMul, Nat.reduceSub, Option.map_some, Option.map_none, Option.some.injEq, exists_eq_left', Int.toNat_natCast, fz_int, fz_bool, fz_str, fz_nilsl, fz_nilp, fz_ptr, true_or, or_true, or_false, false_or, true_and, and_true, false_and, and_false, Int.reduceToNat, Nat.zero_mul, Nat.one_mul, Nat.mul_one, envOf, List.getElem?_cons_zero, List.getElem?_cons_succ, Option.getD_some, decide_eq_true_eq, q0, q3, q4, q5]
    exact ⟨us, hown, hpbs, hlr, hfr⟩
  · have hdl : done.length ≤ 1000000 := by
      have := congrArg List.length hdt
      simp at this; omega
    have hul := hpbs.length
    have q1 := (hpu.bs H3).fits
    have hlen3 : H.length ≤ H3.length := hfr.len
    obtain ⟨v', H4, a1, a2, a3, a4⟩ := hown.snoc (fl := fl) (u := u) (bytes := 24) (by omega) hlen3 (by omega)
    have ap : appendV fl H3 1 24 v (.sl 1 true [u]) = some (v', H4) := by rw [appendV_ok (ys := [u]) rfl rfl]; exact a1
    have hl4 : LinkAt H4 b ws2 := by obtain ⟨w, w1, w2⟩ := hlr; exact ⟨w, (a4 b hb0).trans w1, w2⟩
    have fr4 : Frm H H4 b := ⟨by omega, fun b' hne h => (a4 b' h).trans (hfr.same b' hne h)⟩
    obtain ⟨u2, is2, H5, e5, f5, st5⟩ := step H4 ws2 fs2 hl4 hps hw2 fr4
    simp (disch := (first | assumption | decide | omega | (simp only [AV.fits, AV.cells, AV.isTup, List.length_cons, List.length_nil, Nat.reduceAdd, Nat.reduceBEq, beq_self_eq_true, Bool.not_false, Bool.and_self, Bool.true_and, Nat.zero_add]; done) | (simp only [List.length_append, List.length_set, List.length_cons, List.length_nil, List.length_replicate]; omega) | (simp [calm, VOper.isR]; done) | fail)) only [W_skip, W_exit, W_ret, W_seq, W_cond, Wc_true, Wc_false, W_block, W_reg, W_draw, Wd_nil, Wd_cons, Wdv_p, Wdv_w, Wdv_r, rdS_t, rdS_f, Seen_ok, okV_some, same_refl, List.all_cons, List.all_nil, Bool.and_true, Bool.true_and, Bool.and_self, Wo_nil, Wo_cons, Wv_some, seqQ_normal, seqQ_exit, seqQ_ret, loopQ_normal, loopQ_exit, loopQ_ret, blockQ_normal, blockQ_ret, blockQ_exit, retQ_normal, retQ_ret, vres_0, vres_1, vres_2, vres_3, vres1_tmp, vres1_cell, cellR_ptr, ↓upd_if, upd_no, step_none, step_guard, gV_tt, gV_ff, gV_tf, gV_ft, vop_p, vop_r, vop_w, pV_some, ev_tmp, ev_cst, pop_mov, pop_pick, pickV_t, pickV_f, pop_nilck, nilckV_ptr, nilckV_eptr, nilckV_dptr, nilckV_fn, pop_ibin, ib_add, ib_sub, ib_mul, ib_quo, ib_rem, ib_eql, ib_neq, ib_lss, ib_leq, ib_gtr, ib_geq, is_eql, is_neq, pop_beq, beqV_f, beqV_t, pop_nileq, nileqV_f, nileqV_t, nq_pp, nq_ep, nq_dp, nq_np, nq_ns, nq_sl, nq_rsl, nq_fn, nq_nf, pop_un, un_not, un_neg, pop_conv, convV_int, convV_str, pop_mkfn, pop_ext, extV_0, extV_1, extV_2, pop_fieldA, fieldAV_ptr, fieldAV_eptr, fieldAV_dptr, pop_fieldV, fieldVV_agg, ld_none, ld_some, pop_len, lenV_nil, lenV_sl, lenV_rsl, pop_lenStr, lenStrV_str, pop_cap, capV_nil, capV_sl, capV_rsl, pop_mm, mmV_max, mmV_min, get_set_self, get_set_ne, get_add_lt, get_add_eq, rop_loadV, loadV_ptr, loadV_dptr, boxLd_box, wop_store, wop_append, cast0, Int.zero_add, Int.add_zero, wop_appendN, W_loop, wrap_i64, storeV_at, storeB_box, cells_int, cells_bool, cells_str, cells_nilsl, cells_sl, cells_rsl, cells_nilp, cells_ptr, cells_agg, splice_0, splice_s, List.length_cons, List.length_nil, wop_alloc, wop_box, boxV_ok, wop_mksl, wop_call, callV_fn, rop_pcall, pcallV_fn, pop_build, parts2_nil, parts2_cons, part2V_ok, pop_lit, parts1_nil, parts1_cons, part1V_ok, pop_idxArr, pop_idxA, pop_slice, rop_bytesStr, if_true, if_false, ↓reduceIte, Nat.reduceEqDiff, Int.reduceEq, Int.reduceLT, Int.reduceLE, Int.reduceNe, Int.reduceAdd, Int.reduceSub, Int.reduceNeg, reduceCtorEq, Bool.not_true, Bool.not_false, decide_true, decide_false, dec_t, dec_f, Bool.false_eq_true, List.drop_succ_cons, List.drop_zero, List.take_succ_cons, List.take_zero, List.map_cons, List.map_nil, List.nil_append, List.cons_append, List.append_nil, Nat.zero_add, Nat.add_zero, Nat.reduceAdd, Nat.reduceMul, Nat.reduceSub, Option.map_some, Option.map_none, Option.some.injEq, exists_eq_left', Int.toNat_natCast, fz_int, fz_bool, fz_str, fz_nilsl, fz_nilp, fz_ptr, true_or, or_true, or_false, false_or, true_and, and_true, false_and, and_false, Int.reduceToNat, Nat.zero_mul, Nat.one_mul, Nat.mul_one, envOf, List.getElem?_cons_zero, List.getElem?_cons_succ, Option.getD_some, decide_eq_true_eq, q0, q3, q4, q5, List.replicate_succ, List.replicate_zero, List.set_cons_zero, ap, e5]
    exact ⟨fs2.length, by simp at hkt; omega, u2, is2, done ++ [f], fs2, v', us ++ [u], by rw [← hdt]; simp, rfl, rfl, rfl, rfl, a2.keep hb0 f5, hpbs.snoc hpu, fr4.trans f5, st5⟩
end Go.Vx.Ytbjcimdflehfjaa
