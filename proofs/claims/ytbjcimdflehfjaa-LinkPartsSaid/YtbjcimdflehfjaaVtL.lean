/- A part of the proof: lemmas about runs of the program's code. No condition beyond those that the lemmas state. -/
import Derived.Test.YtbjcimdflehfjaaVtK
set_option linter.unusedVariables false
set_option linter.unusedSimpArgs false
set_option maxRecDepth 20000
namespace Go.Vx.Ytbjcimdflehfjaa
variable {L d : Nat} {H : Heap}

/-- The lowest n bytes of a number, the greatest first. -/
def beBytes : Nat → Nat → List UInt8
  | 0, _ => []
  | n + 1, v => beBytes n (v / 256) ++ [UInt8.ofNat v]
theorem beBytes_len : ∀ (n v : Nat), (beBytes n v).length = n := by
  intro n
  induction n with
  | zero => intro v; rfl
  | succ n ih => intro v; simp [beBytes, ih]
theorem beBytes_more : ∀ (n v : Nat), beBytes (n + 1) v = UInt8.ofNat (v / 256 ^ n) :: beBytes n v := by
  intro n
  induction n with
  | zero => intro v; simp [beBytes]
  | succ n ih =>
    intro v
    have h : beBytes (n + 2) v = beBytes (n + 1) (v / 256) ++ [UInt8.ofNat v] := rfl
    rw [h, ih, Nat.div_div_eq_div_mul]
    have h2 : 256 * 256 ^ n = 256 ^ (n + 1) := by rw [Nat.pow_succ, Nat.mul_comm]
    rw [h2]
    rfl
theorem beNum_beBytes : ∀ (n v : Nat), v < 256 ^ n → beNum (beBytes n v) = v := by
  intro n
  induction n with
  | zero => intro v h; have : v = 0 := by simpa using h
            subst this; rfl
  | succ n ih =>
    intro v h
    have h1 : v / 256 < 256 ^ n := by rw [Nat.pow_succ] at h; omega
    simp only [beBytes, beNum_snoc, ih _ h1, UInt8.toNat_ofNat']
    omega

theorem put_w {fl : Nat} {s : AV} {bs : List UInt8} {v n : Nat} (hs : BS H s bs) (hl : bs.length ≤ 1000000) (hv : v < 18446744073709551616) (hn : n ≤ 8) (hf : fl ≤ H.length) (hL : 20 ≤ L) :
    ∃ v' H', vcall (vlook tbl) L (d + 3) fl 55 [s, .int .u64 v, .int .i64 n] H = some (v', H') ∧ Fresh H H' v' (bs ++ beBytes n v) := by
  have hm : mkslV H 1 1 (.int .u8 0) (.int .i64 n) (.int .i64 n) = some (.rsl H.length 1 0 n (some n), H ++ [.row 1 (List.replicate n (.int .u8 0))]) := mkslV_ok (Nat.le_refl _) (by unfold limit; omega) (by unfold limit; omega)
  have hmax : max (n : Int) 0 = (n : Int) := by omega
  have hmin : min (n : Int) 8 = (n : Int) := by omega
  have hr : BS (H ++ [.row 1 ((beBytes n v).map byteV)]) (.rsl H.length 1 0 n (some n)) (beBytes n v) := .rsl _ 0 _ _ _ _ (get_add_eq rfl) (by simp [beBytes_len]) (by simp) (by rw [List.drop_zero, List.take_of_length_le (by simp [beBytes_len])])
  obtain ⟨v', H', c1, c2⟩ := concat_w (L := L) (d := d) (fl := fl) (H := H ++ [.row 1 ((beBytes n v).map byteV)]) hs.add hr (by omega) (by rw [beBytes_len]; omega) (by omega) (by simp; omega)
  have hfresh : Fresh H H' v' (bs ++ beBytes n v) := by
    obtain ⟨k1, k2, k3, k4⟩ := c2
    simp at k3
    refine ⟨k1, ?_, by omega, fun b hb => by rw [k4 b (by simp; omega), get_add_lt hb]⟩
    rcases k2 with k2 | ⟨b, m, kb, k2⟩
    · exact .inl k2
    · simp at kb
      exact .inr ⟨b, m, by omega, k2⟩
  suffices h : ∃ v1 H1, vcall (vlook tbl) L (d + 3) fl 55 [s, .int .u64 v, .int .i64 n] H = some (v1, H1) ∧ v1 = v' ∧ H1 = H' by
    obtain ⟨_, _, h1, rfl, rfl⟩ := h
    exact ⟨_, _, h1, hfresh⟩
  refine call_W (vf := f55) rfl ?_
  simp only [f55, b55]
  simp (disch := (first | assumption | decide | omega | (simp only [AV.fits, AV.cells, AV.isTup, List.length_cons, List.length_nil, Nat.reduceAdd, Nat.reduceBEq, beq_self_eq_true, Bool.not_false, Bool.and_self, Bool.true_and, Nat.zero_add]; done) | (simp only [List.length_append, List.length_set, List.length_cons, List.length_nil, List.length_replicate]; omega) | (simp [calm, VOper.isR]; done) | fail)) only [W_skip, W_exit, W_ret, W_seq, W_cond, Wc_true, Wc_false, W_block, W_reg, W_draw, Wd_nil, Wd_cons, Wdv_p, Wdv_w, Wdv_r, rdS_t, rdS_f, Seen_ok, okV_some, same_refl, List.all_cons, List.all_nil, Bool.and_true, Bool.true_and, Bool.and_self, Wo_nil, Wo_cons, Wv_some, seqQ_normal, seqQ_exit, seqQ_ret, loopQ_normal, loopQ_exit, loopQ_ret, blockQ_normal, blockQ_ret, blockQ_exit, retQ_normal, retQ_ret, vres_0, vres_1, vres_2, vres_3, vres1_tmp, vres1_cell, cellR_ptr, ↓upd_if, upd_no, step_none, step_guard, gV_tt, gV_ff, gV_tf, gV_ft, vop_p, vop_r, vop_w, pV_some, ev_tmp, ev_cst, pop_mov, pop_pick, pickV_t, pickV_f, pop_nilck, nilckV_ptr, nilckV_eptr, nilckV_dptr, nilckV_fn, pop_ibin, ib_add, ib_sub, ib_mul, ib_quo, ib_rem, ib_eql, ib_neq, ib_lss, ib_leq, ib_gtr, ib_geq, is_eql, is_neq, pop_beq, beqV_f, beqV_t, pop_nileq, nileqV_f, nileqV_t, nq_pp, nq_ep, nq_dp, nq_np, nq_ns, nq_sl, nq_rsl, nq_fn, nq_nf, pop_un, un_not, un_neg, pop_conv, convV_int, convV_str, pop_mkfn, pop_ext, extV_0, extV_1, extV_2, pop_fieldA, fieldAV_ptr, fieldAV_eptr, fieldAV_dptr, pop_fieldV, fieldVV_agg, ld_none, ld_some, pop_len, lenV_nil, lenV_sl, lenV_rsl, pop_lenStr, lenStrV_str, pop_cap, capV_nil, capV_sl, capV_rsl, pop_mm, mmV_max, mmV_min, get_set_self, get_set_ne, get_add_lt, get_add_eq, rop_loadV, loadV_ptr, loadV_dptr, boxLd_box, wop_store, wop_append, cast0, Int.zero_add, Int.add_zero, wop_appendN, W_loop, wrap_i64, storeV_at, storeB_box, cells_int, cells_bool, cells_str, cells_nilsl, cells_sl, cells_rsl, cells_nilp, cells_ptr, cells_agg, splice_0, splice_s, List.length_cons, List.length_nil, wop_alloc, wop_box, boxV_ok, wop_mksl, wop_call, callV_fn, rop_pcall, pcallV_fn, pop_build, parts2_nil, parts2_cons, part2V_ok, pop_lit, parts1_nil, parts1_cons, part1V_ok, pop_idxArr, pop_idxA, pop_slice, rop_bytesStr, if_true, if_false, ↓reduceIte, Nat.reduceEqDiff, Int.reduceEq, Int.reduceLT, Int.reduceLE, Int.reduceNe, Int.reduceAdd, Int.reduceSub, Int.reduceNeg, reduceCtorEq, Bool.not_true, Bool.not_false, decide_true, decide_false, dec_t, dec_f, Bool.false_eq_true, List.drop_succ_cons, List.drop_zero, List.take_succ_cons, List.take_zero, List.map_cons, List.map_nil, List.nil_append, List.cons_append, List.append_nil, Nat.zero_add, Nat.add_zero, Nat.reduceAdd, Nat.reduceMul, Nat.reduceSub, Option.map_some, Option.map_none, Option.some.injEq, exists_eq_left', Int.toNat_natCast, fz_int, fz_bool, fz_str, fz_nilsl, fz_nilp, fz_ptr, true_or, or_true, or_false, false_or, true_and, and_true, false_and, and_false, Int.reduceToNat, Nat.zero_mul, Nat.one_mul, Nat.mul_one, envOf, List.getElem?_cons_zero, List.getElem?_cons_succ, Option.getD_some, decide_eq_true_eq, hmax, hmin, hm]
  refine Wl_rule (fun k e H2 => ∃ i : Nat, i + k = n ∧ H2 = H ++ [.row 1 (List.replicate (n - i) (AV.int .u8 0) ++ (beBytes i v).map byteV)] ∧ e 0 = s ∧ e 1 = .int .u64 v ∧ e 2 = .int .i64 n ∧ e 7 = .rsl H.length 1 0 n (some n) ∧ e 15 = .int .i64 n ∧ e 16 = .int .i64 i) L ?_ n _ _ (by omega) ⟨0, by omega, by simp [beBytes], rfl, rfl, rfl, rfl, rfl, rfl⟩
  rintro k e H2 hk ⟨i, hik, rfl, q0, q1, q2, q7, q15, q16⟩
  by_cases hi : i < n
  · have hi' : (i : Int) < (n : Int) := by omega
    have e1 : (n : Int) - 1 - (i : Int) = ((n - 1 - i : Nat) : Int) := by omega
    have ix : idxAV 1 (.rsl H.length 1 0 n (some n)) (.int .i64 ((n - 1 - i : Nat) : Int)) = some (.eptr H.length 1 (n - 1 - i)) := by rw [idxAV_rsl (by omega)]; simp
    have e2 : (8 : Int) * (i : Int) = ((8 * i : Nat) : Int) := by omega
    have sh : ibin .shr (.int .u64 ((v : Nat) : Int)) (.int .i64 ((8 * i : Nat) : Int)) = some (.int .u64 ((v / 256 ^ i : Nat) : Int)) := by
      rw [ib_shr (by omega)]
      have m1 : min ((8 * i : Nat) : Int).toNat IntKind.u64.bits = 8 * i := by simp [IntKind.bits]; omega
      rw [m1]
      have : (2 : Int) ^ (8 * i) = ((256 ^ i : Nat) : Int) := by rw [Int.pow_mul]; simp
      rw [this, Int.fdiv_eq_ediv_of_nonneg _ (Int.natCast_nonneg _)]
      rfl
    have cv : IntKind.u8.wrap ((v / 256 ^ i : Nat) : Int) = (((UInt8.ofNat (v / 256 ^ i)).toNat : Nat) : Int) := by
      rw [UInt8.toNat_ofNat']
      simp only [IntKind.wrap, IntKind.bits, IntKind.signed, Bool.false_and, Bool.false_eq_true, if_false]
      omega
    have hsplit : List.replicate (n - i) (AV.int .u8 0) ++ (beBytes i v).map byteV = List.replicate (n - 1 - i) (AV.int .u8 0) ++ .int .u8 0 :: (beBytes i v).map byteV := by
      have : n - i = (n - 1 - i) + 1 := by omega
      rw [this, List.replicate_succ']
      simp
    have st := store_mid (H := H) (fl := fl) (xs := List.replicate (n - 1 - i) (AV.int .u8 0)) (ys := (beBytes i v).map byteV) (k := .u8) (k' := .u8) (n := 0) (n' := (((UInt8.ofNat (v / 256 ^ i)).toNat : Nat) : Int)) (m := n - 1 - i) (by simp) hf
    rw [← hsplit] at st
    have e6 : (i : Int) + 1 = ((i + 1 : Nat) : Int) := by omega
    simp (disch := (first | assumption | decide | omega | (simp only [AV.fits, AV.cells, AV.isTup, List.length_cons, List.length_nil, Nat.reduceAdd, Nat.reduceBEq, beq_self_eq_true, Bool.not_false, Bool.and_self, Bool.true_and, Nat.zero_add]; done) | (simp only [List.length_append, List.length_set, List.length_cons, List.length_nil, List.length_replicate]; omega) | (simp [calm, VOper.isR]; done) | fail)) only [W_skip, W_exit, W_ret, W_seq, W_cond, Wc_true, Wc_false, W_block, W_reg, W_draw, Wd_nil, Wd_cons, Wdv_p, Wdv_w, Wdv_r, rdS_t, rdS_f, Seen_ok, okV_some, same_refl, List.all_cons, List.all_nil, Bool.and_true, Bool.true_and, Bool.and_self, Wo_nil, Wo_cons, Wv_some, seqQ_normal, seqQ_exit, seqQ_ret, loopQ_normal, loopQ_exit, loopQ_ret, blockQ_normal, blockQ_ret, blockQ_exit, retQ_normal, retQ_ret, vres_0, vres_1, vres_2, vres_3, vres1_tmp, vres1_cell, cellR_ptr, ↓upd_if, upd_no, step_none, step_guard, gV_tt, gV_ff, gV_tf, gV_ft, vop_p, vop_r, vop_w, pV_some, ev_tmp, ev_cst, pop_mov, pop_pick, pickV_t, pickV_f, pop_nilck, nilckV_ptr, nilckV_eptr, nilckV_dptr, nilckV_fn, pop_ibin, ib_add, ib_sub, ib_mul, ib_quo, ib_rem, ib_eql, ib_neq, ib_lss, ib_leq, ib_gtr, ib_geq, is_eql, is_neq, pop_beq, beqV_f, beqV_t, pop_nileq, nileqV_f, nileqV_t, nq_pp, nq_ep, nq_dp, nq_np, nq_ns, nq_sl, nq_rsl, nq_fn, nq_nf, pop_un, un_not, un_neg, pop_conv, convV_int, convV_str, pop_mkfn, pop_ext, extV_0, extV_1, extV_2, pop_fieldA, fieldAV_ptr, fieldAV_eptr, fieldAV_dptr, pop_fieldV, fieldVV_agg, ld_none, ld_some, pop_len, lenV_nil, lenV_sl, lenV_rsl, pop_lenStr, lenStrV_str, pop_cap, capV_nil, capV_sl, capV_rsl, pop_mm, mmV_max, mmV_min, get_set_self, get_set_ne, get_add_lt, get_add_eq, rop_loadV, loadV_ptr, loadV_dptr, boxLd_box, wop_store, wop_append, cast0, Int.zero_add, Int.add_zero, wop_appendN, W_loop, wrap_i64, storeV_at, storeB_box, cells_int, cells_bool, cells_str, cells_nilsl, cells_sl, cells_rsl, cells_nilp, cells_ptr, cells_agg, splice_0, splice_s, List.length_cons, List.length_nil, wop_alloc, wop_box, boxV_ok, wop_mksl, wop_call, callV_fn, rop_pcall, pcallV_fn, pop_build, parts2_nil, parts2_cons, part2V_ok, pop_lit, parts1_nil, parts1_cons, part1V_ok, pop_idxArr, pop_idxA, pop_slice, rop_bytesStr, if_true, if_false, ↓reduceIte, Nat.reduceEqDiff, Int.reduceEq, Int.reduceLT, Int.reduceLE, Int.reduceNe, Int.reduceAdd, Int.reduceSub, Int.reduceNeg, reduceCtorEq, Bool.not_true, Bool.not_false, decide_true, decide_false, dec_t, dec_f, Bool.false_eq_true, List.drop_succ_cons, List.drop_zero, List.take_succ_cons, List.take_zero, List.map_cons, List.map_nil, List.nil_append, List.cons_append, List.append_nil, Nat.zero_add, Nat.add_zero, Nat.reduceAdd, Nat.reduceMul, Nat.reduceSub, Option.map_some, Option.map_none, Option.some.injEq, exists_eq_left', Int.toNat_natCast, fz_int, fz_bool, fz_str, fz_nilsl, fz_nilp, fz_ptr, true_or, or_true, or_false, false_or, true_and, and_true, false_and, and_false, Int.reduceToNat, Nat.zero_mul, Nat.one_mul, Nat.mul_one, envOf, List.getElem?_cons_zero, List.getElem?_cons_succ, Option.getD_some, decide_eq_true_eq, q0, q1, q2, q7, q15, q16, hi', e1, ix, e2, sh, cv, st, e6]
    refine ⟨k - 1, by omega, i + 1, by omega, ?_, rfl⟩
    rw [beBytes_more]
    have : n - (i + 1) = n - 1 - i := by omega
    rw [this]
    rfl
  · have hi' : ¬ (i : Int) < (n : Int) := by omega
    have hie : i = n := by omega
    subst hie
    have q0s := hs.fits
    have q1s := hr.fits
    have hz : List.replicate (i - i) (AV.int .u8 0) ++ (beBytes i v).map byteV = (beBytes i v).map byteV := by simp
    simp (disch := (first | assumption | decide | omega | (simp only [AV.fits, AV.cells, AV.isTup, List.length_cons, List.length_nil, Nat.reduceAdd, Nat.reduceBEq, beq_self_eq_true, Bool.not_false, Bool.and_self, Bool.true_and, Nat.zero_add]; done) | (simp only [List.length_append, List.length_set, List.length_cons, List.length_nil, List.length_replicate]; omega) | (simp [calm, VOper.isR]; done) | fail)) only [W_skip, W_exit, W_ret, W_seq, W_cond, Wc_true, Wc_false, W_block, W_reg, W_draw, Wd_nil, Wd_cons, Wdv_p, Wdv_w, Wdv_r, rdS_t, rdS_f, Seen_ok, okV_some, same_refl, List.all_cons, List.all_nil, Bool.and_true, Bool.true_and, Bool.and_self, Wo_nil, Wo_cons, Wv_some, seqQ_normal, seqQ_exit, seqQ_ret, loopQ_normal, loopQ_exit, loopQ_ret, blockQ_normal, blockQ_ret, blockQ_exit, retQ_normal, retQ_ret, vres_0, vres_1, vres_2, vres_3, vres1_tmp, vres1_cell, cellR_ptr, ↓upd_if, upd_no, step_none, step_guard, gV_tt, gV_ff, gV_tf, gV_ft, vop_p, vop_r, vop_w, pV_some, ev_tmp, ev_cst, pop_mov, pop_pick, pickV_t, pickV_f, pop_nilck, nilckV_ptr, nilckV_eptr, nilckV_dptr, nilckV_fn, pop_ibin, ib_add, ib_sub, ib_mul, ib_quo, ib_rem, ib_eql, ib_neq, ib_lss, ib_leq, ib_gtr, ib_geq, is_eql, is_neq, pop_beq, beqV_f, beqV_t, pop_nileq, nileqV_f, nileqV_t, nq_pp, nq_ep, nq_dp, nq_np, nq_ns, nq_sl, nq_rsl, nq_fn, nq_nf, pop_un, un_not, un_neg, pop_conv, convV_int, convV_str, pop_mkfn, pop_ext, extV_0, extV_1, extV_2, pop_fieldA, fieldAV_ptr, fieldAV_eptr, fieldAV_dptr, pop_fieldV, fieldVV_agg, ld_none, ld_some, pop_len, lenV_nil, lenV_sl, lenV_rsl, pop_lenStr, lenStrV_str, pop_cap, capV_nil, capV_sl, capV_rsl, pop_mm, mmV_max, mmV_min, get_set_self, get_set_ne, get_add_lt, get_add_eq, rop_loadV, loadV_ptr, loadV_dptr, boxLd_box, wop_store, wop_append, cast0, Int.zero_add, Int.add_zero, wop_appendN, W_loop, wrap_i64, storeV_at, storeB_box, cells_int, cells_bool, cells_str, cells_nilsl, cells_sl, cells_rsl, cells_nilp, cells_ptr, cells_agg, splice_0, splice_s, List.length_cons, List.length_nil, wop_alloc, wop_box, boxV_ok, wop_mksl, wop_call, callV_fn, rop_pcall, pcallV_fn, pop_build, parts2_nil, parts2_cons, part2V_ok, pop_lit, parts1_nil, parts1_cons, part1V_ok, pop_idxArr, pop_idxA, pop_slice, rop_bytesStr, if_true, if_false, ↓reduceIte, Nat.reduceEqDiff, Int.reduceEq, Int.reduceLT, Int.reduceLE, Int.reduceNe, Int.reduceAdd, Int.reduceSub, Int.reduceNeg, reduceCtorEq, Bool.not_true, Bool.not_false, decide_true, decide_false, dec_t, dec_f, Bool.false_eq_true, List.drop_succ_cons, List.drop_zero, List.take_succ_cons, List.take_zero, List.map_cons, List.map_nil, List.nil_append, List.cons_append, List.append_nil, Nat.zero_add, Nat.add_zero, Nat.reduceAdd, Nat.reduceMul, Nat.reduceSub, Option.map_some, Option.map_none, Option.some.injEq, exists_eq_left', Int.toNat_natCast, fz_int, fz_bool, fz_str, fz_nilsl, fz_nilp, fz_ptr, true_or, or_true, or_false, false_or, true_and, and_true, false_and, and_false, Int.reduceToNat, Nat.zero_mul, Nat.one_mul, Nat.mul_one, envOf, List.getElem?_cons_zero, List.getElem?_cons_succ, Option.getD_some, decide_eq_true_eq, q0, q1, q2, q7, q15, q16, hz, c1, List.replicate_succ, List.replicate_zero, List.set_cons_zero, List.set_cons_succ]
theorem put_ok {s : AV} {bs : List UInt8} {v n : Nat} (hs : BS H s bs) (hl : bs.length ≤ 1000000) (hv : v < 18446744073709551616) (hn : n ≤ 8) (hL : 20 ≤ L) :
    ∃ v', asPure (vcall (vlook tbl) L (d + 3)) 55 [s, .int .u64 v, .int .i64 n] H = some v' ∧ PB v' (bs ++ beBytes n v) := by
  obtain ⟨v, H', e1, e2⟩ := put_w (L := L) (d := d) (fl := H.length) hs hl hv hn (Nat.le_refl _) hL
  obtain ⟨v', f1, f2, f3⟩ := e2.pure
  exact ⟨v', by simp only [asPure, e1, Option.bind_some, f1], .of f2 f3⟩
end Go.Vx.Ytbjcimdflehfjaa
