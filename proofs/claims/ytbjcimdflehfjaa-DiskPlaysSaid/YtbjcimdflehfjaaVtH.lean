/- A part of the proof: lemmas about runs of the program's code. No condition beyond those that the lemmas state. -/
import Derived.Test.YtbjcimdflehfjaaVtG
set_option linter.unusedVariables false
set_option linter.unusedSimpArgs false
set_option maxRecDepth 20000
namespace Go.Vx.Ytbjcimdflehfjaa
variable {L d : Nat} {H : Heap}

def DS.none : DS := ⟨[], [], 0, false, false⟩
theorem isNew : IsDisk (H ++ [.box [.nilsl, .nilsl, .int .i64 0, .bool false, .bool false]]) H.length DS.none :=
  ⟨⟨.nilsl, .nilsl, get_add_eq rfl, .nil, .nil⟩, by simp [DS.none], by simp [DS.none], by simp [DS.none], by simp [DS.none]⟩

theorem setDisk {b : Nat} {s : DS} {s0 s1 : AV} (hH : DiskAt H b s0 s1 s.left s.told s.torn) (h0 : BS H s0 s.x0) (h1 : BS H s1 s.x1) {t0 t1 : AV} {t : DS} (k0 : BS H t0 t.x0) (k1 : BS H t1 t.x1) (l0 : t.x0.length ≤ 2000000) (l1 : t.x1.length ≤ 2000000) (l2 : 0 ≤ t.left) (l3 : t.left ≤ 9223372036854775807) :
    IsDisk (H.set b (.box [t0, t1, .int .i64 t.left, .bool t.told, .bool t.torn])) b t ∧ Fr H (H.set b (.box [t0, t1, .int .i64 t.left, .bool t.told, .bool t.torn])) b :=
  ⟨⟨⟨t0, t1, get_set_self (lt_of_get hH), k0.setBox hH, k1.setBox hH⟩, l0, l1, l2, l3⟩, ⟨by simp, fun b' hb' _ => by rw [get_set_ne (Ne.symm hb')]⟩⟩

def DS.tear (s : DS) (n : Int) : DS := { s with left := max n 0, told := true }
def DS.mend (s : DS) : DS := { s with left := 0, told := false, torn := false }
def DS.erase (s : DS) (i : Int) : Int × DS := (why i s.torn, if why i s.torn = 0 then s.put i [] else s)

theorem tear_is {fl b : Nat} {s : DS} {n : Int} (hd : IsDisk H b s) (hn : n ≤ 9223372036854775807) (hf : fl ≤ b) :
    ∃ H', vcall (vlook tbl) L (d + 1) fl 12 [.ptr b 0, .int .i64 n] H = some (.tup [], H') ∧ IsDisk H' b (s.tear n) ∧ Fr H H' b := by
  obtain ⟨⟨s0, s1, hH, k0, k1⟩, l0, l1, l2, l3⟩ := hd
  exact ⟨_, tear_ok hH hf, setDisk (s := s) hH k0 k1 (t := s.tear n) k0 k1 l0 l1 (by show 0 ≤ max n 0; omega) (by show max n 0 ≤ 9223372036854775807; omega)⟩
theorem tearR_is {fl b : Nat} {s : DS} {n : Int} (hd : IsDisk H b s) (hn : n ≤ 9223372036854775807) (hf : fl ≤ b) :
    ∃ H', vcall (vlook tbl) L (d + 1) fl 13 [.ptr b 0, .int .i64 n] H = some (.tup [], H') ∧ IsDisk H' b (s.tear n) ∧ Fr H H' b := by
  obtain ⟨⟨s0, s1, hH, k0, k1⟩, l0, l1, l2, l3⟩ := hd
  exact ⟨_, tearR_ok hH hf, setDisk (s := s) hH k0 k1 (t := s.tear n) k0 k1 l0 l1 (by show 0 ≤ max n 0; omega) (by show max n 0 ≤ 9223372036854775807; omega)⟩
theorem mend_is {fl b : Nat} {s : DS} (hd : IsDisk H b s) (hf : fl ≤ b) :
    ∃ H', vcall (vlook tbl) L (d + 1) fl 14 [.ptr b 0] H = some (.tup [], H') ∧ IsDisk H' b s.mend ∧ Fr H H' b := by
  obtain ⟨⟨s0, s1, hH, k0, k1⟩, l0, l1, l2, l3⟩ := hd
  exact ⟨_, mend_ok hH hf, setDisk (s := s) hH k0 k1 (t := s.mend) k0 k1 l0 l1 (Int.le_refl _) (by show (0 : Int) ≤ 9223372036854775807; decide)⟩
theorem mendR_is {fl b : Nat} {s : DS} (hd : IsDisk H b s) (hf : fl ≤ b) :
    ∃ H', vcall (vlook tbl) L (d + 1) fl 15 [.ptr b 0] H = some (.tup [], H') ∧ IsDisk H' b s.mend ∧ Fr H H' b := by
  obtain ⟨⟨s0, s1, hH, k0, k1⟩, l0, l1, l2, l3⟩ := hd
  exact ⟨_, mendR_ok hH hf, setDisk (s := s) hH k0 k1 (t := s.mend) k0 k1 l0 l1 (Int.le_refl _) (by show (0 : Int) ≤ 9223372036854775807; decide)⟩

theorem erase_fin {b : Nat} {s : DS} {i : Int} (hd : IsDisk H b s) {s0 s1 : AV} (hH : DiskAt H b s0 s1 s.left s.told s.torn) (k0 : BS H s0 s.x0) (k1 : BS H s1 s.x1) :
    IsDisk (if why i s.torn = 0 then H.set b (.box [(putS i s0 s1 .nilsl).1, (putS i s0 s1 .nilsl).2, .int .i64 s.left, .bool s.told, .bool s.torn]) else H) b (s.erase i).2 ∧ Fr H (if why i s.torn = 0 then H.set b (.box [(putS i s0 s1 .nilsl).1, (putS i s0 s1 .nilsl).2, .int .i64 s.left, .bool s.told, .bool s.torn]) else H) b := by
  unfold DS.erase
  split
  · obtain ⟨_, l0, l1, l2, l3⟩ := hd
    unfold putS DS.put
    split
    · exact setDisk (s := s) hH k0 k1 (t := { s with x0 := [] }) .nil k1 (by simp) l1 l2 l3
    · exact setDisk (s := s) hH k0 k1 (t := { s with x1 := [] }) k0 .nil l0 (by simp) l2 l3
  · exact ⟨hd, Nat.le_refl _, fun _ _ _ => rfl⟩
theorem erase_is {fl b : Nat} {s : DS} {i : Int} (hd : IsDisk H b s) (hf : fl ≤ b) :
    ∃ H', vcall (vlook tbl) L (d + 2) fl 10 [.ptr b 0, .int .i64 i] H = some (.int .i64 (s.erase i).1, H') ∧ IsDisk H' b (s.erase i).2 ∧ Fr H H' b := by
  have hd' := hd
  obtain ⟨⟨s0, s1, hH, k0, k1⟩, l0, l1, l2, l3⟩ := hd
  exact ⟨_, erase_ok hH hf, erase_fin hd' hH k0 k1⟩
theorem eraseR_is {fl b : Nat} {s : DS} {i : Int} (hd : IsDisk H b s) (hf : fl ≤ b) :
    ∃ H', vcall (vlook tbl) L (d + 1) fl 11 [.ptr b 0, .int .i64 i] H = some (.int .i64 (s.erase i).1, H') ∧ IsDisk H' b (s.erase i).2 ∧ Fr H H' b := by
  have hd' := hd
  obtain ⟨⟨s0, s1, hH, k0, k1⟩, l0, l1, l2, l3⟩ := hd
  exact ⟨_, eraseR_ok hH hf, erase_fin hd' hH k0 k1⟩
theorem slot_is {b : Nat} {s : DS} {i : Int} (hd : IsDisk H b s) :
    ∃ v', asPure (vcall (vlook tbl) L (d + 3)) 21 [.ptr b 0, .int .i64 i] H = some v' ∧ BS H v' (if i = 0 then s.x0 else if i = 1 then s.x1 else []) ∧ sol 2 v' = true := by
  obtain ⟨⟨s0, s1, hH, k0, k1⟩, l0, l1, l2, l3⟩ := hd
  exact Slot_ok hH k0 k1 (by omega) (by omega)
theorem torn_is {b : Nat} {s : DS} (hd : IsDisk H b s) : asPure (vcall (vlook tbl) L (d + 1)) 22 [.ptr b 0] H = some (.bool s.torn) := by
  obtain ⟨⟨s0, s1, hH, k0, k1⟩, l0, l1, l2, l3⟩ := hd
  exact torn_ok hH

/-- awake answers true. -/
theorem awake_ok (hL : 10 ≤ L) : asPure (vcall (vlook tbl) L (d + 4)) 9 [] H = some (.bool true) := by
  have e1 := new_ok (L := L) (d := d + 2) (fl := H.length) (H := H)
  obtain ⟨H2, e2, d2, f2⟩ := tear_is (L := L) (d := d + 2) (fl := H.length) (n := 1) (isNew (H := H)) (by decide) (Nat.le_refl _)
  have hb : BS H2 (.sl 1 true [.int .u8 1, .int .u8 2]) [1, 2] := .sl true _
  obtain ⟨H3, e3, d3, f3⟩ := append_ok (L := L) (d := d) (fl := H.length) (i := 0) d2 hb (by decide) (Nat.le_refl _) hL
  have happ : (DS.tear DS.none 1).app 0 [1, 2] = (24, ⟨[1], [], 0, true, true⟩) := by rfl
  rw [happ] at e3 d3
  have e4 := torn_is (L := L) (d := d + 2) d3
  obtain ⟨v5, e5, b5, _⟩ := slot_is (L := L) (d := d) (i := 0) d3
  simp only [if_true] at b5
  have hb1 : BS H3 (.sl 1 true [.int .u8 1]) [1] := .sl true _
  have e6 := bytes_ok (L := L) (d := d + 2) b5 hb1
  have hbb : (([1] : List UInt8) == [1]) = true := rfl
  refine pure_eq (vf := f9) rfl ?_
  simp only [f9, b9]
  simp (disch := (first | assumption | decide | omega | (simp only [AV.fits, AV.cells, AV.isTup, List.length_cons, List.length_nil, Nat.reduceAdd, Nat.reduceBEq, beq_self_eq_true, Bool.not_false, Bool.and_self, Bool.true_and, Nat.zero_add]; done) | (simp only [List.length_append, List.length_set, List.length_cons, List.length_nil, List.length_replicate]; omega) | (simp [calm, VOper.isR]; done) | fail)) only [W_skip, W_exit, W_ret, W_seq, W_cond, Wc_true, Wc_false, W_block, W_reg, W_draw, Wd_nil, Wd_cons, Wdv_p, Wdv_w, Wdv_r, rdS_t, rdS_f, Seen_ok, okV_some, same_refl, List.all_cons, List.all_nil, Bool.and_true, Bool.true_and, Bool.and_self, Wo_nil, Wo_cons, Wv_some, seqQ_normal, seqQ_exit, seqQ_ret, loopQ_normal, loopQ_exit, loopQ_ret, blockQ_normal, blockQ_ret, blockQ_exit, retQ_normal, retQ_ret, vres_0, vres_1, vres_2, vres_3, vres1_tmp, vres1_cell, cellR_ptr, ↓upd_if, upd_no, step_none, step_guard, gV_tt, gV_ff, gV_tf, gV_ft, vop_p, vop_r, vop_w, pV_some, ev_tmp, ev_cst, pop_mov, pop_pick, pickV_t, pickV_f, pop_nilck, nilckV_ptr, nilckV_eptr, nilckV_dptr, nilckV_fn, pop_ibin, ib_add, ib_sub, ib_mul, ib_quo, ib_rem, ib_eql, ib_neq, ib_lss, ib_leq, ib_gtr, ib_geq, is_eql, is_neq, pop_beq, beqV_f, beqV_t, pop_nileq, nileqV_f, nileqV_t, nq_pp, nq_ep, nq_dp, nq_np, nq_ns, nq_sl, nq_rsl, nq_fn, nq_nf, pop_un, un_not, un_neg, pop_conv, convV_int, convV_str, pop_mkfn, pop_ext, extV_0, extV_1, extV_2, pop_fieldA, fieldAV_ptr, fieldAV_eptr, fieldAV_dptr, pop_fieldV, fieldVV_agg, ld_none, ld_some, pop_len, lenV_nil, lenV_sl, lenV_rsl, pop_lenStr, lenStrV_str, pop_cap, capV_nil, capV_sl, capV_rsl, pop_mm, mmV_max, mmV_min, get_set_self, get_set_ne, get_add_lt, get_add_eq, rop_loadV, loadV_ptr, loadV_dptr, boxLd_box, wop_store, wop_append, cast0, Int.zero_add, Int.add_zero, wop_appendN, W_loop, wrap_i64, storeV_at, storeB_box, cells_int, cells_bool, cells_str, cells_nilsl, cells_sl, cells_rsl, cells_nilp, cells_ptr, cells_agg, splice_0, splice_s, List.length_cons, List.length_nil, wop_alloc, wop_box, boxV_ok, wop_mksl, wop_call, callV_fn, rop_pcall, pcallV_fn, pop_build, parts2_nil, parts2_cons, part2V_ok, pop_lit, parts1_nil, parts1_cons, part1V_ok, pop_idxArr, pop_idxA, pop_slice, rop_bytesStr, if_true, if_false, ↓reduceIte, Nat.reduceEqDiff, Int.reduceEq, Int.reduceLT, Int.reduceLE, Int.reduceNe, Int.reduceAdd, Int.reduceSub, Int.reduceNeg, reduceCtorEq, Bool.not_true, Bool.not_false, decide_true, decide_false, dec_t, dec_f, Bool.false_eq_true, List.drop_succ_cons, List.drop_zero, List.take_succ_cons, List.take_zero, List.map_cons, List.map_nil, List.nil_append, List.cons_append, List.append_nil, Nat.zero_add, Nat.add_zero, Nat.reduceAdd, Nat.reduceMul, Nat.reduceSub, Option.map_some, Option.map_none, Option.some.injEq, exists_eq_left', Int.toNat_natCast, fz_int, fz_bool, fz_str, fz_nilsl, fz_nilp, fz_ptr, true_or, or_true, or_false, false_or, true_and, and_true, false_and, and_false, Int.reduceToNat, Nat.zero_mul, Nat.one_mul, Nat.mul_one, envOf, List.getElem?_cons_zero, List.getElem?_cons_succ, Option.getD_some, decide_eq_true_eq, e1, e2, e3, e4, e5, e6, hbb, List.replicate_succ, List.replicate_zero, List.set_cons_zero, List.set_cons_succ]
end Go.Vx.Ytbjcimdflehfjaa
