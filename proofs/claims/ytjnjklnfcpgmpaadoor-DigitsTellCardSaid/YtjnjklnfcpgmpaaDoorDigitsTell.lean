/- DigitsTell holds: for every input the law returns true, and its arguments read as they did; the card's listed variables are tied to the program's text. No condition beyond the row's own 'laid'. -/
import Derived.Test.YtjnjklnfcpgmpaaDoorTie
import Derived.Test.YtjnjklnfcpgmpaaDoorCards
import Derived.Test.YtjnjklnfcpgmpaaDoorVfJ
import Derived.Test.YtjnjklnfcpgmpaaDoorVxL
import Derived.Test.YtjnjklnfcpgmpaaDoorVgF
import Derived.LaidMore
import Derived.Lay
import Derived.SevenTiedAt
import Derived.Stop.Joined
namespace Go.Proofs.YtjnjklnfcpgmpaaDoor.digitsTell
open Go.ChangeShapes Go.WideShapes Go.ChangeAt Go.RowKit Go.Vx
set_option linter.unusedVariables false
set_option linter.unusedSimpArgs false
set_option maxRecDepth 100000
theorem own : ownKnob Tryd.prog.godebug = none := by kernel_rfl
theorem laidOut : laidOutB Tryd.prog = true := by kernel_rfl
theorem plain0 : plainT Tryd.prog 12 9 = true := by kernel_rfl
theorem plain1 : plainT Tryd.prog 12 3 = true := by kernel_rfl
theorem plain2 : plainT Tryd.prog 12 3 = true := by kernel_rfl
theorem plain3 : plainT Tryd.prog 12 22 = true := by kernel_rfl
theorem plain4 : plainT Tryd.prog 12 3 = true := by kernel_rfl
theorem plain5 : plainT Tryd.prog 12 30 = true := by kernel_rfl
theorem reads : Tryd.f4.params.toList.all (fun t => Tryd.prog.readableRec t && decide (t < Tryd.prog.types.size)) = true := by kernel_rfl
theorem body : ∃ c, Tryd.f4.body = some c := ⟨_, rfl⟩

theorem bytes {x : AV} (h : Ty Tryd.prog 30 x) : ∃ bs, PB x bs := by
  have hc : Tryd.prog.cellsOf 5 = 1 := by kernel_rfl
  obtain ⟨bs, _, hcell, hd⟩ := bytes_inv h Tryd.underlying30 Tryd.underlying5 hc
  rcases hd with ⟨rfl, rfl⟩ | rfl
  · exact ⟨[], .nil⟩
  · exact ⟨bs, .sl false _⟩
theorem u64_inv {x : AV} (h : Ty Tryd.prog 22 x) : ∃ v : Nat, x = .int .u64 v ∧ v < 18446744073709551616 := by
  obtain ⟨n, rfl, hw⟩ := h.int_inv Tryd.underlying22
  have hr : 0 ≤ n ∧ n < 18446744073709551616 := by
    simp [Lit.wf, IntKind.min, IntKind.max, IntKind.bits, IntKind.signed] at hw
    omega
  exact ⟨n.toNat, by rw [Int.toNat_of_nonneg hr.1], by omega⟩
theorem i64_inv {x : AV} (h : Ty Tryd.prog 3 x) : ∃ n, x = .int .i64 n ∧ -9223372036854775808 ≤ n ∧ n < 9223372036854775808 := by
  obtain ⟨n, rfl, hw⟩ := h.int_inv Tryd.underlying3
  refine ⟨n, rfl, ?_⟩
  simp [Lit.wf, IntKind.min, IntKind.max, IntKind.bits, IntKind.signed] at hw
  omega
theorem run (x0 x1 x2 x3 x4 x5 : AV) (t0 : Ty Tryd.prog 9 x0) (t1 : Ty Tryd.prog 3 x1) (t2 : Ty Tryd.prog 3 x2) (t3 : Ty Tryd.prog 22 x3) (t4 : Ty Tryd.prog 3 x4) (t5 : Ty Tryd.prog 30 x5) : ∃ L d H', vcall (vlook Go.Vx.YtjnjklnfcpgmpaaDoor.tbl) L d 0 4 [x0, x1, x2, x3, x4, x5] [] = some (.bool true, H') := by
  obtain ⟨s, rfl, _⟩ := t0.str_inv Tryd.underlying9
  obtain ⟨low, rfl, a1, a2⟩ := i64_inv t1
  obtain ⟨top, rfl, _, _⟩ := i64_inv t2
  obtain ⟨v, rfl, hv⟩ := u64_inv t3
  obtain ⟨w, rfl, _, _⟩ := i64_inv t4
  obtain ⟨bs, hb⟩ := bytes t5
  obtain ⟨H', h⟩ := Go.Vx.YtjnjklnfcpgmpaaDoor.tell_run (L := 2000000) (d := 0) (s := s) (low := low) (top := top) (w := w) hb hv a1 a2 (by omega)
  exact ⟨_, _, H', h⟩

set_option maxHeartbeats 4000000 in
theorem contract (H : Type) (enc : TypeId × Value → H) (W : World) (base : Nat) (args : Array Value) (ds gs : List (DataW H)) (before : List MemPlace)
    (hval : ∀ (j : Nat) t v, Tryd.f4.params[j]? = some t → args[j]? = some v → Value.okWide Tryd.prog W .any base t v) (hL : laidMetH Tryd.prog Rows.digitsTellRow.laid W)
    (hW : DataW.Whole enc Tryd.prog Tryd.f4.params.toList Rows.digitsTellSpec.vars false W args.toList ds gs before) :
    Calls Tryd.prog 4 args W fun e W' => ∃ v, e = .returned v ∧ Rows.digitsTellSpec.post enc Tryd.prog Tryd.f4 false true false false W args v W' := by
  have hW' := hW
  obtain ⟨p, q, hA0, hV, rfl, hfz, hnd⟩ := hW
  have hA : DataW.TrodAll enc Tryd.prog W 0 (fun _ => true) true Tryd.f4.params.toList args.toList ds p := hA0
  rw [Tryd.params4] at hA hval
  obtain ⟨v0, vs0, d0, ds0, p0, q0, ha0, rfl, rfl, h0, r0⟩ := trodAll_cons hA
  obtain ⟨v1, vs1, d1, ds1, p1, q1, ha1, rfl, rfl, h1, r1⟩ := trodAll_cons r0
  subst ha1
  obtain ⟨v2, vs2, d2, ds2, p2, q2, ha2, rfl, rfl, h2, r2⟩ := trodAll_cons r1
  subst ha2
  obtain ⟨v3, vs3, d3, ds3, p3, q3, ha3, rfl, rfl, h3, r3⟩ := trodAll_cons r2
  subst ha3
  obtain ⟨v4, vs4, d4, ds4, p4, q4, ha4, rfl, rfl, h4, r4⟩ := trodAll_cons r3
  subst ha4
  obtain ⟨v5, vs5, d5, ds5, p5, q5, ha5, rfl, rfl, h5, r5⟩ := trodAll_cons r4
  subst ha5
  obtain ⟨rfl, rfl, rfl⟩ := trodAll_nil r5
  obtain rfl : args = #[v0, v1, v2, v3, v4, v5] := by cases args; simp_all
  obtain ⟨rfl, rfl⟩ := trodVars_none hV
  obtain ⟨x0, t0, k0⟩ := open_any (fun _ => 0) plain0 (hval 0 _ v0 rfl rfl) h0
  obtain ⟨x1, t1, k1⟩ := open_any (fun _ => 0) plain1 (hval 1 _ v1 rfl rfl) h1
  obtain ⟨x2, t2, k2⟩ := open_any (fun _ => 0) plain2 (hval 2 _ v2 rfl rfl) h2
  obtain ⟨x3, t3, k3⟩ := open_any (fun _ => 0) plain3 (hval 3 _ v3 rfl rfl) h3
  obtain ⟨x4, t4, k4⟩ := open_any (fun _ => 0) plain4 (hval 4 _ v4 rfl rfl) h4
  obtain ⟨x5, t5, k5⟩ := open_any (fun _ => 0) plain5 (hval 5 _ v5 rfl rfl) h5
  obtain ⟨L, d, H', hrun⟩ := run x0 x1 x2 x3 x4 x5 t0 t1 t2 t3 t4 t5
  obtain ⟨c, hb⟩ := body
  have hvr : VRL (cx (fun _ => 0) [] W) [x0, x1, x2, x3, x4, x5] #[v0, v1, v2, v3, v4, v5] := by
    have h := (VRL.push k0 (VRL.push k1 (VRL.push k2 (VRL.push k3 (VRL.push k4 (VRL.push k5 VRL.nil))))))
    simpa using h
  refine (law_calls (C := Tryd.checked) (Go.Vx.YtjnjklnfcpgmpaaDoor.fits (Go.Vx.YtjnjklnfcpgmpaaDoor.tabOk_of hL)) Tryd.func4 Go.Vx.YtjnjklnfcpgmpaaDoor.nm4 hb hvr hrun (fun r o h => h.2)).mono fun e W' ⟨he, hbl⟩ => ?_
  subst he
  exact ⟨_, rfl, post_below (pa := p0 ++ (p1 ++ (p2 ++ (p3 ++ (p4 ++ (p5 ++ [])))))) (pv := []) hW' (fun _ _ _ => trodAll_mk1 (shut_bool Tryd.underlying4 _))
    (fun sp hsp => args_back laidOut hbl (fun t ht => by have := List.all_eq_true.1 reads t ht; simpa using this) hA0 (fun x hx => hW'.lt x (by simpa using hx)) sp (fun x hx => hsp x (by simpa using hx)))
    (fun _ _ => rfl) (by simp) hbl (ok_one (by kernel_rfl) rfl (okWide_bool_mk Tryd.underlying4 _))⟩

theorem lifted (os : Os) (started : os.Started) (H : Type) (enc : TypeId × Value → H) :
    ReturnsInHanded {} Tryd.checked os 4 .any (fun w args => (Rows.digitsTellSpec.pre enc Tryd.prog Tryd.f4 Rows.digitsTellRow.domain false w args ∧ laidMetH Tryd.prog Rows.digitsTellRow.laid w) ∧ sizedMet enc Tryd.prog Tryd.f4 (OpenSpec.ofChange Rows.digitsTellSpec) false w args)
      (Rows.digitsTellSpec.post enc Tryd.prog Tryd.f4 false true false false) := by
  refine returnsInHanded_of_change_and (C := Tryd.checked) (X := fun w _ => laidMetH Tryd.prog Rows.digitsTellRow.laid w) (fun _ _ _ hh h => h.of_heap hh) own started (by kernel_rfl) Tryd.func4
    (ChangeSpec.witness_shaped (enc := enc) (C := Tryd.checked) (os := os) (X := fun w _ => laidMetH Tryd.prog Rows.digitsTellRow.laid w) false (World.laidAll Tryd.prog os Rows.digitsTellRow.laid) #[.string ⟨#[]⟩, .int .i64 0, .int .i64 0, .int .u64 0, .int .i64 0, .slice none 0 0] 8 (World.laidAll_os _ _ _)
      (World.shaped_of_ZipB (by kernel_rfl) (by kernel_rfl)) (by kernel_rfl) (by kernel_rfl) (by kernel_rfl)
      (by rw [MakeChecks.laidMetH_plain _ _ _ (by kernel_rfl)]; exact laidMet_laidAll _ (by kernel_rfl) (by kernel_rfl))) ?_
  intro W base args ds gs before hval0 hW hc _ hL _
  exact contract H enc W base args ds gs before hval0 hL hW

theorem row_holds : Rows.DigitsTellSaid :=
  OpenClaim.holds_of_wide 4 Tryd.f4 rfl rfl rfl rfl rfl rfl rfl ⟨rfl, rfl, rfl, rfl, rfl⟩ rfl rfl rfl rfl rfl (by kernel_rfl) Tryd.func4 (by kernel_rfl)
    (of_decide_eq_true (by kernel_rfl)) (by unfold Func.isWrapper; first | (rw [if_pos (by decide +kernel)]; kernel_rfl) | (rw [if_neg (by decide +kernel)]; exact ⟨rfl, rfl⟩))
    (fun os started H enc _ => lifted os started H enc)
theorem holds : Rows.DigitsTellCardSaid :=
  Claim7.holds_tied_plain_at .later [] [.data, .data, .data] true (true, "85836d0d8de19cf10b7780731cfe9db3682878c569674a3c2829ccd09708338c") false row_holds (fun _ h => by cases h) (by kernel_rfl) (fun _ h => by cases h) digitsTell_row_tie rfl ⟨rfl, rfl⟩ (by kernel_rfl) rfl
    (fun f fn hf hfn => by
      obtain rfl : f = 4 := Option.some.inj ((show Tryd.prog.funcNamed "comptoir/comptoirlaw02.DigitsTell" = some 4 by kernel_rfl).symm.trans hf) |>.symm
      obtain rfl : fn = Tryd.f4 := (Option.some.inj (Tryd.func4.symm.trans hfn)).symm
      exact ⟨by kernel_rfl, fun j t ht => by
        rw [Tryd.params4] at ht
        have hm : t ∈ ([3, 9, 22, 30] : List Nat) := by have := Array.mem_of_getElem? ht; simp at this; simp; first | omega | (rcases this with h | h | h | h | h | h <;> simp [h]) | (rcases this with h | h | h | h | h <;> simp [h]) | (rcases this with h | h | h | h <;> simp [h]) | (rcases this with h | h | h <;> simp [h]) | (rcases this with h | h <;> simp [h])
        have hall : (([3, 9, 22, 30] : List Nat).all fun u => !Tryd.prog.wantsStandIn u) = true := by kernel_rfl
        exact (show Tryd.prog.wantsStandIn t = false by simpa using List.all_eq_true.1 hall t hm)⟩)
    (by kernel_rfl)
#print axioms holds
end Go.Proofs.YtjnjklnfcpgmpaaDoor.digitsTell
