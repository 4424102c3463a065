/- DigitsWide holds: for every input the law returns true, and its arguments read as they did; the card's listed variables are tied to the program's text. No condition beyond the row's own 'laid'. -/
import Derived.Test.YtjnjklnfcpgmpaaDoorTie
import Derived.Test.YtjnjklnfcpgmpaaDoorCards
import Derived.Test.YtjnjklnfcpgmpaaDoorVfJ
import Derived.Test.YtjnjklnfcpgmpaaDoorVxL
import Derived.Test.YtjnjklnfcpgmpaaDoorVgB
import Derived.LaidMore
import Derived.Lay
import Derived.SevenTiedAt
import Derived.Stop.Joined
namespace Go.Proofs.YtjnjklnfcpgmpaaDoor.digitsWide
open Go.ChangeShapes Go.WideShapes Go.ChangeAt Go.RowKit Go.Vx
set_option linter.unusedVariables false
set_option linter.unusedSimpArgs false
set_option maxRecDepth 100000
theorem own : ownKnob Tryd.prog.godebug = none := by kernel_rfl
theorem laidOut : laidOutB Tryd.prog = true := by kernel_rfl
theorem plain0 : plainT Tryd.prog 12 22 = true := by kernel_rfl
theorem plain1 : plainT Tryd.prog 12 3 = true := by kernel_rfl
theorem reads : Tryd.f3.params.toList.all (fun t => Tryd.prog.readableRec t && decide (t < Tryd.prog.types.size)) = true := by kernel_rfl
theorem body : ∃ c, Tryd.f3.body = some c := ⟨_, rfl⟩

theorem u64_inv {x : AV} (h : Ty Tryd.prog 22 x) : ∃ v : Nat, x = .int .u64 v ∧ v < 18446744073709551616 := by
  obtain ⟨n, rfl, hw⟩ := h.int_inv Tryd.underlying22
  have hr : 0 ≤ n ∧ n < 18446744073709551616 := by
    simp [Lit.wf, IntKind.min, IntKind.max, IntKind.bits, IntKind.signed] at hw
    omega
  exact ⟨n.toNat, by rw [Int.toNat_of_nonneg hr.1], by omega⟩
theorem run (x0 x1 : AV) (t0 : Ty Tryd.prog 22 x0) (t1 : Ty Tryd.prog 3 x1) : ∃ L d H', vcall (vlook Go.Vx.YtjnjklnfcpgmpaaDoor.tbl) L d 0 3 [x0, x1] [] = some (.bool true, H') := by
  obtain ⟨v, rfl, hv⟩ := u64_inv t0
  obtain ⟨b, rfl, _⟩ := t1.int_inv Tryd.underlying3
  obtain ⟨H', h⟩ := Go.Vx.YtjnjklnfcpgmpaaDoor.wide_run (L := 2000000) (d := 0) (v := v) (w0 := b) hv (by omega)
  exact ⟨_, _, H', h⟩

theorem contract (H : Type) (enc : TypeId × Value → H) (W : World) (base : Nat) (args : Array Value) (ds gs : List (DataW H)) (before : List MemPlace)
    (hval : ∀ (j : Nat) t v, Tryd.f3.params[j]? = some t → args[j]? = some v → Value.okWide Tryd.prog W .any base t v) (hL : laidMetH Tryd.prog Rows.digitsWideRow.laid W)
    (hW : DataW.Whole enc Tryd.prog Tryd.f3.params.toList Rows.digitsWideSpec.vars false W args.toList ds gs before) :
    Calls Tryd.prog 3 args W fun e W' => ∃ v, e = .returned v ∧ Rows.digitsWideSpec.post enc Tryd.prog Tryd.f3 false true false false W args v W' := by
  have hW' := hW
  obtain ⟨p, q, hA0, hV, rfl, hfz, hnd⟩ := hW
  have hA : DataW.TrodAll enc Tryd.prog W 0 (fun _ => true) true Tryd.f3.params.toList args.toList ds p := hA0
  rw [Tryd.params3] at hA hval
  obtain ⟨v0, vs0, d0, ds0, p0, q0, ha0, rfl, rfl, h0, r0⟩ := trodAll_cons hA
  obtain ⟨v1, vs1, d1, ds1, p1, q1, ha1, rfl, rfl, h1, r1⟩ := trodAll_cons r0
  subst ha1
  obtain ⟨rfl, rfl, rfl⟩ := trodAll_nil r1
  obtain rfl : args = #[v0, v1] := by cases args; simp_all
  obtain ⟨rfl, rfl⟩ := trodVars_none hV
  obtain ⟨x0, t0, k0⟩ := open_any (fun _ => 0) plain0 (hval 0 _ v0 rfl rfl) h0
  obtain ⟨x1, t1, k1⟩ := open_any (fun _ => 0) plain1 (hval 1 _ v1 rfl rfl) h1
  obtain ⟨L, d, H', hrun⟩ := run x0 x1 t0 t1
  obtain ⟨c, hb⟩ := body
  refine (law_calls (C := Tryd.checked) (Go.Vx.YtjnjklnfcpgmpaaDoor.fits (Go.Vx.YtjnjklnfcpgmpaaDoor.tabOk_of hL)) Tryd.func3 Go.Vx.YtjnjklnfcpgmpaaDoor.nm3 hb (VRL.push k0 (VRL.push k1 VRL.nil)) hrun (fun r o h => h.2)).mono fun e W' ⟨he, hbl⟩ => ?_
  subst he
  exact ⟨_, rfl, post_below (pa := p0 ++ (p1 ++ [])) (pv := []) hW' (fun _ _ _ => trodAll_mk1 (shut_bool Tryd.underlying4 _))
    (fun sp hsp => args_back laidOut hbl (fun t ht => by have := List.all_eq_true.1 reads t ht; simpa using this) hA0 (fun x hx => hW'.lt x (by simpa using hx)) sp (fun x hx => hsp x (by simpa using hx)))
    (fun _ _ => rfl) (by simp) hbl (ok_one (by kernel_rfl) rfl (okWide_bool_mk Tryd.underlying4 _))⟩

theorem lifted (os : Os) (started : os.Started) (H : Type) (enc : TypeId × Value → H) :
    ReturnsInHanded {} Tryd.checked os 3 .any (fun w args => (Rows.digitsWideSpec.pre enc Tryd.prog Tryd.f3 Rows.digitsWideRow.domain false w args ∧ laidMetH Tryd.prog Rows.digitsWideRow.laid w) ∧ sizedMet enc Tryd.prog Tryd.f3 (OpenSpec.ofChange Rows.digitsWideSpec) false w args)
      (Rows.digitsWideSpec.post enc Tryd.prog Tryd.f3 false true false false) := by
  refine returnsInHanded_of_change_and (C := Tryd.checked) (X := fun w _ => laidMetH Tryd.prog Rows.digitsWideRow.laid w) (fun _ _ _ hh h => h.of_heap hh) own started (by kernel_rfl) Tryd.func3
    (ChangeSpec.witness_shaped (enc := enc) (C := Tryd.checked) (os := os) (X := fun w _ => laidMetH Tryd.prog Rows.digitsWideRow.laid w) false (World.laidAll Tryd.prog os Rows.digitsWideRow.laid) #[.int .u64 0, .int .i64 0] 8 (World.laidAll_os _ _ _)
      (World.shaped_of_ZipB (by kernel_rfl) (by kernel_rfl)) (by kernel_rfl) (by kernel_rfl) (by kernel_rfl)
      (by rw [MakeChecks.laidMetH_plain _ _ _ (by kernel_rfl)]; exact laidMet_laidAll _ (by kernel_rfl) (by kernel_rfl))) ?_
  intro W base args ds gs before hval0 hW hc _ hL _
  exact contract H enc W base args ds gs before hval0 hL hW

theorem row_holds : Rows.DigitsWideSaid :=
  OpenClaim.holds_of_wide 3 Tryd.f3 rfl rfl rfl rfl rfl rfl rfl ⟨rfl, rfl, rfl, rfl, rfl⟩ rfl rfl rfl rfl rfl (by kernel_rfl) Tryd.func3 (by kernel_rfl)
    (of_decide_eq_true (by kernel_rfl)) (by unfold Func.isWrapper; first | (rw [if_pos (by decide +kernel)]; kernel_rfl) | (rw [if_neg (by decide +kernel)]; exact ⟨rfl, rfl⟩))
    (fun os started H enc _ => lifted os started H enc)
theorem holds : Rows.DigitsWideCardSaid :=
  Claim7.holds_tied_plain_at .later [] [.data, .data, .data] true (true, "85836d0d8de19cf10b7780731cfe9db3682878c569674a3c2829ccd09708338c") false row_holds (fun _ h => by cases h) (by kernel_rfl) (fun _ h => by cases h) digitsWide_row_tie rfl ⟨rfl, rfl⟩ (by kernel_rfl) rfl
    (fun f fn hf hfn => by
      obtain rfl : f = 3 := Option.some.inj ((show Tryd.prog.funcNamed "comptoir/comptoirlaw02.DigitsWide" = some 3 by kernel_rfl).symm.trans hf) |>.symm
      obtain rfl : fn = Tryd.f3 := (Option.some.inj (Tryd.func3.symm.trans hfn)).symm
      exact ⟨by kernel_rfl, fun j t ht => by
        rw [Tryd.params3] at ht
        have hm : t ∈ ([3, 22] : List Nat) := by have := Array.mem_of_getElem? ht; simp at this; simp; first | omega | (rcases this with h | h <;> simp [h])
        have hall : (([3, 22] : List Nat).all fun u => !Tryd.prog.wantsStandIn u) = true := by kernel_rfl
        exact (show Tryd.prog.wantsStandIn t = false by simpa using List.all_eq_true.1 hall t hm)⟩)
    (by kernel_rfl)
#print axioms holds
end Go.Proofs.YtjnjklnfcpgmpaaDoor.digitsWide
