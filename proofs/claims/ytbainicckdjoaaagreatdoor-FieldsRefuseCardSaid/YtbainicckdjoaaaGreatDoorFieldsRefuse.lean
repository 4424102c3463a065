/- FieldsRefuse holds: for every input the law returns true, and its argument reads as it did; the card's five listed variables are tied to the program's text. No condition beyond the row's own 'laid'. -/
import Derived.Test.YtbainicckdjoaaaGreatDoorTie
import Derived.Test.YtbainicckdjoaaaGreatDoorCards
import Derived.Test.YtbainicckdjoaaaGreatDoorVfE
import Derived.Test.YtbainicckdjoaaaGreatDoorVxL
import Derived.Test.YtbainicckdjoaaaGreatDoorVfR0
import Derived.Test.YtbainicckdjoaaaGreatDoorVfR1
import Derived.Test.YtbainicckdjoaaaGreatDoorVfR2
import Derived.LaidMore
import Derived.Lay
import Derived.SevenTiedAt
import Derived.Stop.Joined
namespace Go.Proofs.YtbainicckdjoaaaGreatDoor.fieldsRefuse
open Go.ChangeShapes Go.WideShapes Go.ChangeAt Go.RowKit Go.Vx
set_option linter.unusedVariables false
set_option maxRecDepth 100000
theorem own : ownKnob Tryz.prog.godebug = none := by kernel_rfl
theorem laidOut : laidOutB Tryz.prog = true := by kernel_rfl
theorem plain0 : plainT Tryz.prog 9 3 = true := by kernel_rfl
theorem reads : Tryz.f3.params.toList.all (fun t => Tryz.prog.readableRec t && decide (t < Tryz.prog.types.size)) = true := by kernel_rfl
theorem body : ∃ c, Tryz.f3.body = some c := ⟨_, rfl⟩

theorem run (what : Int) : ∃ H', vcall (vlook Go.Vx.YtbainicckdjoaaaGreatDoor.tbl) 5000 61 0 3 [.int .i64 what] [] = some (.bool true, H') := by
  have hw : 0 ≤ IntKind.u64.wrap what := by
    simp only [IntKind.wrap, IntKind.bits, IntKind.signed, Bool.false_and, Bool.false_eq_true, if_false]
    omega
  obtain ⟨k, hk, h9⟩ : ∃ k : Nat, (IntKind.u64.wrap what).tmod 9 = k ∧ k < 9 := by
    have h1 := Int.tmod_nonneg 9 hw
    have h2 := Int.tmod_lt_of_pos (IntKind.u64.wrap what) (show (0 : Int) < 9 by omega)
    exact ⟨((IntKind.u64.wrap what).tmod 9).toNat, by omega, by omega⟩
  have fin : ∀ {o : Option (AV × Heap)}, (∃ v H', o = some (v, H') ∧ v = .bool true) → ∃ H', o = some (.bool true, H') := by
    rintro o ⟨v, H', h1, rfl⟩
    exact ⟨H', h1⟩
  have hc : k = 0 ∨ k = 1 ∨ k = 2 ∨ k = 3 ∨ k = 4 ∨ k = 5 ∨ k = 6 ∨ k = 7 ∨ k = 8 := by omega
  rcases hc with h | h | h | h | h | h | h | h | h
  · exact fin (Go.Vx.YtbainicckdjoaaaGreatDoor.refuse_0 what k hk h)
  · exact fin (Go.Vx.YtbainicckdjoaaaGreatDoor.refuse_1 what k hk h)
  · exact fin (Go.Vx.YtbainicckdjoaaaGreatDoor.refuse_2 what k hk h)
  · exact fin (Go.Vx.YtbainicckdjoaaaGreatDoor.refuse_3 what k hk h)
  · exact fin (Go.Vx.YtbainicckdjoaaaGreatDoor.refuse_4 what k hk h)
  · exact fin (Go.Vx.YtbainicckdjoaaaGreatDoor.refuse_5 what k hk h)
  · exact fin (Go.Vx.YtbainicckdjoaaaGreatDoor.refuse_6 what k hk h)
  · exact fin (Go.Vx.YtbainicckdjoaaaGreatDoor.refuse_7 what k hk h)
  · exact fin (Go.Vx.YtbainicckdjoaaaGreatDoor.refuse_8 what k hk h)

theorem contract (H : Type) (enc : TypeId × Value → H) (W : World) (base : Nat) (args : Array Value) (ds gs : List (DataW H)) (before : List MemPlace)
    (hval : ∀ (j : Nat) t v, Tryz.f3.params[j]? = some t → args[j]? = some v → Value.okWide Tryz.prog W .any base t v)
    (hW : DataW.Whole enc Tryz.prog Tryz.f3.params.toList Rows.fieldsRefuseSpec.vars false W args.toList ds gs before) :
    Calls Tryz.prog 3 args W fun e W' => ∃ v, e = .returned v ∧ Rows.fieldsRefuseSpec.post enc Tryz.prog Tryz.f3 false true false false W args v W' := by
  have hW' := hW
  obtain ⟨p, q, hA0, hV, rfl, hfz, hnd⟩ := hW
  have hA : DataW.TrodAll enc Tryz.prog W 0 (fun _ => true) true Tryz.f3.params.toList args.toList ds p := hA0
  rw [Tryz.params3] at hA hval
  obtain ⟨v0, vs0, d0, ds0, p0, q0, hargs, rfl, rfl, h0, r0⟩ := trodAll_cons hA
  obtain ⟨rfl, rfl, rfl⟩ := trodAll_nil r0
  obtain rfl : args = #[v0] := by cases args; simp_all
  obtain ⟨rfl, rfl⟩ := trodVars_none hV
  obtain ⟨x0, t0, k0⟩ := open_any (fun _ => 0) plain0 (hval 0 _ v0 rfl rfl) h0
  obtain ⟨what, rfl, _⟩ := t0.int_inv Tryz.underlying3
  obtain ⟨H', hrun⟩ := run what
  obtain ⟨c, hb⟩ := body
  refine (law_calls (C := Tryz.checked) Go.Vx.YtbainicckdjoaaaGreatDoor.fits Tryz.func3 Go.Vx.YtbainicckdjoaaaGreatDoor.nm3 hb (VRL.push k0 VRL.nil) hrun).mono fun e W' ⟨he, hbl⟩ => ?_
  subst he
  exact ⟨_, rfl, post_below (pa := p0 ++ []) (pv := []) hW' (fun _ _ _ => trodAll_mk1 (shut_bool Tryz.underlying4 _))
    (fun sp hsp => args_back laidOut hbl (fun t ht => by have := List.all_eq_true.1 reads t ht; simpa using this) hA0 (fun x hx => by simpa using hW'.lt x (by simpa using hx)) sp (fun x hx => hsp x (by simpa using hx)))
    (fun _ _ => rfl) (by simp) hbl (ok_one (by kernel_rfl) rfl (okWide_bool_mk Tryz.underlying4 _))⟩

theorem lifted (os : Os) (started : os.Started) (H : Type) (enc : TypeId × Value → H) :
    ReturnsInHanded {} Tryz.checked os 3 .any (fun w args => (Rows.fieldsRefuseSpec.pre enc Tryz.prog Tryz.f3 Rows.fieldsRefuseRow.domain false w args ∧ laidMetH Tryz.prog Rows.fieldsRefuseRow.laid w) ∧ sizedMet enc Tryz.prog Tryz.f3 (OpenSpec.ofChange Rows.fieldsRefuseSpec) false w args)
      (Rows.fieldsRefuseSpec.post enc Tryz.prog Tryz.f3 false true false false) := by
  refine returnsInHanded_of_change_and (C := Tryz.checked) (X := fun w _ => laidMetH Tryz.prog Rows.fieldsRefuseRow.laid w) (fun _ _ _ hh h => h.of_heap hh) own started (by kernel_rfl) Tryz.func3
    (ChangeSpec.witness_shaped (enc := enc) (C := Tryz.checked) (os := os) (X := fun w _ => laidMetH Tryz.prog Rows.fieldsRefuseRow.laid w) false (World.laidAll Tryz.prog os Rows.fieldsRefuseRow.laid) #[.int .i64 0] 8 (World.laidAll_os _ _ _)
      (World.shaped_of_ZipB (by kernel_rfl) (by kernel_rfl)) (by kernel_rfl) (by kernel_rfl) (by kernel_rfl)
      (by rw [MakeChecks.laidMetH_plain _ _ _ (by kernel_rfl)]; exact laidMet_laidAll _ (by kernel_rfl) (by kernel_rfl))) ?_
  intro W base args ds gs before hval0 hW hc _ hL _
  exact contract H enc W base args ds gs before hval0 hW

theorem row_holds : Rows.FieldsRefuseSaid :=
  OpenClaim.holds_of_wide 3 Tryz.f3 rfl rfl rfl rfl rfl rfl rfl ⟨rfl, rfl, rfl, rfl, rfl⟩ rfl rfl rfl rfl rfl (by kernel_rfl) Tryz.func3 (by kernel_rfl)
    (of_decide_eq_true (by kernel_rfl)) (by unfold Func.isWrapper; first | (rw [if_pos (by decide +kernel)]; kernel_rfl) | (rw [if_neg (by decide +kernel)]; exact ⟨rfl, rfl⟩))
    (fun os started H enc _ => lifted os started H enc)

theorem holds : Rows.FieldsRefuseCardSaid :=
  Claim7.holds_tied_plain_at .later [] [.data, .data, .data, .data, .pinned] true (true, "1185c2fb842113e30aa352ae4bc25897d07b00e3ef028601b0d1d3053162415e") false row_holds (fun _ h => by cases h) (by kernel_rfl) (fun _ h => by cases h) fieldsRefuse_row_tie rfl ⟨rfl, rfl⟩ (by kernel_rfl) rfl
    (fun f fn hf hfn => by
      obtain rfl : f = 3 := Option.some.inj ((show Tryz.prog.funcNamed "comptoir/comptoirlaw18.FieldsRefuse" = some 3 by kernel_rfl).symm.trans hf) |>.symm
      obtain rfl : fn = Tryz.f3 := (Option.some.inj (Tryz.func3.symm.trans hfn)).symm
      exact ⟨by kernel_rfl, fun j t ht => by
        rw [Tryz.params3] at ht
        have hm : t ∈ [3] := by simpa using Array.mem_of_getElem? ht
        have hall : ([3].all fun u => !Tryz.prog.wantsStandIn u) = true := by kernel_rfl
        exact (show Tryz.prog.wantsStandIn t = false by simpa using List.all_eq_true.1 hall t hm)⟩)
    (by kernel_rfl)
#print axioms holds
end Go.Proofs.YtbainicckdjoaaaGreatDoor.fieldsRefuse
