/- ElementTells holds: for every input the law returns true, and its arguments read as they did; the card's listed variables are tied to the program's text. No condition beyond the row's own 'laid'. -/
import Derived.Test.YtmeffbagkloagaaDoorTie
import Derived.Test.YtmeffbagkloagaaDoorCards
import Derived.Test.YtmeffbagkloagaaDoorVfD
import Derived.Test.YtmeffbagkloagaaDoorVxL
import Derived.Test.YtmeffbagkloagaaDoorVeI
import Derived.LaidMore
import Derived.Lay
import Derived.SevenTiedAt
import Derived.Stop.Joined
namespace Go.Proofs.YtmeffbagkloagaaDoor.elementTells
open Go.ChangeShapes Go.WideShapes Go.ChangeAt Go.RowKit Go.Vx
set_option linter.unusedVariables false
set_option linter.unusedSimpArgs false
set_option maxRecDepth 100000
theorem own : ownKnob Tryd.prog.godebug = none := by kernel_rfl
theorem laidOut : laidOutB Tryd.prog = true := by kernel_rfl
theorem plain0 : plainT Tryd.prog 12 3 = true := by kernel_rfl
theorem plain1 : plainT Tryd.prog 12 24 = true := by kernel_rfl
theorem plain2 : plainT Tryd.prog 12 22 = true := by kernel_rfl
theorem reads : Tryd.f3.params.toList.all (fun t => Tryd.prog.readableRec t && decide (t < Tryd.prog.types.size)) = true := by kernel_rfl
theorem body : ∃ c, Tryd.f3.body = some c := ⟨_, rfl⟩

theorem bytes {x : AV} (h : Ty Tryd.prog 22 x) : x.cells = [x] ∧ ∃ bs, ∀ H, BS H x bs := by
  have hc : Tryd.prog.cellsOf 5 = 1 := by kernel_rfl
  obtain ⟨bs, _, hcell, hd⟩ := bytes_inv h Tryd.underlying22 Tryd.underlying5 hc
  refine ⟨hcell, bs, fun H => ?_⟩
  rcases hd with ⟨rfl, rfl⟩ | rfl
  · exact .nil
  · exact .sl false _
theorem run (x0 x1 x2 : AV) (t0 : Ty Tryd.prog 3 x0) (t1 : Ty Tryd.prog 24 x1) (t2 : Ty Tryd.prog 22 x2) : ∃ L d H', vcall (vlook Go.Vx.YtmeffbagkloagaaDoor.tbl) L d 0 3 [x0, x1, x2] [] = some (.bool true, H') := by
  obtain ⟨cs, rfl, hcs⟩ := t1.struct_inv Tryd.underlying24
  obtain ⟨a, r1, rfl, ha, h1⟩ := hcs.cons_inv
  obtain ⟨b, r2, rfl, hb, h2⟩ := h1.cons_inv
  obtain rfl := h2.nil_inv
  obtain ⟨nx, rfl, _⟩ := ha.int_inv Tryd.underlying3
  obtain ⟨hcell, s, hs⟩ := bytes hb
  obtain ⟨_, ms, hm⟩ := bytes t2
  obtain ⟨no, rfl, _⟩ := t0.int_inv Tryd.underlying3
  rw [hcell]
  obtain ⟨H', h⟩ := Go.Vx.YtmeffbagkloagaaDoor.tells_run (L := 2000000) (d := 0) (no := no) (nx := nx) hs hm (by omega)
  exact ⟨_, _, H', h⟩

theorem contract (H : Type) (enc : TypeId × Value → H) (W : World) (base : Nat) (args : Array Value) (ds gs : List (DataW H)) (before : List MemPlace)
    (hval : ∀ (j : Nat) t v, Tryd.f3.params[j]? = some t → args[j]? = some v → Value.okWide Tryd.prog W .any base t v) (hL : laidMetH Tryd.prog Rows.elementTellsRow.laid W)
    (hW : DataW.Whole enc Tryd.prog Tryd.f3.params.toList Rows.elementTellsSpec.vars false W args.toList ds gs before) :
    Calls Tryd.prog 3 args W fun e W' => ∃ v, e = .returned v ∧ Rows.elementTellsSpec.post enc Tryd.prog Tryd.f3 false true false false W args v W' := by
  have hW' := hW
  obtain ⟨p, q, hA0, hV, rfl, hfz, hnd⟩ := hW
  have hA : DataW.TrodAll enc Tryd.prog W 0 (fun _ => true) true Tryd.f3.params.toList args.toList ds p := hA0
  rw [Tryd.params3] at hA hval
  obtain ⟨v0, vs0, d0, ds0, p0, q0, ha0, rfl, rfl, h0, r0⟩ := trodAll_cons hA
  obtain ⟨v1, vs1, d1, ds1, p1, q1, ha1, rfl, rfl, h1, r1⟩ := trodAll_cons r0
  subst ha1
  obtain ⟨v2, vs2, d2, ds2, p2, q2, ha2, rfl, rfl, h2, r2⟩ := trodAll_cons r1
  subst ha2
  obtain ⟨rfl, rfl, rfl⟩ := trodAll_nil r2
  obtain rfl : args = #[v0, v1, v2] := by cases args; simp_all
  obtain ⟨rfl, rfl⟩ := trodVars_none hV
  obtain ⟨x0, t0, k0⟩ := open_any (fun _ => 0) plain0 (hval 0 _ v0 rfl rfl) h0
  obtain ⟨x1, t1, k1⟩ := open_any (fun _ => 0) plain1 (hval 1 _ v1 rfl rfl) h1
  obtain ⟨x2, t2, k2⟩ := open_any (fun _ => 0) plain2 (hval 2 _ v2 rfl rfl) h2
  obtain ⟨L, d, H', hrun⟩ := run x0 x1 x2 t0 t1 t2
  obtain ⟨c, hb⟩ := body
  refine (law_calls (C := Tryd.checked) (Go.Vx.YtmeffbagkloagaaDoor.fits (Go.Vx.YtmeffbagkloagaaDoor.tabOk_of hL)) Tryd.func3 Go.Vx.YtmeffbagkloagaaDoor.nm3 hb (VRL.push k0 (VRL.push k1 (VRL.push k2 VRL.nil))) hrun (fun r o h => h.2)).mono fun e W' ⟨he, hbl⟩ => ?_
  subst he
  exact ⟨_, rfl, post_below (pa := p0 ++ (p1 ++ (p2 ++ []))) (pv := []) hW' (fun _ _ _ => trodAll_mk1 (shut_bool Tryd.underlying4 _))
    (fun sp hsp => args_back laidOut hbl (fun t ht => by have := List.all_eq_true.1 reads t ht; simpa using this) hA0 (fun x hx => hW'.lt x (by simpa using hx)) sp (fun x hx => hsp x (by simpa using hx)))
    (fun _ _ => rfl) (by simp) hbl (ok_one (by kernel_rfl) rfl (okWide_bool_mk Tryd.underlying4 _))⟩

theorem lifted (os : Os) (started : os.Started) (H : Type) (enc : TypeId × Value → H) :
    ReturnsInHanded {} Tryd.checked os 3 .any (fun w args => (Rows.elementTellsSpec.pre enc Tryd.prog Tryd.f3 Rows.elementTellsRow.domain false w args ∧ laidMetH Tryd.prog Rows.elementTellsRow.laid w) ∧ sizedMet enc Tryd.prog Tryd.f3 (OpenSpec.ofChange Rows.elementTellsSpec) false w args)
      (Rows.elementTellsSpec.post enc Tryd.prog Tryd.f3 false true false false) := by
  refine returnsInHanded_of_change_and (C := Tryd.checked) (X := fun w _ => laidMetH Tryd.prog Rows.elementTellsRow.laid w) (fun _ _ _ hh h => h.of_heap hh) own started (by kernel_rfl) Tryd.func3
    (ChangeSpec.witness_shaped (enc := enc) (C := Tryd.checked) (os := os) (X := fun w _ => laidMetH Tryd.prog Rows.elementTellsRow.laid w) false (World.laidAll Tryd.prog os Rows.elementTellsRow.laid) #[.int .i64 0, .agg #[.int .i64 0, .slice none 0 0], .slice none 0 0] 8 (World.laidAll_os _ _ _)
      (World.shaped_of_ZipB (by kernel_rfl) (by kernel_rfl)) (by kernel_rfl) (by kernel_rfl) (by kernel_rfl)
      (by rw [MakeChecks.laidMetH_plain _ _ _ (by kernel_rfl)]; exact laidMet_laidAll _ (by kernel_rfl) (by kernel_rfl))) ?_
  intro W base args ds gs before hval0 hW hc _ hL _
  exact contract H enc W base args ds gs before hval0 hL hW

theorem row_holds : Rows.ElementTellsSaid :=
  OpenClaim.holds_of_wide 3 Tryd.f3 rfl rfl rfl rfl rfl rfl rfl ⟨rfl, rfl, rfl, rfl, rfl⟩ rfl rfl rfl rfl rfl (by kernel_rfl) Tryd.func3 (by kernel_rfl)
    (of_decide_eq_true (by kernel_rfl)) (by unfold Func.isWrapper; first | (rw [if_pos (by decide +kernel)]; kernel_rfl) | (rw [if_neg (by decide +kernel)]; exact ⟨rfl, rfl⟩))
    (fun os started H enc _ => lifted os started H enc)
theorem holds : Rows.ElementTellsCardSaid :=
  Claim7.holds_tied_plain_at .later [] [.data, .data, .data] true (true, "f20f82eb575d5aae696bd9e8ee7dc40f34fa8d06285b949368cf6d6bc7d0d7ba") false row_holds (fun _ h => by cases h) (by kernel_rfl) (fun _ h => by cases h) elementTells_row_tie rfl ⟨rfl, rfl⟩ (by kernel_rfl) rfl
    (fun f fn hf hfn => by
      obtain rfl : f = 3 := Option.some.inj ((show Tryd.prog.funcNamed "comptoir/comptoirlaw16.ElementTells" = some 3 by kernel_rfl).symm.trans hf) |>.symm
      obtain rfl : fn = Tryd.f3 := (Option.some.inj (Tryd.func3.symm.trans hfn)).symm
      exact ⟨by kernel_rfl, fun j t ht => by
        rw [Tryd.params3] at ht
        have hm : t ∈ ([3, 22, 24] : List Nat) := by have := Array.mem_of_getElem? ht; simp at this; simp; first | omega | (rcases this with h | h | h <;> simp [h])
        have hall : (([3, 22, 24] : List Nat).all fun u => !Tryd.prog.wantsStandIn u) = true := by kernel_rfl
        exact (show Tryd.prog.wantsStandIn t = false by simpa using List.all_eq_true.1 hall t hm)⟩)
    (by kernel_rfl)
#print axioms holds
end Go.Proofs.YtmeffbagkloagaaDoor.elementTells
