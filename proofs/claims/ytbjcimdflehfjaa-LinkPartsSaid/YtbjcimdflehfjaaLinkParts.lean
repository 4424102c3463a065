/- LinkParts holds: for every input the law returns true, and its arguments read as they did. No condition. -/
import Derived.Test.YtbjcimdflehfjaaRows
import Derived.Test.YtbjcimdflehfjaaVfA
import Derived.Test.YtbjcimdflehfjaaVxL
import Derived.Test.YtbjcimdflehfjaaVtS
namespace Go.Proofs.Ytbjcimdflehfjaa.linkParts
open Go.ChangeShapes Go.WideShapes Go.ChangeAt Go.RowKit Go.Vx
set_option linter.unusedVariables false
set_option linter.unusedSimpArgs false
set_option maxRecDepth 100000
theorem own : ownKnob Try.prog.godebug = none := by kernel_rfl
theorem laidOut : laidOutB Try.prog = true := by kernel_rfl
theorem plain0 : plainT Try.prog 12 42 = true := by kernel_rfl
theorem plain1 : plainT Try.prog 12 42 = true := by kernel_rfl
theorem reads : Try.f6.params.toList.all (fun t => Try.prog.readableRec t && decide (t < Try.prog.types.size)) = true := by kernel_rfl
theorem body : ∃ c, Try.f6.body = some c := ⟨_, rfl⟩

theorem ints {x : AV} (h : Ty Try.prog 42 x) : ∃ es, (∀ H, SL H 1 x es) ∧ ∀ y ∈ es, ∃ n, y = .int .i64 n := by
  rcases h.slice_inv Try.underlying42 with rfl | ⟨es, rfl, _, hes⟩
  · exact ⟨[], fun H => .nil, fun y hy => (by simp at hy)⟩
  · have hc : Try.prog.cellsOf 3 = 1 := by kernel_rfl
    rw [hc]
    refine ⟨es, fun H => .sl false es, fun y hy => ?_⟩
    obtain ⟨n, rfl, _⟩ := (hes y hy).int_inv Try.underlying3
    exact ⟨n, rfl⟩
theorem run (x0 x1 : AV) (t0 : Ty Try.prog 42 x0) (t1 : Ty Try.prog 42 x1) : ∃ L d H', vcall (vlook Go.Vx.Ytbjcimdflehfjaa.tbl) L d 0 6 [x0, x1] [] = some (.bool true, H') := by
  obtain ⟨es, a1, a2⟩ := ints t0
  obtain ⟨cs, b1, b2⟩ := ints t1
  obtain ⟨H', h⟩ := Go.Vx.Ytbjcimdflehfjaa.link_run (L := 2000000) (d := 0) a1 b1 a2 b2 (by omega)
  exact ⟨_, _, H', h⟩

theorem contract (H : Type) (enc : TypeId × Value → H) (W : World) (base : Nat) (args : Array Value) (ds gs : List (DataW H)) (before : List MemPlace)
    (hval : ∀ (j : Nat) t v, Try.f6.params[j]? = some t → args[j]? = some v → Value.okWide Try.prog W .any base t v)
    (hW : DataW.Whole enc Try.prog Try.f6.params.toList Rows.linkPartsSpec.vars false W args.toList ds gs before) :
    Calls Try.prog 6 args W fun e W' => ∃ v, e = .returned v ∧ Rows.linkPartsSpec.post enc Try.prog Try.f6 false true false false W args v W' := by
  have hW' := hW
  obtain ⟨p, q, hA0, hV, rfl, hfz, hnd⟩ := hW
  have hA : DataW.TrodAll enc Try.prog W 0 (fun _ => true) true Try.f6.params.toList args.toList ds p := hA0
  rw [Try.params6] at hA hval
  obtain ⟨v0, vs0, d0, ds0, p0, q0, ha0, rfl, rfl, h0, r0⟩ := trodAll_cons hA
  obtain ⟨v1, vs1, d1, ds1, p1, q1, ha1, rfl, rfl, h1, r1⟩ := trodAll_cons r0
  subst ha1
  obtain ⟨rfl, rfl, rfl⟩ := trodAll_nil r1
  obtain rfl : args = #[v0, v1] := by cases args; simp_all
  obtain ⟨rfl, rfl⟩ := trodVars_none hV
  obtain ⟨x0, t0, k0⟩ := open_any (fun _ => 0) plain0 (hval 0 _ v0 rfl rfl) h0
  obtain ⟨x1, t1, k1⟩ := open_any (fun _ => 0) plain1 (hval 1 _ v1 rfl rfl) h1
  obtain ⟨L, d, H', hrun⟩ := run x0 x1 t0 t1
  obtain ⟨c, hb⟩ := body
  refine (law_calls (C := Try.checked) Go.Vx.Ytbjcimdflehfjaa.fits Try.func6 Go.Vx.Ytbjcimdflehfjaa.nm6 hb (VRL.push k0 (VRL.push k1 VRL.nil)) hrun).mono fun e W' ⟨he, hbl⟩ => ?_
  subst he
  exact ⟨_, rfl, post_below (pa := p0 ++ (p1 ++ [])) (pv := []) hW' (fun _ _ _ => trodAll_mk1 (shut_bool Try.underlying4 _))
    (fun sp hsp => args_back laidOut hbl (fun t ht => by have := List.all_eq_true.1 reads t ht; simpa using this) hA0 (fun x hx => hW'.lt x (by simpa using hx)) sp (fun x hx => hsp x (by simpa using hx)))
    (fun _ _ => rfl) (by simp) hbl (ok_one (by kernel_rfl) rfl (okWide_bool_mk Try.underlying4 _))⟩

theorem lifted (os : Os) (started : os.Started) (H : Type) (enc : TypeId × Value → H) :
    ReturnsInHanded {} Try.checked os 6 .any (Rows.linkPartsSpec.pre6 enc Try.prog Try.f6 Rows.linkPartsRow.domain false) (Rows.linkPartsSpec.post enc Try.prog Try.f6 false true false false) := by
  refine returnsInHanded_of_change (C := Try.checked) own started (by kernel_rfl) Try.func6
    (ChangeSpec.witness6 (enc := enc) (C := Try.checked) false ⟨#[], #[.slice none 0 0, .slice none 0 0], []⟩ 8 (by kernel_rfl) (by kernel_rfl) (by kernel_rfl) (by kernel_rfl)) ?_
  intro W base args ds gs before hval hW _ _
  exact contract H enc W base args ds gs before hval hW

theorem holds : Rows.LinkPartsSaid :=
  OpenClaim.holds_of_wide 6 Try.f6 rfl rfl rfl rfl rfl rfl rfl ⟨rfl, rfl, rfl, rfl, rfl⟩ rfl rfl rfl rfl rfl (by kernel_rfl) Try.func6 (by kernel_rfl)
    (of_decide_eq_true (by kernel_rfl)) (by unfold Func.isWrapper; first | (rw [if_pos (by decide +kernel)]; kernel_rfl) | (rw [if_neg (by decide +kernel)]; exact ⟨rfl, rfl⟩))
    (fun os started H enc _ => lifted os started H enc)
#print axioms holds
end Go.Proofs.Ytbjcimdflehfjaa.linkParts
