/- DiskPlays holds: for every input the law returns true, and its argument reads as it did. No condition. -/
import Derived.Test.YtbjcimdflehfjaaRows
import Derived.Test.YtbjcimdflehfjaaVf
import Derived.Test.YtbjcimdflehfjaaVxL
import Derived.Test.YtbjcimdflehfjaaVtI
namespace Go.Proofs.Ytbjcimdflehfjaa.diskPlays
open Go.ChangeShapes Go.WideShapes Go.ChangeAt Go.RowKit Go.Vx
set_option linter.unusedVariables false
set_option maxRecDepth 100000
theorem own : ownKnob Try.prog.godebug = none := by kernel_rfl
theorem laidOut : laidOutB Try.prog = true := by kernel_rfl
theorem plain0 : plainT Try.prog 9 22 = true := by kernel_rfl
theorem reads : Try.f3.params.toList.all (fun t => Try.prog.readableRec t && decide (t < Try.prog.types.size)) = true := by kernel_rfl
theorem body : ∃ c, Try.f3.body = some c := ⟨_, rfl⟩

def Run : Prop := ∀ x0 : AV, Ty Try.prog 22 x0 → ∃ L d H', vcall (vlook Go.Vx.Ytbjcimdflehfjaa.tbl) L d 0 3 [x0] [] = some (.bool true, H')

theorem run : Run := by
  intro x0 h
  rcases h.slice_inv Try.underlying22 with rfl | ⟨es, rfl, hl, hes⟩
  · obtain ⟨H', h⟩ := Go.Vx.Ytbjcimdflehfjaa.run_ok (L := 2000000) (d := 0) (x0 := .nilsl) (es := []) (fun H => .nil) (fun x hx => by simp at hx) (by omega)
    exact ⟨_, _, H', h⟩
  · have hc : Try.prog.cellsOf 32 = 4 := by kernel_rfl
    have hc26 : Try.prog.cellsOf 5 = 1 := by kernel_rfl
    rw [hc]
    obtain ⟨H', h⟩ := Go.Vx.Ytbjcimdflehfjaa.run_ok (L := 2000000) (d := 0) (x0 := .sl 4 false es) (es := es) (fun H => .sl false es) (fun x hx => by
      obtain ⟨cs, rfl, hcs⟩ := (hes x hx).struct_inv Try.underlying32
      obtain ⟨a, r1, rfl, ha, h1⟩ := hcs.cons_inv
      obtain ⟨b, r2, rfl, hb, h2⟩ := h1.cons_inv
      obtain ⟨c, r3, rfl, hcc, h3⟩ := h2.cons_inv
      obtain ⟨d, r4, rfl, hd, h4⟩ := h3.cons_inv
      obtain rfl := h4.nil_inv
      obtain ⟨ka, rfl, wa⟩ := ha.int_inv Try.underlying3
      obtain ⟨kb, rfl, wb⟩ := hb.int_inv Try.underlying3
      obtain ⟨kc, rfl, wc⟩ := hcc.int_inv Try.underlying3
      obtain ⟨bs, _, hcell, hd⟩ := bytes_inv hd Try.underlying26 Try.underlying5 hc26
      rw [hcell]
      refine .mk ka kb kc d bs (fun H => ?_) (i64_bounds wc).2
      rcases hd with ⟨rfl, rfl⟩ | rfl
      · exact .nil
      · exact .sl false _) (by omega)
    exact ⟨_, _, H', h⟩

theorem contract (H : Type) (enc : TypeId × Value → H) (W : World) (base : Nat) (args : Array Value) (ds gs : List (DataW H)) (before : List MemPlace)
    (hval : ∀ (j : Nat) t v, Try.f3.params[j]? = some t → args[j]? = some v → Value.okWide Try.prog W .any base t v)
    (hW : DataW.Whole enc Try.prog Try.f3.params.toList Rows.diskPlaysSpec.vars false W args.toList ds gs before) :
    Calls Try.prog 3 args W fun e W' => ∃ v, e = .returned v ∧ Rows.diskPlaysSpec.post enc Try.prog Try.f3 false true false false W args v W' := by
  have hW' := hW
  obtain ⟨p, q, hA0, hV, rfl, hfz, hnd⟩ := hW
  have hA : DataW.TrodAll enc Try.prog W 0 (fun _ => true) true Try.f3.params.toList args.toList ds p := hA0
  rw [Try.params3] at hA hval
  obtain ⟨v0, vs0, d0, ds0, p0, q0, hargs, rfl, rfl, h0, r0⟩ := trodAll_cons hA
  obtain ⟨rfl, rfl, rfl⟩ := trodAll_nil r0
  obtain rfl : args = #[v0] := by cases args; simp_all
  obtain ⟨rfl, rfl⟩ := trodVars_none hV
  obtain ⟨x0, t0, k0⟩ := open_any (fun _ => 0) plain0 (hval 0 _ v0 rfl rfl) h0
  obtain ⟨L, d, H', hrun⟩ := run x0 t0
  obtain ⟨c, hb⟩ := body
  refine (law_calls (C := Try.checked) Go.Vx.Ytbjcimdflehfjaa.fits Try.func3 Go.Vx.Ytbjcimdflehfjaa.nm3 hb (VRL.push k0 VRL.nil) hrun).mono fun e W' ⟨he, hbl⟩ => ?_
  subst he
  exact ⟨_, rfl, post_below (pa := p0 ++ []) (pv := []) hW' (fun _ _ _ => trodAll_mk1 (shut_bool Try.underlying4 _))
    (fun sp hsp => args_back laidOut hbl (fun t ht => by have := List.all_eq_true.1 reads t ht; simpa using this) hA0 (fun x hx => by simpa using hW'.lt x (by simpa using hx)) sp (fun x hx => hsp x (by simpa using hx)))
    (fun _ _ => rfl) (by simp) hbl (ok_one (by kernel_rfl) rfl (okWide_bool_mk Try.underlying4 _))⟩

theorem lifted (os : Os) (started : os.Started) (H : Type) (enc : TypeId × Value → H) :
    ReturnsInHanded {} Try.checked os 3 .any (Rows.diskPlaysSpec.pre6 enc Try.prog Try.f3 Rows.diskPlaysRow.domain false) (Rows.diskPlaysSpec.post enc Try.prog Try.f3 false true false false) := by
  refine returnsInHanded_of_change (C := Try.checked) own started (by kernel_rfl) Try.func3
    (ChangeSpec.witness6 (enc := enc) (C := Try.checked) false ⟨#[], #[.slice none 0 0], []⟩ 8 (by kernel_rfl) (by kernel_rfl) (by kernel_rfl) (by kernel_rfl)) ?_
  intro W base args ds gs before hval hW _ _
  exact contract H enc W base args ds gs before hval hW

theorem holds : Rows.DiskPlaysSaid :=
  OpenClaim.holds_of_wide 3 Try.f3 rfl rfl rfl rfl rfl rfl rfl ⟨rfl, rfl, rfl, rfl, rfl⟩ rfl rfl rfl rfl rfl (by kernel_rfl) Try.func3 (by kernel_rfl)
    (of_decide_eq_true (by kernel_rfl)) (by unfold Func.isWrapper; rw [if_neg (of_decide_eq_false (by kernel_rfl))]; exact ⟨rfl, rfl⟩)
    (fun os started H enc _ => lifted os started H enc)
end Go.Proofs.Ytbjcimdflehfjaa.diskPlays
