/- V: functions of Go's library by their contracts: what V says of them is what they do. -/
import Derived.Test.YtbainicckdjoaaaGreatDoorVxJ
import Derived.Test.YtbainicckdjoaaaGreatDoorVxK
import Derived.Test.YtbainicckdjoaaaGreatDoorVxExt
set_option linter.unusedVariables false
namespace Go.Vx
open Go.RowKit

theorem tr_below {fl : Nat} {ρ : Nat → Nat} {H : Heap} {w w' : World} (hS : Sim ρ H w) (h : Below w.heap.size w w') : Tr fl ρ H w ρ H w' ∧ Sim ρ H w' := by
  have hT : Tr fl ρ H w ρ H w' := ⟨h.os, h.tape, h.output, h.size, Nat.le_refl _, fun _ _ => rfl, fun r hr hn => ⟨h.block r hr, hn⟩,
    fun r arr t fr hr => ⟨arr, t, fr, (h.block r (Array.getElem?_eq_some_iff.1 hr).1).trans hr, Nat.le_refl _⟩, fun b _ _ => ⟨rfl, fun hl => h.block _ (hS.lt b hl)⟩⟩
  refine ⟨hT, fun b o hb => ?_, hS.inj, fun b hb => Nat.lt_of_lt_of_le (hS.lt b hb) h.size⟩
  cases hd : o.isDead with
  | true => cases o <;> first | exact .dead _ | simp [AO.isDead] at hd
  | false => exact (hS.obj b o hb).mono hT.le (h.block _ (hS.lt b ⟨o, hb, hd⟩))

theorem vrl_two {C : Cx} {a b : AV} {vs : Array Value} (h : VRL C [a, b] vs) : ∃ u v, vs = #[u, v] ∧ VR C a u ∧ VR C b v := by
  obtain ⟨h1, h2⟩ := h
  have hs : vs.size = 2 := h1
  refine ⟨vs.getD 0 undef, vs.getD 1 undef, ?_, h2 0 a rfl, h2 1 b rfl⟩
  apply Array.ext
  · simp [hs]
  · intro i hi hi'
    have : i = 0 ∨ i = 1 := by omega
    rcases this with rfl | rfl <;> simp [Array.getD, hs]

section
variable {P : Program} {f : Nat} {fn : Func} {c : Code}
theorem upon_calls (hf : P.funcs[f]? = some fn) (hn : (fn.name == "runtime.NumGoroutine") = false) (hb : fn.body = some c) {vs : Array Value} {w : World} {K : Value → World → Prop}
    (h : Calls P f vs w fun e w' => ∃ u, e = .returned u ∧ K u w') : Upon P f vs w K := by
  refine .inr ⟨run_callFunc_code hf hn hb vs w, h.mono fun e w' he => ?_⟩
  obtain ⟨u, rfl, hk⟩ := he
  exact hk
theorem fit_indexByte (hf : P.funcs[f]? = some fn) (hn : (fn.name == "runtime.NumGoroutine") = false) (hb : fn.body = some c)
    (hc : ∀ (s : ByteArray) (c : Int) (w : World), Calls P f #[.string s, .int .u8 c] w fun e w' => e = .returned (.int .i64 (Lib.indexByte s.data.toList c.toNat.toUInt8)) ∧ w' = w) : Fit1 P f (.ext indexByteV) := by
  intro fl args vs ρ H w v hS hA hg
  unfold indexByteV at hg
  split at hg
  · cases hg
    obtain ⟨u, v, rfl, hu, hv⟩ := vrl_two hA
    cases hu; cases hv
    refine upon_calls hf hn hb ((hc _ _ w).mono fun e w' ⟨he, hw⟩ => ?_)
    subst he; subst hw
    exact ⟨_, rfl, ρ, Tr.refl .., hS, .int _ _⟩
  · cases hg
theorem fit_repeat (hf : P.funcs[f]? = some fn) (hn : (fn.name == "runtime.NumGoroutine") = false) (hb : fn.body = some c)
    (hc : ∀ (s : ByteArray) (c : Nat) (w : World), c ≤ 9223372036854775807 → s.size * c ≤ 140737488355328 → Calls P f #[.string s, .int .i64 c] w fun e w' => e = .returned (.string ⟨(Lib.repeatL s.data.toList c).toArray⟩) ∧ Below w.heap.size w w') : Fit1 P f (.ext repeatV) := by
  intro fl args vs ρ H w v hS hA hg
  unfold repeatV at hg
  split at hg
  · rename_i s n
    split at hg
    · rename_i hcond
      cases hg
      obtain ⟨u, v, rfl, hu, hv⟩ := vrl_two hA
      cases hu; cases hv
      obtain ⟨h0, h1, h2⟩ := hcond
      obtain ⟨m, rfl⟩ : ∃ m : Nat, n = m := ⟨n.toNat, by omega⟩
      refine upon_calls hf hn hb ((hc ⟨s.toArray⟩ m w (by omega) (by simpa [ByteArray.size] using h2)).mono fun e w' ⟨he, hw⟩ => ?_)
      subst he
      obtain ⟨k1, k2⟩ := tr_below (fl := fl) hS hw
      exact ⟨_, rfl, ρ, k1, k2, .str _⟩
    · cases hg
  · cases hg
end

end Go.Vx
