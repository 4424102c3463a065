/- V: functions of Go's library by their contracts: what V says of them is what they do. -/
import Derived.Test.YtjnjklnfcpgmpaaDoorVxJ
import Derived.Test.YtjnjklnfcpgmpaaDoorVxK
import Derived.Test.YtjnjklnfcpgmpaaDoorVxExt
import Derived.Lib.LaidTab
import Derived.Lib.ItoaMem
import Derived.Lib.Itoa
set_option linter.unusedVariables false
namespace Go.Vx
open Go.RowKit
variable {G : Nat → Obj → Prop}

theorem tr_below {fl : Nat} {ρ : Nat → Nat} {H : Heap} {w w' : World} (hS : Sim ρ H w) (h : Below w.heap.size w w') : Tr fl ρ H w ρ H w' ∧ Sim ρ H w' := by
  have hT : Tr fl ρ H w ρ H w' := ⟨h.os, h.tape, h.output, h.size, Nat.le_refl _, fun _ _ => rfl, fun r hr hn => ⟨h.block r hr, hn⟩,
    fun r arr t fr hr => ⟨arr, t, fr, (h.block r (Array.getElem?_eq_some_iff.1 hr).1).trans hr, Nat.le_refl _⟩, fun b _ _ => ⟨rfl, fun hl => h.block _ (hS.lt b hl)⟩⟩
  refine ⟨hT, fun b o hb => ?_, hS.inj, fun b hb => Nat.lt_of_lt_of_le (hS.lt b hb) h.size⟩
  cases hd : o.isDead with
  | true => cases o <;> first | exact .dead _ | simp [AO.isDead] at hd
  | false => exact (hS.obj b o hb).mono hT.le (h.block _ (hS.lt b ⟨o, hb, hd⟩))

theorem vrl_two {C : Cx} {a b : AV} {vs : Array Value} (h : VRL C [a, b] vs) : ∃ u v, vs = #[u, v] ∧ VR C a u ∧ VR C b v := by
  obtain ⟨h1, h2⟩ := h
  have hs : vs.size = 2 := h1
  refine ⟨vs.getD 0 undef, vs.getD 1 undef, ?_, h2 0 a rfl, h2 1 b rfl⟩
  apply Array.ext
  · simp [hs]
  · intro i hi hi'
    have : i = 0 ∨ i = 1 := by omega
    rcases this with rfl | rfl <;> simp [Array.getD, hs]

section
variable {P : Program} {f : Nat} {fn : Func} {c : Code}
theorem upon_calls (hf : P.funcs[f]? = some fn) (hn : (fn.name == "runtime.NumGoroutine") = false) (hb : fn.body = some c) {vs : Array Value} {w : World} {K : Value → World → Prop}
    (h : Calls P f vs w fun e w' => ∃ u, e = .returned u ∧ K u w') : Upon P f vs w K := by
  refine .inr ⟨run_callFunc_code hf hn hb vs w, h.mono fun e w' he => ?_⟩
  obtain ⟨u, rfl, hk⟩ := he
  exact hk
theorem fit_indexByte (hf : P.funcs[f]? = some fn) (hn : (fn.name == "runtime.NumGoroutine") = false) (hb : fn.body = some c)
    (hc : ∀ (s : ByteArray) (c : Int) (w : World), Calls P f #[.string s, .int .u8 c] w fun e w' => e = .returned (.int .i64 (Lib.indexByte s.data.toList c.toNat.toUInt8)) ∧ w' = w) : Fit1 P G f (.ext indexByteV) := by
  intro fl args vs ρ H w v hS hgl hA hg
  unfold indexByteV at hg
  split at hg
  · cases hg
    obtain ⟨u, v, rfl, hu, hv⟩ := vrl_two hA
    cases hu; cases hv
    refine upon_calls hf hn hb ((hc _ _ w).mono fun e w' ⟨he, hw⟩ => ?_)
    subst he; subst hw
    exact ⟨_, rfl, ρ, Tr.refl .., hS, .int _ _⟩
  · cases hg
theorem fit_repeat (hf : P.funcs[f]? = some fn) (hn : (fn.name == "runtime.NumGoroutine") = false) (hb : fn.body = some c)
    (hc : ∀ (s : ByteArray) (c : Nat) (w : World), c ≤ 9223372036854775807 → s.size * c ≤ 140737488355328 → Calls P f #[.string s, .int .i64 c] w fun e w' => e = .returned (.string ⟨(Lib.repeatL s.data.toList c).toArray⟩) ∧ Below w.heap.size w w') : Fit1 P G f (.ext repeatV) := by
  intro fl args vs ρ H w v hS hgl hA hg
  unfold repeatV at hg
  split at hg
  · rename_i s n
    split at hg
    · rename_i hcond
      cases hg
      obtain ⟨u, v, rfl, hu, hv⟩ := vrl_two hA
      cases hu; cases hv
      obtain ⟨h0, h1, h2⟩ := hcond
      obtain ⟨m, rfl⟩ : ∃ m : Nat, n = m := ⟨n.toNat, by omega⟩
      refine upon_calls hf hn hb ((hc ⟨s.toArray⟩ m w (by omega) (by simpa [ByteArray.size] using h2)).mono fun e w' ⟨he, hw⟩ => ?_)
      subst he
      obtain ⟨k1, k2⟩ := tr_below (fl := fl) hS hw
      exact ⟨_, rfl, ρ, k1, k2, .str _⟩
    · cases hg
  · cases hg
end


/-! ### strconv.FormatUint: it reads a table that start-up code lays -/
theorem below_grow (w : World) (k : Nat) (os : Array Obj) : Below w.heap.size w (Go.Sort.grow (w.drewN k) os) :=
  ⟨rfl, rfl, rfl, by first | (simp [Go.Sort.grow]; done) | (simp [Go.Sort.grow]; omega), fun i hi => by
    show ((w.drewN k).heap ++ os)[i]? = _
    rw [Array.getElem?_append_left (by show i < w.heap.size; omega)]
    rfl⟩
def one1G (g : Nat) (W : World) : Nat → Obj → Prop := fun r o => r = g ∧ W.heap[r]? = some o
theorem fit_formatUint {P : Program} {f : Nat} {fn : Func} {c : Code} (hf : P.funcs[f]? = some fn) (hn : (fn.name == "runtime.NumGoroutine") = false) (hb : fn.body = some c) {W : World} {g : Nat} (hgn : P.globalNamed "internal/strconv.uint64pow10" = some g)
    (hT : Lib.TabIs P W "internal/strconv.uint64pow10" .u64 Lib.pow10Tab)
    (hc : ∀ (u : Nat) (_ : u < 18446744073709551616) (w : World), Lib.TabIs P w "internal/strconv.uint64pow10" .u64 Lib.pow10Tab → Calls P f #[.int .u64 u, .int .i64 10] w fun e w' => e = .returned (.string ⟨(Lib.decDigits u).toArray⟩) ∧ ∃ k os, w' = Go.Sort.grow (w.drewN k) os) :
    Fit1 P (one1G g W) f (.ext formatUintV) := by
  intro fl args vs ρ H w v hS hgl hA hg
  unfold formatUintV at hg
  split at hg
  · rename_i a b
    unfold fmtU at hg
    split at hg
    · rename_i k n k' b
      by_cases hcond : k = .u64 ∧ k' = .i64 ∧ b = 10 ∧ 0 ≤ n ∧ n < 18446744073709551616
      case neg => rw [if_neg hcond] at hg; cases hg
      rw [if_pos hcond] at hg
      obtain ⟨rfl, rfl, rfl, h0, h1⟩ := hcond
      cases hg
      obtain ⟨u, v, rfl, hu, hv⟩ := vrl_two hA
      cases hu; cases hv
      obtain ⟨m, rfl⟩ : ∃ m : Nat, n = m := ⟨n.toNat, by omega⟩
      have hm : m < 18446744073709551616 := by omega
      have hw : Lib.TabIs P w "internal/strconv.uint64pow10" .u64 Lib.pow10Tab := by
        unfold Lib.TabIs World.var? at hT ⊢
        rw [hgn] at hT ⊢
        simp only [Option.bind_some] at hT ⊢
        cases ho : W.heap[g]? with
        | none => rw [ho] at hT; cases hT
        | some o =>
          rw [ho] at hT
          have := (hgl g o ⟨rfl, ho⟩).1
          rw [this]; exact hT
      refine upon_calls hf hn hb ((hc m hm w hw).mono fun e w' ⟨he, k, os, hw'⟩ => ?_)
      subst he
      obtain ⟨k1, k2⟩ := tr_below (fl := fl) hS (w' := w') (by rw [hw']; exact below_grow w k os)
      refine ⟨_, rfl, ρ, k1, k2, ?_⟩
      rw [Int.toNat_natCast, decD_eq 19 m (by omega)]
      exact .str _
    · cases hg
  · cases hg
/-- A table among the listed variables: behind some others. -/
theorem laid_tail {P : Program} {p : String × DataW Unit} {r : List (String × DataW Unit)} {W : World} (h : ∃ ps, DataW.LaidVars P W (p :: r) ps) : ∃ ps, DataW.LaidVars P W r ps := by
  obtain ⟨ps, g, t, cs, fuel, p', q, _, _, _, _, h2, _⟩ := h
  exact ⟨q, h2⟩
theorem tabIs_head {P : Program} {W : World} {name : String} {k : IntKind} {zs : List Int} {rest : List (String × DataW Unit)} {g : Nat} {t e : TypeId} {n : Nat}
    (hg : P.globalNamed name = some g) (hty : (P.globals[g]?).map (·.type) = some t) (ht : P.underlying t = some (.array n e)) (he : P.underlying e = some (.int k)) (hce : P.cellsOf e = 1) (hct : P.cellsOf t = n)
    (h : ∃ ps, DataW.LaidVars P W ((name, Lib.tabData k zs) :: rest) ps) : Lib.TabIs P W name k zs := by
  obtain ⟨ps, g', t', cs, fuel, p, q, hg', ht', hvar, hd, _, _⟩ := h
  obtain rfl := Option.some.inj (hg.symm.trans hg')
  obtain rfl := Option.some.inj (hty.symm.trans ht')
  unfold Lib.TabIs
  rw [hvar, ← Lib.cells_of_tab ht he hce hct hd]
end Go.Vx
