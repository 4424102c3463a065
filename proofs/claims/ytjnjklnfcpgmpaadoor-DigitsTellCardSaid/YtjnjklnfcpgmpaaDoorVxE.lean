/- V: one operation within a region; regions in the text's order. -/
import Derived.Test.YtjnjklnfcpgmpaaDoorVxD
set_option linter.unusedVariables false
set_option linter.unusedSimpArgs false
namespace Go.Vx
variable {G : Nat → Obj → Prop}

section
variable {P : Program} {ρ : Nat → Nat} {H : Heap} {w : World} {e : Env} {a : Act} {nt : Nat}

theorem bool_inv {C : Cx} {x : AV} {b : Bool} (h : VR C x (.bool b)) : x = .bool b := by cases h; rfl

theorem ER.put_undef {C : Cx} (he : ER G C e a nt) (d : Option Nat) : ER G C (upd e d undefV) (a.put d undef) nt := by
  cases d with
  | none => exact he
  | some d =>
    refine ⟨by simpa [Act.put] using he.size, fun t => ?_, by simpa [Act.put] using he.defers, he.gl⟩
    by_cases h : t = d
    · subst h
      simp only [upd, Act.put, Nat.beq_refl, cond_true]
      have : (a.tmps.setIfInBounds t undef).getD t undef = undef := by
        simp only [Array.getD_eq_getD_getElem?, Array.getElem?_setIfInBounds]
        split
        · split <;> rfl
        · simp_all
      rw [this]
      exact vr_undef C
    · have hb : Nat.beq t d = false := by cases hh : Nat.beq t d with
        | false => rfl
        | true => exact absurd (Nat.eq_of_beq_eq_true hh) h
      simp only [upd, hb, cond_false, Act.put]
      have := he.val t
      simp only [Array.getD_eq_getD_getElem?] at this ⊢
      rw [Array.getElem?_setIfInBounds_ne (Ne.symm h)]
      exact this

theorem wanted_none {o : Oper} {f : Nat → Option Bool} (h : o.guard = none) : Region.wanted o f = true := by
  unfold Region.wanted; simp [h]
theorem wanted_some {o : Oper} {f : Nat → Option Bool} {g : Nat} {b : Bool} (h : o.guard = some (g, b)) : Region.wanted o f = (f g == some b) := by
  unfold Region.wanted; simp [h]

theorem yielded_some {ops : Array Oper} {ts : Array Value} {g t : Nat} (h : (ops[g]?).bind (·.dst) = some t) : yielded ops ts g = match ts.getD t undef with | .bool b => some b | _ => none := by
  unfold yielded
  rw [h]
  simp only [Option.bind_some, Array.getD_eq_getD_getElem?]
  cases ts[t]? with
  | none => rfl
  | some v => cases v <;> rfl
theorem yielded_none {ops : Array Oper} {ts : Array Value} {g : Nat} (h : (ops[g]?).bind (·.dst) = none) : yielded ops ts g = none := by
  unfold yielded
  rw [h]
  rfl

theorem guard_ok {C : Cx} {ops : Array Oper} {o : Oper} (he : ER G C e a nt) :
    Region.wanted o (yielded ops a.tmps) = wantedV e (match o.guard with | some (g, w) => some ((((ops[g]?).bind (·.dst)).getD 0), w) | none => none) ∨
    (Region.wanted o (yielded ops a.tmps) = false ∧ ∃ g b, o.guard = some (g, b) ∧ (ops[g]?).bind (·.dst) = none) := by
  cases hg : o.guard with
  | none => left; rw [wanted_none hg]; rfl
  | some gb =>
    obtain ⟨g, b⟩ := gb
    rw [wanted_some hg]
    cases ht : (ops[g]?).bind (·.dst) with
    | none => right; exact ⟨by rw [yielded_none ht]; rfl, g, b, rfl, ht⟩
    | some t =>
      left
      rw [yielded_some ht]
      simp only [ht, Option.getD_some, wantedV]
      have hv := he.val t
      generalize a.tmps.getD t undef = u at hv
      generalize e t = x at hv
      cases hv <;> simp

/-- One operation of a region. -/
theorem step_ok {call : Nat → CallF} (hG : Good P G call) {fl : Nat} {pol : Pol} {reg : Nat} {ops : Array Oper} {i : Nat} {o : Oper} (hi : ops[i]? = some o) (hS : Sim ρ H w) (he : ER G (cx ρ H w) e a nt) {v : AV} {H' : Heap}
    (hv : stepV (asPure call) (call fl) fl (cOper P pol reg nt ops o) e H = some (v, H')) {Q : Exit → Act → World → Prop} {K : Act → World → Prop}
    (hK : ∀ ρ' a' w', Tr fl ρ H w ρ' H' w' → Sim ρ' H' w' → ER G (cx ρ' H' w') (upd e o.dst v) a' nt → K a' w') : wpOp P ops Q i K a w := by
  unfold wpOp
  simp only [hi]
  simp only [stepV] at hv
  by_cases hw : Region.wanted o (yielded ops a.tmps) = true
  · rw [if_pos hw]
    left
    have hwv : wantedV e (cOper P pol reg nt ops o).guard = true := by
      rcases guard_ok (ops := ops) (o := o) he with h | ⟨h, _⟩
      · rw [h] at hw; exact hw
      · rw [h] at hw; cases hw
    rw [if_pos hwv] at hv
    have hok : (match o.dst with | some d => decide (d < nt) | none => true) = true ∧ vop (asPure call) (call fl) fl e H (cOp P pol reg o.op) = some (v, H') := by
      have hop : (cOper P pol reg nt ops o).op = if ((match o.dst with | some d => decide (d < nt) | none => true) && (match o.guard with | some (g, _) => ((ops[g]?).bind (·.dst)).isSome | none => true)) = true then cOp P pol reg o.op else badOp := rfl
      rw [hop] at hv
      by_cases hb : ((match o.dst with | some d => decide (d < nt) | none => true) && (match o.guard with | some (g, _) => ((ops[g]?).bind (·.dst)).isSome | none => true)) = true
      · rw [if_pos hb] at hv
        simp only [Bool.and_eq_true] at hb
        exact ⟨hb.1, hv⟩
      · rw [if_neg hb] at hv
        simp [badOp, vop, wop] at hv
    obtain ⟨hd, hv⟩ := hok
    have hd' : ∀ t, o.dst = some t → t < nt := fun t ht => by rw [ht] at hd; simpa using hd
    unfold Oper.wp
    rcases op_ok hG hS he hv with ⟨x, w', ρ', hr, hT, hS', hx⟩ | ⟨f, vs, hr, hC⟩
    · rcases hr with hr | ⟨hr, rfl⟩
      · rw [hr]; exact hK ρ' _ w' hT hS' ((he.mono hT.le).put hd' hx)
      · rw [hr]; exact hK ρ' _ w' hT hS' ((he.mono hT.le).put hd' hx)
    · rw [hr]
      refine Calls.mono hC fun en w' hen => ?_
      cases en with
      | returned u =>
        obtain ⟨ρ', hT, hS', hx⟩ := hen
        exact hK ρ' _ w' hT hS' ((he.mono hT.le).put hd' hx)
      | panicked c => exact hen.elim
      | outgrown => exact hen.elim
  · rw [if_neg hw]
    have hsk : v = undefV ∧ H' = H := by
      by_cases hwv : wantedV e (cOper P pol reg nt ops o).guard = true
      · rw [if_pos hwv] at hv
        rcases guard_ok (ops := ops) (o := o) he with h | ⟨h, g, b, hg, hn⟩
        · exact absurd (h.trans hwv) hw
        · exfalso
          simp [cOper, hg, hn, badOp, vop, wop] at hv
      · rw [if_neg hwv] at hv
        simp only [Option.some.injEq, Prod.mk.injEq] at hv
        exact ⟨hv.1.symm, hv.2.symm⟩
    obtain ⟨rfl, rfl⟩ := hsk
    exact hK ρ _ w (Tr.refl ..) hS (he.put_undef _)

theorem ops_ok {call : Nat → CallF} (hG : Good P G call) {fl : Nat} {pol : Pol} {reg : Nat} {ops : Array Oper} {Q : Exit → Act → World → Prop} {e' : Env} {H' : Heap} : ∀ (os : List Oper) (l : List Nat) (ρ : Nat → Nat) (H : Heap) (w : World) (e : Env) (a : Act),
    l.map (ops[·]?) = os.map some → Sim ρ H w → ER G (cx ρ H w) e a nt → vops (asPure call) (call fl) fl (os.map (cOper P pol reg nt ops)) e H = some (e', H') →
    (∀ ρ' a' w', Tr fl ρ H w ρ' H' w' → Sim ρ' H' w' → ER G (cx ρ' H' w') e' a' nt → Q .normal a' w') → wpOps P ops Q l a w := by
  intro os
  induction os with
  | nil =>
    intro l ρ H w e a hl hS he hv hQ
    have : l = [] := by simpa using hl
    subst this
    simp only [List.map_nil, vops, Option.some.injEq, Prod.mk.injEq] at hv
    obtain ⟨rfl, rfl⟩ := hv
    exact hQ ρ a w (Tr.refl ..) hS he
  | cons o os ih =>
    intro l ρ H w e a hl hS he hv hQ
    cases l with
    | nil => simp at hl
    | cons i l =>
      simp only [List.map_cons, List.cons.injEq] at hl
      obtain ⟨hi, hl⟩ := hl
      simp only [List.map_cons, vops, Option.bind_eq_some_iff] at hv
      obtain ⟨⟨v, H1⟩, h1, h2⟩ := hv
      rw [wpOps_cons]
      refine step_ok hG hi hS he h1 fun ρ' a' w' hT hS' he' => ?_
      exact ih l ρ' H1 w' _ a' hl hS' he' h2 fun ρ'' a'' w'' hT' hS'' he'' => hQ ρ'' a'' w'' (hT.trans hT') hS'' he''

theorem range_ops (ops : Array Oper) : (List.range ops.size).map (ops[·]?) = ops.toList.map some := by
  apply List.ext_getElem?
  intro i
  rw [List.getElem?_map, List.getElem?_map]
  rcases Nat.lt_or_ge i ops.size with h | h
  · rw [List.getElem?_range h]; simp [Array.getElem?_eq_getElem h]
  · simp [h]

end
end Go.Vx
