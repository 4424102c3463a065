/- V: every operation. -/
import Derived.Test.YtjnjklnfcpgmpaaDoorVxC
set_option linter.unusedVariables false
set_option linter.unusedSimpArgs false
namespace Go.Vx
variable {G : Nat → Obj → Prop}

section
variable {P : Program} {pol : Pol} {reg : Nat}

/-- Which operations V takes for readers. -/
theorem cOp_r {op : Op} {vo : ROp} (h : cOp P pol reg op = .r vo) : (∃ t a, op = .load t a) ∨ (∃ s d x, op = .convert s d x) ∨ (∃ c, op = .call c) := by
  cases op
  case load t a => exact .inl ⟨t, a, rfl⟩
  case convert s d x => exact .inr (.inl ⟨s, d, x, rfl⟩)
  case call c => exact .inr (.inr ⟨c, rfl⟩)
  case slice t x lo hi mx =>
    exfalso
    cases mx with
    | some m => simp [cOp, orBad, badOp] at h
    | none =>
      simp only [cOp] at h
      have h := orBad_r h
      simp only [Option.bind_eq_bind, Option.bind_eq_some_iff] at h
      repeat' (first | contradiction | (obtain ⟨_, _, h⟩ := h) | split at h)
      all_goals first | contradiction | (simp [Option.bind_eq_some_iff] at h; done)
  case makeFunc fn fs cs =>
    exfalso
    cases fn with
    | func f =>
      simp only [cOp] at h
      have h := orBad_r h
      simp only [Option.bind_eq_bind, Option.bind_eq_some_iff] at h
      repeat' (first | contradiction | (obtain ⟨_, _, h⟩ := h) | split at h)
    | _ => simp [cOp, orBad, badOp] at h
  all_goals
    exfalso
    first
      | (simp [cOp, orBad, badOp] at h; done)
      | (simp only [cOp] at h
         have h := orBad_r h
         simp only [Option.bind_eq_bind, Option.bind_eq_some_iff] at h
         repeat' (first | contradiction | (obtain ⟨_, _, h⟩ := h) | split at h)
         all_goals first | contradiction | (simp [Option.bind_eq_some_iff] at h; done))

theorem cOp_w {op : Op} {vo : WOp} (h : cOp P pol reg op = .w vo) (hnb : vo ≠ .bad) : (∃ t, op = .alloc t) ∨ (∃ t x, op = .box t x) ∨ (∃ t n ps, op = .buildSlice t n ps) ∨ (∃ t a x, op = .store t a x) ∨
    (∃ t l c, op = .makeSlice t l c) ∨ (∃ s d x, op = .convert s d x) ∨ (∃ c, op = .call c) := by
  cases op
  case alloc t => exact .inl ⟨t, rfl⟩
  case box t x => exact .inr (.inl ⟨t, x, rfl⟩)
  case buildSlice t n ps => exact .inr (.inr (.inl ⟨t, n, ps, rfl⟩))
  case store t a x => exact .inr (.inr (.inr (.inl ⟨t, a, x, rfl⟩)))
  case makeSlice t l c => exact .inr (.inr (.inr (.inr (.inl ⟨t, l, c, rfl⟩))))
  case convert s d x => exact .inr (.inr (.inr (.inr (.inr (.inl ⟨s, d, x, rfl⟩)))))
  case call c => exact .inr (.inr (.inr (.inr (.inr (.inr ⟨c, rfl⟩)))))
  case slice t x lo hi mx =>
    exfalso
    cases mx with
    | some m => simp [cOp, orBad, badOp] at h; exact hnb h.symm
    | none =>
      simp only [cOp] at h
      have h := orBad_w h hnb
      simp only [Option.bind_eq_bind, Option.bind_eq_some_iff] at h
      repeat' (first | contradiction | (obtain ⟨_, _, h⟩ := h) | split at h)
      all_goals first | contradiction | (simp [Option.bind_eq_some_iff] at h; done)
  case makeFunc fn fs cs =>
    exfalso
    cases fn with
    | func f =>
      simp only [cOp] at h
      have h := orBad_w h hnb
      simp only [Option.bind_eq_bind, Option.bind_eq_some_iff] at h
      repeat' (first | contradiction | (obtain ⟨_, _, h⟩ := h) | split at h)
    | _ => simp [cOp, orBad, badOp] at h; exact hnb h.symm
  all_goals
    exfalso
    first
      | (simp [cOp, orBad, badOp] at h; exact hnb h.symm)
      | (simp only [cOp] at h
         have h := orBad_w h hnb
         simp only [Option.bind_eq_bind, Option.bind_eq_some_iff] at h
         repeat' (first | contradiction | (obtain ⟨_, _, h⟩ := h) | split at h)
         all_goals first | contradiction | (simp [Option.bind_eq_some_iff] at h; done))
end

section
variable {P : Program} {ρ : Nat → Nat} {H : Heap} {w : World} {e : Env} {a : Act} {nt : Nat}

theorem exec_value {o : Oper} {c : Call} {f : Operand} {g : Nat} {first captured : Array Value} (ho : o.op = .call c) (hb : c.callee = .value f) (hf : a.eval f = .func (.func g) first captured) :
    execOp a.eval o = callFunc g (first ++ c.args.map a.eval ++ captured) := by
  simp only [execOp, ho, resolve, hb, hf, Deferred.ofValue, pure_bind, invoke]

/-- What an operation does: at once, or by a call. -/
def OpDoes (P : Program) (fl : Nat) (ρ : Nat → Nat) (H : Heap) (w : World) (r : Result Next) (v : AV) (H' : Heap) : Prop :=
  Does fl ρ H w r v H' ∨ ∃ f vs, r = .ok (.enter f vs) w ∧ Calls P f vs w fun | .returned u, w' => ∃ ρ', Tr fl ρ H w ρ' H' w' ∧ Sim ρ' H' w' ∧ VR (cx ρ' H' w') v u | _, _ => False

theorem Upon.does {fl : Nat} {f : Nat} {vs : Array Value} {v : AV} {H' : Heap} (h : Upon P f vs w fun u w' => ∃ ρ', Tr fl ρ H w ρ' H' w' ∧ Sim ρ' H' w' ∧ VR (cx ρ' H' w') v u) :
    OpDoes P fl ρ H w ((callFunc f vs).run P w) v H' := by
  rcases h with ⟨u, w', h1, ρ', h2, h3, h4⟩ | ⟨h1, h2⟩
  · exact .inl ⟨u, w', ρ', .inl h1, h2, h3, h4⟩
  · exact .inr ⟨f, vs, h1, h2⟩

theorem mapped {xs : Array Operand} {ys : List Opd} (he : ER G (cx ρ H w) e a nt) (h : xs.toList.mapM cOpd = some ys) : VRL (cx ρ H w) (ys.map (·.ev e)) (xs.map a.eval) := by
  obtain ⟨h1, h2⟩ := cOpds_ok he h
  refine ⟨by rw [h1]; simp, fun j c hj => ?_⟩
  have := h2 j c hj
  have k : (xs.toList.map a.eval).getD j undef = (xs.map a.eval).getD j undef := by
    simp [Array.getD_eq_getD_getElem?, List.getD_eq_getElem?_getD]
  rw [← k]; exact this

theorem fnArgs {x : Opd} {u : Value} {g : Nat} {first captured : List AV} (hx : VR (cx ρ H w) (x.ev e) u) (hf : x.ev e = .fn g first captured) : ∃ fs cs, u = .func (.func g) fs cs ∧ VRL (cx ρ H w) first fs ∧ VRL (cx ρ H w) captured cs := by
  rw [hf] at hx
  cases hx with
  | fn f as bs vs ws h1 h2 ha hb => exact ⟨vs, ws, rfl, ⟨h1, ha⟩, ⟨h2, hb⟩⟩

theorem call_does {fl : Nat} {o : Oper} {c : Call} {f : Operand} {f' : Opd} {args : List Opd} (ho : o.op = .call c) (hb : c.callee = .value f) (he : ER G (cx ρ H w) e a nt) (hargs : c.args.toList.mapM cOpd = some args) (hf : cOpd f = some f')
    {g : Nat} {first captured : List AV} (hfe : f'.ev e = .fn g first captured) {v : AV} {H' : Heap}
    (h : ∀ vs, VRL (cx ρ H w) (first ++ args.map (·.ev e) ++ captured) vs → Upon P g vs w fun u w' => ∃ ρ', Tr fl ρ H w ρ' H' w' ∧ Sim ρ' H' w' ∧ VR (cx ρ' H' w') v u) :
    OpDoes P fl ρ H w ((execOp a.eval o).run P w) v H' := by
  obtain ⟨fs, cs, hu, h1, h2⟩ := fnArgs (cOpd_ok he hf) hfe
  rw [exec_value ho hb hu]
  exact (h _ ((h1.append (mapped he hargs)).append h2)).does

/-- Every operation does what V says. -/
theorem op_ok {call : Nat → CallF} (hG : Good P G call) {fl : Nat} {pol : Pol} {reg : Nat} {o : Oper} (hS : Sim ρ H w) (he : ER G (cx ρ H w) e a nt) {v : AV} {H' : Heap}
    (hv : vop (asPure call) (call fl) fl e H (cOp P pol reg o.op) = some (v, H')) : OpDoes P fl ρ H w ((execOp a.eval o).run P w) v H' := by
  cases hc : cOp P pol reg o.op with
  | p vo =>
    rw [hc] at hv
    simp only [vop, Option.map_eq_some_iff, Prod.mk.injEq] at hv
    obtain ⟨v1, hv, rfl, rfl⟩ := hv
    refine .inl ?_
    cases ho : o.op
    case move x => exact (p_move (.inl ho) he hc hv).does hS
    case assign x => exact (p_move (.inr ho) he hc hv).does hS
    case pick c x y => exact (p_pick ho he hc hv).does hS
    case nilCheck x => exact (p_nilck ho he hc hv).does hS
    case unOp op t x => exact (p_un ho he hc hv).does hS
    case makeFunc fn fs cs => exact (p_mkfn ho he hc hv).does hS
    case extract x i => exact (p_ext ho he hc hv).does hS
    case fieldAddr s x i => exact (p_fieldAddr ho he hc hv).does hS
    case field s x i => exact (p_field ho he hc hv).does hS
    case indexAddr t x i => exact (p_indexAddr ho he hc hv).does hS
    case index t x i => exact (p_index ho he hc hv).does hS
    case slice t x lo hi mx => exact (p_slice ho he hc hv).does hS
    case binOp op t x y yt => exact (p_binOp ho he hc hv).does hS
    case convert src dst x => exact (p_convert ho he hc hv).does hS
    case build t parts => exact (p_build ho he hc hv).does hS
    case call c => exact (p_call ho he hc hv).does hS
    case buildSlice t len parts => exact p_buildSlice ho hS he hc hv
    all_goals
      exfalso
      rw [ho] at hc
      first
        | (simp [cOp, orBad, badOp] at hc; done)
        | (simp only [cOp] at hc
           have h := orBad_p hc
           simp only [Option.bind_eq_bind, Option.bind_eq_some_iff] at h
           repeat' (first | contradiction | (obtain ⟨_, _, h⟩ := h) | split at h)
           all_goals first | contradiction | (simp [Option.bind_eq_some_iff] at h; done))
  | r vo =>
    rw [hc] at hv
    simp only [vop, Option.map_eq_some_iff, Prod.mk.injEq] at hv
    obtain ⟨v1, hv, rfl, rfl⟩ := hv
    rcases cOp_r hc with ⟨t, x, ho⟩ | ⟨src, dst, x, ho⟩ | ⟨c, ho⟩
    · exact .inl ((r_load ho hS he hc hv).does hS)
    · refine .inl (Pu.does (P := P) hS ?_)
      rw [ho] at hc
      simp only [cOp] at hc
      obtain ⟨x', hx, h⟩ := some_bind (orBad_r hc)
      split at h
      · simp at h
      · simp at h
      · split at h <;> simp at h
      · split at h <;> simp at h
      · rename_i et h1 h2
        split at h
        · rename_i h3
          simp at h; subst h
          have := (r_bytesStr (P := P) h1 h2 h3 hS (cOpd_ok he hx) hv).pu
          simpa only [execOp, ho] using this
        · simp at h
      · simp at h
    · cases hb : c.callee with
      | value f =>
        rw [ho] at hc
        simp only [cOp, hb] at hc
        obtain ⟨args, hargs, h⟩ := some_bind (orBad_r hc)
        obtain ⟨f', hf, h⟩ := some_bind h
        have key : vo = .pcall f' args := by
          split at h
          · split at h <;> simp at h
            exact h.symm
          · split at h <;> simp at h
            exact h.symm
        subst key
        simp only [rop] at hv
        split at hv
        · rename_i g first captured hfe
          exact call_does ho hb he hargs hf hfe fun vs hvs => asPure_ok hG hS he.gl hvs hv
        · cases hv
      | invoke r m =>
        rw [ho] at hc
        simp only [cOp, hb] at hc
        obtain ⟨args, hargs, h⟩ := some_bind (orBad_r hc)
        cases h
      | builtin b =>
        by_cases hba : b = .append
        · subst hba
          exact .inl (r_clone ho hb hS he hc hv)
        · exfalso
          rw [ho] at hc
          simp only [cOp, hb] at hc
          obtain ⟨args, hargs, h⟩ := some_bind (orBad_r hc)
          obtain ⟨t, ht, h⟩ := some_bind h
          split at h
          all_goals first
            | exact absurd rfl hba
            | (simp at h; done)
            | (split at h <;> simp at h; done)
            | (obtain ⟨_, _, h⟩ := some_bind h; simp at h; done)
  | w vo =>
    rw [hc] at hv
    simp only [vop] at hv
    have hnb : vo ≠ .bad := by rintro rfl; simp [wop] at hv
    rcases cOp_w hc hnb with ⟨t, ho⟩ | ⟨t, x, ho⟩ | ⟨t, n, ps, ho⟩ | ⟨t, ad, x, ho⟩ | ⟨t, l, c, ho⟩ | ⟨src, dst, x, ho⟩ | ⟨c, ho⟩
    · exact .inl (w_alloc ho hS hc hv)
    · exact .inl (w_box ho hS he hc hv)
    · exact .inl (litMut_ok ho hS he hc hv)
    · exact .inl (w_store ho hS he hc hv)
    · exact .inl (w_mksl ho hS he hc hv)
    · exact .inl (w_strBytes ho hS he hc hv)
    · cases hb : c.callee with
      | value f =>
        rw [ho] at hc
        simp only [cOp, hb] at hc
        obtain ⟨args, hargs, h⟩ := some_bind (orBad_w hc hnb)
        obtain ⟨f', hf, h⟩ := some_bind h
        have key : vo = .call f' args := by
          split at h
          · split at h <;> simp at h
            exact h.symm
          · split at h <;> simp at h
            exact h.symm
        subst key
        simp only [wop] at hv
        split at hv
        · rename_i g first captured hfe
          exact call_does ho hb he hargs hf hfe fun vs hvs => hG fl g _ vs ρ H w v H' hS he.gl hvs hv
        · cases hv
      | invoke r m =>
        rw [ho] at hc
        simp only [cOp, hb] at hc
        obtain ⟨args, hargs, h⟩ := some_bind (orBad_w hc hnb)
        cases h
      | builtin b =>
        by_cases hba : b = .append
        · subst hba
          exact .inl (w_append ho hb hS he hc hv)
        · by_cases hbc : b = .clear
          · subst hbc
            exact .inl (w_clear ho hb hS he hc hv)
          · exfalso
            rw [ho] at hc
            simp only [cOp, hb] at hc
            obtain ⟨args, hargs, h⟩ := some_bind (orBad_w hc hnb)
            obtain ⟨t, ht, h⟩ := some_bind h
            split at h
            all_goals first
              | exact absurd rfl hba
              | exact absurd rfl hbc
              | (simp at h; done)
              | (split at h <;> simp at h; done)
end
end Go.Vx
