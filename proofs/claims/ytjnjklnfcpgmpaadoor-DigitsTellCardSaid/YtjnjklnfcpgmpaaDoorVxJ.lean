/- V: code, functions, programs. -/
import Derived.Test.YtjnjklnfcpgmpaaDoorVxI
set_option linter.unusedVariables false
set_option linter.unusedSimpArgs false
namespace Go.Vx
variable {G : Nat → Obj → Prop}

def VX.to : VX → Exit
  | .normal => .normal
  | .exit id => .exit id
  | .ret => .ret

theorem cnt_all (p : Nat → Bool) : ∀ n, cnt p n ≤ n := by
  intro n
  induction n with
  | zero => exact Nat.le_refl _
  | succ n ih => simp only [cnt]; split <;> omega
theorem cnt_none {p : Nat → Bool} (h : ∀ k, p k = false) : ∀ n, cnt p n = 0 := by
  intro n
  induction n with
  | zero => rfl
  | succ n ih => simp only [cnt, ih, h n]; rfl
theorem envS_none {vs : List VOper} {V : Nat → AV} {e : Env} {S : Nat → Bool} (h : ∀ k, S k = false) : ∀ n, envS vs V e S n = e := by
  intro n
  induction n with
  | zero => rfl
  | succ n ih => simp only [envS, ih, h n]; rfl

section
variable {P : Program} {nt : Nat}

theorem region_ok {call : Nat → CallF} (hG : Good P G call) (hm : P.follows .mixedOrders = true) {fl L : Nat} {pol : Pol} {id : Nat} {ops : Array Oper} {draw : Bool} {ρ : Nat → Nat} {H : Heap} {w : World} {e : Env} {a : Act} (hS : Sim ρ H w) (he : ER G (cx ρ H w) e a nt)
    {x : VX} {e' : Env} {H' : Heap} (hv : vexec L (asPure call) (call fl) fl (cRegion P pol id nt ops draw) e H = some (x, e', H')) {Q : Exit → Act → World → Prop}
    (hQ : ∀ ρ' a' w', Tr fl ρ H w ρ' H' w' → Sim ρ' H' w' → ER G (cx ρ' H' w') e' a' nt → Q x.to a' w') : (Code.region id ops draw).wp P Q a w := by
  cases draw with
  | false =>
    simp only [cRegion, Bool.false_eq_true, if_false, vexec, Option.map_eq_some_iff, Prod.mk.injEq] at hv
    obtain ⟨⟨e1, H1⟩, h1, rfl, rfl, rfl⟩ := hv
    exact wp_region (ops_ok hG ops.toList (List.range ops.size) ρ H w e a (range_ops ops) hS he h1 hQ)
  | true =>
    simp only [cRegion, if_true] at hv
    split at hv
    · rename_i hok
      simp only [vexec, Option.map_eq_some_iff, Prod.mk.injEq] at hv
      obtain ⟨⟨e1, H1⟩, h1, rfl, rfl, rfl⟩ := hv
      have hvl : (ops.toList.map (cOper P pol id nt ops)).length = ops.toList.length := by simp
      have hord := ordered_of hvl hok
      have hbl : (befBits ops.toList).length = (ops.toList.map (cOper P pol id nt ops)).length := by rw [befBits_length _ _ rfl]; simp
      obtain ⟨d1, d2, d3⟩ := dops_get hbl
      change vdrawn (asPure call) (call fl) fl (dopsOf (ops.toList.map (cOper P pol id nt ops)) (befBits ops.toList)) e H = some (e1, H1) at h1
      simp only [vdrawn, Option.bind_eq_some_iff] at h1
      obtain ⟨⟨e2, H2, ss, hs⟩, h2, h3⟩ := h1
      split at h3
      · rename_i hall
        simp only [Option.some.injEq, Prod.mk.injEq] at h3
        obtain ⟨rfl, rfl⟩ := h3
        obtain ⟨E, V, X, a1, a2, a3, a4, a5, a6, a7, a8⟩ := trace_of _ _ _ _ _ _ _ h2
        rw [d1] at a3 a4 a6 a7
        rw [d2] at a5 a6 a7
        have hn : (ops.toList.map (cOper P pol id nt ops)).length = ops.size := by simp
        rw [hn] at a3 a4 a6 a7
        rw [← a2] at a7 hall
        refine wp_region_any hm (draw_any hG rfl hord a5 a6 a7 (fun k o bb hk hb hr hlh => ?_) (ρ := ρ) (H := H) (w0 := w) (fun ρ' a' w' k1 k2 k3 => ?_) ops.size _ a _ ?_)
        · have := a8 k o _ _ (d3 k o bb hk hb) hr hlh
          exact List.all_eq_true.1 hall _ this
        · rw [a4] at k1 k2 k3
          rw [a3] at k3
          exact hQ ρ' a' w' k1 k2 k3
        · have hf : ∀ k, (Array.replicate ops.size false).getD k false = false := fun k => by
            simp only [Array.getD_eq_getD_getElem?, Array.getElem?_replicate]
            split <;> rfl
          have hc : cnt (fun k => isWr (ops.toList.map (cOper P pol id nt ops)) k && (Array.replicate ops.size false).getD k false) ops.size = 0 := cnt_none (fun k => by rw [hf]; simp) _
          refine ⟨by simp, fun j o hj hs => ?_, cnt_all _ _, ?_⟩
          · rw [hf] at hs; cases hs
          · rw [hc, envS_none (fun k => hf k)]
            simp only [List.getElem?_cons_zero, Option.getD_some, a1, a2]
            exact ⟨ρ, Tr.drawn .., hS.drawn _, he.mono (Tr.drawn fl ρ H w _).le⟩
      · cases h3
    · simp [vexec] at hv

theorem rounds_ok {P : Program} {c : Code} {Q : Exit → Act → World → Prop} {f : Env → Heap → Option St} {fl nt : Nat} {x : VX} {e' : Env} {H' : Heap}
    (hf : ∀ (ρ : Nat → Nat) (H : Heap) (w : World) (e : Env) (a : Act) (x1 : VX) (e1 : Env) (H1 : Heap) (Q : Exit → Act → World → Prop), Sim ρ H w → ER G (cx ρ H w) e a nt → f e H = some (x1, e1, H1) →
      (∀ ρ' a' w', Tr fl ρ H w ρ' H1 w' → Sim ρ' H1 w' → ER G (cx ρ' H1 w') e1 a' nt → Q x1.to a' w') → c.wp P Q a w) :
    ∀ (n : Nat) (ρ : Nat → Nat) (H : Heap) (w : World) (e : Env) (a : Act), Sim ρ H w → ER G (cx ρ H w) e a nt → rounds f n e H = some (x, e', H') →
      (∀ ρ' a' w', Tr fl ρ H w ρ' H' w' → Sim ρ' H' w' → ER G (cx ρ' H' w') e' a' nt → Q x.to a' w') → Code.rounds P c Q n a w := by
  intro n
  induction n with
  | zero => intro ρ H w e a _ _ h; simp [rounds] at h
  | succ n ih =>
    intro ρ H w e a hS he h hQ
    simp only [rounds, Option.bind_eq_some_iff] at h
    obtain ⟨⟨x1, e1, H1⟩, h1, h2⟩ := h
    rw [rounds_succ]
    refine hf ρ H w e a x1 e1 H1 _ hS he h1 fun ρ' a' w' hT hS' he' => ?_
    cases x1 with
    | normal => exact ih ρ' H1 w' e1 a' hS' he' h2 fun ρ'' a'' w'' hT' => hQ ρ'' a'' w'' (hT.trans hT')
    | exit id => simp only [Option.some.injEq, Prod.mk.injEq] at h2; obtain ⟨rfl, rfl, rfl⟩ := h2; exact hQ ρ' a' w' hT hS' he'
    | ret => simp only [Option.some.injEq, Prod.mk.injEq] at h2; obtain ⟨rfl, rfl, rfl⟩ := h2; exact hQ ρ' a' w' hT hS' he'

theorem code_ok {call : Nat → CallF} (hG : Good P G call) (hm : P.follows .mixedOrders = true) {fl L : Nat} {pol : Pol} : ∀ (c : Code) (ρ : Nat → Nat) (H : Heap) (w : World) (e : Env) (a : Act) (x : VX) (e' : Env) (H' : Heap) (Q : Exit → Act → World → Prop),
    Sim ρ H w → ER G (cx ρ H w) e a nt → vexec L (asPure call) (call fl) fl (cCode P pol nt c) e H = some (x, e', H') →
    (∀ ρ' a' w', Tr fl ρ H w ρ' H' w' → Sim ρ' H' w' → ER G (cx ρ' H' w') e' a' nt → Q x.to a' w') → c.wp P Q a w := by
  intro c
  induction c with
  | skip =>
    intro ρ H w e a x e' H' Q hS he h hQ
    simp only [cCode, vexec, Option.some.injEq, Prod.mk.injEq] at h
    obtain ⟨rfl, rfl, rfl⟩ := h
    exact wp_skip (hQ ρ a w (Tr.refl ..) hS he)
  | region id ops draw =>
    intro ρ H w e a x e' H' Q hS he h hQ
    exact region_ok hG hm hS he h hQ
  | seq c d ihc ihd =>
    intro ρ H w e a x e' H' Q hS he h hQ
    simp only [cCode, vexec, Option.bind_eq_some_iff] at h
    obtain ⟨⟨x1, e1, H1⟩, h1, h2⟩ := h
    refine wp_seq (ihc ρ H w e a x1 e1 H1 _ hS he h1 fun ρ' a' w' hT hS' he' => ?_)
    cases x1 with
    | normal => exact ihd ρ' H1 w' e1 a' x e' H' Q hS' he' h2 fun ρ'' a'' w'' hT' => hQ ρ'' a'' w'' (hT.trans hT')
    | exit id => simp only [Option.some.injEq, Prod.mk.injEq] at h2; obtain ⟨rfl, rfl, rfl⟩ := h2; exact hQ ρ' a' w' hT hS' he'
    | ret => simp only [Option.some.injEq, Prod.mk.injEq] at h2; obtain ⟨rfl, rfl, rfl⟩ := h2; exact hQ ρ' a' w' hT hS' he'
  | cond o c d ihc ihd =>
    intro ρ H w e a x e' H' Q hS he h hQ
    simp only [cCode] at h
    split at h
    · rename_i o' ho
      simp only [vexec] at h
      split at h
      · rename_i t ht
        have hv := cOpd_ok he ho
        rw [ht] at hv
        generalize hu : a.eval o = u at hv
        cases hv
        cases t with
        | true => exact wp_cond hu (ihc ρ H w e a x e' H' Q hS he h hQ)
        | false => exact wp_cond hu (ihd ρ H w e a x e' H' Q hS he h hQ)
      · cases h
    · simp [vexec] at h
  | block id c ih =>
    intro ρ H w e a x e' H' Q hS he h hQ
    simp only [cCode, vexec, Option.map_eq_some_iff] at h
    obtain ⟨⟨x1, e1, H1⟩, h1, h2⟩ := h
    refine wp_block (ih ρ H w e a x1 e1 H1 _ hS he h1 fun ρ' a' w' hT hS' he' => ?_)
    cases x1 with
    | normal => simp only [Prod.mk.injEq] at h2; obtain ⟨rfl, rfl, rfl⟩ := h2; exact hQ ρ' a' w' hT hS' he'
    | exit id' =>
      simp only at h2
      simp only [VX.to, Exit.inBlock]
      split at h2
      · rename_i hid
        simp only [Prod.mk.injEq] at h2; obtain ⟨rfl, rfl, rfl⟩ := h2
        rw [if_pos hid]; exact hQ ρ' a' w' hT hS' he'
      · rename_i hid
        simp only [Prod.mk.injEq] at h2; obtain ⟨rfl, rfl, rfl⟩ := h2
        rw [if_neg hid]; exact hQ ρ' a' w' hT hS' he'
    | ret => simp only [Prod.mk.injEq] at h2; obtain ⟨rfl, rfl, rfl⟩ := h2; exact hQ ρ' a' w' hT hS' he'
  | loop c ih =>
    intro ρ H w e a x e' H' Q hS he h hQ
    simp only [cCode, vexec] at h
    exact wp_loop_rounds L (rounds_ok (f := vexec L (asPure call) (call fl) fl (cCode P pol nt c)) (fl := fl) (nt := nt) (fun ρ H w e a x1 e1 H1 Q hS he h1 hQ => ih ρ H w e a x1 e1 H1 Q hS he h1 hQ) L ρ H w e a hS he h hQ)
  | exit id =>
    intro ρ H w e a x e' H' Q hS he h hQ
    simp only [cCode, vexec, Option.some.injEq, Prod.mk.injEq] at h
    obtain ⟨rfl, rfl, rfl⟩ := h
    exact wp_exit (hQ ρ a w (Tr.refl ..) hS he)
  | ret =>
    intro ρ H w e a x e' H' Q hS he h hQ
    simp only [cCode, vexec, Option.some.injEq, Prod.mk.injEq] at h
    obtain ⟨rfl, rfl, rfl⟩ := h
    exact wp_ret (hQ ρ a w (Tr.refl ..) hS he)
  | rangeFunc f ps as b => intro ρ H w e a x e' H' Q hS he h; simp [cCode, vexec] at h
  | scope b => intro ρ H w e a x e' H' Q hS he h; simp [cCode, vexec] at h
  | label l => intro ρ H w e a x e' H' Q hS he h; simp [cCode, vexec] at h
  | goto l => intro ρ H w e a x e' H' Q hS he h; simp [cCode, vexec] at h
  | refuse s => intro ρ H w e a x e' H' Q hS he h; simp [cCode, vexec] at h

/-! ### Functions -/

def resSem (ts : Array Value) : ResultVar → Sem Value
  | .tmp t => pure (ts.getD t undef)
  | .cell c t => do loadVar t (← asAddr (ts.getD c undef))

theorem res_ok {ρ : Nat → Nat} {H : Heap} {w : World} {e : Env} {a : Act} (hS : Sim ρ H w) (he : ER G (cx ρ H w) e a nt) {r : ResultVar} {r' : Res} (hr : cRes P r = some r') {v : AV} (hv : vres1 e H r' = some v) :
    PuS P (cx ρ H w) w (resSem a.tmps r) v := by
  cases r with
  | tmp t =>
    cases hr
    simp only [vres1, Option.some.injEq] at hv
    subst hv
    exact ⟨_, rfl, he.val t⟩
  | cell c t =>
    simp only [cRes, Option.map_eq_some_iff] at hr
    obtain ⟨ag, hag, rfl⟩ := hr
    simp only [vres1] at hv
    split at hv
    · rename_i b o hb
      split at hv
      · rename_i cs hob
        obtain ⟨ad, g, hu, hg⟩ := cellsAt_ok hS (he.val c) (cs := cs.drop o) (by rw [hb]; simp [cellsAt, hob])
        obtain ⟨x, h1, h2⟩ := load_ok (P := P) hag ad hg hv
        refine ⟨x, ?_, h2⟩
        simp only [resSem, hu, asAddr, pure_bind]
        exact h1
      · cases hv
    · cases hv

theorem ress_ok {ρ : Nat → Nat} {H : Heap} {w : World} {e : Env} {a : Act} (hS : Sim ρ H w) (he : ER G (cx ρ H w) e a nt) : ∀ (rs : List ResultVar) (rs' : List Res) (vs : List AV), rs.mapM (cRes P) = some rs' → rs'.mapM (vres1 e H) = some vs →
    ∃ us : List Value, (rs.mapM (resSem a.tmps)).run P w = .ok us w ∧ us.length = vs.length ∧ ∀ j c, vs[j]? = some c → VR (cx ρ H w) c (us.getD j undef) := by
  intro rs
  induction rs with
  | nil =>
    intro rs' vs h1 h2
    simp at h1; subst h1
    simp at h2; subst h2
    exact ⟨[], rfl, rfl, fun j c h => by simp at h⟩
  | cons r rs ih =>
    intro rs' vs h1 h2
    simp only [List.mapM_cons, Option.bind_eq_bind, Option.bind_eq_some_iff, Option.pure_def, Option.some.injEq] at h1
    obtain ⟨r', hr, rs1, hrs, rfl⟩ := h1
    simp only [List.mapM_cons, Option.bind_eq_bind, Option.bind_eq_some_iff, Option.pure_def, Option.some.injEq] at h2
    obtain ⟨v, hv, vs1, hvs, rfl⟩ := h2
    obtain ⟨u, k1, k2⟩ := res_ok (P := P) hS he hr hv
    obtain ⟨us, l1, l2, l3⟩ := ih rs1 vs1 hrs hvs
    refine ⟨u :: us, ?_, by simp [l2], fun j c hj => ?_⟩
    · rw [List.mapM_cons]
      simp only [Sem.run_bind, k1, l1, Result.andThen_ok, Sem.run_pure]
    · match j with
      | 0 => simp at hj; subst hj; simpa using k2
      | j + 1 => simpa using l3 j c (by simpa using hj)

theorem results_ok {ρ : Nat → Nat} {H : Heap} {w : World} {e : Env} {a : Act} (hS : Sim ρ H w) (he : ER G (cx ρ H w) e a nt) {fn : Func} {rs : List Res} (hr : fn.results.toList.mapM (cRes P) = some rs) {v : AV} (hv : vres e H rs = some v) :
    PuS P (cx ρ H w) w (results fn a.tmps) v := by
  simp only [vres, Option.map_eq_some_iff] at hv
  obtain ⟨vs, h1, h2⟩ := hv
  obtain ⟨us, k1, k2, k3⟩ := ress_ok (P := P) hS he _ _ _ hr h1
  have hrun : (results fn a.tmps).run P w = .ok (if h : us.toArray.size = 1 then us.toArray[0] else .tuple us.toArray) w := by
    have hdef : results fn a.tmps = (fn.results.mapM (resSem a.tmps) >>= fun vs => pure (if h : vs.size = 1 then vs[0] else Value.tuple vs)) := rfl
    rw [hdef, Array.mapM_eq_mapM_toList]
    simp only [Sem.run_bind, Sem.run_map, k1, Result.andThen_ok, Sem.run_pure]
  refine ⟨_, hrun, ?_⟩
  subst h2
  clear hrun k1 h1
  match vs, us, k2, k3 with
  | [], [], _, _ => exact .tup [] #[] rfl fun j c h => by simp at h
  | [v], [u], _, k3 => simpa using k3 0 v rfl
  | v :: v' :: vs, u :: u' :: us, hl, k3 =>
    have hs : ¬ (u :: u' :: us).toArray.size = 1 := by simp
    rw [dif_neg hs]
    refine .tup _ _ (by simpa using hl) fun j c hj => ?_
    have := k3 j c hj
    simpa [Array.getD_eq_getD_getElem?, List.getD_eq_getElem?_getD] using this

theorem env_ok {C : Cx} {args : List AV} {vs : Array Value} (h : VRL C args vs) (hg : ∀ r o, G r o → C.ob r o) (nt : Nat) : ER G C (envOf args) { tmps := vs ++ Array.replicate (nt - vs.size) undef, defers := [] } nt := by
  refine ⟨by simp; omega, fun t => ?_, rfl, hg⟩
  simp only [envOf, Array.getD_eq_getD_getElem?]
  rcases Nat.lt_or_ge t vs.size with hlt | hge
  · rw [Array.getElem?_append_left hlt]
    have hl : t < args.length := by rw [← h.1]; exact hlt
    have h2 := h.2 t args[t] (by simp)
    rw [Array.getD_eq_getD_getElem?] at h2
    rw [List.getElem?_eq_getElem hl]
    exact h2
  · rw [List.getElem?_eq_none (by rw [← h.1]; exact hge), Array.getElem?_append_right hge]
    have : ((Array.replicate (nt - vs.size) undef)[t - vs.size]?).getD undef = undef := by
      rw [Array.getElem?_replicate]; split <;> rfl
    rw [this]
    exact vr_undef C

/-- A function that V knows is the program's. -/
def Fit1 (P : Program) (G : Nat → Obj → Prop) (f : Nat) (x : VFn) : Prop := match x with
  | .code vf => ∃ fn pol, P.funcs[f]? = some fn ∧ (fn.name == "runtime.NumGoroutine") = false ∧ cFunc P pol fn = .code vf
  | .ext g => ∀ (fl : Nat) (args : List AV) (vs : Array Value) (ρ : Nat → Nat) (H : Heap) (w : World) (v : AV), Sim ρ H w → (∀ r o, G r o → (cx ρ H w).ob r o) → VRL (cx ρ H w) args vs → g args H = some v →
      Upon P f vs w fun u w' => ∃ ρ', Tr fl ρ H w ρ' H w' ∧ Sim ρ' H w' ∧ VR (cx ρ' H w') v u
  | .none => True
def Fits (P : Program) (G : Nat → Obj → Prop) (F : Nat → VFn) : Prop := ∀ f, Fit1 P G f (F f)

theorem fit_nil {P : Program} : ∀ p ∈ ([] : List (Nat × VFn)), Fit1 P G p.1 p.2 := fun p h => by simp at h
theorem fit_cons {P : Program} {n : Nat} {v : VFn} {l : List (Nat × VFn)} (h : Fit1 P G n v) (hl : ∀ p ∈ l, Fit1 P G p.1 p.2) : ∀ p ∈ (n, v) :: l, Fit1 P G p.1 p.2 := fun p hp => by
  rcases List.mem_cons.1 hp with rfl | hp
  · exact h
  · exact hl p hp
theorem fits_of {P : Program} : ∀ {l : List (Nat × VFn)}, (∀ p ∈ l, Fit1 P G p.1 p.2) → Fits P G (vlook l) := by
  intro l
  induction l with
  | nil => intro _ f; trivial
  | cons p l ih =>
    intro h f
    obtain ⟨k, v⟩ := p
    simp only [vlook]
    cases hk : Nat.beq k f with
    | true =>
      have : k = f := Nat.eq_of_beq_eq_true hk
      subst this
      exact h (k, v) (by simp)
    | false => exact ih (fun q hq => h q (by simp [hq])) f
theorem fit_code {P : Program} {f : Nat} {fn : Func} {vf : VF} (pol : Pol) (h1 : P.funcs[f]? = some fn) (h2 : (fn.name == "runtime.NumGoroutine") = false) (h3 : cFunc P pol fn = .code vf) : Fit1 P G f (.code vf) := ⟨fn, pol, h1, h2, h3⟩

theorem run_callFunc_code {f : Nat} {fn : Func} {c : Code} (hf : P.funcs[f]? = some fn) (hn : (fn.name == "runtime.NumGoroutine") = false) (hb : fn.body = some c) (vs : Array Value) (w : World) : (callFunc f vs).run P w = .ok (.enter f vs) w := by
  have hn' : ¬ fn.name = "runtime.NumGoroutine" := by simpa using hn
  simp [callFunc, go_sem, hf, hn', hb]

theorem good {F : Nat → VFn} (hF : Fits P G F) (hm : P.follows .mixedOrders = true) (L : Nat) : ∀ d, Good P G (vcall F L d) := by
  intro d
  induction d with
  | zero => intro fl f args vs ρ H w v H' _ _ _ h; simp [vcall] at h
  | succ d ih =>
    intro fl f args vs ρ H w v H' hS hg hA h
    have hFf := hF f
    simp only [vcall] at h
    split at h
    · rename_i vf hvf
      rw [hvf] at hFf
      obtain ⟨fn, pol, hfn, hnm, hc⟩ := hFf
      simp only [cFunc] at hc
      split at hc
      · rename_i c rs hbody hres
        simp only [VFn.code.injEq] at hc
        subst hc
        simp only [vbody, Option.bind_eq_some_iff] at h
        obtain ⟨⟨x, e', H1⟩, h1, h2⟩ := h
        refine .inr ⟨run_callFunc_code hfn hnm hbody vs w, ?_⟩
        refine calls_of_wp hfn hbody (code_ok ih hm c ρ H w (envOf args) _ x e' H1 _ hS (env_ok hA hg fn.ntmps) h1 fun ρ' a' w' hT hS' he' => ?_)
        have fin : (vres e' H1 rs).map (fun v => (v, H1)) = some (v, H') → a'.defers = [] ∧ ∃ u, (results fn a'.tmps).run P w' = .ok u w' ∧ ∃ ρ', Tr fl ρ H w ρ' H' w' ∧ Sim ρ' H' w' ∧ VR (cx ρ' H' w') v u := fun h2 => by
          simp only [Option.map_eq_some_iff, Prod.mk.injEq] at h2
          obtain ⟨v1, h3, rfl, rfl⟩ := h2
          obtain ⟨u, k1, k2⟩ := results_ok (P := P) hS' he' hres h3
          exact ⟨he'.defers, u, k1, ρ', hT, hS', k2⟩
        cases x with
        | normal => exact fin h2
        | ret => exact fin h2
        | exit id => cases h2
      · cases hc
    · rename_i g hgx
      rw [hgx] at hFf
      simp only [Option.map_eq_some_iff, Prod.mk.injEq] at h
      obtain ⟨v1, h1, rfl, rfl⟩ := h
      exact hFf fl args vs ρ H w v1 hS hg hA h1
    · cases h
end
end Go.Vx
