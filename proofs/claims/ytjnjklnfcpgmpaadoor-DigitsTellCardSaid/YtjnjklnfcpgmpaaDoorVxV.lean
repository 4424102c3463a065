/- V: calls beside any heap, with more rounds and deeper; a call that is handed values alone. -/
import Derived.Test.YtjnjklnfcpgmpaaDoorVxU
set_option linter.unusedVariables false
set_option linter.unusedSimpArgs false
namespace Go.Vx

def VFn.sh (n : Nat) : VFn → VFn
  | .code f => .code { body := f.body.sh n, res := f.res }
  | .ext g => .ext g
  | .none => .none
/-- No code of the table names an address. -/
def shT (n : Nat) (l : List (Nat × VFn)) : List (Nat × VFn) := l.map fun p => (p.1, p.2.sh n)
/-- A library's function that is known by its contract: addresses do not matter to it. -/
def ExtSh (g : List AV → Heap → Option AV) : Prop := ∀ (H0 : Heap) (args : List AV) (H : Heap), g (AV.shL H0.length args) (shH H0 H) = (g args H).map (AV.sh H0.length)
def codeOnly (l : List (Nat × VFn)) : Bool := l.all fun p => match p.2 with | .ext _ => false | _ => true
def ExtOk (l : List (Nat × VFn)) : Prop := ∀ f g, vlook l f = .ext g → ExtSh g
theorem extOk_nil : ExtOk [] := fun f g h => by cases h
theorem extOk_ext {k : Nat} {g : List AV → Heap → Option AV} {l : List (Nat × VFn)} (h : ExtSh g) (hl : ExtOk l) : ExtOk ((k, .ext g) :: l) := fun f g' h' => by
  simp only [vlook] at h'
  cases hb : Nat.beq k f with
  | false => rw [hb] at h'; exact hl f g' h'
  | true => rw [hb] at h'; cases h'; exact h
theorem extOk_code {l r : List (Nat × VFn)} (h : codeOnly l = true) (hr : ExtOk r) : ExtOk (l ++ r) := by
  induction l with
  | nil => exact hr
  | cons p l ih =>
    obtain ⟨k, v⟩ := p
    simp only [codeOnly, List.all_cons, Bool.and_eq_true] at h
    intro f g h'
    simp only [List.cons_append, vlook] at h'
    cases hb : Nat.beq k f with
    | false => rw [hb] at h'; exact ih h.2 f g h'
    | true =>
      rw [hb] at h'
      simp only [cond_true] at h'
      subst h'
      simp at h
theorem vlook_sh {n : Nat} {l : List (Nat × VFn)} {f : Nat} : vlook (shT n l) f = (vlook l f).sh n := by
  induction l with
  | nil => rfl
  | cons p l ih =>
    obtain ⟨k, v⟩ := p
    simp only [shT, List.map_cons, vlook]
    cases Nat.beq k f
    · exact ih
    · rfl
section
variable {H0 H : Heap} {e : Env}
theorem mapM_sh {n : Nat} {f f' : AV → Option AV} (h : ∀ x, f' (x.sh n) = (f x).map (AV.sh n)) : ∀ (xs : List AV), (xs.map (AV.sh n)).mapM f' = (xs.mapM f).map (List.map (AV.sh n)) := by
  intro xs
  induction xs with
  | nil => rfl
  | cons x xs ih =>
    rw [List.map_cons, List.mapM_cons, List.mapM_cons, h, ih]
    cases f x with
    | none => rfl
    | some y => cases xs.mapM f <;> rfl
theorem freeze_sh {m : Nat} : ∀ (d : Nat) (v : AV), freeze (shH H0 H) (m + H0.length) d (v.sh H0.length) = (freeze H m d v).map (AV.sh H0.length) := by
  intro d
  induction d with
  | zero => intro v; rfl
  | succ d ih =>
    intro v
    have hm := mapM_sh (f := freeze H m d) (f' := freeze (shH H0 H) (m + H0.length) d) ih
    cases v with
    | ptr b o => simp only [AV.sh, freeze, Nat.add_lt_add_iff_right]; split <;> rfl
    | eptr b z o => simp only [AV.sh, freeze, Nat.add_lt_add_iff_right]; split <;> rfl
    | dptr cs => simp only [AV.sh, freeze, shL_map, hm, Option.map_map]; cases cs.mapM (freeze H m d) <;> simp [AV.sh, shL_map]
    | sl z f es => simp only [AV.sh, freeze, shL_map, hm, Option.map_map]; cases es.mapM (freeze H m d) <;> simp [AV.sh, shL_map]
    | agg cs => simp only [AV.sh, freeze, shL_map, hm, Option.map_map]; cases cs.mapM (freeze H m d) <;> simp [AV.sh, shL_map]
    | tup cs => simp only [AV.sh, freeze, shL_map, hm, Option.map_map]; cases cs.mapM (freeze H m d) <;> simp [AV.sh, shL_map]
    | fn f a b =>
      simp only [AV.sh, freeze, shL_map, hm]
      cases a.mapM (freeze H m d) with
      | none => rfl
      | some a' => cases b.mapM (freeze H m d) <;> simp [AV.sh, shL_map]
    | rsl b z o k c =>
      simp only [AV.sh, freeze, Nat.add_lt_add_iff_right, shH_get]
      split
      · rfl
      · cases H[b]? with
        | none => rfl
        | some x =>
          cases x <;> simp only [Option.map_some, AO.sh, Option.map_none, List.length_map]
          split
          · rw [← List.map_drop, ← List.map_take, hm]
            rename_i es _
            cases ((es.drop o).take k).mapM (freeze H m d) <;> simp [AV.sh, shL_map]
          · rfl
    | bool b => rfl
    | int k n => rfl
    | str s => rfl
    | nilp => rfl
    | nilsl => rfl
    | nilfn => rfl
theorem vres_sh {rs : List Res} : vres (shE H0.length e) (shH H0 H) rs = (vres e H rs).map (AV.sh H0.length) := by
  have one : ∀ r, vres1 (shE H0.length e) (shH H0 H) r = (vres1 e H r).map (AV.sh H0.length) := by
    intro r
    cases r with
    | tmp t => rfl
    | cell t ag =>
      simp only [vres1, shE]
      cases e t <;> simp only [AV.sh, Option.map_none, shH_get]
      case ptr b o =>
        cases H[b]? with
        | none => rfl
        | some x => cases x <;> simp only [Option.map_some, AO.sh, Option.map_none, ← List.map_drop, ld_sh]
  have all : rs.mapM (vres1 (shE H0.length e) (shH H0 H)) = (rs.mapM (vres1 e H)).map (List.map (AV.sh H0.length)) := by
    induction rs with
    | nil => rfl
    | cons r rs ih =>
      rw [List.mapM_cons, List.mapM_cons, one, ih]
      cases vres1 e H r with
      | none => rfl
      | some y => cases rs.mapM (vres1 e H) <;> rfl
  simp only [vres, all, Option.map_map]
  cases rs.mapM (vres1 e H) with
  | none => rfl
  | some vs =>
    match vs with
    | [] => rfl
    | [v] => rfl
    | v :: w :: r => simp [AV.sh, shL_map]
theorem envOf_sh {n : Nat} {args : List AV} : envOf (AV.shL n args) = shE n (envOf args) := by
  funext t
  simp only [envOf, shE, shL_map, List.getElem?_map]
  cases args[t]? <;> rfl
theorem asPure_of {call : Nat → CallF} (hc : ∀ fl, CallSh H0 (call fl) (call (fl + H0.length))) : PcSh H0 (asPure call) (asPure call) := by
  intro f args H
  simp only [asPure, shH_len, hc H.length f args H]
  cases call H.length f args H with
  | none => rfl
  | some r =>
    obtain ⟨v, H'⟩ := r
    simp only [Option.map_some, Option.bind_some, shP]
    exact freeze_sh 12 v
theorem vcall_sh {tbl : List (Nat × VFn)} (ht : ∀ n, shT n tbl = tbl) (hx : ExtOk tbl) {L : Nat} : ∀ (d fl : Nat), CallSh H0 (vcall (vlook tbl) L d fl) (vcall (vlook tbl) L d (fl + H0.length)) := by
  intro d
  induction d with
  | zero => intro fl f args H; rfl
  | succ d ih =>
    intro fl f args H
    have hp := asPure_of ih
    have hl : vlook tbl f = (vlook tbl f).sh H0.length := by rw [← vlook_sh, ht]
    simp only [vcall]
    cases hv : vlook tbl f with
    | none => rfl
    | ext g =>
      simp only [hx f g hv H0 args H, Option.map_map]
      cases g args H <;> rfl
    | code vf =>
      rw [hv] at hl
      simp only [VFn.sh, VFn.code.injEq] at hl
      have hb : vf.body.sh H0.length = vf.body := by
        have := congrArg VF.body hl
        exact this.symm
      simp only [vbody, envOf_sh]
      have := vexec_sh (fl := fl) hp (ih fl) (L := L) vf.body (e := envOf args) (H := H)
      rw [hb] at this
      rw [this]
      cases vexec L (asPure (vcall (vlook tbl) L d)) (vcall (vlook tbl) L d fl) fl vf.body (envOf args) H with
      | none => rfl
      | some s =>
        obtain ⟨x, e', H'⟩ := s
        cases x <;> simp only [Option.map_some, Option.bind_some, shSt, vres_sh, Option.map_map]
        · cases vres e' H' vf.res <;> rfl
        · rfl
        · cases vres e' H' vf.res <;> rfl
end

/-- A call for its value, of values: the same beside every heap. -/
theorem pure_any {tbl : List (Nat × VFn)} (ht : ∀ n, shT n tbl = tbl) (hx : ExtOk tbl) {L d f : Nat} {args : List AV} {v : AV} (ha : ∀ n, AV.shL n args = args) (hv : ∀ n, v.sh n = v)
    (h : asPure (vcall (vlook tbl) L d) f args [] = some v) (H : Heap) : asPure (vcall (vlook tbl) L d) f args H = some v := by
  have := asPure_of (H0 := H) (fun fl => vcall_sh ht hx (L := L) d fl) f args []
  rw [ha, h, Option.map_some, hv] at this
  simpa [shH] using this

/-! ### More rounds, and deeper -/
section
variable {pc pc' : Nat → List AV → Heap → Option AV} {call call' : CallF} {fl : Nat}
def PcLe (pc pc' : Nat → List AV → Heap → Option AV) : Prop := ∀ f args H v, pc f args H = some v → pc' f args H = some v
def CallLe (call call' : CallF) : Prop := ∀ f args H r, call f args H = some r → call' f args H = some r
theorem rop_le (hp : PcLe pc pc') {e : Env} {H : Heap} {o : ROp} {v : AV} (h : rop pc e H o = some v) : rop pc' e H o = some v := by
  cases o with
  | load ag x => exact h
  | bytesStr x => exact h
  | clone z b x => exact h
  | pcall f args =>
    rw [rop_pcall] at h ⊢
    cases hf : f.ev e <;> rw [hf] at h <;> simp only [pcallV] at h ⊢ <;> first | exact hp _ _ _ _ h | cases h
theorem wop_le (hc : CallLe call call') {e : Env} {H : Heap} {o : WOp} {r : AV × Heap} (h : wop call fl e H o = some r) : wop call' fl e H o = some r := by
  cases o with
  | call f args =>
    rw [wop_call] at h ⊢
    cases hf : f.ev e <;> rw [hf] at h <;> simp only [callV] at h ⊢ <;> first | exact hc _ _ _ _ h | cases h
  | _ => exact h
theorem stepV_le (hp : PcLe pc pc') (hc : CallLe call call') {e : Env} {H : Heap} {o : VOper} {r : AV × Heap} (h : stepV pc call fl o e H = some r) : stepV pc' call' fl o e H = some r := by
  simp only [stepV] at h ⊢
  split at h
  · rename_i hw
    rw [if_pos hw]
    cases ho : o.op with
    | p q => rw [ho] at h; exact h
    | r q =>
      rw [ho] at h
      simp only [vop, Option.map_eq_some_iff] at h ⊢
      obtain ⟨v, h1, h2⟩ := h
      exact ⟨v, rop_le hp h1, h2⟩
    | w q => rw [ho] at h; exact wop_le hc h
  · rename_i hw
    rw [if_neg hw]; exact h
theorem vops_le (hp : PcLe pc pc') (hc : CallLe call call') : ∀ {ops : List VOper} {e : Env} {H : Heap} {r : Env × Heap}, vops pc call fl ops e H = some r → vops pc' call' fl ops e H = some r := by
  intro ops
  induction ops with
  | nil => intro e H r h; exact h
  | cons o ops ih =>
    intro e H r h
    simp only [vops, Option.bind_eq_some_iff] at h ⊢
    obtain ⟨p, h1, h2⟩ := h
    exact ⟨p, stepV_le hp hc h1, ih h2⟩
theorem vdraw_le (hp : PcLe pc pc') (hc : CallLe call call') : ∀ {ops : List DOp} {e : Env} {H : Heap} {r : Env × Heap × List Seen × List Heap}, vdraw pc call fl ops e H = some r → vdraw pc' call' fl ops e H = some r := by
  intro ops
  induction ops with
  | nil => intro e H r h; exact h
  | cons o ops ih =>
    intro e H r h
    obtain ⟨o, lo, hi⟩ := o
    simp only [vdraw, Option.bind_eq_some_iff] at h ⊢
    obtain ⟨p, h1, h2⟩ := h
    refine ⟨p, stepV_le hp hc h1, ?_⟩
    simp only [Option.map_eq_some_iff] at h2 ⊢
    obtain ⟨q, h3, h4⟩ := h2
    exact ⟨q, ih h3, h4⟩
theorem okAt_le (hp : PcLe pc pc') (hc : CallLe call call') {s : Seen} {H : Heap} (h : s.okAt pc call fl H = true) : s.okAt pc' call' fl H = true := by
  simp only [Seen.okAt] at h ⊢
  cases h1 : stepV pc call fl s.op s.env H with
  | none => rw [h1] at h; cases h
  | some r =>
    rw [stepV_le hp hc h1]
    rw [h1] at h
    exact h
theorem vdrawn_le (hp : PcLe pc pc') (hc : CallLe call call') {ops : List DOp} {e : Env} {H : Heap} {r : Env × Heap} (h : vdrawn pc call fl ops e H = some r) : vdrawn pc' call' fl ops e H = some r := by
  simp only [vdrawn, Option.bind_eq_some_iff] at h ⊢
  obtain ⟨p, h1, h2⟩ := h
  refine ⟨p, vdraw_le hp hc h1, ?_⟩
  obtain ⟨e', H', ss, hs⟩ := p
  simp only at h2 ⊢
  split at h2
  · rename_i hall
    rw [if_pos]
    · exact h2
    · rw [List.all_eq_true] at hall ⊢
      intro s hs'
      have := hall s hs'
      simp only [Seen.ok, List.all_eq_true] at this ⊢
      exact fun X hX => okAt_le hp hc (this X hX)
  · cases h2
theorem rounds_le {f f' : Env → Heap → Option St} (hf : ∀ e H r, f e H = some r → f' e H = some r) : ∀ (n n' : Nat), n ≤ n' → ∀ (e : Env) (H : Heap) (r : St), rounds f n e H = some r → rounds f' n' e H = some r := by
  intro n
  induction n with
  | zero => intro n' _ e H r h; cases h
  | succ n ih =>
    intro n' hn e H r h
    obtain ⟨m, rfl⟩ : ∃ m, n' = m + 1 := ⟨n' - 1, by omega⟩
    simp only [rounds, Option.bind_eq_some_iff] at h ⊢
    obtain ⟨⟨x, e1, H1⟩, h1, h2⟩ := h
    refine ⟨⟨x, e1, H1⟩, hf _ _ _ h1, ?_⟩
    cases x with
    | normal => exact ih m (by omega) _ _ _ h2
    | exit id => exact h2
    | ret => exact h2
theorem vexec_le (hp : PcLe pc pc') (hc : CallLe call call') {L L' : Nat} (hL : L ≤ L') : ∀ (c : VC) {e : Env} {H : Heap} {r : St}, vexec L pc call fl c e H = some r → vexec L' pc' call' fl c e H = some r := by
  intro c
  induction c with
  | skip => intro e H r h; exact h
  | reg ops =>
    intro e H r h
    simp only [vexec, Option.map_eq_some_iff] at h ⊢
    obtain ⟨p, h1, h2⟩ := h
    exact ⟨p, vops_le hp hc h1, h2⟩
  | draw ops =>
    intro e H r h
    simp only [vexec, Option.map_eq_some_iff] at h ⊢
    obtain ⟨p, h1, h2⟩ := h
    exact ⟨p, vdrawn_le hp hc h1, h2⟩
  | seq a b iha ihb =>
    intro e H r h
    simp only [vexec, Option.bind_eq_some_iff] at h ⊢
    obtain ⟨⟨x, e1, H1⟩, h1, h2⟩ := h
    refine ⟨⟨x, e1, H1⟩, iha h1, ?_⟩
    cases x with
    | normal => exact ihb h2
    | exit id => exact h2
    | ret => exact h2
  | cond c a b iha ihb =>
    intro e H r h
    simp only [vexec] at h ⊢
    cases hv : c.ev e <;> rw [hv] at h <;> simp only at h ⊢ <;> try cases h
    rename_i t
    cases t
    · exact ihb h
    · exact iha h
  | block id c ih =>
    intro e H r h
    simp only [vexec, Option.map_eq_some_iff] at h ⊢
    obtain ⟨p, h1, h2⟩ := h
    exact ⟨p, ih h1, h2⟩
  | loop c ih =>
    intro e H r h
    simp only [vexec] at h ⊢
    exact rounds_le (fun e H r h => ih h) L L' hL e H r h
  | exit id => intro e H r h; exact h
  | ret => intro e H r h; exact h
  | bad => intro e H r h; cases h
theorem asPure_le {call call' : Nat → CallF} (hc : ∀ fl, CallLe (call fl) (call' fl)) : PcLe (asPure call) (asPure call') := by
  intro f args H v h
  simp only [asPure, Option.bind_eq_some_iff] at h ⊢
  obtain ⟨p, h1, h2⟩ := h
  exact ⟨p, hc _ _ _ _ _ h1, h2⟩
theorem vcall_le {F : Nat → VFn} {L L' : Nat} (hL : L ≤ L') : ∀ (d d' : Nat), d ≤ d' → ∀ fl, CallLe (vcall F L d fl) (vcall F L' d' fl) := by
  intro d
  induction d with
  | zero => intro d' _ fl f args H r h; cases h
  | succ d ih =>
    intro d' hd fl f args H r h
    obtain ⟨m, rfl⟩ : ∃ m, d' = m + 1 := ⟨d' - 1, by omega⟩
    have ih' := ih m (by omega)
    simp only [vcall] at h ⊢
    cases hv : F f with
    | none => rw [hv] at h; cases h
    | ext g => rw [hv] at h; exact h
    | code vf =>
      rw [hv] at h
      simp only [vbody, Option.bind_eq_some_iff] at h ⊢
      obtain ⟨⟨x, e', H'⟩, h1, h2⟩ := h
      exact ⟨⟨x, e', H'⟩, vexec_le (asPure_le ih') (ih' fl) hL vf.body h1, h2⟩
theorem pure_le {F : Nat → VFn} {L L' d d' f : Nat} {args : List AV} {H : Heap} {v : AV} (h : asPure (vcall F L d) f args H = some v) (hL : L ≤ L') (hd : d ≤ d') : asPure (vcall F L' d') f args H = some v :=
  asPure_le (vcall_le hL d d' hd) f args H v h
theorem call_le {F : Nat → VFn} {L L' d d' fl f : Nat} {args : List AV} {H : Heap} {r : AV × Heap} (h : vcall F L d fl f args H = some r) (hL : L ≤ L') (hd : d ≤ d') : vcall F L' d' fl f args H = some r :=
  vcall_le hL d d' hd fl f args H r h
end
end Go.Vx
