/- V: every operation on values, from the machine's operation on. -/
import Derived.Test.YtjnjklnfcpgmpaaDoorVxFill
set_option linter.unusedVariables false
set_option linter.unusedSimpArgs false
namespace Go.Vx
variable {G : Nat → Obj → Prop}

section
variable {P : Program} {C : Cx} {w : World} {e : Env} {a : Act} {nt : Nat}

theorem bindO {α β : Type} {x : Option α} {f : α → Option β} {y : β} (h : (x >>= f) = some y) : ∃ z, x = some z ∧ f z = some y := by
  simpa [Option.bind_eq_some_iff] using h

theorem d_nilck {x : Opd} {u : Value} (hx : VR C (x.ev e) u) {v : AV} (hv : pop e (.nilck x) = some v) (o : Oper) (y : Operand) (ho : o.op = .nilCheck y) (hu : a.eval y = u) :
    Pu P C w ((execOp a.eval o).run P w) v := by
  simp only [pop] at hv
  unfold execOp
  simp only [ho, hu]
  generalize x.ev e = z at hx hv
  cases hx <;> simp only [] at hv <;> first | (cases hv; done) | (cases hv; refine ⟨_, rfl, ?_⟩; first
    | exact .bool _ | exact .int _ _ | exact .str _ | exact .ptr _ _ (by assumption) | exact .eptr _ _ _ (by assumption)
    | exact .dptr _ _ _ (by assumption) (by assumption) (by assumption) | exact .nilsl
    | exact .sl _ _ _ _ _ _ (by assumption) (by assumption) (by assumption) (by assumption) (by assumption) (by assumption)
    | exact .rsl _ _ _ _ _ _ _ (by assumption) (by assumption) (by assumption) (by assumption) (by assumption)
    | exact .fn _ _ _ _ _ (by assumption) (by assumption) (by assumption) (by assumption)
    | exact .agg _ _ (by assumption) (by assumption) (by assumption) | exact .tup _ _ (by assumption) (by assumption))

theorem d_un {x : Opd} {u : Value} (op : UnOp) (hx : VR C (x.ev e) u) {v : AV} (hv : pop e (.un op x) = some v) : PuS P C w (Op.unary op u) v := by
  simp only [pop] at hv
  unfold un at hv
  split at hv
  · rename_i b h1
    rw [h1] at hx
    cases hx
    split at hv
    · cases hv; exact ⟨_, rfl, .bool _⟩
    · cases hv
  · rename_i k n h1
    rw [h1] at hx
    cases hx
    split at hv
    · cases hv; exact ⟨_, rfl, .int _ _⟩
    · cases hv
  · cases hv

theorem d_toInt {src dst : TypeId} {ks k : IntKind} (hs : P.underlying src = some (.int ks)) (hd : P.underlying dst = some (.int k)) {x : Opd} {u : Value} (hx : VR C (x.ev e) u) {v : AV}
    (hv : pop e (.conv (.toInt k) x) = some v) : PuS P C w (convert src dst u) v := by
  simp only [pop] at hv
  split at hv
  · rename_i k' k'' n h1 h2
    cases h1
    rw [h2] at hx
    cases hx
    cases hv
    exact ⟨_, by simp [convert, run_underlying hs, run_underlying hd, Conv.intToInt], .int _ _⟩
  · rename_i h1 _
    cases h1
  · cases hv

theorem d_same {src dst : TypeId} (hs : P.underlying src = some .string) (hd : P.underlying dst = some .string) {x : Opd} {u : Value} (hx : VR C (x.ev e) u) {v : AV}
    (hv : pop e (.conv .same x) = some v) : PuS P C w (convert src dst u) v := by
  simp only [pop] at hv
  split at hv
  · rename_i h1 _; cases h1
  · rename_i s _ h2
    rw [h2] at hx
    cases hx
    cases hv
    exact ⟨_, by simp [convert, run_underlying hs, run_underlying hd], .str _⟩
  · cases hv

theorem d_lenStr {t : TypeId} (ht : P.underlying t = some .string) {x : Opd} {u : Value} (hx : VR C (x.ev e) u) {v : AV} (hv : pop e (.lenStr x) = some v)
    (ty : TypeId) (ts : Array TypeId) (h0 : ts[0]? = some t) : PuS P C w (Builtin.len_ ts ty #[u]) v := by
  simp only [pop] at hv
  split at hv
  · rename_i s h2
    rw [h2] at hx
    cases hx
    cases hv
    exact ⟨.int .i64 s.length, by simp [Builtin.len_, h0, run_underlying ht, goInt, ba_size], .int _ _⟩
  · cases hv

theorem d_len {t et : TypeId} (ht : P.underlying t = some (.slice et)) {x : Opd} {u : Value} (hx : VR C (x.ev e) u) {v : AV} (hv : pop e (.len x) = some v)
    (ty : TypeId) (ts : Array TypeId) (h0 : ts[0]? = some t) : PuS P C w (Builtin.len_ ts ty #[u]) v := by
  simp only [pop] at hv
  have hslice : ∀ (b : Option Addr) (n c : Nat), (Builtin.len_ ts ty #[.slice b n c]).run P w = .ok (goInt n) w := by
    intro b n c
    simp [Builtin.len_, h0, run_underlying ht]
  split at hv
  · rename_i h2
    rw [h2] at hx; cases hx; cases hv
    exact ⟨_, hslice _ _ _, .int _ _⟩
  · rename_i h2
    rw [h2] at hx; cases hv
    obtain ⟨ad, cap, g, rfl, _⟩ := hx.slInv
    exact ⟨_, hslice _ _ _, .int _ _⟩
  · rename_i h2
    rw [h2] at hx; cases hv
    obtain ⟨ad, cap, rfl, _⟩ := hx.rslInv
    exact ⟨_, hslice _ _ _, .int _ _⟩
  · cases hv

theorem d_cap {t et : TypeId} (ht : P.underlying t = some (.slice et)) {x : Opd} {u : Value} (hx : VR C (x.ev e) u) {v : AV} (hv : pop e (.cap x) = some v)
    (ty : TypeId) (ts : Array TypeId) (h0 : ts[0]? = some t) : PuS P C w (Builtin.cap_ ts ty #[u]) v := by
  simp only [pop] at hv
  have hslice : ∀ (b : Option Addr) (n c : Nat), (Builtin.cap_ ts ty #[.slice b n c]).run P w = .ok (goInt c) w := by
    intro b n c
    simp [Builtin.cap_, h0, run_underlying ht]
  split at hv
  · rename_i h2
    rw [h2] at hx; cases hx; cases hv
    exact ⟨_, hslice _ _ _, .int _ _⟩
  · rename_i h2
    rw [h2] at hx; cases hv
    obtain ⟨ad, cap, g, rfl, _, hf, _⟩ := hx.slInv
    rw [hf rfl]
    exact ⟨_, hslice _ _ _, .int _ _⟩
  · rename_i h2
    rw [h2] at hx; cases hv
    obtain ⟨ad, cap, rfl, _, _, hc, _⟩ := hx.rslInv
    rw [hc _ rfl]
    exact ⟨_, hslice _ _ _, .int _ _⟩
  · cases hv

theorem d_mm (mx : Bool) {x y : Opd} {u u' : Value} (hx : VR C (x.ev e) u) (hy : VR C (y.ev e) u') {v : AV} (hv : pop e (.mm mx x y) = some v) (ty : TypeId) (ts : Array TypeId) :
    PuS P C w (if mx then Builtin.max_ ts ty #[u, u'] else Builtin.min_ ts ty #[u, u']) v := by
  simp only [pop] at hv
  split at hv
  · rename_i h1 h2
    rw [h1] at hx; rw [h2] at hy
    split at hv
    · cases hx; cases hy; cases hv
      refine ⟨_, ?_, .int _ _⟩
      cases mx <;> simp [Builtin.max_, Builtin.min_, Builtin.max2, Builtin.min2]
    · cases hv
  · cases hv

theorem d_beq (neq : Bool) {t : TypeId} (ht : P.underlying t = some .bool) {x y : Opd} {u u' : Value} (hx : VR C (x.ev e) u) (hy : VR C (y.ev e) u') {v : AV} (hv : pop e (.beq neq x y) = some v) :
    PuS P C w (binOp (if neq then .neq else .eql) t u u') v := by
  simp only [pop] at hv
  split at hv
  · rename_i b b' h1 h2
    rw [h1] at hx; rw [h2] at hy
    cases hx; cases hy; cases hv
    refine ⟨_, ?_, .bool _⟩
    have g : ∀ n, (Op.equalIn (n + 1) t (.bool b) (.bool b')).run P w = .ok (b == b') w := fun n => by
      unfold Op.equalIn
      rw [Sem.run_bind, run_underlying ht w, Result.andThen_ok]
      rfl
    have g' : (Op.equal t (.bool b) (.bool b')).run P w = .ok (b == b') w := g 9999
    cases neq <;> simp [binOp, g']
  · cases hv

theorem d_nileq (k : Nat) (neq : Bool) {t : TypeId} (ht : (k = 0 ∧ ∃ e, P.underlying t = some (.pointer e)) ∨ (k = 1 ∧ ∃ e, P.underlying t = some (.slice e)) ∨ (k = 2 ∧ ∃ p r b, P.underlying t = some (.func p r b)))
    {x y : Opd} {u u' : Value} (hx : VR C (x.ev e) u) (hy : VR C (y.ev e) u') {v : AV} (hv : pop e (.nileq k neq x y) = some v) : PuS P C w (binOp (if neq then .neq else .eql) t u u') v := by
  simp only [pop, Option.map_eq_some_iff] at hv
  obtain ⟨r, hr, rfl⟩ := hv
  have g := nileq_ok (P := P) (w := w) k t hx hy r hr ht
  refine ⟨_, ?_, .bool _⟩
  unfold nilEq at hr
  split at hr <;> first | (cases hr; done) | (rename_i h1 h2; rw [h1] at hx; rw [h2] at hy; cases hx <;> cases hy <;> (cases neq <;> simp [binOp, g]))


theorem some_bind {α β : Type} {x : Option α} {f : α → Option β} {y : β} (h : (do let z ← x; f z) = some y) : ∃ z, x = some z ∧ f z = some y := bindO h

theorem p_move {pol : Pol} {reg : Nat} {o : Oper} {x : Operand} (ho : o.op = .move x ∨ o.op = .assign x) (he : ER G C e a nt) {vo : POp} (hc : cOp P pol reg o.op = .p vo) {v : AV} (hv : pop e vo = some v) :
    Pu P C w ((execOp a.eval o).run P w) v := by
  have : ∃ y, cOpd x = some y ∧ vo = .mov y := by
    rcases ho with ho | ho <;> rw [ho] at hc <;> simp only [cOp] at hc <;>
    · obtain ⟨y, hy, h⟩ := some_bind (orBad_p hc)
      exact ⟨y, hy, by simpa using h.symm⟩
  obtain ⟨y, hy, rfl⟩ := this
  simp only [pop] at hv
  cases hv
  refine ⟨a.eval x, ?_, cOpd_ok he hy⟩
  rcases ho with ho | ho <;> simp [execOp, ho]

theorem p_pick {pol : Pol} {reg : Nat} {o : Oper} {c x y : Operand} (ho : o.op = .pick c x y) (he : ER G C e a nt) {vo : POp} (hc : cOp P pol reg o.op = .p vo) {v : AV} (hv : pop e vo = some v) :
    Pu P C w ((execOp a.eval o).run P w) v := by
  rw [ho] at hc
  simp only [cOp] at hc
  obtain ⟨c', h1, h⟩ := some_bind (orBad_p hc)
  obtain ⟨x', h2, h⟩ := some_bind h
  obtain ⟨y', h3, h⟩ := some_bind h
  simp at h
  subst h
  simp only [pop] at hv
  have k1 := cOpd_ok he h1
  split at hv
  · rename_i t ht
    rw [ht] at k1
    generalize hcu : a.eval c = cu at k1
    cases k1
    cases hv
    refine ⟨if t then a.eval x else a.eval y, ?_, ?_⟩
    · simp [execOp, ho, hcu, asBool]
    · cases t
      · exact cOpd_ok he h3
      · exact cOpd_ok he h2
  · cases hv

theorem p_nilck {pol : Pol} {reg : Nat} {o : Oper} {x : Operand} (ho : o.op = .nilCheck x) (he : ER G C e a nt) {vo : POp} (hc : cOp P pol reg o.op = .p vo) {v : AV} (hv : pop e vo = some v) :
    Pu P C w ((execOp a.eval o).run P w) v := by
  have hc' := hc
  rw [ho] at hc'
  simp only [cOp] at hc'
  obtain ⟨y, hy, h⟩ := some_bind (orBad_p hc')
  simp at h
  subst h
  exact d_nilck (cOpd_ok he hy) hv o x ho rfl

theorem p_un {pol : Pol} {reg : Nat} {o : Oper} {op : UnOp} {t : TypeId} {x : Operand} (ho : o.op = .unOp op t x) (he : ER G C e a nt) {vo : POp} (hc : cOp P pol reg o.op = .p vo) {v : AV} (hv : pop e vo = some v) :
    Pu P C w ((execOp a.eval o).run P w) v := by
  rw [ho] at hc
  simp only [cOp] at hc
  obtain ⟨y, hy, h⟩ := some_bind (orBad_p hc)
  simp at h
  subst h
  have := (d_un (P := P) (w := w) op (cOpd_ok he hy) hv).pu
  simpa [execOp, ho] using this

theorem p_mkfn {pol : Pol} {reg : Nat} {o : Oper} {fn : Fn} {fs cs : Array Operand} (ho : o.op = .makeFunc fn fs cs) (he : ER G C e a nt) {vo : POp} (hc : cOp P pol reg o.op = .p vo) {v : AV} (hv : pop e vo = some v) :
    Pu P C w ((execOp a.eval o).run P w) v := by
  rw [ho] at hc
  cases fn with
  | func f =>
    simp only [cOp] at hc
    obtain ⟨xs, h1, h⟩ := some_bind (orBad_p hc)
    obtain ⟨ys, h2, h⟩ := some_bind h
    simp at h
    subst h
    simp only [pop] at hv
    cases hv
    obtain ⟨k1, k2⟩ := cOpds_ok he h1
    obtain ⟨l1, l2⟩ := cOpds_ok he h2
    refine ⟨.func (.func f) (fs.map a.eval) (cs.map a.eval), by simp [execOp, ho, Instr.makeFunc], .fn f _ _ _ _ (by simpa using k1.symm) (by simpa using l1.symm) (fun j c hj => ?_) (fun j c hj => ?_)⟩
    · have := k2 j c hj
      simpa [Array.getD_eq_getD_getElem?, List.getD_eq_getElem?_getD] using this
    · have := l2 j c hj
      simpa [Array.getD_eq_getD_getElem?, List.getD_eq_getElem?_getD] using this
  | _ => simp [cOp, orBad, badOp] at hc

theorem p_ext {pol : Pol} {reg : Nat} {o : Oper} {x : Operand} {i : Nat} (ho : o.op = .extract x i) (he : ER G C e a nt) {vo : POp} (hc : cOp P pol reg o.op = .p vo) {v : AV} (hv : pop e vo = some v) :
    Pu P C w ((execOp a.eval o).run P w) v := by
  rw [ho] at hc
  simp only [cOp] at hc
  obtain ⟨y, hy, h⟩ := some_bind (orBad_p hc)
  simp at h
  subst h
  have := (d_ext (P := P) (w := w) (cOpd_ok he hy) hv).pu
  simpa [execOp, ho] using this

theorem p_fieldAddr {pol : Pol} {reg : Nat} {o : Oper} {s : TypeId} {x : Operand} {i : Nat} (ho : o.op = .fieldAddr s x i) (he : ER G C e a nt) {vo : POp} (hc : cOp P pol reg o.op = .p vo) {v : AV} (hv : pop e vo = some v) :
    Pu P C w ((execOp a.eval o).run P w) v := by
  rw [ho] at hc
  simp only [cOp] at hc
  obtain ⟨y, hy, h⟩ := some_bind (orBad_p hc)
  split at h
  · rename_i fs hs
    obtain ⟨f, hf, h⟩ := some_bind h
    obtain ⟨n, hn, h⟩ := some_bind h
    split at h
    · rename_i hp
      simp at h
      subst h
      have := (d_fieldA (P := P) (w := w) hs hf hn hp (cOpd_ok he hy) hv).pu
      simpa [execOp, ho] using this
    · cases h
  · cases h

theorem p_field {pol : Pol} {reg : Nat} {o : Oper} {s : TypeId} {x : Operand} {i : Nat} (ho : o.op = .field s x i) (he : ER G C e a nt) {vo : POp} (hc : cOp P pol reg o.op = .p vo) {v : AV} (hv : pop e vo = some v) :
    Pu P C w ((execOp a.eval o).run P w) v := by
  rw [ho] at hc
  simp only [cOp] at hc
  obtain ⟨y, hy, h⟩ := some_bind (orBad_p hc)
  split at h
  · rename_i fs hs
    obtain ⟨f, hf, h⟩ := some_bind h
    obtain ⟨ag, hag, h⟩ := some_bind h
    simp at h
    subst h
    have := (d_fieldV (P := P) (w := w) hs hf hag (cOpd_ok he hy) hv).pu
    simpa [execOp, ho] using this
  · cases h

theorem p_indexAddr {pol : Pol} {reg : Nat} {o : Oper} {t : TypeId} {x i : Operand} (ho : o.op = .indexAddr t x i) (he : ER G C e a nt) {vo : POp} (hc : cOp P pol reg o.op = .p vo) {v : AV} (hv : pop e vo = some v) :
    Pu P C w ((execOp a.eval o).run P w) v := by
  rw [ho] at hc
  simp only [cOp] at hc
  obtain ⟨x', hx, h⟩ := some_bind (orBad_p hc)
  obtain ⟨i', hi, h⟩ := some_bind h
  split at h
  · obtain ⟨⟨z, b, zero⟩, hz, h⟩ := some_bind h
    simp at h
    subst h
    obtain ⟨et, it, zv, hu, hit, rfl, _⟩ := elemOf'_ok hz
    have := (d_idxA (P := P) (w := w) hu hit (cOpd_ok he hx) (cOpd_ok he hi) hv).pu
    simpa [execOp, ho] using this
  · rename_i n et hu
    obtain ⟨m, hm, h⟩ := some_bind h
    simp at h
    subst h
    obtain ⟨it, hit, rfl⟩ := cellsN_ok hm
    have := (d_idxArr (P := P) (w := w) hu hit (cOpd_ok he hx) (cOpd_ok he hi) hv).pu
    simpa [execOp, ho] using this
  · cases h

theorem p_index {pol : Pol} {reg : Nat} {o : Oper} {t : TypeId} {x i : Operand} (ho : o.op = .index t x i) (he : ER G C e a nt) {vo : POp} (hc : cOp P pol reg o.op = .p vo) {v : AV} (hv : pop e vo = some v) :
    Pu P C w ((execOp a.eval o).run P w) v := by
  rw [ho] at hc
  simp only [cOp] at hc
  obtain ⟨x', hx, h⟩ := some_bind (orBad_p hc)
  obtain ⟨i', hi, h⟩ := some_bind h
  split at h
  · rename_i hu
    simp at h
    subst h
    have := (d_idxStr (P := P) (w := w) hu (cOpd_ok he hx) (cOpd_ok he hi) hv).pu
    simpa [execOp, ho] using this
  · rename_i n et hu
    obtain ⟨ag, hag, h⟩ := some_bind h
    simp at h
    subst h
    have := (d_idxAgg (P := P) (w := w) hu hag (cOpd_ok he hx) (cOpd_ok he hi) hv).pu
    simpa [execOp, ho] using this
  · cases h

theorem opdO_pair (he : ER G C e a nt) {x : Option Operand} {y : Option Opd} (h : cOpdO x = some y) :
    (x.map a.eval = none ∧ y.map (·.ev e) = none) ∨ ∃ x' y', x.map a.eval = some x' ∧ y.map (·.ev e) = some y' ∧ VR C y' x' := by
  rcases cOpdO_ok he h with ⟨rfl, rfl⟩ | ⟨x', y', rfl, rfl, hv⟩
  · exact .inl ⟨rfl, rfl⟩
  · exact .inr ⟨_, _, rfl, rfl, hv⟩

theorem p_slice {pol : Pol} {reg : Nat} {o : Oper} {t : TypeId} {x : Operand} {lo hi mx : Option Operand} (ho : o.op = .slice t x lo hi mx) (he : ER G C e a nt) {vo : POp} (hc : cOp P pol reg o.op = .p vo) {v : AV} (hv : pop e vo = some v) :
    Pu P C w ((execOp a.eval o).run P w) v := by
  rw [ho] at hc
  cases mx with
  | some m => simp [cOp, orBad, badOp] at hc
  | none =>
    simp only [cOp] at hc
    obtain ⟨x', hx, h⟩ := some_bind (orBad_p hc)
    obtain ⟨lo', hlo, h⟩ := some_bind h
    obtain ⟨hi', hhi, h⟩ := some_bind h
    split at h
    · rename_i hu
      simp at h
      subst h
      have := (d_sliceStr (P := P) (w := w) hu (cOpd_ok he hx) (opdO_pair he hlo) (opdO_pair he hhi) hv).pu
      simpa [execOp, ho] using this
    · obtain ⟨⟨z, b, zero⟩, hz, h⟩ := some_bind h
      simp at h
      subst h
      obtain ⟨et, it, zv, hu, hit, rfl, _⟩ := elemOf'_ok hz
      have := (d_slice (P := P) (w := w) hu hit (cOpd_ok he hx) (opdO_pair he hlo) (opdO_pair he hhi) hv).pu
      simpa [execOp, ho] using this
    · cases h

end
end Go.Vx
