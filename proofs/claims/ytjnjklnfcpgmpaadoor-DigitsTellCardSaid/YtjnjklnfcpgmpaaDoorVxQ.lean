/- V: operators on two values; literals; calls of builtins on values. -/
import Derived.Test.YtjnjklnfcpgmpaaDoorVxP
import Derived.Laws.StructEq
set_option linter.unusedVariables false
set_option linter.unusedSimpArgs false
namespace Go.Vx
variable {G : Nat → Obj → Prop}

section
variable {P : Program} {C : Cx} {w : World} {e : Env} {a : Act} {nt : Nat}

theorem eqFields_ok (d : Nat) : ∀ (fs : List Field) (i : Nat) (ks : List Nat), plainFields P i fs = some ks → ∀ (xs ys : List AV) (vs ws : Array Value), RL C xs vs i → RL C ys ws i →
    vs.size = i + xs.length → ws.size = i + ys.length → ∀ r, eqCells ks xs ys = some r → (Op.eqFields (d + 1) vs ws fs).run P w = .ok r w := by
  intro fs
  induction fs with
  | nil =>
    intro i ks h xs ys vs ws hx hy hvs hws r hr
    simp only [plainFields] at h
    cases h
    unfold eqCells at hr
    split at hr <;> first | (cases hr; rfl) | (cases hr; done) | skip
    all_goals simp_all
  | cons f fs ih =>
    intro i ks h xs ys vs ws hx hy hvs hws r hr
    simp only [plainFields] at h
    split at h
    · rename_i hc
      obtain ⟨hn, ho, hsz⟩ := hc
      simp only [Option.map_eq_some_iff] at hsz
      obtain ⟨ti, hti, hone⟩ := hsz
      have hpart : ∀ (us : Array Value) (v : Value), us[i]? = some v → (isAgg f.type).run P w = .ok false w → (part f.type us f.offset).run P w = .ok v w := by
        intro us v hu hag
        unfold part
        simp only [Sem.run_bind, hag, Result.andThen_ok, Bool.false_eq_true, if_false]
        simp [ho, hu]
      have get : ∀ (zs : List AV) (us : Array Value) (z : AV) (zs' : List AV), RL C zs us i → us.size = i + zs.length → zs = z :: zs' → ∃ v, us[i]? = some v ∧ VR C z v ∧ RL C zs' us (i + 1) := by
        intro zs us z zs' hr hs he
        subst he
        have hlt : i < us.size := by rw [hs]; simp
        refine ⟨us[i], Array.getElem?_eq_getElem hlt, ?_, ?_⟩
        · have := (hr 0 z rfl).1
          simpa [Array.getD_eq_getD_getElem?, Array.getElem?_eq_getElem hlt] using this
        · intro j c hj
          have := hr (j + 1) c (by simpa using hj)
          rwa [show i + 1 + j = i + (j + 1) by omega]
      have run : ∀ (v v' : Value) (b : Bool), vs[i]? = some v → ws[i]? = some v' → (isAgg f.type).run P w = .ok false w → (Op.equalIn (d + 1) f.type v v').run P w = .ok b w →
          ∀ r', (Op.eqFields (d + 1) vs ws fs).run P w = .ok r' w → (Op.eqFields (d + 1) vs ws (f :: fs)).run P w = .ok (b && r') w := by
        intro v v' b h1 h2 hag he r' hr'
        simp only [Op.eqFields]
        rw [if_pos hn]
        simp only [Sem.run_bind, hpart vs v h1 hag, hpart ws v' h2 hag, he, Result.andThen_ok]
        cases b
        · simp
        · simp [hr']
      split at h
      · rename_i hu
        simp only [Option.map_eq_some_iff] at h
        obtain ⟨ks', hks, rfl⟩ := h
        have hag : (isAgg f.type).run P w = .ok false w := by simp [isAgg, run_underlying hu]
        unfold eqCells at hr
        split at hr <;> first | (cases hr; done) | skip
        all_goals (rename_i heq; first | (cases heq; done) | skip)
        rename_i ks'' x xs' y ys'
        cases heq
        simp only [Option.map_eq_some_iff] at hr
        obtain ⟨r', hr', rfl⟩ := hr
        obtain ⟨v, h1, h2, h3⟩ := get _ vs _ _ hx hvs rfl
        obtain ⟨v', k1, k2, k3⟩ := get _ ws _ _ hy hws rfl
        cases h2; cases k2
        exact run _ _ _ h1 k1 hag (run_equalIn_bool' w d f.type _ _ hu) r' (ih (i + 1) ks' hks xs' ys' vs ws h3 k3 (by rw [hvs]; simp; omega) (by rw [hws]; simp; omega) r' hr')
      · rename_i kk hu
        simp only [Option.map_eq_some_iff] at h
        obtain ⟨ks', hks, rfl⟩ := h
        have hag : (isAgg f.type).run P w = .ok false w := by simp [isAgg, run_underlying hu]
        unfold eqCells at hr
        split at hr <;> first | (cases hr; done) | skip
        all_goals (rename_i heq; first | (cases heq; done) | skip)
        rename_i ks'' k1' x xs' k2' y ys'
        cases heq
        split at hr
        · rename_i hkk
          subst hkk
          simp only [Option.map_eq_some_iff] at hr
          obtain ⟨r', hr', rfl⟩ := hr
          obtain ⟨v, h1, h2, h3⟩ := get _ vs _ _ hx hvs rfl
          obtain ⟨v', k1, k2, k3⟩ := get _ ws _ _ hy hws rfl
          cases h2; cases k2
          exact run _ _ _ h1 k1 hag (run_equalIn_int w d f.type _ _ _ _ hu) r' (ih (i + 1) ks' hks xs' ys' vs ws h3 k3 (by rw [hvs]; simp; omega) (by rw [hws]; simp; omega) r' hr')
        · cases hr
      · rename_i hu
        simp only [Option.map_eq_some_iff] at h
        obtain ⟨ks', hks, rfl⟩ := h
        have hag : (isAgg f.type).run P w = .ok false w := by simp [isAgg, run_underlying hu]
        unfold eqCells at hr
        split at hr <;> first | (cases hr; done) | skip
        all_goals (rename_i heq; first | (cases heq; done) | skip)
        rename_i ks'' x xs' y ys'
        cases heq
        simp only [Option.map_eq_some_iff] at hr
        obtain ⟨r', hr', rfl⟩ := hr
        obtain ⟨v, h1, h2, h3⟩ := get _ vs _ _ hx hvs rfl
        obtain ⟨v', k1, k2, k3⟩ := get _ ws _ _ hy hws rfl
        cases h2; cases k2
        have := run_equalIn_string w d f.type ⟨x.toArray⟩ ⟨y.toArray⟩ hu
        rw [bytes_toList, bytes_toList] at this
        exact run _ _ _ h1 k1 hag this r' (ih (i + 1) ks' hks xs' ys' vs ws h3 k3 (by rw [hvs]; simp; omega) (by rw [hws]; simp; omega) r' hr')
      · cases h
    · cases h


theorem eqGuardType_plain : ∀ (fs : List Field) (i : Nat) (ks : List Nat), plainFields P i fs = some ks → ∀ f ∈ fs, ∀ d, P.eqGuardType (d + 1) f.type = false := by
  intro fs
  induction fs with
  | nil => intro i ks _ f hf; simp at hf
  | cons g fs ih =>
    intro i ks h f hf d
    simp only [plainFields] at h
    split at h
    · split at h
      all_goals first | (cases h; done) | skip
      all_goals
        rename_i hu
        simp only [Option.map_eq_some_iff] at h
        obtain ⟨ks', hks, rfl⟩ := h
        rcases List.mem_cons.1 hf with rfl | hf
        · simp [Program.eqGuardType, hu]
        · exact ih _ ks' hks f hf d
    · cases h

theorem d_eqagg (neq : Bool) {t : TypeId} {fs : Array Field} {ks : List Nat} (ht : P.underlying t = some (.struct fs)) (hst : P.stoodInHeld t = false) (hks : plainFields P 0 fs.toList = some ks)
    {x y : Opd} {u u' : Value} (hx : VR C (x.ev e) u) (hy : VR C (y.ev e) u') {v : AV} (hv : pop e (.eqagg ks neq x y) = some v) (ox oy : Operand) :
    PuS P C w (do eqGuard (if neq then .neq else .eql) t ox oy u u'; binOp (if neq then .neq else .eql) t u u') v := by
  simp only [pop] at hv
  split at hv
  · rename_i xs ys h1 h2
    rw [h1] at hx; rw [h2] at hy
    simp only [Option.map_eq_some_iff] at hv
    obtain ⟨r, hr, rfl⟩ := hv
    obtain ⟨vs, rfl, hvs, hrx⟩ := hx.aggRL
    obtain ⟨ws, rfl, hws, hry⟩ := hy.aggRL
    have hfo : P.fieldsOf t = fs := by simp [Program.fieldsOf, ht]
    have g1 := eqFields_ok (P := P) (w := w) 9997 fs.toList 0 ks hks xs ys vs ws hrx hry (by omega) (by omega) r hr
    have g2 : (Op.equal t (.agg vs) (.agg ws)).run P w = .ok r w := by
      unfold Op.equal
      show (Op.equalIn (9998 + 1 + 1) t (.agg vs) (.agg ws)).run P w = _
      rw [run_equalIn_struct w (9998 + 1) t vs ws (by rw [hfo]; exact ht) hst, hfo]
      exact eqFields_ok (P := P) (w := w) 9998 fs.toList 0 ks hks xs ys vs ws hrx hry (by omega) (by omega) r hr
    have g3 : P.eqGuardType P.depth t = false := by
      have : P.depth = (2 * (P.types.size + Made.depth)) + 1 + 1 := by simp [Program.depth]
      rw [this]
      unfold Program.eqGuardType
      rw [ht]
      simp only [Array.any_eq_false]
      intro i hi
      have hm : fs[i] ∈ fs.toList := by simp
      have := eqGuardType_plain fs.toList 0 ks hks fs[i] hm (2 * (P.types.size + Made.depth))
      simp [this]
    have g4 : ∀ op, (eqGuard op t ox oy (.agg vs) (.agg ws)).run P w = .ok () w := by
      intro op
      unfold eqGuard
      cases op <;> first | rfl | (simp only [Sem.run_bind, run_program, Result.andThen_ok, Sem.run_ite]; simp [g3])
    refine ⟨_, ?_, .bool _⟩
    cases neq <;> simp [binOp, g2, g4]
  · cases hv

theorem binOp_pu {o : Oper} {op : BinOp} {t yt : TypeId} {x y : Operand} (ho : o.op = .binOp op t x y yt) {v : AV}
    (h : PuS P C w (do eqGuard op t x y (a.eval x) (a.eval y); binOp op t (a.eval x) (a.eval y)) v) : Pu P C w ((execOp a.eval o).run P w) v := by
  have := h.pu
  simpa [execOp, ho] using this

theorem PuS.guard {op : BinOp} {t : TypeId} {ox oy : Operand} {u u' : Value} {v : AV} (h : PuS P C w (binOp op t u u') v) (hu : ∀ c, u ≠ .nilIface ∧ u ≠ .agg c) :
    PuS P C w (do eqGuard op t ox oy u u'; binOp op t u u') v := by
  obtain ⟨x, h1, h2⟩ := h
  exact ⟨x, by simp [eqGuard_ok op t ox oy hu, h1], h2⟩

theorem p_binOp {pol : Pol} {reg : Nat} {o : Oper} {op : BinOp} {t yt : TypeId} {x y : Operand} (ho : o.op = .binOp op t x y yt) (he : ER G C e a nt) {vo : POp} (hc : cOp P pol reg o.op = .p vo) {v : AV} (hv : pop e vo = some v) :
    Pu P C w ((execOp a.eval o).run P w) v := by
  refine binOp_pu ho ?_
  rw [ho] at hc
  simp only [cOp] at hc
  obtain ⟨x', hx, h⟩ := some_bind (orBad_p hc)
  obtain ⟨y', hy, h⟩ := some_bind h
  have kx := cOpd_ok he hx
  have ky := cOpd_ok he hy
  have ibinC : ∀ vo, vo = POp.ibin op x' y' → pop e vo = some v → PuS P C w (do eqGuard op t x y (a.eval x) (a.eval y); binOp op t (a.eval x) (a.eval y)) v := by
    rintro vo rfl hv
    simp only [pop] at hv
    have hna : (x'.ev e).isAgg = false := by
      generalize x'.ev e = z at hv
      cases z <;> first | rfl | (simp [ibin] at hv)
    obtain ⟨r, h1, h2⟩ := ibin_ok (P := P) (w := w) op t kx ky v hv
    exact PuS.guard ⟨r, h1, h2⟩ (kx.noIface hna)
  have nilC : ∀ (k : Nat) (neq : Bool), ((k = 0 ∧ ∃ e, P.underlying t = some (.pointer e)) ∨ (k = 1 ∧ ∃ e, P.underlying t = some (.slice e)) ∨ (k = 2 ∧ ∃ p r b, P.underlying t = some (.func p r b))) →
      ∀ vo, vo = POp.nileq k neq x' y' → pop e vo = some v → PuS P C w (do eqGuard (if neq then .neq else .eql) t x y (a.eval x) (a.eval y); binOp (if neq then .neq else .eql) t (a.eval x) (a.eval y)) v := by
    rintro k neq ht vo rfl hv
    have hna : (x'.ev e).isAgg = false := by
      simp only [pop, Option.map_eq_some_iff] at hv
      obtain ⟨r, hr, _⟩ := hv
      unfold nilEq at hr
      split at hr <;> first | (cases hr; done) | (rename_i h1 h2; rw [h1]; rfl)
    exact PuS.guard (d_nileq k neq ht kx ky hv) (kx.noIface hna)
  have beqC : ∀ (neq : Bool), P.underlying t = some .bool →
      ∀ vo, vo = POp.beq neq x' y' → pop e vo = some v → PuS P C w (do eqGuard (if neq then .neq else .eql) t x y (a.eval x) (a.eval y); binOp (if neq then .neq else .eql) t (a.eval x) (a.eval y)) v := by
    rintro neq ht vo rfl hv
    have hna : (x'.ev e).isAgg = false := by
      simp only [pop] at hv
      split at hv
      · rename_i h1 h2; rw [h1]; rfl
      · cases hv
    exact PuS.guard (d_beq neq ht kx ky hv) (kx.noIface hna)
  split at h
  · simp at h; exact ibinC vo h.symm hv
  · simp at h; exact ibinC vo h.symm hv
  · rename_i hu
    split at h
    · simp at h; exact beqC false hu vo h.symm hv
    · simp at h; exact beqC true hu vo h.symm hv
    · cases h
  · rename_i et hu
    split at h
    · simp at h; exact nilC 0 false (.inl ⟨rfl, et, hu⟩) vo h.symm hv
    · simp at h; exact nilC 0 true (.inl ⟨rfl, et, hu⟩) vo h.symm hv
    · cases h
  · rename_i et hu
    split at h
    · simp at h; exact nilC 1 false (.inr (.inl ⟨rfl, et, hu⟩)) vo h.symm hv
    · simp at h; exact nilC 1 true (.inr (.inl ⟨rfl, et, hu⟩)) vo h.symm hv
    · cases h
  · rename_i p r b hu
    split at h
    · simp at h; exact nilC 2 false (.inr (.inr ⟨rfl, p, r, b, hu⟩)) vo h.symm hv
    · simp at h; exact nilC 2 true (.inr (.inr ⟨rfl, p, r, b, hu⟩)) vo h.symm hv
    · cases h
  · rename_i fs hu
    split at h
    · cases h
    · rename_i hst
      have hst' : P.stoodInHeld t = false := by simpa using hst
      cases hks : plainFields P 0 fs.toList with
      | none => simp [hks] at h
      | some ks =>
        rw [hks] at h
        split at h
        · rename_i he1 he2
          cases he1
          simp at h; subst h
          exact d_eqagg false hu hst' hks kx ky hv x y
        · rename_i he1 he2
          cases he1
          simp at h; subst h
          exact d_eqagg true hu hst' hks kx ky hv x y
        · cases h
  · cases h

theorem p_convert {pol : Pol} {reg : Nat} {o : Oper} {src dst : TypeId} {x : Operand} (ho : o.op = .convert src dst x) (he : ER G C e a nt) {vo : POp} (hc : cOp P pol reg o.op = .p vo) {v : AV} (hv : pop e vo = some v) :
    Pu P C w ((execOp a.eval o).run P w) v := by
  rw [ho] at hc
  simp only [cOp] at hc
  obtain ⟨x', hx, h⟩ := some_bind (orBad_p hc)
  split at h
  · rename_i k1 k2 h1 h2
    simp at h; subst h
    have := (d_toInt (P := P) (w := w) h1 h2 (cOpd_ok he hx) hv).pu
    simpa [execOp, ho] using this
  · rename_i h1 h2
    simp at h; subst h
    have := (d_same (P := P) (w := w) h1 h2 (cOpd_ok he hx) hv).pu
    simpa [execOp, ho] using this
  · split at h <;> simp at h
  · split at h <;> simp at h
  · split at h <;> simp at h
  · cases h

theorem sizes_ok : ∀ (fs : List Field), (∀ f ∈ fs, (P.info? f.type).isSome = true) → ∃ l : List (Nat × Nat),
    (fs.mapM (fun (f : Field) => (do pure (f.offset, ← sizeOf f.type) : Sem (Nat × Nat)))).run P w = .ok l w ∧ ∀ (i : Nat) (f : Field) (m : Nat), fs[i]? = some f → cellsN P f.type = some m → l[i]? = some (f.offset, m) := by
  intro fs
  induction fs with
  | nil => intro _; exact ⟨[], rfl, fun i f m h => by simp at h⟩
  | cons f fs ih =>
    intro h
    obtain ⟨l, h1, h2⟩ := ih (fun g hg => h g (by simp [hg]))
    cases hi : P.info? f.type with
    | none => have := h f (by simp); simp [hi] at this
    | some ti =>
      refine ⟨(f.offset, ti.size) :: l, ?_, fun i g m hg hm => ?_⟩
      · simp only [List.mapM_cons, Sem.run_bind, rSize hi, Result.andThen_ok, Sem.run_pure, h1]
      · cases i with
        | zero =>
          simp at hg
          subst hg
          obtain ⟨ti', hti, hs⟩ := cellsN_ok hm
          rw [hi] at hti
          cases hti
          simp [hs]
        | succ i => simpa using h2 i g m (by simpa using hg) hm

theorem p_build {pol : Pol} {reg : Nat} {o : Oper} {t : TypeId} {parts : Array (Nat × Operand)} (ho : o.op = .build t parts) (he : ER G C e a nt) {vo : POp} (hc : cOp P pol reg o.op = .p vo) {v : AV} (hv : pop e vo = some v) :
    Pu P C w ((execOp a.eval o).run P w) v := by
  rw [ho] at hc
  simp only [cOp] at hc
  obtain ⟨z, hz, h⟩ := some_bind (orBad_p hc)
  obtain ⟨n, hn, h⟩ := some_bind h
  obtain ⟨ps, hps, h⟩ := some_bind h
  obtain ⟨i, zv, hi, hzv, hzr⟩ := zeroAV_ok hz
  obtain ⟨hzr1, hzr2⟩ := hzr C
  obtain ⟨q1, q2⟩ := cParts_ok hps
  have hz0 : (zeroValue t).run P w = .ok zv w := rZero hi hzv
  have hra := hzr1.ra hzr2
  have hmap : (parts.map fun (x : Nat × Operand) => (x.1, a.eval x.2)).toList = parts.toList.map fun p => (p.1, a.eval p.2) := by simp
  split at h
  · cases h
  · split at h
    · rename_i fs hu
      split at h
      · cases h
      rename_i hall
      obtain ⟨ps', hps', h⟩ := some_bind h
      simp at h; subst h
      simp only [pop, Option.map_eq_some_iff] at hv
      obtain ⟨cs', hcs, rfl⟩ := hv
      obtain ⟨m1, m2⟩ := mapM_some hps'
      obtain ⟨szs, hszs⟩ : ∃ szs : Array (Nat × Nat), (fs.mapM fun (f : Field) => (do pure (f.offset, ← sizeOf f.type) : Sem (Nat × Nat))).run P w = .ok szs w ∧
          ∀ (i : Nat) (f : Field) (m : Nat), fs[i]? = some f → cellsN P f.type = some m → szs[i]? = some (f.offset, m) := by
        have hall' : ∀ f ∈ fs.toList, (P.info? f.type).isSome = true := List.all_eq_true.1 (Classical.byContradiction fun h9 => hall (by rw [Bool.not_eq_true] at h9; rw [h9]; rfl))
        obtain ⟨l, hl1, hl2⟩ := sizes_ok (P := P) (w := w) fs.toList hall'
        refine ⟨l.toArray, ?_, fun i f m hf hm => ?_⟩
        · have : fs.mapM (fun (f : Field) => (do pure (f.offset, ← sizeOf f.type) : Sem (Nat × Nat))) = List.toArray <$> fs.toList.mapM (fun (f : Field) => (do pure (f.offset, ← sizeOf f.type) : Sem (Nat × Nat))) := by
            rw [← List.mapM_toArray, Array.toArray_toList]
          rw [this, Sem.run_map, hl1]
          rfl
        · have := hl2 i f m (by simpa using hf) hm
          simpa using this
      obtain ⟨arr', g1, g2⟩ := fill_ok he (szs[·]?) parts.toList ps' (by rw [m1, q1]) (fun j q hj => by
        obtain ⟨p0, hp0, hq⟩ := m2 j q hj
        obtain ⟨p, hp, hpi, hpo⟩ := q2 j p0 hp0
        obtain ⟨i0, x0⟩ := p0
        simp only [] at hpi hpo
        obtain ⟨f, hf, hq⟩ := bindO hq
        obtain ⟨m, hm, hq⟩ := bindO hq
        simp at hq; subst hq
        exact ⟨p, hp, by rw [hpi]; exact hszs.2 i0 f m hf hm, hpo⟩) z.cells cs' zv.cells hra hcs
      refine ⟨.agg arr', ?_, .agg _ _ g2.1 (fun j c hj => ?_) (fun j c hj => ?_)⟩
      · simp only [execOp, ho, Instr.build, Sem.run_bind, hz0, Result.andThen_ok, run_underlying hu, hszs.1, hmap, g1, Sem.run_pure]
      · have := (g2.2 j c hj).2; rwa [Nat.zero_add] at this
      · have := (g2.2 j c hj).1; rwa [Nat.zero_add] at this
    · rename_i n' et hu
      obtain ⟨m, hm, h⟩ := some_bind h
      simp at h; subst h
      simp only [pop, Option.map_eq_some_iff] at hv
      obtain ⟨cs', hcs, rfl⟩ := hv
      obtain ⟨it, hit, hsz⟩ := cellsN_ok hm
      obtain ⟨arr', g1, g2⟩ := fill_ok he (fun i => some (i * m, m)) parts.toList (ps.map fun p => (p.1 * m, m, p.2)) (by simp [q1]) (fun j q hj => by
        simp only [List.getElem?_map, Option.map_eq_some_iff] at hj
        obtain ⟨p0, hp0, rfl⟩ := hj
        obtain ⟨p, hp, hpi, hpo⟩ := q2 j p0 hp0
        exact ⟨p, hp, by rw [hpi], hpo⟩) z.cells cs' zv.cells hra hcs
      refine ⟨.agg arr', ?_, .agg _ _ g2.1 (fun j c hj => ?_) (fun j c hj => ?_)⟩
      · simp only [execOp, ho, Instr.build, Sem.run_bind, hz0, Result.andThen_ok, run_underlying hu, rSize hit, hsz, hmap, g1, Sem.run_pure]
      · have := (g2.2 j c hj).2; rwa [Nat.zero_add] at this
      · have := (g2.2 j c hj).1; rwa [Nat.zero_add] at this
    · cases h

end
end Go.Vx
