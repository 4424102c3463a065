/- V: its operations that touch no heap say what the machine's say. -/
import Derived.Test.YtjnjklnfcpgmpaaDoorVxSim
import Derived.Laws.Entries
import Derived.Laws.Strings
import Derived.Laws.Cells
set_option linter.unusedVariables false
set_option linter.unusedSimpArgs false
namespace Go.Vx
variable {G : Nat → Obj → Prop}

theorem orBad_p {o : Option VOp} {q : POp} (h : orBad o = .p q) : o = some (.p q) := by
  cases o with
  | none => simp [orBad, badOp] at h
  | some x => simpa [orBad] using h
theorem orBad_r {o : Option VOp} {q : ROp} (h : orBad o = .r q) : o = some (.r q) := by
  cases o with
  | none => simp [orBad, badOp] at h
  | some x => simpa [orBad] using h
theorem orBad_w {o : Option VOp} {q : WOp} (h : orBad o = .w q) (hq : q ≠ .bad) : o = some (.w q) := by
  cases o with
  | none => simp [orBad, badOp] at h; exact absurd h.symm hq
  | some x => simpa [orBad] using h

theorem toList_mk (l : List UInt8) : (⟨l.toArray⟩ : ByteArray).data.toList = l := rfl

theorem mapM_some {α β : Type} {f : α → Option β} : ∀ {l : List α} {l' : List β}, l.mapM f = some l' → l'.length = l.length ∧ ∀ (j : Nat) (y : β), l'[j]? = some y → ∃ x : α, l[j]? = some x ∧ f x = some y := by
  intro l
  induction l with
  | nil => intro l' h; simp at h; subst h; simp
  | cons a l ih =>
    intro l' h
    simp only [List.mapM_cons, Option.bind_eq_bind, Option.bind_eq_some_iff, Option.pure_def, Option.some.injEq] at h
    obtain ⟨b, hb, bs, hbs, rfl⟩ := h
    obtain ⟨h1, h2⟩ := ih hbs
    refine ⟨by simp [h1], fun j y hj => ?_⟩
    match j with
    | 0 => simp at hj; subst hj; exact ⟨a, by simp, hb⟩
    | j + 1 => simpa using h2 j y (by simpa using hj)

theorem cVal_ok : ∀ (d : Nat) (v : Value) (x : AV), cVal d v = some x → ∀ C, VR C x v ∧ x.isTup = false := by
  intro d
  induction d with
  | zero => intro v x h; simp [cVal] at h
  | succ d ih =>
    intro v x h C
    unfold cVal at h
    split at h
    · rename_i heq; simp at heq
    · cases h; exact ⟨.bool _, rfl⟩
    · cases h; exact ⟨.int _ _, rfl⟩
    · cases h; exact ⟨.str _, rfl⟩
    · cases h; exact ⟨.nilp, rfl⟩
    · cases h; exact ⟨.nilsl, rfl⟩
    · cases h; exact ⟨.nilfn, rfl⟩
    · rename_i cs heq
      have hd : d = _ := Nat.succ.inj heq
      subst hd
      simp only [Option.bind_eq_some_iff] at h
      obtain ⟨l, hl, h⟩ := h
      split at h
      · cases h
        rename_i hall
        obtain ⟨h1, h2⟩ := mapM_some hl
        have key : ∀ j c, l[j]? = some c → VR C c (cs.getD j undef) ∧ c.isTup = false := fun j c hj => by
          obtain ⟨y, hy, hc⟩ := h2 j c hj
          have he : cs.getD j undef = y := by
            rw [Array.getElem?_toList] at hy
            simp [Array.getD_eq_getD_getElem?, hy]
          rw [he]
          exact ih y c hc C
        refine ⟨.agg l cs (by simp [h1]) (fun j c hj => ?_) (fun j c hj => (key j c hj).1), rfl⟩
        obtain ⟨k1, k2⟩ := key j c hj
        refine k1.one_of ?_ k2
        have := List.all_eq_true.1 hall c (List.mem_of_getElem? hj)
        simpa using this
      · cases h
    · cases h

theorem cOpd_ok {C : Cx} {e : Env} {a : Act} {nt : Nat} (he : ER G C e a nt) {x : Operand} {y : Opd} (h : cOpd x = some y) : VR C (y.ev e) (a.eval x) := by
  cases x with
  | tmp t => cases h; exact he.val t
  | const v =>
    simp only [cOpd, Option.map_eq_some_iff] at h
    obtain ⟨u, hu, rfl⟩ := h
    exact (cVal_ok 3 v u hu C).1
  | global g => cases h
  | func f => cases h; exact .fn f [] [] #[] #[] rfl rfl (fun j c hj => by simp at hj) (fun j c hj => by simp at hj)

theorem cOpdO_ok {C : Cx} {e : Env} {a : Act} {nt : Nat} (he : ER G C e a nt) {x : Option Operand} {y : Option Opd} (h : cOpdO x = some y) :
    (x = none ∧ y = none) ∨ ∃ x' y', x = some x' ∧ y = some y' ∧ VR C (y'.ev e) (a.eval x') := by
  cases x with
  | none => cases h; exact .inl ⟨rfl, rfl⟩
  | some x =>
    simp only [cOpdO, Option.map_eq_some_iff] at h
    obtain ⟨u, hu, rfl⟩ := h
    exact .inr ⟨x, u, rfl, rfl, cOpd_ok he hu⟩

/-- A list of operands. -/
theorem cOpds_ok {C : Cx} {e : Env} {a : Act} {nt : Nat} (he : ER G C e a nt) {xs : List Operand} {ys : List Opd} (h : xs.mapM cOpd = some ys) :
    (ys.map (·.ev e)).length = xs.length ∧ ∀ j c, (ys.map (·.ev e))[j]? = some c → VR C c ((xs.map a.eval).getD j undef) := by
  obtain ⟨h1, h2⟩ := mapM_some h
  refine ⟨by simp [h1], fun j c hj => ?_⟩
  simp only [List.getElem?_map, Option.map_eq_some_iff] at hj
  obtain ⟨y, hy, rfl⟩ := hj
  obtain ⟨x, hx, hxy⟩ := h2 j y hy
  have : (xs.map a.eval).getD j undef = a.eval x := by simp [List.getD_eq_getElem?_getD, hx]
  rw [this]
  exact cOpd_ok he hxy

/-- What is said of an operation that leaves the world as it is. -/
def Pu (P : Program) (C : Cx) (w : World) (r : Result Next) (v : AV) : Prop := ∃ x, r = .ok (.value x) w ∧ VR C v x

theorem bytes_toList (l : List UInt8) : (⟨l.toArray⟩ : ByteArray).toList = l := by
  rw [ByteArray.toList_eq]

section
variable {P : Program} {C : Cx} {w : World} {e : Env} {a : Act} {nt : Nat}

theorem run_int_ok (op : BinOp) (t : TypeId) (k k' : IntKind) (x y : Int) (v : AV) (h : ibin op (.int k x) (.int k' y) = some v) :
    ∃ u, (binOp op t (.int k x) (.int k' y)).run P w = .ok u w ∧ VR C v u := by
  cases op <;> simp only [ibin] at h <;>
    first
      | (split at h
         · cases h
         · cases h
           refine ⟨_, ?_, .int _ _⟩
           simp [binOp, Op.shift, *])
      | (split at h
         · rename_i hk; subst hk
           first
             | (cases h; refine ⟨_, ?_, .int _ _⟩; simp [binOp, Op.intArith]; done)
             | (cases h; refine ⟨_, ?_, .bool _⟩; simp [binOp, Op.intCmp]; done)
             | (cases h; refine ⟨_, ?_, .int _ _⟩; simp [binOp, Op.intBits, bitsOf]; done)
             | (split at h
                · cases h
                · cases h; refine ⟨_, ?_, .int _ _⟩; simp [binOp, Op.intDiv, *])
         · cases h)

theorem run_str_ok (op : BinOp) (t : TypeId) (x y : List UInt8) (v : AV) (h : ibin op (.str x) (.str y) = some v) :
    ∃ u, (binOp op t (.string ⟨x.toArray⟩) (.string ⟨y.toArray⟩)).run P w = .ok u w ∧ VR C v u := by
  cases op <;> simp only [ibin] at h <;> try (cases h; done)
  case add =>
    split at h
    · rename_i hl
      cases h
      refine ⟨.string ⟨(x ++ y).toArray⟩, ?_, .str _⟩
      have h1 : ¬ (((⟨x.toArray⟩ : ByteArray).size + (⟨y.toArray⟩ : ByteArray).size : Nat) : Int) > IntKind.i64.max := by
        have : (⟨x.toArray⟩ : ByteArray).size = x.length := by simp [ByteArray.size]
        have h2 : (⟨y.toArray⟩ : ByteArray).size = y.length := by simp [ByteArray.size]
        rw [this, h2, IntKind.max_i64]
        unfold limit at hl
        omega
      have h3 : (⟨x.toArray⟩ ++ ⟨y.toArray⟩ : ByteArray) = ⟨(x ++ y).toArray⟩ := by
        apply ByteArray.ext
        simp [ByteArray.data_append]
      simp only [binOp, Op.stringOp]
      rw [if_neg h1, h3]
      rfl
    · cases h
  all_goals
    cases h
    refine ⟨_, ?_, .bool _⟩
    simp [binOp, Op.stringOp]

theorem ibin_ok (op : BinOp) (t : TypeId) {x y : AV} {u u' : Value} (hx : VR C x u) (hy : VR C y u') (v : AV) (h : ibin op x y = some v) :
    ∃ r, (binOp op t u u').run P w = .ok r w ∧ VR C v r := by
  unfold ibin at h
  split at h
  · cases hx; cases hy
    exact run_int_ok op t _ _ _ _ v (by simpa only [ibin] using h)
  · cases hx; cases hy
    exact run_str_ok op t _ _ v (by simpa only [ibin] using h)
  · cases h

theorem eqGuard_ok (op : BinOp) (t : TypeId) (x y : Operand) {u u' : Value} (h : ∀ c, u ≠ .nilIface ∧ u ≠ .agg c) : (eqGuard op t x y u u').run P w = .ok () w := by
  cases u
  case nilIface => exact absurd rfl (h #[]).1
  case agg c => exact absurd rfl (h c).2
  all_goals (cases op <;> rfl)

theorem VR.noIface {x : AV} {u : Value} (h : VR C x u) (hx : x.isAgg = false) : ∀ c, u ≠ .nilIface ∧ u ≠ .agg c := by
  intro c
  cases h <;> simp_all [AV.isAgg]

theorem nileq_ok (k : Nat) (t : TypeId) {x y : AV} {u u' : Value} (hx : VR C x u) (hy : VR C y u') (v : Bool) (h : nilEq k x y = some v)
    (ht : (k = 0 ∧ ∃ e, P.underlying t = some (.pointer e)) ∨ (k = 1 ∧ ∃ e, P.underlying t = some (.slice e)) ∨ (k = 2 ∧ ∃ p r b, P.underlying t = some (.func p r b))) :
    (Op.equal t u u').run P w = .ok v w := by
  have g : ∀ n, (Op.equalIn (n + 1) t u u').run P w = .ok v w := by
    intro n
    unfold nilEq at h
    split at h <;> (first | (cases h; done) | skip) <;> cases h <;> cases hx <;> cases hy <;> unfold Op.equalIn <;>
      (rcases ht with ⟨hk, e, he⟩ | ⟨hk, e, he⟩ | ⟨hk, p, r, b, he⟩ <;> first | (cases hk; done) | (rw [Sem.run_bind, run_underlying he w, Result.andThen_ok]; rfl))
  exact g 9999

end

end Go.Vx
