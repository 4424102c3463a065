/- V: regions that draw their order. -/
import Derived.Test.YtjnjklnfcpgmpaaDoorVxF
set_option linter.unusedVariables false
set_option linter.unusedSimpArgs false
namespace Go.Vx

/-- How many of the first n fulfil p. -/
def cnt (p : Nat → Bool) : Nat → Nat
  | 0 => 0
  | n + 1 => cnt p n + (if p n then 1 else 0)

theorem cnt_congr {p q : Nat → Bool} : ∀ (n : Nat), (∀ k, k < n → p k = q k) → cnt p n = cnt q n := by
  intro n
  induction n with
  | zero => intro _; rfl
  | succ n ih => intro h; simp only [cnt, ih (fun k hk => h k (by omega)), h n (by omega)]
theorem cnt_le {p q : Nat → Bool} : ∀ (n : Nat), (∀ k, k < n → p k = true → q k = true) → cnt p n ≤ cnt q n := by
  intro n
  induction n with
  | zero => intro _; exact Nat.le_refl _
  | succ n ih =>
    intro h
    have := ih (fun k hk => h k (by omega))
    simp only [cnt]
    by_cases hp : p n = true
    · rw [if_pos hp, if_pos (h n (by omega) hp)]; omega
    · rw [if_neg hp]; split <;> omega
theorem cnt_below {p : Nat → Bool} {i : Nat} : ∀ (n : Nat), i ≤ n → cnt (fun k => p k && decide (k < i)) n = cnt p i := by
  intro n
  induction n with
  | zero => intro h; obtain rfl : i = 0 := by omega
            rfl
  | succ n ih =>
    intro h
    rcases Nat.lt_or_ge n i with hlt | hge
    · obtain rfl : i = n + 1 := by omega
      exact cnt_congr _ fun k hk => by simp [hk]
    · simp only [cnt]
      rw [ih hge]
      have : decide (n < i) = false := by simp; exact hge
      simp [this]
theorem cnt_mono {p : Nat → Bool} {i n : Nat} (h : i ≤ n) : cnt p i ≤ cnt p n := by
  rw [← cnt_below n h]
  exact cnt_le n fun k _ hk => by simp at hk; exact hk.1
theorem cnt_filter (p : Nat → Bool) : ∀ n, ((List.range n).filter p).length = cnt p n := by
  intro n
  induction n with
  | zero => rfl
  | succ n ih =>
    rw [List.range_succ, List.filter_append, List.length_append, ih]
    simp only [cnt, List.filter_cons, List.filter_nil]
    split <;> rfl

/-- The text's run of a region, step by step. -/
structure Trace (pc : Nat → List AV → Heap → Option AV) (call : CallF) (fl : Nat) (vs : List VOper) (E : Nat → Env) (V : Nat → AV) (X : Nat → Heap) : Prop where
  step : ∀ k o, vs[k]? = some o → stepV pc call fl o (E k) (X k) = some (V k, X (k + 1))
  env : ∀ k o, vs[k]? = some o → E (k + 1) = upd (E k) o.dst (V k)

def isWr (vs : List VOper) (k : Nat) : Bool := match vs[k]? with | some o => o.isW | none => false

theorem trace_of {pc : Nat → List AV → Heap → Option AV} {call : CallF} {fl : Nat} : ∀ (ops : List DOp) (e : Env) (H : Heap) (e' : Env) (H' : Heap) (ss : List Seen) (hs : List Heap), vdraw pc call fl ops e H = some (e', H', ss, hs) →
    ∃ (E : Nat → Env) (V : Nat → AV) (X : Nat → Heap), E 0 = e ∧ X 0 = H ∧ E ops.length = e' ∧ X ops.length = H' ∧ Trace pc call fl (ops.map (·.1)) E V X ∧
      hs.length = cnt (isWr (ops.map (·.1))) ops.length ∧ (∀ k, k ≤ ops.length → (H :: hs)[cnt (isWr (ops.map (·.1))) k]? = some (X k)) ∧
      (∀ k o lo hi, ops[k]? = some (o, lo, hi) → o.isR = true → lo < hi → (⟨o, E k, V k, lo, hi⟩ : Seen) ∈ ss) := by
  intro ops
  induction ops with
  | nil =>
    intro e H e' H' ss hs h
    simp only [vdraw, Option.some.injEq, Prod.mk.injEq] at h
    obtain ⟨rfl, rfl, rfl, rfl⟩ := h
    refine ⟨fun _ => e, fun _ => undefV, fun _ => H, rfl, rfl, rfl, rfl, ⟨fun k o h => by simp at h, fun k o h => by simp at h⟩, rfl, fun k hk => ?_, fun k o lo hi h => by simp at h⟩
    obtain rfl : k = 0 := by simpa using hk
    rfl
  | cons od ops ih =>
    intro e H e' H' ss hs h
    obtain ⟨o, lo, hi⟩ := od
    simp only [vdraw, Option.bind_eq_some_iff, Option.map_eq_some_iff, Prod.mk.injEq] at h
    obtain ⟨⟨v, H1⟩, h1, ⟨e2, H2, ss2, hs2⟩, h2, rfl, rfl, rfl, rfl⟩ := h
    obtain ⟨E, V, X, a1, a2, a3, a4, a5, a6, a7, a8⟩ := ih _ _ _ _ _ _ h2
    dsimp only at a1 a2 a7
    have hc : ∀ k, cnt (isWr (((o, lo, hi) :: ops).map (·.1))) (k + 1) = cnt (isWr (ops.map (·.1))) k + (if o.isW then 1 else 0) := by
      intro k
      induction k with
      | zero => simp [cnt, isWr]
      | succ k ihk =>
        rw [cnt, ihk, cnt]
        have : isWr (((o, lo, hi) :: ops).map (·.1)) (k + 1) = isWr (ops.map (·.1)) k := by simp [isWr]
        rw [this]; omega
    refine ⟨fun k => match k with | 0 => e | k + 1 => E k, fun k => match k with | 0 => v | k + 1 => V k, fun k => match k with | 0 => H | k + 1 => X k, rfl, rfl, a3, a4, ⟨fun k o' hk => ?_, fun k o' hk => ?_⟩, ?_, fun k hk => ?_, fun k o' lo' hi' hk hr hlt => ?_⟩
    · match k with
      | 0 => simp at hk; subst hk; simp only [a2]; exact h1
      | k + 1 => exact a5.step k o' (by simpa using hk)
    · match k with
      | 0 => simp at hk; subst hk; exact a1
      | k + 1 => exact a5.env k o' (by simpa using hk)
    · rw [List.length_cons, hc, ← a6]
      split <;> simp
    · match k with
      | 0 => rfl
      | k + 1 =>
        rw [hc]
        have h7 := a7 k (by simpa using hk)
        by_cases hw : o.isW = true
        · rw [if_pos hw, if_pos hw, List.getElem?_cons_succ]; exact h7
        · rw [if_neg hw, if_neg hw, Nat.add_zero]
          have hX : H1 = H := by
            simp only [stepV] at h1
            split at h1
            · cases ho : o.op with
              | p q => rw [ho] at h1; simp only [vop, Option.map_eq_some_iff, Prod.mk.injEq] at h1; obtain ⟨_, _, _, h⟩ := h1; exact h.symm
              | r q => rw [ho] at h1; simp only [vop, Option.map_eq_some_iff, Prod.mk.injEq] at h1; obtain ⟨_, _, _, h⟩ := h1; exact h.symm
              | w q => exact absurd (by simp [VOper.isW, ho]) hw
            · simp only [Option.some.injEq, Prod.mk.injEq] at h1; exact h1.2.symm
          rw [hX] at h7; exact h7
    · match k with
      | 0 =>
        simp at hk
        obtain ⟨rfl, rfl, rfl⟩ := hk
        rw [if_pos (by simp [hr, hlt])]
        exact List.mem_cons_self
      | k + 1 =>
        have := a8 k o' lo' hi' (by simpa using hk) hr hlt
        split
        · exact List.mem_cons_of_mem _ this
        · exact this

/-- What stands in the temporaries when the operations of S are done. -/
def envS (vs : List VOper) (V : Nat → AV) (e : Env) (S : Nat → Bool) : Nat → Env
  | 0 => e
  | n + 1 => if S n then upd (envS vs V e S n) ((vs[n]?).bind (·.dst)) (V n) else envS vs V e S n

theorem upd_ne {e : Env} {d : Option Nat} {v : AV} {t : Nat} (h : d ≠ some t) : upd e d v t = e t := by
  cases d with
  | none => rfl
  | some d =>
    have hb : Nat.beq t d = false := by
      cases hh : Nat.beq t d with
      | false => rfl
      | true => exact absurd (by rw [Nat.eq_of_beq_eq_true hh]) h
    simp [upd, hb]
theorem upd_eq {e : Env} {v : AV} {t : Nat} : upd e (some t) v t = v := by simp [upd]

theorem envS_congr {vs : List VOper} {V : Nat → AV} {e : Env} {S S' : Nat → Bool} {t : Nat} : ∀ (n : Nat), (∀ k, k < n → (vs[k]?).bind (·.dst) = some t → S k = S' k) → envS vs V e S n t = envS vs V e S' n t := by
  intro n
  induction n with
  | zero => intro _; rfl
  | succ n ih =>
    intro h
    have i1 := ih (fun k hk => h k (by omega))
    simp only [envS]
    by_cases hd : (vs[n]?).bind (·.dst) = some t
    · rw [h n (by omega) hd]
      split
      · rw [hd, upd_eq, upd_eq]
      · exact i1
    · have j1 : ∀ (b : Bool) (e0 : Env), (if b = true then upd e0 ((vs[n]?).bind (·.dst)) (V n) else e0) t = e0 t := fun b e0 => by
        cases b
        · rfl
        · exact upd_ne hd
      rw [j1, j1]; exact i1

theorem envS_last {vs : List VOper} {V : Nat → AV} {e : Env} {S : Nat → Bool} {t i : Nat} (hi : S i = true) (hd : (vs[i]?).bind (·.dst) = some t) : ∀ (n : Nat), i < n → (∀ k, i < k → k < n → (vs[k]?).bind (·.dst) = some t → S k = false) → envS vs V e S n t = V i := by
  intro n
  induction n with
  | zero => intro h; omega
  | succ n ih =>
    intro hin h
    simp only [envS]
    rcases Nat.lt_or_ge i n with hlt | hge
    · have i1 := ih hlt (fun k h1 h2 => h k h1 (by omega))
      by_cases hdn : (vs[n]?).bind (·.dst) = some t
      · rw [h n hlt (by omega) hdn]; exact i1
      · split
        · rw [upd_ne hdn]; exact i1
        · exact i1
    · obtain rfl : i = n := by omega
      rw [hi, if_pos rfl, hd, upd_eq]

theorem envS_below {pc : Nat → List AV → Heap → Option AV} {call : CallF} {fl : Nat} {vs : List VOper} {E : Nat → Env} {V : Nat → AV} {X : Nat → Heap} (hT : Trace pc call fl vs E V X) {i : Nat} (hi : i ≤ vs.length) : ∀ n, n ≤ vs.length → envS vs V (E 0) (fun k => decide (k < i)) n = E (min n i) := by
  intro n
  induction n with
  | zero => intro _; simp [envS]
  | succ n ih =>
    intro hn
    simp only [envS]
    rw [ih (by omega)]
    obtain ⟨o, ho⟩ : ∃ o, vs[n]? = some o := ⟨vs[n], by simp⟩
    by_cases hlt : n < i
    · rw [if_pos (by simp [hlt]), ho, Option.bind_some, Nat.min_eq_left (by omega), Nat.min_eq_left (by omega), hT.env n o ho]
    · rw [if_neg (by simp [hlt]), Nat.min_eq_right (by omega), Nat.min_eq_right (by omega)]

end Go.Vx
