/- V: a region that draws its order does what the text's order does. -/
import Derived.Test.YtjnjklnfcpgmpaaDoorVxG
set_option linter.unusedVariables false
set_option linter.unusedSimpArgs false
namespace Go.Vx

theorem filterMap_all {α β : Type} {f : α → Option β} : ∀ (l : List α), (∀ x ∈ l, ∃ y, f x = some y) → (l.filterMap f).map some = l.map f := by
  intro l
  induction l with
  | nil => intro _; rfl
  | cons x l ih =>
    intro h
    obtain ⟨y, hy⟩ := h x (by simp)
    rw [List.filterMap_cons_some hy, List.map_cons, List.map_cons, hy, ih (fun z hz => h z (by simp [hz]))]

def dopsOf (vs : List VOper) (bef : List Nat) : List DOp := (List.range vs.length).filterMap fun i =>
  match vs[i]?, bef[i]? with
  | some v, some bb => some (v, loOf vs bb, hiOf vs bef i)
  | _, _ => none

theorem dops_get {vs : List VOper} {bef : List Nat} (h : bef.length = vs.length) : (dopsOf vs bef).length = vs.length ∧ (dopsOf vs bef).map (·.1) = vs ∧
    ∀ (k : Nat) (o : VOper) (bb : Nat), vs[k]? = some o → bef[k]? = some bb → (dopsOf vs bef)[k]? = some (o, loOf vs bb, hiOf vs bef k) := by
  have hall := filterMap_all (f := fun i => match vs[i]?, bef[i]? with
    | some v, some bb => some (v, loOf vs bb, hiOf vs bef i)
    | _, _ => none) (List.range vs.length) (fun i hi => by
      have hi : i < vs.length := by simpa using hi
      have hv : vs[i]? = some vs[i] := by simp
      have hb : bef[i]? = some (bef[i]'(by omega)) := by simp [h, hi]
      simp only [hv, hb]
      exact ⟨_, rfl⟩)
  have hlen : (dopsOf vs bef).length = vs.length := by
    have := congrArg List.length hall
    simpa [dopsOf] using this
  have hget : ∀ (k : Nat) (o : VOper) (bb : Nat), vs[k]? = some o → bef[k]? = some bb → (dopsOf vs bef)[k]? = some (o, loOf vs bb, hiOf vs bef k) := fun k o bb hv hb => by
    have hk : k < vs.length := (List.getElem?_eq_some_iff.1 hv).1
    have h1 := congrArg (·[k]?) hall
    simp only [List.getElem?_map, List.getElem?_range hk, Option.map_some, hv, hb] at h1
    change Option.map some ((dopsOf vs bef)[k]?) = _ at h1
    cases hx : (dopsOf vs bef)[k]? with
    | none => rw [hx] at h1; simp at h1
    | some y => rw [hx] at h1; simpa using h1
  refine ⟨hlen, ?_, hget⟩
  apply List.ext_getElem?
  intro k
  rw [List.getElem?_map]
  rcases Nat.lt_or_ge k vs.length with hk | hk
  · have hv : vs[k]? = some vs[k] := by simp
    have hb : bef[k]? = some (bef[k]'(by omega)) := by simp [h, hk]
    rw [hget k _ _ hv hb, hv]; rfl
  · rw [List.getElem?_eq_none hk, List.getElem?_eq_none (by omega)]; rfl

/-- What a region must be if its order is drawn. -/
structure Ordered (os : List Oper) (vs : List VOper) (bef : List Nat) : Prop where
  len : vs.length = os.length
  low : ∀ (j : Nat) (o : Oper) (e : Edge), os[j]? = some o → e ∈ o.after.toList → Region.binds .any e = true → e.on < j
  pair : ∀ (i j : Nat) (a b : VOper) (bb : Nat), i < j → vs[i]? = some a → vs[j]? = some b → bef[j]? = some bb → pairOk a b i bb = true

theorem ordered_of {os : List Oper} {vs : List VOper} (hl : vs.length = os.length) (h : drawOk os vs (befBits os) = true) : Ordered os vs (befBits os) := by
  simp only [drawOk, Bool.and_eq_true, List.all_eq_true, List.mem_range] at h
  obtain ⟨h1, h2⟩ := h
  refine ⟨hl, fun j o e hj he hb => ?_, fun i j a b bb hij ha hb hbb => ?_⟩
  · have hlt : j < os.length := (List.getElem?_eq_some_iff.1 hj).1
    have := h1 j hlt
    rw [List.getD_eq_getElem?_getD, hj, Option.getD_some] at this
    have := Array.all_eq_true_iff_forall_mem.1 this e (Array.mem_toList_iff.1 he)
    simpa [hb] using this
  · have := h2 j (List.getElem?_eq_some_iff.1 hb).1 i hij
    rw [ha, hb, hbb] at this
    exact this

theorem before_lt {os : List Oper} {vs : List VOper} {bef : List Nat} (h : Ordered os vs bef) {j k : Nat} (hb : Before os j k) : k < j := by
  induction hb with
  | edge h1 he hbi => exact h.low _ _ _ h1 he hbi
  | trans h1 he hbi _ ih => exact Nat.lt_trans ih (h.low _ _ _ h1 he hbi)

section
variable {os : List Oper} {vs : List VOper} {S : Nat → Bool} {i : Nat}

/-- When i is next: which of those that concern it are done. -/
theorem order_at (h : Ordered os vs (befBits os)) (hi : S i = false) (hpre : ∀ k, Before os i k → S k = true) (hcl : ∀ j k, j < os.length → S j = true → Before os j k → S k = true)
    {a b : VOper} {k : Nat} (ha : vs[i]? = some a) (hb : vs[k]? = some b) (hne : k ≠ i) (hc : (∃ t, b.dst = some t ∧ (t ∈ a.looks ∨ a.dst = some t)) ∨ (b.isW = true ∧ a.isW = true)) : S k = decide (k < i) := by
  have hbl := befBits_length os.length os rfl
  have hil : i < os.length := by rw [← h.len]; exact (List.getElem?_eq_some_iff.1 ha).1
  have hkl : k < os.length := by rw [← h.len]; exact (List.getElem?_eq_some_iff.1 hb).1
  rcases Nat.lt_or_gt_of_ne hne with hlt | hgt
  · have hbb : (befBits os)[i]? = some ((befBits os)[i]'(by rw [hbl]; exact hil)) := by simp
    have hp := h.pair k i b a _ hlt hb ha hbb
    have hbit : ((befBits os)[i]'(by rw [hbl]; exact hil)).testBit k = true := by
      simp only [pairOk, Bool.or_eq_true, Bool.and_eq_true, Bool.not_eq_true'] at hp
      rcases hp with ⟨h1, h2⟩ | h1
      · exfalso
        rcases hc with ⟨t, ht, hta⟩ | ⟨h3, h4⟩
        · rw [ht] at h1
          simp only [Bool.or_eq_false_iff] at h1
          rcases hta with hta | hta
          · have := h1.1.1
            simp at this
            exact this hta
          · have := h1.1.2
            rw [hta] at this
            simp at this
        · rw [h3, h4] at h2; simp at h2
      · exact h1
    rw [hpre k (befBits_spec _ os rfl i _ k hbb hbit)]
    simp [hlt]
  · have hbb : (befBits os)[k]? = some ((befBits os)[k]'(by rw [hbl]; exact hkl)) := by simp
    have hp := h.pair i k a b _ hgt ha hb hbb
    have hbit : ((befBits os)[k]'(by rw [hbl]; exact hkl)).testBit i = true := by
      simp only [pairOk, Bool.or_eq_true, Bool.and_eq_true, Bool.not_eq_true'] at hp
      rcases hp with ⟨h1, h2⟩ | h1
      · exfalso
        rcases hc with ⟨t, ht, hta⟩ | ⟨h3, h4⟩
        · simp only [Bool.or_eq_false_iff] at h1
          rcases hta with hta | hta
          · have := h1.2
            rw [ht] at this
            simp at this
            exact this hta
          · have := h1.1
            rw [hta, ht] at this
            simp at this
        · rw [h3, h4] at h2; simp at h2
      · exact h1
    have hn : S k = false := by
      cases hs : S k with
      | false => rfl
      | true =>
        have := hcl k i hkl hs (befBits_spec _ os rfl k _ i hbb hbit)
        rw [hi] at this; cases this
    rw [hn]
    have : ¬ k < i := by omega
    simp [this]
end
end Go.Vx
