/- V: what an operation looks at; the text's run, step by step; which operations stand ahead. -/
import Derived.Test.YtjnjklnfcpgmpaaDoorVxE
set_option linter.unusedVariables false
set_option linter.unusedSimpArgs false
namespace Go.Vx

/-! ### What an operation looks at -/
section
variable {e e' : Env}

theorem ev_congr {x : Opd} (h : ∀ t ∈ x.reads, e t = e' t) : x.ev e = x.ev e' := by
  cases x with
  | tmp t => exact h t (by simp [Opd.reads])
  | cst v => rfl

theorem evO_congr {x : Option Opd} (h : ∀ t ∈ readsO x, e t = e' t) : x.map (·.ev e) = x.map (·.ev e') := by
  cases x with
  | none => rfl
  | some x => simp only [Option.map_some]; rw [ev_congr (x := x) (fun t ht => h t (by simpa [readsO] using ht))]

theorem evs_congr {xs : List Opd} (h : ∀ t ∈ xs.flatMap Opd.reads, e t = e' t) : xs.map (·.ev e) = xs.map (·.ev e') :=
  List.map_congr_left fun x hx => ev_congr fun t ht => h t (List.mem_flatMap.2 ⟨x, hx, ht⟩)

theorem parts1_congr {z : Nat} : ∀ (ps : List (Nat × Opd)) (es : List AV), (∀ t ∈ ps.flatMap (fun p => p.2.reads), e t = e' t) → parts1 z e es ps = parts1 z e' es ps := by
  intro ps
  induction ps with
  | nil => intro es _; rfl
  | cons p ps ih =>
    intro es h
    obtain ⟨i, x⟩ := p
    simp only [List.flatMap_cons, List.mem_append] at h
    simp only [parts1, ev_congr (x := x) (fun t ht => h t (.inl ht)), ih _ (fun t ht => h t (.inr ht))]

theorem parts2_congr : ∀ (ps : List (Nat × Nat × Opd)) (es : List AV), (∀ t ∈ ps.flatMap (fun p => p.2.2.reads), e t = e' t) → parts2 e es ps = parts2 e' es ps := by
  intro ps
  induction ps with
  | nil => intro es _; rfl
  | cons p ps ih =>
    intro es h
    obtain ⟨i, z, x⟩ := p
    simp only [List.flatMap_cons, List.mem_append] at h
    simp only [parts2, ev_congr (x := x) (fun t ht => h t (.inl ht)), ih _ (fun t ht => h t (.inr ht))]

theorem pop_congr {o : POp} (h : ∀ t ∈ o.reads, e t = e' t) : pop e o = pop e' o := by
  cases o
  case build zs ps => simp only [pop, parts2_congr ps _ h]
  case lit z zero len ps => simp only [pop, parts1_congr ps _ h]
  case mkfn f a b =>
    simp only [POp.reads, List.mem_append] at h
    simp only [pop, evs_congr (xs := a) (fun t ht => h t (.inl ht)), evs_congr (xs := b) (fun t ht => h t (.inr ht))]
  case slice z x lo hi =>
    simp only [POp.reads, List.mem_append] at h
    simp only [pop, ev_congr (x := x) (fun t ht => h t (.inl (.inl ht))), evO_congr (x := lo) (fun t ht => h t (.inl (.inr ht))), evO_congr (x := hi) (fun t ht => h t (.inr ht))]
  case sliceStr x lo hi =>
    simp only [POp.reads, List.mem_append] at h
    simp only [pop, ev_congr (x := x) (fun t ht => h t (.inl (.inl ht))), evO_congr (x := lo) (fun t ht => h t (.inl (.inr ht))), evO_congr (x := hi) (fun t ht => h t (.inr ht))]
  case pick c a b =>
    simp only [POp.reads, List.mem_append] at h
    simp only [pop, ev_congr (x := c) (fun t ht => h t (.inl (.inl ht))), ev_congr (x := a) (fun t ht => h t (.inl (.inr ht))), ev_congr (x := b) (fun t ht => h t (.inr ht))]
  case ibin op x y | beq op x y | nileq k op x y | eqagg op ks x y | mm op x y | idxA op x y | idxArr op k x y | idxStr x y | idxAgg k z ag x y =>
    simp only [POp.reads, List.mem_append] at h
    simp only [pop, ev_congr (x := x) (fun t ht => h t (.inl ht)), ev_congr (x := y) (fun t ht => h t (.inr ht))]
  all_goals
    simp only [POp.reads] at h
    simp only [pop, ev_congr h]

theorem rop_congr {pc : Nat → List AV → Heap → Option AV} {H : Heap} {o : ROp} (h : ∀ t ∈ o.reads, e t = e' t) : rop pc e H o = rop pc e' H o := by
  cases o
  case pcall f as =>
    simp only [ROp.reads, List.mem_append] at h
    simp only [rop, ev_congr (x := f) (fun t ht => h t (.inl ht)), evs_congr (xs := as) (fun t ht => h t (.inr ht))]
  all_goals
    simp only [ROp.reads] at h
    simp only [rop, ev_congr h]

theorem wop_congr {call : CallF} {fl : Nat} {H : Heap} {o : WOp} (h : ∀ t ∈ o.reads, e t = e' t) : wop call fl e H o = wop call fl e' H o := by
  cases o
  case alloc zs => rfl
  case bad => rfl
  case litMut z zero len ps => simp only [wop, parts1_congr ps _ h]
  case call f as =>
    simp only [WOp.reads, List.mem_append] at h
    simp only [wop, ev_congr (x := f) (fun t ht => h t (.inl ht)), evs_congr (xs := as) (fun t ht => h t (.inr ht))]
  case store n x y | mksl z b zero x y | append z b x y | appendN z b zero x y =>
    simp only [WOp.reads, List.mem_append] at h
    simp only [wop, ev_congr (x := x) (fun t ht => h t (.inl ht)), ev_congr (x := y) (fun t ht => h t (.inr ht))]
  all_goals
    simp only [WOp.reads] at h
    simp only [wop, ev_congr h]

theorem stepV_congr {pc : Nat → List AV → Heap → Option AV} {call : CallF} {fl : Nat} {H : Heap} {o : VOper} (h : ∀ t ∈ o.looks, e t = e' t) : stepV pc call fl o e H = stepV pc call fl o e' H := by
  simp only [VOper.looks, List.mem_append] at h
  have hg : wantedV e o.guard = wantedV e' o.guard := by
    cases hg : o.guard with
    | none => rfl
    | some tb => obtain ⟨t, b⟩ := tb; simp only [wantedV, h t (.inr (by simp [hg]))]
  have hv : vop pc call fl e H o.op = vop pc call fl e' H o.op := by
    cases ho : o.op with
    | p q => simp only [vop, pop_congr (o := q) (fun t ht => h t (.inl (by rw [ho]; exact ht)))]
    | r q => simp only [vop, rop_congr (o := q) (fun t ht => h t (.inl (by rw [ho]; exact ht)))]
    | w q => simp only [vop, wop_congr (o := q) (fun t ht => h t (.inl (by rw [ho]; exact ht)))]
  simp only [stepV, hg, hv]
end

theorem same_eq : ∀ (n : Nat) (x y : AV), SizeOf.sizeOf x ≤ n → AV.same x y = true → x = y := by
  intro n
  induction n with
  | zero => intro x y h; cases x <;> simp at h
  | succ n ih =>
    have lists : ∀ (xs ys : List AV), (∀ x ∈ xs, SizeOf.sizeOf x ≤ n) → AV.sameL xs ys = true → xs = ys := by
      intro xs
      induction xs with
      | nil => intro ys _ h; cases ys <;> simp [AV.sameL] at h; rfl
      | cons x xs ihl =>
        intro ys hm h
        cases ys with
        | nil => simp [AV.sameL] at h
        | cons y ys =>
          simp only [AV.sameL, Bool.and_eq_true] at h
          rw [ih x y (hm x (by simp)) h.1, ihl ys (fun x' hx' => hm x' (by simp [hx'])) h.2]
    have small : ∀ (xs : List AV) (m : Nat), SizeOf.sizeOf xs ≤ m → ∀ x ∈ xs, SizeOf.sizeOf x ≤ m - 1 := fun xs m h x hx => by
      have := List.sizeOf_lt_of_mem hx; omega
    intro x y hx h
    cases x <;> cases y <;> simp only [AV.same, Bool.and_eq_true, beq_iff_eq, Bool.false_eq_true] at h <;> try contradiction
    all_goals try simp only [AV.bool.sizeOf_spec, AV.dptr.sizeOf_spec, AV.sl.sizeOf_spec, AV.fn.sizeOf_spec, AV.agg.sizeOf_spec, AV.tup.sizeOf_spec] at hx
    case bool.bool => rw [h]
    case int.int => rw [h.1, h.2]
    case str.str => rw [h]
    case nilp.nilp => rfl
    case ptr.ptr => rw [h.1, h.2]
    case eptr.eptr => obtain ⟨⟨h1, h2⟩, h3⟩ := h; rw [h1, h2, h3]
    case nilsl.nilsl => rfl
    case nilfn.nilfn => rfl
    case rsl.rsl => obtain ⟨⟨⟨⟨h1, h2⟩, h3⟩, h4⟩, h5⟩ := h; rw [h1, h2, h3, h4, h5]
    case dptr.dptr xs ys => rw [lists xs ys (fun x hm => by have := small xs _ (Nat.le_refl _) x hm; omega) h]
    case agg.agg xs ys => rw [lists xs ys (fun x hm => by have := small xs _ (Nat.le_refl _) x hm; omega) h]
    case tup.tup xs ys => rw [lists xs ys (fun x hm => by have := small xs _ (Nat.le_refl _) x hm; omega) h]
    case sl.sl z f xs z' f' ys =>
      obtain ⟨⟨h1, h2⟩, h3⟩ := h
      rw [h1, h2, lists xs ys (fun x hm => by have := small xs _ (Nat.le_refl _) x hm; omega) h3]
    case fn.fn f xs xs' f' ys ys' =>
      obtain ⟨⟨h1, h2⟩, h3⟩ := h
      rw [h1, lists xs ys (fun x hm => by have := small xs _ (Nat.le_refl _) x hm; omega) h2, lists xs' ys' (fun x hm => by have := small xs' _ (Nat.le_refl _) x hm; omega) h3]

theorem same_ok {x y : AV} (h : AV.same x y = true) : x = y := same_eq _ x y (Nat.le_refl _) h

/-! ### Which operations stand ahead -/
inductive Before (os : List Oper) : Nat → Nat → Prop
  | edge {j : Nat} {o : Oper} {e : Edge} (h : os[j]? = some o) (he : e ∈ o.after.toList) (hb : Region.binds .any e = true) : Before os j e.on
  | trans {j k : Nat} {o : Oper} {e : Edge} (h : os[j]? = some o) (he : e ∈ o.after.toList) (hb : Region.binds .any e = true) (hk : Before os e.on k) : Before os j k

theorem Before.more {os os' : List Oper} {j k : Nat} (h : Before os j k) : Before (os ++ os') j k := by
  induction h with
  | edge h he hb => exact .edge (by rw [List.getElem?_append_left (List.getElem?_eq_some_iff.1 h).1]; exact h) he hb
  | trans h he hb _ ih => exact .trans (by rw [List.getElem?_append_left (List.getElem?_eq_some_iff.1 h).1]; exact h) he hb ih

def befOf (acc : List Nat) (o : Oper) : Nat := o.after.toList.foldl (fun s e => if Region.binds .any e then s ||| 2 ^ e.on ||| acc.getD e.on 0 else s) 0

theorem befOf_spec (acc : List Nat) (k : Nat) : ∀ (l : List Edge) (s : Nat), (l.foldl (fun s e => if Region.binds .any e then s ||| 2 ^ e.on ||| acc.getD e.on 0 else s) s).testBit k = true →
    s.testBit k = true ∨ ∃ e ∈ l, Region.binds .any e = true ∧ (e.on = k ∨ (acc.getD e.on 0).testBit k = true) := by
  intro l
  induction l with
  | nil => intro s h; exact .inl h
  | cons e l ih =>
    intro s h
    simp only [List.foldl_cons] at h
    rcases ih _ h with h1 | ⟨e', he', h2⟩
    · split at h1
      · rename_i hb
        simp only [Nat.testBit_or, Bool.or_eq_true] at h1
        rcases h1 with (h1 | h1) | h1
        · exact .inl h1
        · rw [Nat.testBit_two_pow] at h1
          exact .inr ⟨e, by simp, hb, .inl (by simpa using h1)⟩
        · exact .inr ⟨e, by simp, hb, .inr h1⟩
      · exact .inl h1
    · exact .inr ⟨e', by simp [he'], h2⟩

theorem befBits_snoc (os : List Oper) (o : Oper) : befBits (os ++ [o]) = befBits os ++ [befOf (befBits os) o] := by
  unfold befBits
  rw [List.foldl_append]
  rfl

theorem befBits_length : ∀ (n : Nat) (os : List Oper), os.length = n → (befBits os).length = n := by
  intro n
  induction n with
  | zero => intro os h; have : os = [] := List.eq_nil_of_length_eq_zero h; subst this; rfl
  | succ n ih =>
    intro os h
    have hne : os ≠ [] := by rintro rfl; simp at h
    rw [← List.dropLast_concat_getLast hne, befBits_snoc, List.length_append, ih os.dropLast (by simp [h])]
    rfl

theorem befBits_spec : ∀ (n : Nat) (os : List Oper), os.length = n → ∀ j bb k, (befBits os)[j]? = some bb → bb.testBit k = true → Before os j k := by
  intro n
  induction n with
  | zero => intro os h j bb k hj; have : os = [] := List.eq_nil_of_length_eq_zero h; subst this; simp [befBits] at hj
  | succ n ih =>
    intro os h j bb k hj hk
    have hne : os ≠ [] := by rintro rfl; simp at h
    have hdl : os.dropLast.length = n := by simp [h]
    have hos := List.dropLast_concat_getLast hne
    rw [← hos] at hj ⊢
    rw [befBits_snoc] at hj
    have hl := befBits_length n os.dropLast hdl
    rcases Nat.lt_or_ge j n with hlt | hge
    · rw [List.getElem?_append_left (by rw [hl]; exact hlt)] at hj
      exact (ih os.dropLast hdl j bb k hj hk).more
    · rw [List.getElem?_append_right (by rw [hl]; exact hge), hl] at hj
      have hjn : j = n := by
        have := (List.getElem?_eq_some_iff.1 hj).1
        simp at this; omega
      subst hjn
      simp only [Nat.sub_self, List.getElem?_cons_zero, Option.some.injEq] at hj
      subst hj
      have hlast : (os.dropLast ++ [os.getLast hne])[j]? = some (os.getLast hne) := by
        rw [List.getElem?_append_right (by rw [hdl]; exact Nat.le_refl _), hdl]; simp
      rcases befOf_spec _ k _ _ hk with h0 | ⟨e, he, hb, h1⟩
      · simp at h0
      · rcases h1 with rfl | h1
        · exact .edge hlast he hb
        · refine .trans hlast he hb (Before.more (ih os.dropLast hdl e.on _ k ?_ h1))
          rcases hx : (befBits os.dropLast)[e.on]? with _ | bb'
          · rw [List.getD_eq_getElem?_getD, hx] at h1; simp at h1
          · rw [List.getD_eq_getElem?_getD, hx]; rfl

end Go.Vx
