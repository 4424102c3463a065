/- V: how its state and the machine's world go on together: a new block, a new object, an object that is written, one that is given up. -/
import Derived.Test.YtjnjklnfcpgmpaaDoorVxRel
set_option linter.unusedVariables false
namespace Go.Vx

theorem VR.one_of {C : Cx} {x : AV} {v : Value} (h : VR C x v) (ha : x.isAgg = false) (ht : x.isTup = false) : one v := by
  cases h <;> first | rfl | (simp [AV.isAgg] at ha; done) | (simp [AV.isTup] at ht; done)

theorem VR.cells {C : Cx} {x : AV} {v : Value} (h : VR C x v) (ht : x.isTup = false) :
    v.cells.size = x.cells.length ∧ ∀ j c, x.cells[j]? = some c → VR C c (v.cells.getD j undef) ∧ one (v.cells.getD j undef) := by
  cases hx : x.isAgg with
  | true =>
    cases h
    case agg cs vs hs h1 hv => exact ⟨hs, fun j c hj => ⟨hv j c hj, h1 j c hj⟩⟩
    all_goals simp [AV.isAgg] at hx
  | false =>
    have h1 := h.one_of hx ht
    have e1 : x.cells = [x] := by cases x <;> first | rfl | simp [AV.isAgg] at hx
    have e2 : v.cells = #[v] := by cases h <;> first | rfl | simp [AV.isAgg] at hx
    rw [e1, e2]
    refine ⟨rfl, fun j c hj => ?_⟩
    match j with
    | 0 =>
      simp at hj
      subst hj
      exact ⟨h, h1⟩
    | j + 1 => simp at hj

/-- A world with one block more. -/
structure Adds (w w' : World) (o : Obj) : Prop where
  os : w'.os = w.os
  tape : w'.tape = w.tape
  output : w'.output = w.output
  size : w'.heap.size = w.heap.size + 1
  old : ∀ i, i < w.heap.size → w'.heap[i]? = w.heap[i]?
  new : w'.heap[w.heap.size]? = some o

theorem adds_alloc (w : World) (o : Obj) : Adds w (w.alloc o) o :=
  ⟨rfl, rfl, rfl, by simp, fun i hi => by show (w.heap.push o)[i]? = _; rw [Array.getElem?_push, if_neg (Nat.ne_of_lt hi)], by show (w.heap.push o)[w.heap.size]? = _; simp⟩
theorem adds_drawn {w : World} {o : Obj} (d : Nat) {w' : World} (h : Adds { w with drawn := d } w' o) : Adds w w' o := ⟨h.os, h.tape, h.output, h.size, h.old, h.new⟩

theorem live_lt {H : Heap} {b : Nat} (h : live H b) : b < H.length := by
  obtain ⟨o, ho, _⟩ := h
  exact (List.getElem?_eq_some_iff.1 ho).1

theorem add_block {ρ : Nat → Nat} {H : Heap} {w w' : World} {o : Obj} (fl : Nat) (hS : Sim ρ H w) (ha : Adds w w' o) : Tr fl ρ H w ρ H w' ∧ Sim ρ H w' := by
  have hT : Tr fl ρ H w ρ H w' := ⟨ha.os, ha.tape, ha.output, by rw [ha.size]; omega, Nat.le_refl _, fun _ _ => rfl, fun r hr hn => ⟨ha.old r hr, hn⟩,
    fun r arr t fr hr => ⟨arr, t, fr, by rw [ha.old r (by have := (Array.getElem?_eq_some_iff.1 hr).1; exact this)]; exact hr, Nat.le_refl _⟩,
    fun b _ _ => ⟨rfl, fun hl => ha.old _ (hS.lt b hl)⟩⟩
  refine ⟨hT, fun b o hb => ?_, hS.inj, fun b hb => by have := hS.lt b hb; rw [ha.size]; omega⟩
  cases hd : o.isDead with
  | true => cases o <;> first | exact .dead _ | simp [AO.isDead] at hd
  | false => exact (hS.obj b o hb).mono hT.le (ha.old _ (hS.lt b ⟨o, hb, hd⟩))

/-- The block that came belongs to none of V's objects. -/
theorem add_out {ρ : Nat → Nat} {H : Heap} {w : World} (hS : Sim ρ H w) : ¬ inR ρ H w.heap.size := by
  rintro ⟨b, hb, h⟩
  have := hS.lt b hb
  omega

theorem live_append {H : Heap} {o : AO} {b : Nat} : live (H ++ [o]) b ↔ (live H b ∨ (b = H.length ∧ o.isDead = false)) := by
  constructor
  · rintro ⟨x, hx, hd⟩
    rcases Nat.lt_or_ge b H.length with h | h
    · rw [List.getElem?_append_left h] at hx
      exact .inl ⟨x, hx, hd⟩
    · rw [List.getElem?_append_right h] at hx
      have h0 : b - H.length = 0 := by
        rcases Nat.eq_zero_or_pos (b - H.length) with h0 | h0
        · exact h0
        · rw [List.getElem?_eq_none (by simp; omega)] at hx; cases hx
      rw [h0] at hx
      simp at hx
      subst hx
      exact .inr ⟨by omega, hd⟩
  · rintro (⟨x, hx, hd⟩ | ⟨rfl, hd⟩)
    · exact ⟨x, by rw [List.getElem?_append_left (List.getElem?_eq_some_iff.1 hx).1]; exact hx, hd⟩
    · exact ⟨o, by simp, hd⟩

/-- A new object in a new block. -/
theorem new_obj {ρ : Nat → Nat} {H : Heap} {w w' : World} {ob : Obj} (fl : Nat) (hS : Sim ρ H w) (ha : Adds w w' ob) (o : AO)
    (ho : ∀ C, (cx ρ H w).le C → OR C w' o w.heap.size) :
    ∃ ρ', ρ' H.length = w.heap.size ∧ Tr fl ρ H w ρ' (H ++ [o]) w' ∧ Sim ρ' (H ++ [o]) w' := by
  let ρ' : Nat → Nat := fun b => if b = H.length then w.heap.size else ρ b
  have e1 : ∀ b, b < H.length → ρ' b = ρ b := fun b hb => by simp [ρ', Nat.ne_of_lt hb]
  have e2 : ρ' H.length = w.heap.size := by simp [ρ']
  have hin : ∀ r, r < w.heap.size → ¬ inR ρ H r → ¬ inR ρ' (H ++ [o]) r := by
    rintro r hr hn ⟨b, hb, rfl⟩
    rcases live_append.1 hb with hb | ⟨rfl, _⟩
    · exact hn ⟨b, hb, (e1 b (live_lt hb)).symm⟩
    · rw [e2] at hr; omega
  have hT : Tr fl ρ H w ρ' (H ++ [o]) w' := ⟨ha.os, ha.tape, ha.output, by rw [ha.size]; omega, by simp, e1, fun r hr hn => ⟨ha.old r hr, hin r hr hn⟩,
    fun r arr t fr hr => ⟨arr, t, fr, by rw [ha.old r (Array.getElem?_eq_some_iff.1 hr).1]; exact hr, Nat.le_refl _⟩,
    fun b _ hl => ⟨by rw [List.getElem?_append_left hl], fun hv => ha.old _ (hS.lt b hv)⟩⟩
  refine ⟨ρ', e2, hT, fun b x hb => ?_, fun b b' hb hb' he => ?_, fun b hb => ?_⟩
  · rcases Nat.lt_or_ge b H.length with h | h
    · rw [List.getElem?_append_left h] at hb
      rw [e1 b h]
      cases hd : x.isDead with
      | true => cases x <;> first | exact .dead _ | simp [AO.isDead] at hd
      | false => exact (hS.obj b x hb).mono hT.le (ha.old _ (hS.lt b ⟨x, hb, hd⟩))
    · have hl := (List.getElem?_eq_some_iff.1 hb).1
      simp at hl
      obtain rfl : b = H.length := by omega
      simp at hb
      subst hb
      rw [e2]
      exact ho _ hT.le
  · rcases live_append.1 hb with h | ⟨rfl, _⟩ <;> rcases live_append.1 hb' with h' | ⟨rfl, _⟩
    · rw [e1 b (live_lt h), e1 b' (live_lt h')] at he
      exact hS.inj b b' h h' he
    · rw [e1 b (live_lt h), e2] at he
      have := hS.lt b h; omega
    · rw [e1 b' (live_lt h'), e2] at he
      have := hS.lt b' h'; omega
    · rfl
  · rw [ha.size]
    rcases live_append.1 hb with h | ⟨rfl, _⟩
    · rw [e1 b (live_lt h)]; have := hS.lt b h; omega
    · rw [e2]; omega

/-- A world in which one block has turned. -/
structure Turns (w w' : World) (r : Nat) (arr' : Array Value) (t : TypeId) (fr : Nat × Nat) : Prop where
  os : w'.os = w.os
  tape : w'.tape = w.tape
  output : w'.output = w.output
  size : w'.heap.size = w.heap.size
  old : ∀ i, i ≠ r → w'.heap[i]? = w.heap[i]?
  new : w'.heap[r]? = some (.cells arr' t fr)

theorem live_set {H : Heap} {b : Nat} {o : AO} {c : Nat} (hb : b < H.length) : live (H.set b o) c ↔ ((c ≠ b ∧ live H c) ∨ (c = b ∧ o.isDead = false)) := by
  constructor
  · rintro ⟨x, hx, hd⟩
    by_cases h : c = b
    · subst h
      rw [List.getElem?_set_self hb] at hx
      cases hx
      exact .inr ⟨rfl, hd⟩
    · rw [List.getElem?_set_ne (Ne.symm h)] at hx
      exact .inl ⟨h, x, hx, hd⟩
  · rintro (⟨h, x, hx, hd⟩ | ⟨rfl, hd⟩)
    · exact ⟨x, by rw [List.getElem?_set_ne (Ne.symm h)]; exact hx, hd⟩
    · exact ⟨o, by rw [List.getElem?_set_self hb], hd⟩

/-- An object is written. -/
theorem upd_obj {ρ : Nat → Nat} {H : Heap} {w w' : World} {b : Nat} {arr arr' : Array Value} {t : TypeId} {fr fr' : Nat × Nat} (fl : Nat) (hS : Sim ρ H w) (hl : live H b) (hfl : fl ≤ b)
    (h0 : w.heap[ρ b]? = some (.cells arr t fr)) (hsz : arr.size ≤ arr'.size) (ht : Turns w w' (ρ b) arr' t fr') (o : AO) (hnd : o.isDead = false)
    (ho : ∀ C, (cx ρ H w).le C → OR C w' o (ρ b)) :
    Tr fl ρ H w ρ (H.set b o) w' ∧ Sim ρ (H.set b o) w' := by
  have hlt := live_lt hl
  have hT : Tr fl ρ H w ρ (H.set b o) w' := ⟨ht.os, ht.tape, ht.output, by rw [ht.size]; omega, by simp, fun _ _ => rfl,
    fun r hr hn => ⟨ht.old r (fun e => hn ⟨b, hl, e.symm⟩), by
      rintro ⟨c, hc, rfl⟩
      rcases (live_set hlt).1 hc with ⟨_, hc⟩ | ⟨rfl, _⟩
      · exact hn ⟨c, hc, rfl⟩
      · exact hn ⟨c, hl, rfl⟩⟩,
    fun r arr₁ t₁ fr₁ hr => by
      by_cases h : r = ρ b
      · subst h
        rw [h0] at hr
        cases hr
        exact ⟨arr', t, fr', ht.new, hsz⟩
      · exact ⟨arr₁, t₁, fr₁, (ht.old r h).trans hr, Nat.le_refl _⟩,
    fun c hc hcl => ⟨by rw [List.getElem?_set_ne (by omega)], fun hv => ht.old _ (fun e => by have := hS.inj c b hv hl e; omega)⟩⟩
  refine ⟨hT, fun c x hc => ?_, fun c c' hc hc' he => ?_, fun c hc => ?_⟩
  · by_cases h : c = b
    · subst h
      rw [List.getElem?_set_self hlt] at hc
      cases hc
      exact ho _ hT.le
    · rw [List.getElem?_set_ne (Ne.symm h)] at hc
      cases hd : x.isDead with
      | true => cases x <;> first | exact .dead _ | simp [AO.isDead] at hd
      | false => exact (hS.obj c x hc).mono hT.le (ht.old _ (fun e => h (hS.inj c b ⟨x, hc, hd⟩ hl e)))
  · have g : ∀ c, live (H.set b o) c → live H c := fun c hc => by
      rcases (live_set hlt).1 hc with ⟨_, h⟩ | ⟨rfl, _⟩
      · exact h
      · exact hl
    exact hS.inj c c' (g c hc) (g c' hc') he
  · rw [ht.size]
    rcases (live_set hlt).1 hc with ⟨_, h⟩ | ⟨rfl, _⟩
    · exact hS.lt c h
    · exact hS.lt c hl

/-- An object is given up. -/
theorem kill_obj {ρ : Nat → Nat} {H : Heap} {w : World} {b : Nat} (fl : Nat) (hS : Sim ρ H w) (hl : live H b) (hfl : fl ≤ b) : Tr fl ρ H w ρ (H.set b .dead) w ∧ Sim ρ (H.set b .dead) w := by
  have hlt := live_lt hl
  have g : ∀ c, live (H.set b .dead) c → live H c ∧ c ≠ b := fun c hc => by
    rcases (live_set hlt).1 hc with ⟨h, h'⟩ | ⟨_, h⟩
    · exact ⟨h', h⟩
    · simp [AO.isDead] at h
  have hT : Tr fl ρ H w ρ (H.set b .dead) w := ⟨rfl, rfl, rfl, Nat.le_refl _, by simp, fun _ _ => rfl,
    fun r hr hn => ⟨rfl, by rintro ⟨c, hc, rfl⟩; exact hn ⟨c, (g c hc).1, rfl⟩⟩,
    fun r arr t fr hr => ⟨arr, t, fr, hr, Nat.le_refl _⟩, fun c hc hcl => ⟨by rw [List.getElem?_set_ne (by omega)], fun _ => rfl⟩⟩
  refine ⟨hT, fun c x hc => ?_, fun c c' hc hc' he => hS.inj c c' (g c hc).1 (g c' hc').1 he, fun c hc => hS.lt c (g c hc).1⟩
  by_cases h : c = b
  · subst h
    rw [List.getElem?_set_self hlt] at hc
    cases hc
    exact .dead _
  · rw [List.getElem?_set_ne (Ne.symm h)] at hc
    exact (hS.obj c x hc).mono hT.le rfl

/-- An object takes over the block of one that is given up, which may be written behind it. -/
theorem heir_obj {ρ : Nat → Nat} {H : Heap} {w w' : World} {b : Nat} {arr arr' : Array Value} {t : TypeId} {fr fr' : Nat × Nat} (fl : Nat) (hS : Sim ρ H w) (hl : live H b) (hfl : fl ≤ b)
    (h0 : w.heap[ρ b]? = some (.cells arr t fr)) (hsz : arr.size ≤ arr'.size) (ht : Turns w w' (ρ b) arr' t fr') (o : AO) (hnd : o.isDead = false)
    (ho : ∀ C, (cx ρ H w).le C → OR C w' o (ρ b)) :
    ∃ ρ', ρ' H.length = ρ b ∧ Tr fl ρ H w ρ' (H.set b .dead ++ [o]) w' ∧ Sim ρ' (H.set b .dead ++ [o]) w' := by
  have hlt := live_lt hl
  let ρ' : Nat → Nat := fun c => if c = H.length then ρ b else ρ c
  have e1 : ∀ c, c < H.length → ρ' c = ρ c := fun c hc => by simp [ρ', Nat.ne_of_lt hc]
  have e2 : ρ' H.length = ρ b := by simp [ρ']
  have g : ∀ c, live (H.set b .dead ++ [o]) c → (live H c ∧ c ≠ b ∧ c < H.length) ∨ c = H.length := fun c hc => by
    rcases live_append.1 hc with hc | ⟨hc, _⟩
    · rcases (live_set hlt).1 hc with ⟨h, h'⟩ | ⟨_, h⟩
      · exact .inl ⟨h', h, live_lt h'⟩
      · simp [AO.isDead] at h
    · exact .inr (by simpa using hc)
  have hT : Tr fl ρ H w ρ' (H.set b .dead ++ [o]) w' := ⟨ht.os, ht.tape, ht.output, by rw [ht.size]; omega, by simp, e1,
    fun r hr hn => ⟨ht.old r (fun e => hn ⟨b, hl, e.symm⟩), by
      rintro ⟨c, hc, rfl⟩
      rcases g c hc with ⟨hc, _, hcl⟩ | rfl
      · exact hn ⟨c, hc, (e1 c hcl).symm⟩
      · exact hn ⟨b, hl, e2.symm⟩⟩,
    fun r arr₁ t₁ fr₁ hr => by
      by_cases h : r = ρ b
      · subst h
        rw [h0] at hr
        cases hr
        exact ⟨arr', t, fr', ht.new, hsz⟩
      · exact ⟨arr₁, t₁, fr₁, (ht.old r h).trans hr, Nat.le_refl _⟩,
    fun c hc hcl => ⟨by rw [List.getElem?_append_left (by simpa using hcl), List.getElem?_set_ne (by omega)], fun hv => ht.old _ (fun e => by have := hS.inj c b hv hl e; omega)⟩⟩
  refine ⟨ρ', e2, hT, fun c x hc => ?_, fun c c' hc hc' he => ?_, fun c hc => ?_⟩
  · rcases Nat.lt_or_ge c H.length with h | h
    · rw [List.getElem?_append_left (by simpa using h)] at hc
      by_cases hcb : c = b
      · subst hcb
        rw [List.getElem?_set_self hlt] at hc
        cases hc
        exact .dead _
      · rw [List.getElem?_set_ne (Ne.symm hcb)] at hc
        rw [e1 c h]
        cases hd : x.isDead with
        | true => cases x <;> first | exact .dead _ | simp [AO.isDead] at hd
        | false => exact (hS.obj c x hc).mono hT.le (ht.old _ (fun e => hcb (hS.inj c b ⟨x, hc, hd⟩ hl e)))
    · have hcl := (List.getElem?_eq_some_iff.1 hc).1
      simp at hcl
      obtain rfl : c = H.length := by omega
      rw [List.getElem?_append_right (by simp)] at hc
      simp at hc
      subst hc
      rw [e2]
      exact ho _ hT.le
  · rcases g c hc with ⟨h, hn, hcl⟩ | rfl <;> rcases g c' hc' with ⟨h', hn', hcl'⟩ | rfl
    · rw [e1 c hcl, e1 c' hcl'] at he
      exact hS.inj c c' h h' he
    · rw [e1 c hcl, e2] at he
      exact absurd (hS.inj c b h hl he) hn
    · rw [e1 c' hcl', e2] at he
      exact absurd (hS.inj b c' hl h' he).symm hn'
    · rfl
  · rw [ht.size]
    rcases g c hc with ⟨h, hn, hcl⟩ | rfl
    · rw [e1 c hcl]; exact hS.lt c h
    · rw [e2]; exact hS.lt b hl

end Go.Vx
