/- V: builtins on values; loads; texts out of bytes; what is said of any operation. -/
import Derived.Test.YtjnjklnfcpgmpaaDoorVxQ
import Derived.Laws.Append
set_option linter.unusedVariables false
set_option linter.unusedSimpArgs false
namespace Go.Vx
variable {G : Nat → Obj → Prop}

/-- What an operation does: it ends, and V's state and the machine's world go on together. -/
def Does (fl : Nat) (ρ : Nat → Nat) (H : Heap) (w : World) (r : Result Next) (v : AV) (H' : Heap) : Prop :=
  ∃ (x : Value) (w' : World) (ρ' : Nat → Nat), (r = .ok (.value x) w' ∨ (r = .ok .skip w' ∧ x = undef)) ∧ Tr fl ρ H w ρ' H' w' ∧ Sim ρ' H' w' ∧ VR (cx ρ' H' w') v x

section
variable {P : Program} {ρ : Nat → Nat} {H : Heap} {w : World} {e : Env} {a : Act} {nt : Nat}

theorem Pu.does {fl : Nat} (hS : Sim ρ H w) {r : Result Next} {v : AV} (h : Pu P (cx ρ H w) w r v) : Does fl ρ H w r v H := by
  obtain ⟨x, h1, h2⟩ := h
  exact ⟨x, w, ρ, .inl h1, Tr.refl .., hS, h2⟩

theorem list_one {α : Type} {xs : Array α} {x : α} (h : xs.toList = [x]) : xs = #[x] := by
  rw [← Array.toArray_toList (xs := xs), h]
theorem list_two {α : Type} {xs : Array α} {x y : α} (h : xs.toList = [x, y]) : xs = #[x, y] := by
  rw [← Array.toArray_toList (xs := xs), h]

theorem cOpds_one {xs : List Operand} {y : Opd} (h : xs.mapM cOpd = some [y]) : ∃ x, xs = [x] ∧ cOpd x = some y := by
  obtain ⟨h1, h2⟩ := mapM_some h
  cases xs with
  | nil => simp at h1
  | cons x xs =>
    cases xs with
    | nil =>
      obtain ⟨x', hx, hy⟩ := h2 0 y rfl
      simp at hx; subst hx
      exact ⟨x, rfl, hy⟩
    | cons _ _ => simp at h1
theorem cOpds_two {xs : List Operand} {y z : Opd} (h : xs.mapM cOpd = some [y, z]) : ∃ x x', xs = [x, x'] ∧ cOpd x = some y ∧ cOpd x' = some z := by
  obtain ⟨h1, h2⟩ := mapM_some h
  match xs, h1 with
  | [x, x'], _ =>
    obtain ⟨u, hu, hy⟩ := h2 0 y rfl
    obtain ⟨u', hu', hz⟩ := h2 1 z rfl
    simp at hu hu'; subst hu; subst hu'
    exact ⟨x, x', rfl, hy, hz⟩

/-- A builtin is called. -/
theorem exec_builtin {o : Oper} {c : Call} {b : Builtin} (ho : o.op = .call c) (hb : c.callee = .builtin b) :
    execOp a.eval o = builtin b c.argTypes o.type (c.args.map fun | .const _ => true | _ => false) (c.args.map a.eval) := by
  simp only [execOp, ho, resolve, hb, pure_bind, invoke]
  rfl

theorem map_one (f : Operand → Value) (x : Operand) : (#[x] : Array Operand).map f = #[f x] := by simp
theorem map_two (f : Operand → Value) (x y : Operand) : (#[x, y] : Array Operand).map f = #[f x, f y] := by simp

theorem p_call {C : Cx} {pol : Pol} {reg : Nat} {o : Oper} {c : Call} (ho : o.op = .call c) (he : ER G C e a nt) {vo : POp} (hc : cOp P pol reg o.op = .p vo) {v : AV} (hv : pop e vo = some v) :
    Pu P C w ((execOp a.eval o).run P w) v := by
  rw [ho] at hc
  simp only [cOp] at hc
  obtain ⟨args, hargs, h⟩ := some_bind (orBad_p hc)
  split at h
  · obtain ⟨f', hf, h⟩ := some_bind h
    split at h <;> (simp at h; split at h <;> cases h)
  · cases h
  · rename_i b hb
    rw [exec_builtin ho hb]
    obtain ⟨t, ht, h⟩ := some_bind h
    split at h
    · rename_i x
      obtain ⟨x0, hx0, hx⟩ := cOpds_one hargs
      rw [list_one hx0, map_one]
      split at h
      · rename_i hu
        simp at h; subst h
        exact (d_lenStr (P := P) (w := w) hu (cOpd_ok he hx) hv o.type _ ht).pu
      · rename_i et hu
        simp at h; subst h
        exact (d_len (P := P) (w := w) hu (cOpd_ok he hx) hv o.type _ ht).pu
      · rename_i n et hu
        simp at h; subst h
        simp only [pop, Opd.ev] at hv
        cases hv
        exact ⟨.int .i64 n, by simp [builtin, Builtin.len_, ht, run_underlying hu, goInt], .int _ _⟩
      · cases h
    · rename_i x
      obtain ⟨x0, hx0, hx⟩ := cOpds_one hargs
      rw [list_one hx0, map_one]
      split at h
      · rename_i et hu
        simp at h; subst h
        exact (d_cap (P := P) (w := w) hu (cOpd_ok he hx) hv o.type _ ht).pu
      · cases h
    · rename_i x y
      obtain ⟨x0, y0, hx0, hx, hy⟩ := cOpds_two hargs
      rw [list_two hx0, map_two]
      simp at h; subst h
      exact (d_mm (P := P) (w := w) false (cOpd_ok he hx) (cOpd_ok he hy) hv o.type c.argTypes).pu
    · rename_i x y
      obtain ⟨x0, y0, hx0, hx, hy⟩ := cOpds_two hargs
      rw [list_two hx0, map_two]
      simp at h; subst h
      exact (d_mm (P := P) (w := w) true (cOpd_ok he hx) (cOpd_ok he hy) hv o.type c.argTypes).pu
    · obtain ⟨⟨z, by', zero⟩, hz, h⟩ := some_bind h
      obtain ⟨t1, ht1, h⟩ := some_bind h
      split at h
      · simp at h
      · split at h <;> (simp at h; try (split at h <;> cases h))
      · cases h
    · obtain ⟨⟨z, by', zero⟩, hz, h⟩ := some_bind h
      simp at h
    · cases h

/-- A literal of a slice: a value in new memory. -/
theorem buildSlice_run {t et : TypeId} {it : TypeInfo} {zv : Value} (ht : P.underlying t = some (.slice et)) (hi : P.info? et = some it) (hzv : it.zero = some zv) (hp : 0 < it.size) {len : Nat} (hl : len * it.size ≤ 2 ^ 24)
    (ps : Array (Nat × Value)) {arr : Array Value} (hf : Instr.fill (fun i => some (i * it.size, it.size)) ((Array.range (len * it.size)).map (fun i => zv.cells[i % zv.cells.size]!)) ps.toList = some arr) :
    (Instr.buildSlice t len ps).run P w = .ok (.slice (some ⟨w.heap.size, 0, none⟩) len len) (w.alloc (.cells arr et)) := by
  have hl' : ¬ len * it.size > 2 ^ 24 := by omega
  unfold Instr.buildSlice
  simp only [Sem.run_bind, run_underlying ht, Result.andThen_ok, rSize hi, Sem.run_ite]
  rw [if_neg hl']
  by_cases h0 : len * it.size = 0
  · simp only [h0, if_true, Sem.run_pure, Result.andThen_ok] at hf ⊢
    have e0 : ∀ (z : Array Value), (Array.range 0).map (fun i => z[i % z.size]!) = #[] := fun z => by rw [Array.range_zero']; simp
    rw [e0] at hf ⊢
    simp only [hf]
    simp [newRow, newObj, Sem.run]
  · rw [if_neg h0]
    simp only [Sem.run_bind, rZero hi hzv, Result.andThen_ok, Sem.run_pure, hf]
    simp [newRow, newObj, Sem.run]

theorem out_new (hS : Sim ρ H w) {w' : World} {o : Obj} (ha : Adds w w' o) {r : Nat} (hr : r = w.heap.size) : ¬ inR ρ H r := hr ▸ add_out hS

theorem cell_new {w w' : World} {arr : Array Value} {t : TypeId} {fr : Nat × Nat} (ha : Adds w w' (.cells arr t fr)) {j : Nat} {x : Value} (h : arr[j]? = some x) : w'.cell? ⟨w.heap.size, j, none⟩ = some x := by
  simp [World.cell?, ha.new, h]

theorem addr_add (r o n : Nat) : (⟨r, o, none⟩ : Addr).add n = ⟨r, o + n, none⟩ := by unfold Addr.add; split <;> simp_all

theorem getD_some {arr : Array Value} {j : Nat} (h : j < arr.size) : arr[j]? = some (arr.getD j undef) := by
  simp [Array.getD_eq_getD_getElem?, Array.getElem?_eq_getElem h]

/-- A value in a block that nobody writes. -/
theorem vr_new_sl (hS : Sim ρ H w) {w' : World} {arr : Array Value} {t : TypeId} {fr : Nat × Nat} (ha : Adds w w' (.cells arr t fr)) {z : Nat} {es : List AV} {full : Bool} {cap : Nat} (hc : es.length ≤ cap) (hf : full = true → cap = es.length)
    (hs : es.length * z ≤ arr.size) (hr : RE (cx ρ H w) z es arr 0) : VR (cx ρ H w') (.sl z full es) (.slice (some ⟨w.heap.size, 0, none⟩) es.length cap) := by
  obtain ⟨hT, hS'⟩ := add_block 0 hS ha
  refine .sl z full es _ cap (fun i j => arr.getD (i * z + j) undef) hc hf hr.1 (fun i x j c hi hj => ?_) (fun i x j c hi hj => ?_) (fun i x j c hi hj => ?_)
  · have hil := (List.getElem?_eq_some_iff.1 hi).1
    have hjz : j < z := by rw [← (hr.1 x (List.mem_of_getElem? hi)).1]; exact (List.getElem?_eq_some_iff.1 hj).1
    have hlt : i * z + j < arr.size := Nat.lt_of_lt_of_le (mul_lt_of hil hjz) hs
    rw [addr_add, Nat.zero_add]
    refine ⟨cell_new ha (getD_some hlt), ?_⟩
    exact add_out hS
  · have := (hr.2 i x j c hi hj).2
    rwa [Nat.zero_add] at this
  · have := (hr.2 i x j c hi hj).1
    rw [Nat.zero_add] at this
    exact hT.vr this

theorem p_buildSlice {fl : Nat} {pol : Pol} {reg : Nat} {o : Oper} {t : TypeId} {len : Nat} {parts : Array (Nat × Operand)} (ho : o.op = .buildSlice t len parts) (hS : Sim ρ H w) (he : ER G (cx ρ H w) e a nt) {vo : POp}
    (hc : cOp P pol reg o.op = .p vo) {v : AV} (hv : pop e vo = some v) : Does fl ρ H w ((execOp a.eval o).run P w) v H := by
  rw [ho] at hc
  simp only [cOp] at hc
  obtain ⟨⟨z, bytes, zero⟩, hz, h⟩ := some_bind (orBad_p hc)
  obtain ⟨ps, hps, h⟩ := some_bind h
  simp only [] at h
  split at h
  · cases h
  · rename_i hlen
    split at h
    · simp at h
    · simp at h; subst h
      obtain ⟨et, it, zv, hu, hit, rfl, hby, hzv, hzr, hp, hzl, hzt, _⟩ := elemOf'_ok hz
      simp only [pop, Option.map_eq_some_iff] at hv
      obtain ⟨es, hes, rfl⟩ := hv
      obtain ⟨q1, q2⟩ := cParts_ok hps
      obtain ⟨z1, z2⟩ := zeroCells_RE (n := len) (hzr (cx ρ H w)) hzl hzt hp
      obtain ⟨arr, g1, g2, g3, g4⟩ := fillE_ok he it.size parts.toList ps q1 q2 (List.replicate len zero) es _ (by simp) z2 hes
      have hmap : (parts.map fun (x : Nat × Operand) => (x.1, a.eval x.2)).toList = parts.toList.map fun p => (p.1, a.eval p.2) := by simp
      have hrun := buildSlice_run (P := P) (w := w) hu hit hzv hp (by omega : len * it.size ≤ 2 ^ 24) (parts.map fun (x : Nat × Operand) => (x.1, a.eval x.2)) (by rw [hmap]; exact g1)
      have hel : es.length = len := by rw [g4]; simp
      have ha := adds_alloc w (.cells arr et)
      obtain ⟨hT, hS'⟩ := add_block fl hS ha
      refine ⟨.slice (some ⟨w.heap.size, 0, none⟩) len len, w.alloc (.cells arr et), ρ, .inl ?_, hT, hS', ?_⟩
      · simp [execOp, ho, hrun]
      · have := vr_new_sl (full := true) hS ha (Nat.le_refl es.length) (fun _ => rfl) (by rw [g2]; exact Nat.le_refl _) g3
        rwa [hel] at this

end
end Go.Vx
