/- V: writing memory. -/
import Derived.Test.YtjnjklnfcpgmpaaDoorVxS
set_option linter.unusedVariables false
set_option linter.unusedSimpArgs false
namespace Go.Vx
variable {G : Nat → Obj → Prop}

section
variable {P : Program} {ρ : Nat → Nat} {H : Heap} {w : World} {e : Env} {a : Act} {nt : Nat}

theorem Turns.trans {w w1 w2 : World} {r : Nat} {arr1 arr2 : Array Value} {t : TypeId} {fr : Nat × Nat} (h : Turns w w1 r arr1 t fr) (k : Turns w1 w2 r arr2 t fr) : Turns w w2 r arr2 t fr :=
  ⟨k.os.trans h.os, k.tape.trans h.tape, k.output.trans h.output, k.size.trans h.size, fun i hi => (k.old i hi).trans (h.old i hi), k.new⟩

theorem Turns.refl {w : World} {r : Nat} {arr : Array Value} {t : TypeId} {fr : Nat × Nat} (h : w.heap[r]? = some (.cells arr t fr)) : Turns w w r arr t fr := ⟨rfl, rfl, rfl, rfl, fun _ _ => rfl, h⟩

theorem turns_setCell {r o : Nat} {arr : Array Value} {t : TypeId} {fr : Nat × Nat} (hb : w.heap[r]? = some (.cells arr t fr)) (v : Value) : Turns w (w.setCell ⟨r, o, none⟩ v) r (arr.setIfInBounds o v) t fr := by
  refine ⟨rfl, rfl, rfl, by simp [World.setCell], fun i hi => ?_, ?_⟩
  · simp only [World.setCell, Array.getElem?_modify]
    rw [if_neg (Ne.symm hi)]
  · simp only [World.setCell, Array.getElem?_modify, hb]
    simp

theorem store_ok {r : Nat} {t : TypeId} {fr : Nat × Nat} (o : Nat) : ∀ (vs : List Value) (i : Nat) (arr : Array Value) (w : World), w.heap[r]? = some (.cells arr t fr) → nofreeze arr fr → o + i + vs.length ≤ arr.size → (∀ v ∈ vs, one v) →
    ∃ arr' w', (storeCells ⟨r, o, none⟩ vs i).run P w = .ok () w' ∧ Turns w w' r arr' t fr ∧ arr'.size = arr.size ∧
      ∀ k, arr'.getD k undef = if o + i ≤ k ∧ k < o + i + vs.length then vs.getD (k - (o + i)) undef else arr.getD k undef := by
  intro vs
  induction vs with
  | nil =>
    intro i arr w hb hf hl h1
    refine ⟨arr, w, rfl, Turns.refl hb, rfl, fun k => ?_⟩
    rw [if_neg (by simp)]
  | cons v vs ih =>
    intro i arr w hb hf hl h1
    simp only [List.length_cons] at hl
    have hlt : o + i < arr.size := by omega
    have hc := cell_at hb hlt
    have hfz : w.frozen? ⟨r, o + i, none⟩ = false := by simp only [World.frozen?, hb]; exact hf.at _ hlt
    have hT := turns_setCell (o := o + i) hb v
    obtain ⟨arr', w', k1, k2, k3, k4⟩ := ih (i + 1) (arr.setIfInBounds (o + i) v) _ hT.new (hf.sz (by simp)) (by simp; omega) (fun u hu => h1 u (by simp [hu]))
    refine ⟨arr', w', ?_, hT.trans k2, by rw [k3]; simp, fun k => ?_⟩
    · simp only [storeCells, Sem.run_bind, addr_add, run_store P w _ v .plain (h1 v (by simp)), hc, hfz, Bool.false_eq_true, if_false, Result.andThen_ok]
      exact k1
    · rw [k4]
      by_cases hk : k = o + i
      · subst hk
        rw [if_neg (by omega), if_pos (by simp)]
        simp [Array.getD_eq_getD_getElem?, hlt]
      · by_cases hk2 : o + (i + 1) ≤ k ∧ k < o + (i + 1) + vs.length
        · rw [if_pos hk2, if_pos (by simp; omega), show k - (o + i) = (k - (o + (i + 1))) + 1 by omega]
          simp
        · rw [if_neg hk2, if_neg (by simp; omega)]
          simp [Array.getD_eq_getD_getElem?, Array.getElem?_setIfInBounds_ne (Ne.symm hk)]

theorem nofreeze_zero (arr : Array Value) : nofreeze arr (0, 0) := .inl rfl

theorem RA.mono {C D : Cx} (h : C.le D) {cs : List AV} {arr : Array Value} (hr : RA C cs arr) : RA D cs arr := ⟨hr.1, fun j c hj => ⟨(hr.2 j c hj).1.mono h, (hr.2 j c hj).2⟩⟩
theorem RE.mono {C D : Cx} (h : C.le D) {z : Nat} {es : List AV} {arr : Array Value} {o : Nat} (hr : RE C z es arr o) : RE D z es arr o := ⟨hr.1, fun i x j c hi hj => ⟨(hr.2 i x j c hi hj).1.mono h, (hr.2 i x j c hi hj).2⟩⟩

theorem or_box {C : Cx} {w' : World} {r : Nat} {arr : Array Value} {t : TypeId} {fr : Nat × Nat} {cs : List AV} (hb : w'.heap[r]? = some (.cells arr t fr)) (hf : nofreeze arr fr) (hr : RA C cs arr) : OR C w' (.box cs) r :=
  .box cs r arr t fr hb hr.1 hf (fun j c hj => by have := (hr.2 j c hj).2; rwa [Nat.zero_add] at this) (fun j c hj => by have := (hr.2 j c hj).1; rwa [Nat.zero_add] at this)
theorem or_row {C : Cx} {w' : World} {r : Nat} {arr : Array Value} {t : TypeId} {fr : Nat × Nat} {z : Nat} {es : List AV} (hb : w'.heap[r]? = some (.cells arr t fr)) (hf : nofreeze arr fr) (hs : es.length * z ≤ arr.size) (hr : RE C z es arr 0) : OR C w' (.row z es) r :=
  .row z es r arr t fr hb hs hf hr.1 (fun i x j c hi hj => by have := (hr.2 i x j c hi hj).2; rwa [Nat.zero_add] at this) (fun i x j c hi hj => by have := (hr.2 i x j c hi hj).1; rwa [Nat.zero_add] at this)

/-- A new box. -/
theorem new_box {fl : Nat} (hS : Sim ρ H w) {w' : World} {arr : Array Value} {t : TypeId} (ha : Adds w w' (.cells arr t)) {cs : List AV} (hr : RA (cx ρ H w) cs arr) :
    ∃ ρ', ρ' H.length = w.heap.size ∧ Tr fl ρ H w ρ' (H ++ [.box cs]) w' ∧ Sim ρ' (H ++ [.box cs]) w' ∧ VR (cx ρ' (H ++ [.box cs]) w') (.ptr H.length 0) (.pointer (some ⟨w.heap.size, 0, none⟩)) := by
  obtain ⟨ρ', h1, h2, h3⟩ := new_obj fl hS ha (.box cs) (fun C hle => or_box ha.new (nofreeze_zero _) (hr.mono hle))
  refine ⟨ρ', h1, h2, h3, ?_⟩
  have := VR.ptr (C := cx ρ' (H ++ [.box cs]) w') H.length 0 (by simp [cx])
  simpa [cx, h1] using this

/-- A new record. -/
theorem new_row {fl : Nat} (hS : Sim ρ H w) {w' : World} {arr : Array Value} {t : TypeId} {fr : Nat × Nat} (ha : Adds w w' (.cells arr t fr)) (hf : nofreeze arr fr) {z : Nat} {es : List AV} (hr : RE (cx ρ H w) z es arr 0) {n cap : Nat} {c : Option Nat}
    (hn : n ≤ cap) (hcap : ∀ k, c = some k → cap = k) (hs : cap * z ≤ arr.size) (hes : es.length * z ≤ arr.size) :
    ∃ ρ', ρ' H.length = w.heap.size ∧ Tr fl ρ H w ρ' (H ++ [.row z es]) w' ∧ Sim ρ' (H ++ [.row z es]) w' ∧ VR (cx ρ' (H ++ [.row z es]) w') (.rsl H.length z 0 n c) (.slice (some ⟨w.heap.size, 0, none⟩) n cap) := by
  obtain ⟨ρ', h1, h2, h3⟩ := new_obj fl hS ha (.row z es) (fun C hle => or_row ha.new hf hes (hr.mono hle))
  refine ⟨ρ', h1, h2, h3, ?_⟩
  refine .rsl H.length z 0 n c _ cap (by simp [cx]) hn hcap (fun _ => by simp [cx, h1]) ?_
  exact ⟨arr, t, fr, by show w'.heap[ρ' H.length]? = _; rw [h1]; exact ha.new, by rw [Nat.zero_add]; exact hs⟩

theorem w_alloc {fl : Nat} {call : CallF} {pol : Pol} {reg : Nat} {o : Oper} {t : TypeId} (ho : o.op = .alloc t) (hS : Sim ρ H w) {vo : WOp} (hc : cOp P pol reg o.op = .w vo) {v : AV} {H' : Heap} (hv : wop call fl e H vo = some (v, H')) :
    Does fl ρ H w ((execOp a.eval o).run P w) v H' := by
  have hnb : vo ≠ .bad := by rintro rfl; simp [wop] at hv
  rw [ho] at hc
  simp only [cOp] at hc
  obtain ⟨z, hz, h⟩ := some_bind (orBad_w hc hnb)
  obtain ⟨n, hn, h⟩ := some_bind h
  split at h
  · rename_i hfit
    simp at h; subst h
    simp only [wop] at hv
    cases hv
    obtain ⟨i, zv, hi, hzv, hzr⟩ := zeroAV_ok hz
    obtain ⟨hzr1, hzr2⟩ := hzr (cx ρ H w)
    obtain ⟨ρ', h1, h2, h3, h4⟩ := new_box (fl := fl) hS (adds_alloc w (.cells zv.cells t)) (hzr1.ra hzr2)
    refine ⟨_, _, ρ', .inl ?_, h2, h3, h4⟩
    simp [execOp, ho, Instr.alloc, rZero hi hzv, newVar, newRow, newObj, Sem.run]
  · cases h

theorem w_box {fl : Nat} {call : CallF} {pol : Pol} {reg : Nat} {o : Oper} {t : TypeId} {x : Operand} (ho : o.op = .box t x) (hS : Sim ρ H w) (he : ER G (cx ρ H w) e a nt) {vo : WOp} (hc : cOp P pol reg o.op = .w vo) {v : AV} {H' : Heap}
    (hv : wop call fl e H vo = some (v, H')) : Does fl ρ H w ((execOp a.eval o).run P w) v H' := by
  have hnb : vo ≠ .bad := by rintro rfl; simp [wop] at hv
  rw [ho] at hc
  simp only [cOp] at hc
  obtain ⟨n, hn, h⟩ := some_bind (orBad_w hc hnb)
  obtain ⟨x', hx, h⟩ := some_bind h
  simp at h; subst h
  simp only [wop] at hv
  split at hv
  · rename_i hfit
    cases hv
    have hra := (cOpd_ok he hx).ra (fits_iff.1 hfit).2
    obtain ⟨ρ', h1, h2, h3, h4⟩ := new_box (fl := fl) hS (adds_alloc w (.cells (a.eval x).cells t)) hra
    refine ⟨_, _, ρ', .inl ?_, h2, h3, h4⟩
    simp [execOp, ho, Instr.box, newVar, newRow, newObj, Sem.run]
  · cases hv

theorem putO_some {fl b : Nat} {o : AO} {H' : Heap} (h : putO H fl b o = some H') : fl ≤ b ∧ H' = H.set b o := by
  unfold putO at h
  split at h
  · rename_i hf; cases h; exact ⟨hf, rfl⟩
  · cases h

theorem live_of {b : Nat} {o : AO} (h : H[b]? = some o) (hd : o.isDead = false) : live H b := ⟨o, h, hd⟩

theorem asElem_cells {v v' : AV} {cs : List AV} (h : asElem v cs = some v') (ht : ∀ c ∈ cs, c.isTup = false) : v'.cells = cs ∧ v'.isTup = false := by
  unfold asElem at h
  split at h
  · cases h; exact ⟨rfl, rfl⟩
  · split at h
    · rename_i c
      split at h
      · cases h
      · rename_i hna
        cases h
        refine ⟨?_, ht _ (by simp)⟩
        cases v' <;> first | rfl | (simp [AV.isAgg] at hna)
    · cases h

theorem VR.notup {C : Cx} {x : AV} {v : Value} (h : VR C x v) (h1 : one v) : x.isTup = false := by
  cases h <;> first | rfl | (simp [one, Value.oneCell'] at h1)

theorem w_store {fl : Nat} {call : CallF} {pol : Pol} {reg : Nat} {o : Oper} {t : TypeId} {ad x : Operand} (ho : o.op = .store t ad x) (hS : Sim ρ H w) (he : ER G (cx ρ H w) e a nt) {vo : WOp} (hc : cOp P pol reg o.op = .w vo) {v : AV} {H' : Heap}
    (hv : wop call fl e H vo = some (v, H')) : Does fl ρ H w ((execOp a.eval o).run P w) v H' := by
  have hnb : vo ≠ .bad := by rintro rfl; simp [wop] at hv
  rw [ho] at hc
  simp only [cOp] at hc
  obtain ⟨n, hn, h⟩ := some_bind (orBad_w hc hnb)
  obtain ⟨ad', had, h⟩ := some_bind h
  obtain ⟨x', hx, h⟩ := some_bind h
  simp at h; subst h
  obtain ⟨ti, hti, hsz⟩ := cellsN_ok hn
  simp only [wop] at hv
  split at hv
  · rename_i hfit
    obtain ⟨hfl, hft⟩ := fits_iff.1 hfit
    have hra := (cOpd_ok he hx).ra hft
    have hone : ∀ u ∈ (a.eval x).cells.toList, one u := fun u hu => by
      obtain ⟨j, hj, rfl⟩ := List.getElem_of_mem hu
      have hj' : j < (x'.ev e).cells.length := by rw [← hra.1]; simpa using hj
      have := (hra.2 j _ (List.getElem?_eq_getElem hj')).2
      rw [Nat.zero_add, Array.getD_eq_getD_getElem?] at this
      simpa [Array.getElem?_eq_getElem (show j < (a.eval x).cells.size by simpa using hj)] using this
    have hlen : (a.eval x).cells.toList.length = n := by rw [Array.length_toList, hra.1, hfl]
    have hvad := cOpd_ok he had
    have fin : ∀ (b o' : Nat) (arr : Array Value) (t' : TypeId) (fr : Nat × Nat) (ob' : AO), a.eval ad = .pointer (some ⟨ρ b, o', none⟩) → w.heap[ρ b]? = some (.cells arr t' fr) → nofreeze arr fr → o' + n ≤ arr.size → live H b → fl ≤ b → ob'.isDead = false →
        (∀ arr', arr'.size = arr.size → (∀ k, arr'.getD k undef = if o' ≤ k ∧ k < o' + n then (a.eval x).cells.getD (k - o') undef else arr.getD k undef) → ∀ w' C, w'.heap[ρ b]? = some (.cells arr' t' fr) → nofreeze arr' fr → (cx ρ H w).le C → OR C w' ob' (ρ b)) →
        Does fl ρ H w ((execOp a.eval o).run P w) undefV (H.set b ob') := by
      intro b o' arr t' fr ob' hea hb hf hle hl hflb hnd hor
      obtain ⟨arr', w', k1, k2, k3, k4⟩ := store_ok (P := P) o' (a.eval x).cells.toList 0 arr w hb hf (by rw [hlen]; omega) hone
      have hf' : nofreeze arr' fr := hf.sz (by omega)
      obtain ⟨hT, hS'⟩ := upd_obj fl hS hl hflb hb (by omega) k2 ob' hnd (fun C hle' => hor arr' k3 (fun k => by
        have := k4 k
        rw [hlen, Nat.add_zero] at this
        rw [this]
        simp [Array.getD_eq_getD_getElem?, List.getD_eq_getElem?_getD]) w' C k2.new hf' hle')
      refine ⟨undef, w', ρ, .inr ⟨?_, rfl⟩, hT, hS', vr_undef _⟩
      have hcs : (a.eval x).cells.size = ti.size := by rw [hsz, ← hlen, Array.length_toList]
      simp only [execOp, ho, Instr.storeAt, hea, Instr.sureAddr, storeVar, pure_bind, Sem.run_bind, rSize hti, Result.andThen_ok]
      rw [if_neg (by simp [hcs])]
      simp only [Sem.run_bind, pure_bind, Sem.run_pure, Result.andThen_ok, k1]
    split at hv
    · rename_i b o' hev
      rw [hev] at hvad
      split at hv
      · rename_i cs hob
        split at hv
        · rename_i hle
          simp only [Option.map_eq_some_iff] at hv
          obtain ⟨H1, hp, hv⟩ := hv
          simp only [Prod.mk.injEq] at hv
          obtain ⟨rfl, rfl⟩ := hv
          obtain ⟨hflb, rfl⟩ := putO_some hp
          obtain ⟨arr, t', fr, h1, h2, h3, h4⟩ := box_cells (hS.obj b _ hob)
          generalize hea : a.eval ad = ea at hvad
          cases hvad
          refine fin b o' arr t' fr _ hea h1 h3 (by rw [h2]; exact hle) (live_of hob rfl) hflb rfl (fun arr' s1 s2 w' C hb' hf' hleC => or_box hb' hf' ?_)
          exact RA.splice (RA.mono hleC ⟨h2, h4⟩) (RA.mono hleC hra) (by rw [hfl]; exact hle) s1 (fun k => by rw [s2 k, hra.1, hfl])
        · cases hv
      · cases hv
    · rename_i b z o' hev
      rw [hev] at hvad
      split at hv
      · rename_i z' es hob
        split at hv
        · rename_i hcond
          obtain ⟨rfl, hp0, hle⟩ := hcond
          split at hv
          · rename_i old hold
            split at hv
            · rename_i v' hv'
              simp only [Option.map_eq_some_iff] at hv
              obtain ⟨H1, hp, hv⟩ := hv
              simp only [Prod.mk.injEq] at hv
              obtain ⟨rfl, rfl⟩ := hv
              obtain ⟨hflb, rfl⟩ := putO_some hp
              obtain ⟨arr, t', fr, h1, h2, h3, h4⟩ := row_cells (hS.obj b _ hob)
              generalize hea : a.eval ad = ea at hvad
              cases hvad
              have hil := (List.getElem?_eq_some_iff.1 hold).1
              have holdz := h4.1 old (List.mem_of_getElem? hold)
              have hdm : o' / z * z + o' % z = o' := by have := Nat.div_add_mod o' z; rw [Nat.mul_comm] at this; omega
              have hbound : o' / z * z + z ≤ es.length * z := by
                have : (o' / z + 1) * z ≤ es.length * z := Nat.mul_le_mul_right z hil
                rwa [Nat.add_mul, Nat.one_mul] at this
              have hspl : (x'.ev e).cells.length + o' % z ≤ old.cells.length := by rw [hfl, holdz.1]; omega
              refine fin b o' arr t' fr _ hea h1 h3 (by omega) (live_of hob rfl) hflb rfl (fun arr' s1 s2 w' C hb' hf' hleC => or_row hb' hf' (by simp [s1]; exact h2) ?_)
              -- the element that is written
              have hcellsV : ∀ j c, (splice old.cells (o' % z) (x'.ev e).cells)[j]? = some c → VR C c (arr'.getD (o' / z * z + j) undef) ∧ one (arr'.getD (o' / z * z + j) undef) := fun j c hj => by
                have hjz : j < z := by
                  have := (List.getElem?_eq_some_iff.1 hj).1
                  rw [splice_length _ _ _ (by omega), holdz.1] at this; exact this
                rw [splice_get _ _ _ (by omega)] at hj
                rw [s2]
                split at hj
                · rw [if_neg (by omega)]
                  have := (RE.mono hleC h4).2 (o' / z) old j c hold hj
                  rwa [Nat.zero_add] at this
                · split at hj
                  · rw [if_pos (by omega)]
                    have := (RA.mono hleC hra).2 (j - o' % z) c hj
                    rw [Nat.zero_add] at this
                    rwa [show o' / z * z + j - o' = j - o' % z by omega]
                  · rw [if_neg (by omega)]
                    have := (RE.mono hleC h4).2 (o' / z) old j c hold hj
                    rwa [Nat.zero_add] at this
              obtain ⟨ce, ct⟩ := asElem_cells hv' (fun c hcm => by
                obtain ⟨j, hj, rfl⟩ := List.getElem_of_mem hcm
                obtain ⟨q1, q2⟩ := hcellsV j _ (List.getElem?_eq_getElem hj)
                exact q1.notup q2)
              refine ⟨fun y hy => ?_, fun i y j c hi hj => ?_⟩
              · rcases List.mem_or_eq_of_mem_set hy with h' | rfl
                · exact h4.1 y h'
                · exact ⟨by rw [ce, splice_length _ _ _ (by omega), holdz.1], ct⟩
              · rw [Nat.zero_add]
                by_cases hii : i = o' / z
                · subst hii
                  rw [List.getElem?_set_self hil] at hi
                  cases hi
                  rw [ce] at hj
                  exact hcellsV j c hj
                · rw [List.getElem?_set_ne (Ne.symm hii)] at hi
                  have hjz : j < z := by
                    have k1 := (h4.1 y (List.mem_of_getElem? hi)).1
                    have k2 := (List.getElem?_eq_some_iff.1 hj).1
                    omega
                  have hne : ¬ (o' ≤ i * z + j ∧ i * z + j < o' + n) := by
                    rintro ⟨q1, q2⟩
                    rcases Nat.lt_or_ge i (o' / z) with hlt | hge
                    · have := mul_lt_of (z := z) hlt hjz; omega
                    · have hgt : o' / z < i := by omega
                      have : (o' / z + 1) * z ≤ i * z := Nat.mul_le_mul_right z hgt
                      rw [Nat.add_mul] at this
                      omega
                  rw [s2, if_neg hne]
                  have := (RE.mono hleC h4).2 i y j c hi hj
                  rwa [Nat.zero_add] at this
            · cases hv
          · cases hv
        · cases hv
      · cases hv
    · cases hv
  · cases hv

end
end Go.Vx
