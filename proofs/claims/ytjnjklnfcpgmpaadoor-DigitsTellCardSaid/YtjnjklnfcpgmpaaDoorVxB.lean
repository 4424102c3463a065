/- V: what else writes or makes memory. -/
import Derived.Test.YtjnjklnfcpgmpaaDoorVxA
set_option linter.unusedVariables false
set_option linter.unusedSimpArgs false
namespace Go.Vx
variable {G : Nat → Obj → Prop}

section
variable {P : Program} {ρ : Nat → Nat} {H : Heap} {w : World} {e : Env} {a : Act} {nt : Nat}

theorem litMut_ok {fl : Nat} {call : CallF} {pol : Pol} {reg : Nat} {o : Oper} {t : TypeId} {len : Nat} {parts : Array (Nat × Operand)} (ho : o.op = .buildSlice t len parts) (hS : Sim ρ H w) (he : ER G (cx ρ H w) e a nt) {vo : WOp}
    (hc : cOp P pol reg o.op = .w vo) {v : AV} {H' : Heap} (hv : wop call fl e H vo = some (v, H')) : Does fl ρ H w ((execOp a.eval o).run P w) v H' := by
  have hnb : vo ≠ .bad := by rintro rfl; simp [wop] at hv
  rw [ho] at hc
  simp only [cOp] at hc
  obtain ⟨⟨z, bytes, zero⟩, hz, h⟩ := some_bind (orBad_w hc hnb)
  obtain ⟨ps, hps, h⟩ := some_bind h
  simp only [] at h
  split at h
  · cases h
  · rename_i hlen
    split at h
    · simp at h; subst h
      obtain ⟨et, it, zv, hu, hit, rfl, hby, hzv, hzr, hp, hzl, hzt, _⟩ := elemOf'_ok hz
      simp only [wop, Option.map_eq_some_iff] at hv
      obtain ⟨es, hes, hv⟩ := hv
      simp only [Prod.mk.injEq] at hv
      obtain ⟨rfl, rfl⟩ := hv
      obtain ⟨q1, q2⟩ := cParts_ok hps
      obtain ⟨z1, z2⟩ := zeroCells_RE (n := len) (hzr (cx ρ H w)) hzl hzt hp
      obtain ⟨arr, g1, g2, g3, g4⟩ := fillE_ok he it.size parts.toList ps q1 q2 (List.replicate len zero) es _ (by simp) z2 hes
      have hmap : (parts.map fun (x : Nat × Operand) => (x.1, a.eval x.2)).toList = parts.toList.map fun p => (p.1, a.eval p.2) := by simp
      have hrun := buildSlice_run (P := P) (w := w) hu hit hzv hp (by omega : len * it.size ≤ 2 ^ 24) (parts.map fun (x : Nat × Operand) => (x.1, a.eval x.2)) (by rw [hmap]; exact g1)
      have hel : es.length = len := by rw [g4]; simp
      obtain ⟨ρ', k1, k2, k3, k4⟩ := new_row (fl := fl) (c := some len) hS (adds_alloc w (.cells arr et)) (nofreeze_zero _) g3 (Nat.le_refl len) (fun k hk => by cases hk; rfl) (by rw [g2, hel]; exact Nat.le_refl _) (by rw [g2]; exact Nat.le_refl _)
      refine ⟨_, _, ρ', .inl ?_, k2, k3, k4⟩
      simp [execOp, ho, hrun]
    · simp at h

theorem run_mksl {t et : TypeId} {it : TypeInfo} {zv : Value} (ht : P.underlying t = some (.slice et)) (hi : P.info? et = some it) (hzv : it.zero = some zv) (k k' : IntKind) (l c : Int) (h0 : 0 ≤ l) (h1 : l ≤ c) (h2 : c ≤ limit) (h3 : c * it.bytes ≤ limit) :
    (Instr.makeSlice t (.int k l) (.int k' c)).run P w = .ok (.slice (some ⟨w.heap.size, 0, none⟩) l.toNat c.toNat) (w.alloc (.cells ((Array.range (c.toNat * it.size)).map (fun i => zv.cells[i % zv.cells.size]!)) et)) := by
  have w1 : IntKind.i64.wrap l = l := Go.IntWalk.i64_in l (by unfold limit at h2; omega)
  have w2 : IntKind.i64.wrap c = c := Go.IntWalk.i64_in c (by unfold limit at h2; omega)
  have g1 : ¬ (it.bytes : Int) * c > 2 ^ 48 := by rw [Int.mul_comm]; unfold limit at h3; omega
  have g2 : ¬ c < 0 := by omega
  have g3 : ¬ l < 0 := by omega
  have g4 : ¬ l > c := by omega
  have g5 : ∀ b, (askRoom b).run P w = .ok () w := fun b => by unfold askRoom; split <;> rfl
  unfold Instr.makeSlice
  simp only [Sem.run_bind, run_underlying ht, Result.andThen_ok, asInt, asIntOf, pure_bind, Sem.run_pure, rTI hi, w1, w2, g1, g2, g3, g4, decide_false, Bool.or_false, Bool.false_eq_true, or_self, if_false, g5, rSize hi]
  by_cases hn : c.toNat * it.size = 0
  · rw [hn, if_pos rfl]
    have e0 : ∀ (z : Array Value), (Array.range 0).map (fun i => z[i % z.size]!) = #[] := fun z => by rw [Array.range_zero']; simp
    rw [e0, e0]
    simp [newRow, newObj, Sem.run]
  · rw [if_neg hn]
    simp only [Sem.run_bind, rZero hi hzv, Result.andThen_ok, Sem.run_pure]
    simp [newRow, newObj, Sem.run]

theorem w_mksl {fl : Nat} {call : CallF} {pol : Pol} {reg : Nat} {o : Oper} {t : TypeId} {l c : Operand} (ho : o.op = .makeSlice t l c) (hS : Sim ρ H w) (he : ER G (cx ρ H w) e a nt) {vo : WOp} (hc : cOp P pol reg o.op = .w vo) {v : AV} {H' : Heap}
    (hv : wop call fl e H vo = some (v, H')) : Does fl ρ H w ((execOp a.eval o).run P w) v H' := by
  have hnb : vo ≠ .bad := by rintro rfl; simp [wop] at hv
  rw [ho] at hc
  simp only [cOp] at hc
  obtain ⟨⟨z, bytes, zero⟩, hz, h⟩ := some_bind (orBad_w hc hnb)
  obtain ⟨l', hl, h⟩ := some_bind h
  obtain ⟨c', hcc, h⟩ := some_bind h
  simp at h; subst h
  obtain ⟨et, it, zv, hu, hit, rfl, rfl, hzv, hzr, hp, hzl, hzt, _⟩ := elemOf'_ok hz
  simp only [wop] at hv
  split at hv
  · rename_i k1 n k2 m e1 e2
    split at hv
    · rename_i hcond
      obtain ⟨h0, h1, h2, h3⟩ := hcond
      simp only [Option.some.injEq, Prod.mk.injEq] at hv
      obtain ⟨rfl, rfl⟩ := hv
      have vl := cOpd_ok he hl
      have vc := cOpd_ok he hcc
      rw [e1] at vl; rw [e2] at vc
      generalize hul : a.eval l = ul at vl
      generalize huc : a.eval c = uc at vc
      cases vl; cases vc
      have hrun := run_mksl (P := P) (w := w) hu hit hzv k1 k2 n m h0 h1 h3 h2
      obtain ⟨z1, z2⟩ := zeroCells_RE (n := m.toNat) (hzr (cx ρ H w)) hzl hzt hp
      obtain ⟨ρ', k1', k2', k3', k4'⟩ := new_row (fl := fl) (c := some m.toNat) hS (adds_alloc w (.cells ((Array.range (m.toNat * it.size)).map (fun i => zv.cells[i % zv.cells.size]!)) et)) (nofreeze_zero _) z2
        (by omega : n.toNat ≤ m.toNat) (fun k hk => by cases hk; rfl) (by rw [z1]; exact Nat.le_refl _) (by rw [z1]; simp)
      refine ⟨_, _, ρ', .inl ?_, k2', k3', k4'⟩
      simp [execOp, ho, hul, huc, hrun]
    · cases hv
  · cases hv

theorem w_strBytes {fl : Nat} {call : CallF} {pol : Pol} {reg : Nat} {o : Oper} {src dst : TypeId} {x : Operand} (ho : o.op = .convert src dst x) (hS : Sim ρ H w) (he : ER G (cx ρ H w) e a nt) {vo : WOp} (hc : cOp P pol reg o.op = .w vo) {v : AV} {H' : Heap}
    (hv : wop call fl e H vo = some (v, H')) : Does fl ρ H w ((execOp a.eval o).run P w) v H' := by
  have hnb : vo ≠ .bad := by rintro rfl; simp [wop] at hv
  rw [ho] at hc
  simp only [cOp] at hc
  obtain ⟨x', hx, h⟩ := some_bind (orBad_w hc hnb)
  split at h
  · simp at h
  · simp at h
  · rename_i et h1 h2
    split at h
    · rename_i h3
      simp at h; subst h
      simp only [wop] at hv
      split at hv
      · rename_i s hxs
        split at hv
        · rename_i hlim
          simp only [Option.some.injEq, Prod.mk.injEq] at hv
          obtain ⟨rfl, rfl⟩ := hv
          have vx := cOpd_ok he hx
          rw [hxs] at vx
          generalize hux : a.eval x = ux at vx
          cases vx
          let q : Question := .appendCap (⟨s.toArray⟩ : ByteArray).size 0 et
          let cap := q.cut (w.tape w.drawn q)
          have hcap : s.length ≤ cap := by
            have h9 : (⟨s.toArray⟩ : ByteArray).size ≤ cap := Nat.le_add_right _ _
            rwa [ba_size] at h9
          let arr : Array Value := (s.toArray.map fun b => Value.int .u8 b.toNat) ++ Array.replicate (cap - s.length) (.int .u8 0)
          have harr : arr.size = cap := by simp [arr]; omega
          let w1 : World := (one1 w).alloc (.cells arr et)
          let w2 : World := w1.freeze ⟨w.heap.size, arr.size, none⟩ 1
          have hA1 := adds_drawn (w.drawn + 1) (adds_alloc (one1 w) (.cells arr et))
          have hA : Adds w w2 (.cells arr et (arr.size, arr.size + 1)) := by
            refine ⟨hA1.os, hA1.tape, hA1.output, ?_, fun i hi => ?_, ?_⟩
            · have := hA1.size
              simpa [w2, World.freeze, w1] using this
            · have := hA1.old i hi
              show (w1.freeze ⟨w.heap.size, arr.size, none⟩ 1).heap[i]? = _
              simp only [World.freeze]
              rw [if_neg (by omega)]
              simp only [Array.getElem?_modify]
              rw [if_neg (by omega)]
              exact this
            · have := hA1.new
              show (w1.freeze ⟨w.heap.size, arr.size, none⟩ 1).heap[w.heap.size]? = _
              simp only [World.freeze]
              rw [if_neg (by omega)]
              simp only [Array.getElem?_modify, if_true]
              have h9 : w1.heap[w.heap.size]? = some (.cells arr et) := this
              rw [h9]
              simp
          have hr : RE (cx ρ H w) 1 (s.map byteV) arr 0 := by
            refine ⟨fun y hy => ?_, fun i y j c hi hj => ?_⟩
            · obtain ⟨b, _, rfl⟩ := List.mem_map.1 hy
              exact ⟨rfl, rfl⟩
            · simp only [List.getElem?_map, Option.map_eq_some_iff] at hi
              obtain ⟨b, hb, rfl⟩ := hi
              have hj0 : j = 0 := by
                cases j with
                | zero => rfl
                | succ j => simp [byteV, AV.cells] at hj
              subst hj0
              simp [byteV, AV.cells] at hj
              subst hj
              have hil := (List.getElem?_eq_some_iff.1 hb).1
              have : arr.getD (0 + (i * 1 + 0)) undef = Value.int .u8 b.toNat := by
                simp only [Nat.zero_add, Nat.mul_one, Nat.add_zero, Array.getD_eq_getD_getElem?, arr]
                rw [Array.getElem?_append_left (by simpa using hil)]
                simp [hb]
              rw [this]
              exact ⟨.int _ _, rfl⟩
          obtain ⟨ρ', k1, k2, k3, k4⟩ := new_row (fl := fl) (c := none) (n := s.length) (cap := cap) hS hA (.inr ⟨Nat.le_refl _, Nat.lt_succ_self _⟩) hr hcap (fun k hk => by cases hk) (by rw [harr]; omega) (by simp [harr]; omega)
          refine ⟨_, w2, ρ', .inl ?_, k2, k3, k4⟩
          have hch : (choose (.appendCap s.length 0 et)).run P w = .ok cap (one1 w) := by
            have : (choose q).run P w = .ok cap (one1 w) := by rw [run_choose]; rfl
            simpa [q, ba_size] using this
          have hshape : w1.shape? w.heap.size = some (et, arr.size) := by
            have h9 : w1.heap[w.heap.size]? = some (.cells arr et) := hA1.new
            simp [World.shape?, h9]
          have hmk : (markStringish ⟨w.heap.size, 0, none⟩).run P w1 = .ok () w2 := by
            simp [markStringish, shape, freeze, Sem.run, hshape, w2]
          have hconv : (convert src dst (.string ⟨s.toArray⟩)).run P w = .ok (.slice (some ⟨w.heap.size, 0, none⟩) s.length cap) w2 := by
            unfold convert
            simp only [Sem.run_bind, run_underlying h1, run_underlying h2, Result.andThen_ok, run_underlying h3, Conv.stringToBytes, ba_size, hch]
            have hnew : ∀ (arr' : Array Value), arr' = arr → (newRow et arr').run P (one1 w) = .ok ⟨w.heap.size, 0, none⟩ w1 := by
              rintro _ rfl
              rfl
            rw [hnew _ (by simp [arr])]
            simp only [Result.andThen_ok, hmk, Sem.run_pure]
          simp [execOp, ho, hux, hconv]
        · cases hv
      · cases hv
    · simp at h
  · rename_i et0 et h1 h2
    split at h
    · rename_i hsd h3
      simp at h; subst h
      simp only [beq_iff_eq] at hsd
      subst hsd
      simp only [wop] at hv
      split at hv
      · rename_i b z o' n c hxs
        split at hv
        · rename_i z' es hb
          split at hv
          · rename_i hcond
            obtain ⟨hfl, hz0, rfl, rfl, hn0, hnl⟩ := hcond
            simp only [Option.some.injEq, Prod.mk.injEq] at hv
            obtain ⟨rfl, rfl⟩ := hv
            have vx := cOpd_ok he hx
            rw [hxs] at vx
            generalize hux : a.eval x = ux at vx
            cases vx with
            | rsl _ _ _ _ _ ad cap hlt hm hcc ha hbs =>
            obtain rfl := ha (by omega)
            have hlive : live H b := ⟨_, hb, rfl⟩
            have hO := hS.obj b _ hb
            cases hO with
            | row _ _ _ arr t fr h0 hs hf hzz h11 hvv =>
            let w2 : World := w.freeze ⟨ρ b, arr.size, none⟩ 1
            have hT : Turns w w2 (ρ b) arr t (if fr.1 == fr.2 then (arr.size, arr.size + 1) else (min fr.1 arr.size, max fr.2 (arr.size + 1))) := by
              refine ⟨by simp [w2, World.freeze], by simp [w2, World.freeze], by simp [w2, World.freeze], by simp [w2, World.freeze], fun i hi => ?_, ?_⟩
              · show (w.freeze ⟨ρ b, arr.size, none⟩ 1).heap[i]? = _
                simp only [World.freeze]
                rw [if_neg (by omega)]
                simp only [Array.getElem?_modify]
                rw [if_neg (Ne.symm hi)]
              · show (w.freeze ⟨ρ b, arr.size, none⟩ 1).heap[ρ b]? = _
                simp only [World.freeze]
                rw [if_neg (by omega)]
                simp only [Array.getElem?_modify, if_true, h0]
                rfl
            have hnf : nofreeze arr (if fr.1 == fr.2 then (arr.size, arr.size + 1) else (min fr.1 arr.size, max fr.2 (arr.size + 1))) := by
              have hf' : fr.1 = fr.2 ∨ (arr.size ≤ fr.1 ∧ fr.1 < fr.2) := hf
              split
              · exact .inr ⟨Nat.le_refl _, Nat.lt_succ_self _⟩
              · rename_i hne
                simp only [beq_iff_eq] at hne
                refine .inr ⟨?_, ?_⟩
                · show arr.size ≤ min fr.1 arr.size; omega
                · show min fr.1 arr.size < max fr.2 (arr.size + 1); omega
            obtain ⟨k1, k2⟩ := upd_obj fl hS hlive hfl h0 (Nat.le_refl _) hT (.row z es) rfl (fun C hC => .row z es (ρ b) arr t _ hT.new hs hnf hzz h11 (fun i e j c hi hj => (hvv i e j c hi hj).mono hC))
            have hset : H.set b (.row z es) = H := by
              apply List.ext_getElem?
              intro k
              by_cases hk : b = k
              · subst hk; rw [List.getElem?_set_self hlt, hb]
              · rw [List.getElem?_set_ne hk]
            rw [hset] at k1 k2
            refine ⟨.slice (some ⟨ρ b, 0 * z, none⟩) n cap, w2, ρ, .inl ?_, k1, k2, ?_⟩
            · have hshape : w.shape? (ρ b) = some (t, arr.size) := by simp [World.shape?, h0]
              have hmk : (markStringish ⟨ρ b, 0 * z, none⟩).run P w = .ok () w2 := by
                simp [markStringish, shape, freeze, Sem.run, hshape, w2]
              have hconv : (convert src src (.slice (some ⟨ρ b, 0 * z, none⟩) n cap)).run P w = .ok (.slice (some ⟨ρ b, 0 * z, none⟩) n cap) w2 := by
                have h4 : (markStringish ⟨(cx ρ H w).ρ b, 0 * z, none⟩).run P w = .ok () w2 := hmk
                unfold convert
                simp only [Sem.run_bind, run_underlying h2, Result.andThen_ok, run_underlying h3, beq_self_eq_true, hmk, h4, Sem.run_pure]
              have hconv' : (convert src src (.slice (some ⟨(cx ρ H w).ρ b, 0 * z, none⟩) n cap)).run P w = .ok (.slice (some ⟨ρ b, 0 * z, none⟩) n cap) w2 := hconv
              simp only [execOp, ho, hux, Sem.run_bind, hconv', Result.andThen_ok, Sem.run_pure]
            · have h9 : VR (cx ρ H w) (.rsl b z 0 n c) (.slice (some ⟨ρ b, 0 * z, none⟩) n cap) := .rsl b z 0 n c _ cap hlt hm hcc (fun _ => rfl) hbs
              exact h9.mono k1.le
          · cases hv
        · cases hv
      · cases hv
    · simp at h
  · split at h <;> simp at h
  · cases h

theorem zc_eq {zv : Value} {z : Nat} (hzs : zv.cells.size = z) (n : Nat) : Builtin.zeroCells zv.cells n = (Array.range (n * z)).map (fun i => zv.cells[i % zv.cells.size]!) := by
  simp [Builtin.zeroCells, hzs]

theorem w_append {fl : Nat} {call : CallF} {pol : Pol} {reg : Nat} {o : Oper} {c : Call} (ho : o.op = .call c) (hb : c.callee = .builtin .append) (hS : Sim ρ H w) (he : ER G (cx ρ H w) e a nt) {vo : WOp} (hc : cOp P pol reg o.op = .w vo)
    {v : AV} {H' : Heap} (hv : wop call fl e H vo = some (v, H')) : Does fl ρ H w ((execOp a.eval o).run P w) v H' := by
  have hnb : vo ≠ .bad := by rintro rfl; simp [wop] at hv
  rw [exec_builtin ho hb]
  rw [ho] at hc
  simp only [cOp, hb] at hc
  obtain ⟨args, hargs, h⟩ := some_bind (orBad_w hc hnb)
  obtain ⟨t, ht, h⟩ := some_bind h
  match args, hargs, h with
  | [s', x'], hargs, h =>
    obtain ⟨s, x, hsx, hs, hx⟩ := cOpds_two hargs
    rw [list_two hsx, map_two]
    simp only [] at h
    obtain ⟨⟨z, bytes, zero⟩, hz, h⟩ := some_bind h
    obtain ⟨t1, ht1, h⟩ := some_bind h
    obtain ⟨et, it, zv, hu, hit, hiz, hib, hzv, hzr, hp, hzl, hzt, hby⟩ := elemOf'_ok hz
    have hzs : zv.cells.size = z := by rw [((hzr (cx ρ H w)).ra hzt).1]; exact hzl
    have vs := cOpd_ok he hs
    have vx := cOpd_ok he hx
    have src : ∀ d, P.underlying t1 = some d → (∀ k, d ≠ .int k) → wop call fl e H (.append z bytes s' x') = some (v, H') → Does fl ρ H w ((builtin .append c.argTypes o.type (c.args.map fun | .const _ => true | _ => false) #[a.eval s, a.eval x]).run P w) v H' := by
      intro d hd hnd hv
      simp only [wop] at hv
      split at hv
      · rename_i hsz
        simp only [Option.bind_eq_some_iff] at hv
        obtain ⟨ys, hys, hv⟩ := hv
        obtain ⟨l1, a1, q1, q2, q3⟩ := src_ok (P := P) hS vx hsz hp hys
        obtain ⟨l2, a2, p1, p2, p3⟩ := src_ok (P := P) (one1_sim hS) (x := x'.ev e) vx hsz hp hys
        subst hiz; subst hib
        obtain ⟨base, sLen, sCap, hus, y, w', ρ', k1, k2, k3, k4⟩ := appended_ok (P := P) hit rfl rfl hzv hzs hp hby hS hv vs false (a.eval x) q1 q2 q3 p1 p2 p3
        refine ⟨y, w', ρ', .inl ?_, k2, k3, k4⟩
        have := append_src (P := P) (w := w) (ty := o.type) ht ht1 hu hit hd hnd base sLen sCap (a.eval x) ys.length l1
        rw [← hus] at this
        simp only [builtin, Sem.run_bind, this, k1, Result.andThen_ok, Sem.run_pure]
      · cases hv
    split at h
    · rename_i k1 hk1
      simp at h; subst h
      simp only [wop] at hv
      split at hv
      · rename_i k n hxn
        split at hv
        · rename_i hcond
          obtain ⟨h0, h1, h2⟩ := hcond
          rw [hxn] at vx
          generalize hux : a.eval x = ux at vx
          cases vx
          obtain ⟨z1, z2⟩ := zeroCells_RE (n := n.toNat) (hzr (cx ρ H w)) hzl hzt hp
          subst hiz; subst hib
          let app : Sem (Array Value) := if n.toNat * it.size = 0 then pure #[] else do pure (Builtin.zeroCells (← zeroValue et).cells n.toNat)
          have happ : ∀ w2 : World, app.run P w2 = .ok ((Array.range (n.toNat * it.size)).map (fun i => zv.cells[i % zv.cells.size]!)) w2 := by
            intro w2
            by_cases hn : n.toNat * it.size = 0
            · have e0 : (Array.range 0).map (fun i => zv.cells[i % zv.cells.size]!) = #[] := by rw [Array.range_zero']; simp
              simp only [app, hn, if_true, Sem.run_pure, e0]
            · simp only [app, hn, if_false, Sem.run_bind, rZero hit hzv, Result.andThen_ok, Sem.run_pure, zc_eq hzs]
          have hrl : (List.replicate n.toNat zero).length = n.toNat := by simp
          obtain ⟨base, sLen, sCap, hus, y, w', ρ', k1', k2, k3, k4⟩ := appended_ok (P := P) hit rfl rfl hzv hzs hp hby hS hv vs true (.int k n) (happ w) (by rw [hrl]; exact z1) z2 (happ (one1 w)) (by rw [hrl]; exact z1) z2
          refine ⟨y, w', ρ', .inl ?_, k2, k3, k4⟩
          have := append_zeros (P := P) (w := w) (ty := o.type) ht ht1 hu hit hk1 base sLen sCap k n h0 h1 h2
          rw [← hus] at this
          rw [hrl] at k1'
          have this2 : (apTail true et it.size n.toNat sLen sCap base (a.eval s) (.int k n) app).run P w = .ok y w' := k1'
          simp only [builtin, Sem.run_bind, this]
          show (Sem.run P (apTail true et it.size n.toNat sLen sCap base (a.eval s) (.int k n) app) w).andThen _ = _
          rw [this2]
          rfl
        · cases hv
      · cases hv
    · rename_i d hnd hd
      have hnd' : ∀ k, d ≠ .int k := fun k hk => hnd k hk
      split at h
      · split at h
        · simp at h
        · simp at h; subst h
          exact src d hd hnd' hv
      · simp at h; subst h
        exact src d hd hnd' hv
    · cases h
  | [], _, h => cases h
  | [_], _, h => cases h
  | _ :: _ :: _ :: _, _, h => cases h


theorem cells_conv {arr' arr Z : Array Value} {o : Nat} (k4 : ∀ k, arr'.getD k undef = if o + 0 ≤ k ∧ k < o + 0 + Z.toList.length then Z.toList.getD (k - (o + 0)) undef else arr.getD k undef) (k : Nat) :
    arr'.getD k undef = if o ≤ k ∧ k < o + Z.size then Z.getD (k - o) undef else arr.getD k undef := by
  have := k4 k
  rw [Array.length_toList, Nat.add_zero] at this
  rw [this]
  simp [Array.getD_eq_getD_getElem?, List.getD_eq_getElem?_getD]

theorem w_clear {fl : Nat} {call : CallF} {pol : Pol} {reg : Nat} {o : Oper} {c : Call} (ho : o.op = .call c) (hb : c.callee = .builtin .clear) (hS : Sim ρ H w) (he : ER G (cx ρ H w) e a nt) {vo : WOp} (hc : cOp P pol reg o.op = .w vo)
    {v : AV} {H' : Heap} (hv : wop call fl e H vo = some (v, H')) : Does fl ρ H w ((execOp a.eval o).run P w) v H' := by
  have hnb : vo ≠ .bad := by rintro rfl; simp [wop] at hv
  rw [exec_builtin ho hb]
  rw [ho] at hc
  simp only [cOp, hb] at hc
  obtain ⟨args, hargs, h⟩ := some_bind (orBad_w hc hnb)
  obtain ⟨t, ht, h⟩ := some_bind h
  match args, hargs, h with
  | [x'], hargs, h =>
    obtain ⟨x, hsx, hx⟩ := cOpds_one hargs
    rw [list_one hsx, map_one]
    simp only [] at h
    obtain ⟨⟨z, bytes, zero⟩, hz, h⟩ := some_bind h
    simp at h; subst h
    obtain ⟨et, it, zv, hu, hit, hiz, hib, hzv, hzr, hp, hzl, hzt, hby⟩ := elemOf'_ok hz
    have hzs : zv.cells.size = z := by rw [((hzr (cx ρ H w)).ra hzt).1]; exact hzl
    have vx := cOpd_ok he hx
    have nop : ∀ us : Value, (us = .slice none 0 0 ∨ ∃ b cap, us = .slice b 0 cap) → (Builtin.clear_ c.argTypes o.type #[us]).run P w = .ok (.tuple #[]) w := by
      rintro us (rfl | ⟨b, cap, rfl⟩)
      · simp [Builtin.clear_, ht, run_underlying hu]
      · cases b <;> simp [Builtin.clear_, ht, run_underlying hu]
    simp only [wop] at hv
    split at hv
    · rename_i hxe
      rw [hxe] at vx
      simp only [Option.some.injEq, Prod.mk.injEq] at hv
      obtain ⟨rfl, rfl⟩ := hv
      generalize a.eval x = us at vx
      cases vx
      refine ⟨.tuple #[], w, ρ, .inl ?_, Tr.refl .., hS, vr_undef _⟩
      simp [builtin, nop _ (.inl rfl)]
    · rename_i b z' o' n cc hxe
      rw [hxe] at vx
      obtain ⟨ad, cap, hus, hbl, hm, hcc, ha, hbs⟩ := vx.rslInv
      rw [hus]
      split at hv
      · rename_i hn0
        subst hn0
        simp only [Option.some.injEq, Prod.mk.injEq] at hv
        obtain ⟨rfl, rfl⟩ := hv
        refine ⟨.tuple #[], w, ρ, .inl ?_, Tr.refl .., hS, vr_undef _⟩
        simp [builtin, nop _ (.inr ⟨some ad, cap, rfl⟩)]
      · rename_i hn0
        split at hv
        · rename_i z'' es hob
          split at hv
          · rename_i hcond
            obtain ⟨rfl, rfl, hon⟩ := hcond
            simp only [Option.map_eq_some_iff] at hv
            obtain ⟨H1, hput, hv⟩ := hv
            simp only [Prod.mk.injEq] at hv
            obtain ⟨rfl, rfl⟩ := hv
            obtain ⟨hflb, rfl⟩ := putO_some hput
            obtain ⟨arr, t', fr, h1, h2, h3, h4⟩ := row_cells (hS.obj b _ hob)
            obtain ⟨z1, z2⟩ := zeroCells_RE (n := n) (hzr (cx ρ H w)) hzl hzt hp
            have hle2 : o' + (List.replicate n zero).length ≤ es.length := by simpa using hon
            have hbound : o' * z + n * z ≤ arr.size := by
              have : (o' + n) * z ≤ es.length * z := Nat.mul_le_mul_right _ hon
              rw [Nat.add_mul] at this; omega
            obtain ⟨arr', w', k1, k2, k3, k4⟩ := store_ok (P := P) (o' * z) ((Array.range (n * z)).map (fun i => zv.cells[i % zv.cells.size]!)).toList 0 arr w h1 h3 (by simpa using hbound) (z2.one (by rw [z1, List.length_replicate]) hp)
            obtain ⟨hT, hS'⟩ := upd_obj fl hS (live_of hob rfl) hflb h1 (by omega) k2 (.row z (splice es o' (List.replicate n zero))) rfl (fun C hleC => or_row k2.new (h3.sz (by omega))
              (by rw [splice_length _ _ _ hle2, k3]; exact h2) (RE.spliceE (RE.mono hleC h4) (RE.mono hleC z2) (by rw [z1, List.length_replicate]) hle2 (cells_conv k4)))
            refine ⟨.tuple #[], w', ρ, .inl ?_, hT, hS', vr_undef _⟩
            have hrun : (Builtin.clear_ c.argTypes o.type #[.slice (some ad) n cap]).run P w = .ok (.tuple #[]) w' := by
              obtain ⟨n', rfl⟩ : ∃ n', n = n' + 1 := ⟨n - 1, by omega⟩
              rw [ha (by omega)]
              unfold Builtin.clear_
              simp only [ht, List.getElem?_toArray, List.getElem?_cons_zero, Sem.run_bind, run_underlying hu, Result.andThen_ok, rZero hit hzv, zc_eq hzs, show (cx ρ H w).ρ b = ρ b from rfl, k1, Sem.run_pure]
            simp [builtin, hrun]
          · cases hv
        · cases hv
    · cases hv
  | [], _, h => cases h
  | _ :: _ :: _, _, h => cases h

/-- A copy that is a value. -/
theorem r_clone {fl : Nat} {pc : Nat → List AV → Heap → Option AV} {pol : Pol} {reg : Nat} {o : Oper} {c : Call} (ho : o.op = .call c) (hb : c.callee = .builtin .append) (hS : Sim ρ H w) (he : ER G (cx ρ H w) e a nt) {vo : ROp} (hc : cOp P pol reg o.op = .r vo)
    {v : AV} (hv : rop pc e H vo = some v) : Does fl ρ H w ((execOp a.eval o).run P w) v H := by
  rw [exec_builtin ho hb]
  rw [ho] at hc
  simp only [cOp, hb] at hc
  obtain ⟨args, hargs, h⟩ := some_bind (orBad_r hc)
  obtain ⟨t, ht, h⟩ := some_bind h
  match args, hargs, h with
  | [s', x'], hargs, h =>
    obtain ⟨s, x, hsx, hs, hx⟩ := cOpds_two hargs
    rw [list_two hsx, map_two]
    simp only [] at h
    obtain ⟨⟨z, bytes, zero⟩, hz, h⟩ := some_bind h
    obtain ⟨t1, ht1, h⟩ := some_bind h
    obtain ⟨et, it, zv, hu, hit, hiz, hib, hzv, hzr, hp, hzl, hzt, hby⟩ := elemOf'_ok hz
    have hzs : zv.cells.size = z := by rw [((hzr (cx ρ H w)).ra hzt).1]; exact hzl
    have vs := cOpd_ok he hs
    have vx := cOpd_ok he hx
    split at h
    · simp at h
    · rename_i d hnd hd
      have hnd' : ∀ k, d ≠ .int k := fun k hk => hnd k hk
      split at h
      · split at h
        · simp at h; subst h
          simp only [rop] at hv
          split at hv
          · rename_i hsz
            simp only [Option.bind_eq_some_iff] at hv
            obtain ⟨ys, hys, hv⟩ := hv
            split at hv
            · rename_i hlim
              obtain ⟨l1, a1, q1, q2, q3⟩ := src_ok (P := P) hS vx hsz hp hys
              obtain ⟨l2, a2, p1, p2, p3⟩ := src_ok (P := P) (one1_sim hS) (x := x'.ev e) vx hsz hp hys
              subst hiz; subst hib
              simp only [Opd.ev] at vs
              generalize hus : a.eval s = us at vs
              cases vs
              have happ := append_src (P := P) (w := w) (ty := o.type) ht ht1 hu hit hd hnd' none 0 0 (a.eval x) ys.length l1
              split at hv
              · cases hv
                refine ⟨.slice none 0 0, w, ρ, .inl ?_, Tr.refl .., hS, .nilsl⟩
                have := place_ok (P := P) (w := w) (zeros := false) (et := et) (size := it.size) (n := 0) (sLen := 0) (sCap := 0) (base := none) (s := .slice none 0 0) (x := a.eval x) (by simp) q1 (w' := w) rfl
                simp only [List.length_nil] at happ this
                simp only [builtin, Sem.run_bind, happ, this, Result.andThen_ok, Sem.run_pure]
              · rename_i hne
                cases hv
                have hpos : 0 < ys.length := by
                  cases ys with
                  | nil => exact absurd rfl hne
                  | cons _ _ => simp
                obtain ⟨cap, arr, w', g1, g2, g3, g4, g5⟩ := grow_ok (P := P) (w := w) (zeros := false) (base := none) (s := .slice none 0 0) (x := a.eval x) (os := []) (ys := ys) (C := cx ρ H w) (a0 := #[]) (sLen := 0) (sCap := 0) hit hzv hzs (by omega)
                  (by simpa using hlim) hby rfl p1 (by simp) p2 rfl rfl ⟨by simp, fun i x j c hi => by simp at hi⟩ p3
                rw [Nat.zero_add] at g1 g3
                obtain ⟨hT, hS'⟩ := add_block fl hS g2
                refine ⟨.slice (some ⟨w.heap.size, 0, none⟩) ys.length cap, w', ρ, .inl ?_, hT, hS', ?_⟩
                · simp only [builtin, Sem.run_bind, happ, g1, Result.andThen_ok, Sem.run_pure]
                · exact vr_new_sl hS g2 g3 (fun h => by cases h) (by rw [g4]; exact Nat.mul_le_mul_right _ g3) (by simpa using g5)
            · cases hv
          · cases hv
        · simp at h
      · simp at h
    · cases h
  | [], _, h => cases h
  | [_], _, h => cases h
  | _ :: _ :: _ :: _, _, h => cases h

end
end Go.Vx
