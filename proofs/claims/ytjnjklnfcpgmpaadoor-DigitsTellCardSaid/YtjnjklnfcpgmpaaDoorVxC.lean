/- V: calls. -/
import Derived.Test.YtjnjklnfcpgmpaaDoorVxB
import Derived.Orders
import Derived.LoopN
set_option linter.unusedVariables false
set_option linter.unusedSimpArgs false
namespace Go.Vx
variable {G : Nat → Obj → Prop}

def VRL (C : Cx) (args : List AV) (vs : Array Value) : Prop := vs.size = args.length ∧ ∀ j c, args[j]? = some c → VR C c (vs.getD j undef)

theorem VRL.append {C : Cx} {xs ys : List AV} {vs ws : Array Value} (h : VRL C xs vs) (k : VRL C ys ws) : VRL C (xs ++ ys) (vs ++ ws) := by
  refine ⟨by simp [h.1, k.1], fun j c hj => ?_⟩
  simp only [Array.getD_eq_getD_getElem?]
  rcases Nat.lt_or_ge j xs.length with hlt | hge
  · rw [List.getElem?_append_left hlt] at hj
    rw [Array.getElem?_append_left (by rw [h.1]; exact hlt), ← Array.getD_eq_getD_getElem?]
    exact h.2 j c hj
  · rw [List.getElem?_append_right hge] at hj
    rw [Array.getElem?_append_right (by rw [h.1]; exact hge), ← Array.getD_eq_getD_getElem?, h.1]
    exact k.2 _ c hj

theorem freeze_cells {H : Heap} {n d : Nat} {e e' : AV} (h : freeze H n d e = some e') : e'.isTup = e.isTup ∧ e'.cells.length = e.cells.length ∧
    ∀ (j : Nat) (c' : AV), e'.cells[j]? = some c' → ∃ (d' : Nat) (c : AV), d' ≤ d ∧ e.cells[j]? = some c ∧ freeze H n d' c = some c' := by
  cases d with
  | zero => simp [freeze] at h
  | succ d =>
    have leaf : ∀ {x : AV}, x.cells = [x] → e = x → e'.cells = [e'] → e'.isTup = x.isTup → e'.isTup = e.isTup ∧ e'.cells.length = e.cells.length ∧
        ∀ (j : Nat) (c' : AV), e'.cells[j]? = some c' → ∃ (d' : Nat) (c : AV), d' ≤ d + 1 ∧ e.cells[j]? = some c ∧ freeze H n d' c = some c' := by
      intro x hx he hc ht
      subst he
      rw [hx, hc]
      refine ⟨ht, rfl, fun j c' hj => ?_⟩
      match j with
      | 0 => simp at hj; subst hj; exact ⟨d + 1, e, Nat.le_refl _, rfl, h⟩
      | j + 1 => simp at hj
    cases e with
    | agg cs =>
      simp only [freeze, Option.map_eq_some_iff] at h
      obtain ⟨cs', hcs, rfl⟩ := h
      obtain ⟨h1, h2⟩ := mapM_some hcs
      refine ⟨rfl, h1, fun j c' hj => ?_⟩
      obtain ⟨c, k1, k2⟩ := h2 j c' hj
      exact ⟨d, c, by omega, k1, k2⟩
    | bool b => simp only [freeze] at h; cases h; exact leaf rfl rfl rfl rfl
    | int k m => simp only [freeze] at h; cases h; exact leaf rfl rfl rfl rfl
    | str l => simp only [freeze] at h; cases h; exact leaf rfl rfl rfl rfl
    | nilp => simp only [freeze] at h; cases h; exact leaf rfl rfl rfl rfl
    | nilsl => simp only [freeze] at h; cases h; exact leaf rfl rfl rfl rfl
    | nilfn => simp only [freeze] at h; cases h; exact leaf rfl rfl rfl rfl
    | ptr b o => have h' := h; simp only [freeze] at h'; split at h' <;> cases h'; exact leaf rfl rfl rfl rfl
    | eptr b z o => have h' := h; simp only [freeze] at h'; split at h' <;> cases h'; exact leaf rfl rfl rfl rfl
    | dptr cs => have h' := h; simp only [freeze, Option.map_eq_some_iff] at h'; obtain ⟨_, _, rfl⟩ := h'; exact leaf rfl rfl rfl rfl
    | sl z f es => have h' := h; simp only [freeze, Option.map_eq_some_iff] at h'; obtain ⟨_, _, rfl⟩ := h'; exact leaf rfl rfl rfl rfl
    | tup cs => have h' := h; simp only [freeze, Option.map_eq_some_iff] at h'; obtain ⟨_, _, rfl⟩ := h'; exact leaf rfl rfl rfl rfl
    | fn f as bs =>
      have h' := h
      simp only [freeze] at h'
      split at h'
      · cases h'; exact leaf rfl rfl rfl rfl
      · cases h'
    | rsl b z o m c =>
      have h' := h
      simp only [freeze] at h'
      split at h'
      · cases h'; exact leaf rfl rfl rfl rfl
      · split at h'
        · split at h'
          · simp only [Option.map_eq_some_iff] at h'; obtain ⟨_, _, rfl⟩ := h'; exact leaf rfl rfl rfl rfl
          · cases h'
        · cases h'

section
variable {ρ ρ' : Nat → Nat} {H H' : Heap} {w w' : World}

theorem inR_up (hT : Tr H.length ρ H w ρ' H' w') {r : Nat} (h : inR ρ H r) : inR ρ' H' r := by
  obtain ⟨b, ⟨o, ho, hd⟩, rfl⟩ := h
  have hb : b < H.length := (List.getElem?_eq_some_iff.1 ho).1
  exact ⟨b, ⟨o, (hT.low b hb hb).1.trans ho, hd⟩, hT.rho b hb⟩

theorem freeze_ok (hT : Tr H.length ρ H w ρ' H' w') (hS : Sim ρ' H' w') : ∀ (d d' : Nat), d' ≤ d → ∀ (x x' : AV) (u : Value), freeze H' H.length d' x = some x' → VR (cx ρ' H' w') x u → VR (cx ρ H w') x' u := by
  intro d
  induction d with
  | zero => intro d' hd' x x' u h; obtain rfl : d' = 0 := by omega
            simp [freeze] at h
  | succ d ih =>
    intro d' hd' x x' u h hx
    cases d' with
    | zero => simp [freeze] at h
    | succ d' =>
    have hst : ∀ ad v, (cx ρ' H' w').st ad v → (cx ρ H w').st ad v := fun ad v ⟨h1, h2⟩ => ⟨h1, fun hr => h2 (inR_up hT hr)⟩
    cases hx with
    | bool b => simp only [freeze] at h; cases h; exact .bool b
    | int k n => simp only [freeze] at h; cases h; exact .int k n
    | str l => simp only [freeze] at h; cases h; exact .str l
    | nilp => simp only [freeze] at h; cases h; exact .nilp
    | nilsl => simp only [freeze] at h; cases h; exact .nilsl
    | nilfn => simp only [freeze] at h; cases h; exact .nilfn
    | ptr b o hb =>
      simp only [freeze] at h
      split at h <;> cases h
      rename_i hlt
      have := VR.ptr (C := cx ρ H w') b o hlt
      simpa [cx, hT.rho b hlt] using this
    | eptr b z o hb =>
      simp only [freeze] at h
      split at h <;> cases h
      rename_i hlt
      have := VR.eptr (C := cx ρ H w') b z o hlt
      simpa [cx, hT.rho b hlt] using this
    | dptr cs ad g hs h1 hv =>
      simp only [freeze, Option.map_eq_some_iff] at h
      obtain ⟨cs', hcs, rfl⟩ := h
      obtain ⟨k1, k2⟩ := mapM_some hcs
      refine .dptr cs' ad g (fun j c hj => ?_) (fun j c hj => ?_) (fun j c hj => ?_)
      · obtain ⟨y, hy, _⟩ := k2 j c hj; exact hst _ _ (hs j y hy)
      · obtain ⟨y, hy, _⟩ := k2 j c hj; exact h1 j y hy
      · obtain ⟨y, hy, hf⟩ := k2 j c hj; exact ih d' (by omega) y c _ hf (hv j y hy)
    | sl z full es ad cap g hc hf hz hs h1 hv =>
      simp only [freeze, Option.map_eq_some_iff] at h
      obtain ⟨es', hes, rfl⟩ := h
      obtain ⟨k1, k2⟩ := mapM_some hes
      rw [← k1]
      have cell : ∀ (i : Nat) (e' : AV) (j : Nat) (c' : AV), es'[i]? = some e' → e'.cells[j]? = some c' → ∃ e c d'', d'' ≤ d' ∧ es[i]? = some e ∧ e.cells[j]? = some c ∧ freeze H' H.length d'' c = some c' := fun i e' j c' he hj => by
        obtain ⟨e, hy, hf⟩ := k2 i e' he
        obtain ⟨_, _, h3⟩ := freeze_cells hf
        obtain ⟨d'', c, h4, h5, h6⟩ := h3 j c' hj
        exact ⟨e, c, d'', h4, hy, h5, h6⟩
      refine .sl z full es' ad cap g (by omega) (fun h => by rw [k1]; exact hf h) (fun e' he' => ?_) (fun i e' j c' he hj => ?_) (fun i e' j c' he hj => ?_) (fun i e' j c' he hj => ?_)
      · obtain ⟨i, hi⟩ := List.getElem?_of_mem he'
        obtain ⟨e, hy, hf⟩ := k2 i e' hi
        obtain ⟨h2, h3, _⟩ := freeze_cells hf
        obtain ⟨z1, z2⟩ := hz e (List.mem_of_getElem? hy)
        exact ⟨h3.trans z1, h2.trans z2⟩
      · obtain ⟨e, c, d'', _, a1, a2, _⟩ := cell i e' j c' he hj; exact hst _ _ (hs i e j c a1 a2)
      · obtain ⟨e, c, d'', _, a1, a2, _⟩ := cell i e' j c' he hj; exact h1 i e j c a1 a2
      · obtain ⟨e, c, d'', a0, a1, a2, a3⟩ := cell i e' j c' he hj; exact ih d'' (by omega) c c' _ a3 (hv i e j c a1 a2)
    | rsl b z o m c ad cap hb hm hc ha hbs =>
      simp only [freeze] at h
      split at h
      · cases h
        rename_i hlt
        refine .rsl b z o m c ad cap hlt hm hc (fun hp => ?_) ?_
        · rw [ha hp]; simp [cx, hT.rho b hlt]
        · have := hbs; simp only [cx, hT.rho b hlt] at this ⊢; exact this
      · rename_i hge
        split at h
        · rename_i z' es hob
          split at h
          · rename_i hcond
            obtain ⟨rfl, hom⟩ := hcond
            simp only [Option.map_eq_some_iff] at h
            obtain ⟨es', hes, rfl⟩ := h
            obtain ⟨k1, k2⟩ := mapM_some hes
            have hlen : es'.length = m := by rw [k1]; simp; omega
            rw [← hlen]
            obtain ⟨arr, t', fr, g1, g2, g3, g4⟩ := row_cells (hS.obj b _ hob)
            have hnot : ¬ inR ρ H (ρ' b) := by
              rintro ⟨b0, hl0, h0⟩
              have hb0 : b0 < H.length := by obtain ⟨o0, ho0, _⟩ := hl0; exact (List.getElem?_eq_some_iff.1 ho0).1
              have hl0' : live H' b0 := by obtain ⟨o0, ho0, hd0⟩ := hl0; exact ⟨o0, (hT.low b0 hb0 hb0).1.trans ho0, hd0⟩
              have : b0 = b := hS.inj b0 b hl0' (live_of hob rfl) (by rw [hT.rho b0 hb0]; exact h0)
              omega
            have cell : ∀ (i : Nat) (e' : AV) (j : Nat) (c' : AV), es'[i]? = some e' → e'.cells[j]? = some c' → ∃ e c d'', d'' ≤ d' ∧ es[o + i]? = some e ∧ i < m ∧ j < z ∧ e.cells[j]? = some c ∧ freeze H' H.length d'' c = some c' := fun i e' j c' he hj => by
              have him : i < m := by rw [← hlen]; exact (List.getElem?_eq_some_iff.1 he).1
              obtain ⟨e, hy, hf⟩ := k2 i e' he
              obtain ⟨_, _, h3⟩ := freeze_cells hf
              obtain ⟨d'', c, h4, h5, h6⟩ := h3 j c' hj
              rw [List.getElem?_take_of_lt him, List.getElem?_drop] at hy
              have := (g4.1 e (List.mem_of_getElem? hy)).1
              exact ⟨e, c, d'', h4, hy, him, by rw [← this]; exact (List.getElem?_eq_some_iff.1 h5).1, h5, h6⟩
            refine .sl z false es' ad cap (fun i j => arr.getD ((o + i) * z + j) undef) (by omega) (fun h => by cases h) (fun e' he' => ?_) (fun i e' j c' he hj => ?_) (fun i e' j c' he hj => ?_) (fun i e' j c' he hj => ?_)
            · obtain ⟨i, hi⟩ := List.getElem?_of_mem he'
              obtain ⟨e, hy, hf⟩ := k2 i e' hi
              obtain ⟨h2, h3, _⟩ := freeze_cells hf
              obtain ⟨z1, z2⟩ := g4.1 e (List.mem_of_mem_drop (List.mem_of_mem_take (List.mem_of_getElem? hy)))
              exact ⟨h3.trans z1, h2.trans z2⟩
            · obtain ⟨e, c, d'', _, a1, him, hjz, a2, _⟩ := cell i e' j c' he hj
              rw [ha (by omega)]
              have hlt : (o + i) * z + j < arr.size := by
                have h5 : (o + i + 1) * z ≤ es.length * z := Nat.mul_le_mul_right _ (by omega)
                rw [Nat.add_mul, Nat.one_mul] at h5
                omega
              have he : (cx ρ' H' w').ρ b = ρ' b := rfl
              refine ⟨?_, ?_⟩
              · have h6 := cell_at g1 hlt
                have h7 : (⟨(cx ρ' H' w').ρ b, o * z, none⟩ : Addr).add (i * z + j) = ⟨ρ' b, (o + i) * z + j, none⟩ := by
                  rw [addr_add, he, Nat.add_mul, Nat.add_assoc]
                rw [h7]; exact h6
              · rw [addr_add]; exact hnot
            · obtain ⟨e, c, d'', _, a1, him, hjz, a2, _⟩ := cell i e' j c' he hj
              have := g4.2 (o + i) e j c a1 a2
              rw [Nat.zero_add] at this
              exact this.2
            · obtain ⟨e, c, d'', a0, a1, him, hjz, a2, a3⟩ := cell i e' j c' he hj
              have := g4.2 (o + i) e j c a1 a2
              rw [Nat.zero_add] at this
              exact ih d'' (by omega) c c' _ a3 this.1
          · cases h
        · cases h
    | fn f as bs vs ws h1 h2 ha hb =>
      simp only [freeze] at h
      split at h
      · rename_i as' bs' has hbs
        cases h
        obtain ⟨k1, k2⟩ := mapM_some has
        obtain ⟨l1, l2⟩ := mapM_some hbs
        refine .fn f as' bs' vs ws (h1.trans k1.symm) (h2.trans l1.symm) (fun j c hj => ?_) (fun j c hj => ?_)
        · obtain ⟨y, hy, hf⟩ := k2 j c hj; exact ih d' (by omega) y c _ hf (ha j y hy)
        · obtain ⟨y, hy, hf⟩ := l2 j c hj; exact ih d' (by omega) y c _ hf (hb j y hy)
      · cases h
    | agg cs vs hs h1 hv =>
      simp only [freeze, Option.map_eq_some_iff] at h
      obtain ⟨cs', hcs, rfl⟩ := h
      obtain ⟨k1, k2⟩ := mapM_some hcs
      refine .agg cs' vs (hs.trans k1.symm) (fun j c hj => ?_) (fun j c hj => ?_)
      · obtain ⟨y, hy, _⟩ := k2 j c hj; exact h1 j y hy
      · obtain ⟨y, hy, hf⟩ := k2 j c hj; exact ih d' (by omega) y c _ hf (hv j y hy)
    | tup cs vs hs hv =>
      simp only [freeze, Option.map_eq_some_iff] at h
      obtain ⟨cs', hcs, rfl⟩ := h
      obtain ⟨k1, k2⟩ := mapM_some hcs
      refine .tup cs' vs (hs.trans k1.symm) (fun j c hj => ?_)
      obtain ⟨y, hy, hf⟩ := k2 j c hj; exact ih d' (by omega) y c _ hf (hv j y hy)

/-- What a call for its value leaves. -/
theorem forget (hT : Tr H.length ρ H w ρ' H' w') (hS : Sim ρ H w) (fl : Nat) : Tr fl ρ H w ρ H w' ∧ Sim ρ H w' := by
  have hTr : ∀ fl, Tr fl ρ H w ρ H w' := fun fl =>
    ⟨hT.os, hT.tape, hT.output, hT.size, Nat.le_refl _, fun _ _ => rfl, fun r hr hn => ⟨(hT.out r hr hn).1, hn⟩, hT.bsz, fun b _ hb => ⟨rfl, (hT.low b hb hb).2⟩⟩
  refine ⟨hTr fl, fun b o ho => ?_, hS.inj, fun b hb => Nat.lt_of_lt_of_le (hS.lt b hb) hT.size⟩
  by_cases hd : o.isDead = true
  · cases o <;> simp [AO.isDead] at hd
    exact .dead _
  · have hlive : live H b := ⟨o, ho, by simpa using hd⟩
    have hb : b < H.length := (List.getElem?_eq_some_iff.1 ho).1
    exact (hS.obj b o ho).mono (hTr fl).le ((hT.low b hb hb).2 hlive)
end

/-- What a call comes to. -/
def Upon (P : Program) (f : Nat) (vs : Array Value) (w : World) (K : Value → World → Prop) : Prop :=
  (∃ u w', (callFunc f vs).run P w = .ok (.value u) w' ∧ K u w') ∨
  ((callFunc f vs).run P w = .ok (.enter f vs) w ∧ Calls P f vs w fun | .returned u, w' => K u w' | _, _ => False)

theorem Upon.mono {P : Program} {f : Nat} {vs : Array Value} {w : World} {K K' : Value → World → Prop} (h : Upon P f vs w K) (hk : ∀ u w', K u w' → K' u w') : Upon P f vs w K' := by
  rcases h with ⟨u, w', h1, h2⟩ | ⟨h1, h2⟩
  · exact .inl ⟨u, w', h1, hk _ _ h2⟩
  · refine .inr ⟨h1, h2.mono fun e w' he => ?_⟩
    cases e with
    | returned u => exact hk _ _ he
    | panicked c => exact he
    | outgrown => exact he

/-- What V says of a call is what the machine does. -/
def Good (P : Program) (G : Nat → Obj → Prop) (call : Nat → CallF) : Prop :=
  ∀ (fl f : Nat) (args : List AV) (vs : Array Value) (ρ : Nat → Nat) (H : Heap) (w : World) (v : AV) (H' : Heap), Sim ρ H w → (∀ r o, G r o → (cx ρ H w).ob r o) → VRL (cx ρ H w) args vs → call fl f args H = some (v, H') →
    Upon P f vs w fun u w' => ∃ ρ', Tr fl ρ H w ρ' H' w' ∧ Sim ρ' H' w' ∧ VR (cx ρ' H' w') v u

theorem asPure_ok {P : Program} {call : Nat → CallF} (hG : Good P G call) {fl f : Nat} {args : List AV} {vs : Array Value} {ρ : Nat → Nat} {H : Heap} {w : World} {v : AV} (hS : Sim ρ H w) (hg : ∀ r o, G r o → (cx ρ H w).ob r o) (hv : VRL (cx ρ H w) args vs)
    (h : asPure call f args H = some v) : Upon P f vs w fun u w' => ∃ ρ', Tr fl ρ H w ρ' H w' ∧ Sim ρ' H w' ∧ VR (cx ρ' H w') v u := by
  simp only [asPure, Option.bind_eq_some_iff] at h
  obtain ⟨⟨v1, H1⟩, h1, h2⟩ := h
  refine (hG H.length f args vs ρ H w v1 H1 hS hg hv h1).mono fun u w' ⟨ρ', hT, hS', hr⟩ => ?_
  obtain ⟨k1, k2⟩ := forget hT hS fl
  exact ⟨ρ, k1, k2, freeze_ok hT hS' 12 12 (Nat.le_refl _) v1 v u h2 hr⟩

end Go.Vx
