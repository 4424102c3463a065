/- V: literals: an array of cells, filled part by part. -/
import Derived.Test.YtjnjklnfcpgmpaaDoorVxPopAll
set_option linter.unusedVariables false
set_option linter.unusedSimpArgs false
namespace Go.Vx
variable {G : Nat → Obj → Prop}

theorem fold_list (off : Nat) : ∀ (l : List Value) (s : Nat) (arr : Array Value), off + s + l.length ≤ arr.size →
    ((l.zipIdx s).foldl (fun cs (x : Value × Nat) => cs.setIfInBounds (off + x.2) x.1) arr).size = arr.size ∧
    ∀ k d, ((l.zipIdx s).foldl (fun cs (x : Value × Nat) => cs.setIfInBounds (off + x.2) x.1) arr).getD k d = if off + s ≤ k ∧ k < off + s + l.length then l.getD (k - (off + s)) d else arr.getD k d := by
  intro l
  induction l with
  | nil =>
    intro s arr h
    refine ⟨rfl, fun k d => ?_⟩
    rw [if_neg (by simp)]
    rfl
  | cons x l ih =>
    intro s arr h
    simp only [List.length_cons] at h
    rw [List.zipIdx_cons, List.foldl_cons]
    obtain ⟨h1, h2⟩ := ih (s + 1) (arr.setIfInBounds (off + s) x) (by simp; omega)
    refine ⟨by rw [h1]; simp, fun k d => ?_⟩
    rw [h2]
    by_cases hk : k = off + s
    · subst hk
      rw [if_neg (by omega), if_pos (by simp)]
      have : off + s < arr.size := by omega
      simp [Array.getD_eq_getD_getElem?, Array.getElem?_setIfInBounds_self, this]
    · by_cases hk2 : off + (s + 1) ≤ k ∧ k < off + (s + 1) + l.length
      · rw [if_pos hk2, if_pos (by simp; omega)]
        rw [show k - (off + s) = (k - (off + (s + 1))) + 1 by omega]
        simp
      · rw [if_neg hk2, if_neg (by simp; omega)]
        simp [Array.getD_eq_getD_getElem?, Array.getElem?_setIfInBounds_ne (Ne.symm hk)]

theorem fold_arr (off : Nat) (vs arr : Array Value) (h : off + vs.size ≤ arr.size) :
    (vs.zipIdx.foldl (fun cs (x : Value × Nat) => cs.setIfInBounds (off + x.2) x.1) arr).size = arr.size ∧
    ∀ k d, (vs.zipIdx.foldl (fun cs (x : Value × Nat) => cs.setIfInBounds (off + x.2) x.1) arr).getD k d = if off ≤ k ∧ k < off + vs.size then vs.getD (k - off) d else arr.getD k d := by
  have := fold_list off vs.toList 0 arr (by simpa using h)
  rw [← Array.foldl_toList]
  rw [Array.toList_zipIdx]
  simpa [Array.getD_eq_getD_getElem?, List.getD_eq_getElem?_getD] using this

theorem splice_get (cs : List AV) (o : Nat) (ys : List AV) (h : o + ys.length ≤ cs.length) (k : Nat) :
    (splice cs o ys)[k]? = if k < o then cs[k]? else if k < o + ys.length then ys[k - o]? else cs[k]? := by
  unfold splice
  have hl : (cs.take o).length = o := by simp; omega
  rw [List.append_assoc]
  by_cases h1 : k < o
  · rw [if_pos h1, List.getElem?_append_left (by omega), List.getElem?_take, if_pos h1]
  · rw [if_neg h1, List.getElem?_append_right (by omega), hl]
    by_cases h2 : k < o + ys.length
    · rw [if_pos h2, List.getElem?_append_left (by omega)]
    · rw [if_neg h2, List.getElem?_append_right (by omega), List.getElem?_drop]
      congr 1
      omega

theorem splice_length (cs : List AV) (o : Nat) (ys : List AV) (h : o + ys.length ≤ cs.length) : (splice cs o ys).length = cs.length := by
  simp [splice]; omega

section
variable {P : Program} {C : Cx} {w : World} {e : Env} {a : Act} {nt : Nat}

/-- Cells, all of them told. -/
def RA (C : Cx) (cs : List AV) (arr : Array Value) : Prop := arr.size = cs.length ∧ RL C cs arr 0

theorem RA.splice {cs : List AV} {arr : Array Value} (h : RA C cs arr) {ys : List AV} {vs : Array Value} (hv : RA C ys vs) {o : Nat} (ho : o + ys.length ≤ cs.length) {arr' : Array Value}
    (hs : arr'.size = arr.size) (hg : ∀ k, arr'.getD k undef = if o ≤ k ∧ k < o + vs.size then vs.getD (k - o) undef else arr.getD k undef) : RA C (splice cs o ys) arr' := by
  refine ⟨by rw [hs, h.1, splice_length _ _ _ ho], fun j c hj => ?_⟩
  rw [splice_get _ _ _ ho] at hj
  rw [Nat.zero_add, hg j, hv.1]
  split at hj
  · rw [if_neg (by omega)]
    simpa using h.2 j c hj
  · split at hj
    · rw [if_pos (by omega)]
      simpa using hv.2 (j - o) c hj
    · rw [if_neg (by omega)]
      simpa using h.2 j c hj

theorem VR.ra {x : AV} {v : Value} (h : VR C x v) (ht : x.isTup = false) : RA C x.cells v.cells := by
  obtain ⟨h1, h2⟩ := h.cells ht
  exact ⟨h1, fun j c hj => by rw [Nat.zero_add]; exact h2 j c hj⟩

theorem fits_iff {x : AV} {n : Nat} : x.fits n = true ↔ x.cells.length = n ∧ x.isTup = false := by simp [AV.fits]

/-- The parts of a struct or an array. -/
theorem fill_ok (he : ER G C e a nt) (place : Nat → Option (Nat × Nat)) : ∀ (ps : List (Nat × Operand)) (qs : List (Nat × Nat × Opd)),
    qs.length = ps.length → (∀ (j : Nat) (q : Nat × Nat × Opd), qs[j]? = some q → ∃ p : Nat × Operand, ps[j]? = some p ∧ place p.1 = some (q.1, q.2.1) ∧ cOpd p.2 = some q.2.2) →
    ∀ (cs cs' : List AV) (arr : Array Value), RA C cs arr → parts2 e cs qs = some cs' →
    ∃ arr', Instr.fill place arr (ps.map fun p => (p.1, a.eval p.2)) = some arr' ∧ RA C cs' arr' := by
  intro ps
  induction ps with
  | nil =>
    intro qs hl _ cs cs' arr hr h
    have : qs = [] := List.eq_nil_of_length_eq_zero (by simpa using hl)
    subst this
    simp only [parts2] at h
    cases h
    exact ⟨arr, rfl, hr⟩
  | cons p ps ih =>
    intro qs hl hq cs cs' arr hr h
    cases qs with
    | nil => simp at hl
    | cons q qs =>
      obtain ⟨off, size, x⟩ := q
      simp only [parts2] at h
      split at h
      · rename_i hc
        simp only [Bool.and_eq_true, decide_eq_true_eq] at hc
        obtain ⟨hfit, hoff⟩ := hc
        obtain ⟨hcl, htup⟩ := fits_iff.1 hfit
        obtain ⟨p', hp', hpl, hop⟩ := hq 0 _ rfl
        simp at hp'
        subst hp'
        have hv := cOpd_ok he hop
        have hra := hv.ra htup
        have hsz : (a.eval p.2).cells.size = size := by rw [hra.1]; exact hcl
        obtain ⟨f1, f2⟩ := fold_arr off (a.eval p.2).cells arr (by rw [hsz, hr.1]; exact hoff)
        obtain ⟨arr', g1, g2⟩ := ih qs (by simpa using hl) (fun j q' hj => by simpa using hq (j + 1) q' (by simpa using hj)) _ cs' _
          (RA.splice hr hra (by rw [hcl]; exact hoff) f1 (fun k => f2 k undef)) h
        refine ⟨arr', ?_, g2⟩
        simp only [List.map_cons, Instr.fill]
        rw [hpl]
        simp only []
        rw [if_neg (by rw [hsz, hr.1]; simp; omega)]
        exact g1
      · cases h

/-- Elements of z cells each, one behind the other. -/
def RE (C : Cx) (z : Nat) (es : List AV) (arr : Array Value) (o : Nat) : Prop :=
  (∀ x ∈ es, x.cells.length = z ∧ x.isTup = false) ∧ ∀ i x j c, es[i]? = some x → x.cells[j]? = some c → VR C c (arr.getD (o + (i * z + j)) undef) ∧ one (arr.getD (o + (i * z + j)) undef)

theorem mul_lt_of {i n z j : Nat} (hi : i < n) (hj : j < z) : i * z + j < n * z := by
  have : (i + 1) * z ≤ n * z := Nat.mul_le_mul_right z hi
  rw [Nat.add_mul] at this
  omega

theorem RE.set {z : Nat} {es : List AV} {arr : Array Value} (h : RE C z es arr 0) {i : Nat} (hi : i < es.length) {x : AV} {vs : Array Value} (hx : RA C x.cells vs) (hf : x.cells.length = z ∧ x.isTup = false)
    {arr' : Array Value} (hg : ∀ k, arr'.getD k undef = if i * z ≤ k ∧ k < i * z + vs.size then vs.getD (k - i * z) undef else arr.getD k undef) : RE C z (es.set i x) arr' 0 := by
  have hvs : vs.size = z := by rw [hx.1]; exact hf.1
  refine ⟨fun y hy => ?_, fun i' y j c hi' hj => ?_⟩
  · rcases List.mem_or_eq_of_mem_set hy with h' | rfl
    · exact h.1 y h'
    · exact hf
  · rw [Nat.zero_add, hg]
    by_cases he : i' = i
    · subst he
      rw [List.getElem?_set_self hi] at hi'
      cases hi'
      have hjz : j < z := by rw [← hf.1]; exact (List.getElem?_eq_some_iff.1 hj).1
      rw [if_pos (by omega)]
      have := hx.2 j c hj
      rw [Nat.zero_add] at this
      rwa [show i' * z + j - i' * z = j by omega]
    · rw [List.getElem?_set_ne (Ne.symm he)] at hi'
      have hjz : j < z := by rw [← (h.1 y (List.mem_of_getElem? hi')).1]; exact (List.getElem?_eq_some_iff.1 hj).1
      rw [if_neg ?_]
      · simpa using h.2 i' y j c hi' hj
      · rintro ⟨h1, h2⟩
        rcases Nat.lt_or_ge i' i with hlt | hge
        · have := mul_lt_of (z := z) hlt hjz; omega
        · have hgt : i < i' := by omega
          have : (i + 1) * z ≤ i' * z := Nat.mul_le_mul_right z hgt
          rw [Nat.add_mul] at this
          omega

theorem fillE_ok (he : ER G C e a nt) (z : Nat) : ∀ (ps : List (Nat × Operand)) (qs : List (Nat × Opd)),
    qs.length = ps.length → (∀ (j : Nat) (q : Nat × Opd), qs[j]? = some q → ∃ p : Nat × Operand, ps[j]? = some p ∧ p.1 = q.1 ∧ cOpd p.2 = some q.2) →
    ∀ (es es' : List AV) (arr : Array Value), arr.size = es.length * z → RE C z es arr 0 → parts1 z e es qs = some es' →
    ∃ arr', Instr.fill (fun i => some (i * z, z)) arr (ps.map fun p => (p.1, a.eval p.2)) = some arr' ∧ arr'.size = es'.length * z ∧ RE C z es' arr' 0 ∧ es'.length = es.length := by
  intro ps
  induction ps with
  | nil =>
    intro qs hl _ es es' arr hs hr h
    have : qs = [] := List.eq_nil_of_length_eq_zero (by simpa using hl)
    subst this
    simp only [parts1] at h
    cases h
    exact ⟨arr, rfl, hs, hr, rfl⟩
  | cons p ps ih =>
    intro qs hl hq es es' arr hs hr h
    cases qs with
    | nil => simp at hl
    | cons q qs =>
      obtain ⟨i, x⟩ := q
      simp only [parts1] at h
      split at h
      · rename_i hc
        simp only [Bool.and_eq_true, decide_eq_true_eq] at hc
        obtain ⟨hfit, hoff⟩ := hc
        have hf := fits_iff.1 hfit
        obtain ⟨p', hp', hpi, hop⟩ := hq 0 _ rfl
        simp at hp'
        subst hp'
        have hv := cOpd_ok he hop
        have hra := hv.ra hf.2
        have hsz : (a.eval p.2).cells.size = z := by rw [hra.1]; exact hf.1
        have hbound : i * z + z ≤ es.length * z := by
          have : (i + 1) * z ≤ es.length * z := Nat.mul_le_mul_right z hoff
          rwa [Nat.add_mul, Nat.one_mul] at this
        obtain ⟨f1, f2⟩ := fold_arr (i * z) (a.eval p.2).cells arr (by rw [hsz, hs]; exact hbound)
        obtain ⟨arr', g1, g2, g3, g4⟩ := ih qs (by simpa using hl) (fun j q' hj => by simpa using hq (j + 1) q' (by simpa using hj)) _ es' _
          (by rw [f1, hs]; simp) (RE.set hr hoff hra hf (fun k => f2 k undef)) h
        refine ⟨arr', ?_, g2, g3, by rw [g4]; simp⟩
        simp only [List.map_cons, Instr.fill]
        simp only [] at hpi
        rw [hpi]
        rw [if_neg (by rw [hsz, hs]; simp; omega)]
        exact g1
      · cases h

theorem zeroCells_RE {z n : Nat} {zero : AV} {zv : Value} (hz : VR C zero zv) (hl : zero.cells.length = z) (ht : zero.isTup = false) (hp : 0 < z) :
    ((Array.range (n * z)).map (fun i => zv.cells[i % zv.cells.size]!)).size = n * z ∧ RE C z (List.replicate n zero) ((Array.range (n * z)).map (fun i => zv.cells[i % zv.cells.size]!)) 0 := by
  have hra := hz.ra ht
  have hsz : zv.cells.size = z := by rw [hra.1]; exact hl
  refine ⟨by simp, fun x hx => ?_, fun i x j c hi hj => ?_⟩
  · rw [(List.mem_replicate.1 hx).2]; exact ⟨hl, ht⟩
  · rw [List.getElem?_replicate] at hi
    split at hi
    · rename_i hin
      cases hi
      have hjz : j < z := by rw [← hl]; exact (List.getElem?_eq_some_iff.1 hj).1
      have hk : i * z + j < n * z := mul_lt_of hin hjz
      have := hra.2 j c hj
      rw [Nat.zero_add] at this ⊢
      have hm : (i * z + j) % z = j := by rw [Nat.mul_comm, Nat.mul_add_mod, Nat.mod_eq_of_lt hjz]
      have hg : ((Array.range (n * z)).map (fun i => zv.cells[i % zv.cells.size]!)).getD (i * z + j) undef = zv.cells.getD j undef := by
        rw [Array.getD_eq_getD_getElem?, Array.getElem?_map, Array.getElem?_range, if_pos hk]
        simp only [Option.map_some, Option.getD_some, hsz, hm]
        have hjs : j < zv.cells.size := by rw [hsz]; exact hjz
        simp [Array.getD_eq_getD_getElem?, Array.getElem?_eq_getElem hjs, getElem!_pos, hjs]
      rw [hg]
      exact this
    · cases hi

theorem cParts_ok {parts : Array (Nat × Operand)} {qs : List (Nat × Opd)} (h : cParts parts = some qs) :
    qs.length = parts.toList.length ∧ ∀ (j : Nat) (q : Nat × Opd), qs[j]? = some q → ∃ p : Nat × Operand, parts.toList[j]? = some p ∧ p.1 = q.1 ∧ cOpd p.2 = some q.2 := by
  obtain ⟨h1, h2⟩ := mapM_some h
  refine ⟨h1, fun j q hj => ?_⟩
  obtain ⟨p, hp, hq⟩ := h2 j q hj
  obtain ⟨i, x⟩ := p
  simp only [Option.map_eq_some_iff] at hq
  obtain ⟨y, hy, rfl⟩ := hq
  exact ⟨(i, x), hp, rfl, hy⟩

end
end Go.Vx
