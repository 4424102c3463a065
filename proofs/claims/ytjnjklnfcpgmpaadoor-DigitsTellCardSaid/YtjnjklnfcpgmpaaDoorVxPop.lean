/- V: the operations on values, each against the machine's. -/
import Derived.Test.YtjnjklnfcpgmpaaDoorVxPure
set_option linter.unusedVariables false
set_option linter.unusedSimpArgs false
namespace Go.Vx

section
variable {P : Program} {C : Cx} {w : World} {e : Env} {a : Act} {nt : Nat}

theorem rTI {t : TypeId} {i : TypeInfo} (h : P.info? t = some i) : (typeInfo t).run P w = .ok i w := by
  simp [typeInfo, program, Sem.run, h]
theorem rSize {t : TypeId} {i : TypeInfo} (h : P.info? t = some i) : (sizeOf t).run P w = .ok i.size w := by
  simp [sizeOf, rTI h]
theorem rZero {t : TypeId} {i : TypeInfo} {z : Value} (h : P.info? t = some i) (hz : i.zero = some z) : (zeroValue t).run P w = .ok z w := by
  simp [zeroValue, rTI h, hz]
theorem rAgg {t : TypeId} {ag : Option Nat} (h : aggSize P t = some ag) : (isAgg t).run P w = .ok ag.isSome w ∧ ∃ i, P.info? t = some i ∧ i.size = ag.getD 1 := by
  unfold aggSize at h
  split at h
  · rename_i h1 h2; cases h
    exact ⟨by simp [isAgg, run_underlying h1], _, h2, rfl⟩
  · rename_i h1 h2; cases h
    exact ⟨by simp [isAgg, run_underlying h1], _, h2, rfl⟩
  · rename_i d i n1 n2 h1 h2
    split at h
    · rename_i hs; cases h
      refine ⟨?_, i, h2, hs⟩
      simp only [isAgg, Sem.run_bind, run_underlying h1, Result.andThen_ok]
      rfl
    · cases h
  · cases h

theorem cellsN_ok {t : TypeId} {n : Nat} (h : cellsN P t = some n) : ∃ i, P.info? t = some i ∧ i.size = n := by
  simp only [cellsN, Option.map_eq_some_iff] at h
  obtain ⟨ag, hag, rfl⟩ := h
  obtain ⟨_, i, hi, hs⟩ := rAgg (w := default) hag
  exact ⟨i, hi, hs⟩

/-- The cells of an array of the machine's, against V's. -/
def RL (C : Cx) (cs : List AV) (arr : Array Value) (o : Nat) : Prop := ∀ j c, cs[j]? = some c → VR C c (arr.getD (o + j) undef) ∧ one (arr.getD (o + j) undef)

theorem RL.drop {cs : List AV} {arr : Array Value} {o : Nat} (h : RL C cs arr o) (k : Nat) : RL C (cs.drop k) arr (o + k) := fun j c hj => by
  rw [List.getElem?_drop] at hj
  rw [Nat.add_assoc]
  exact h _ c hj

/-- Part of a value. -/
theorem part_ok {t : TypeId} {ag : Option Nat} (h : aggSize P t = some ag) {cs : List AV} {vs : Array Value} (hs : vs.size = cs.length) (hr : RL C cs vs 0) (off : Nat) {v : AV} (hv : ld ag (cs.drop off) = some v) :
    ∃ x, (part t vs off).run P w = .ok x w ∧ VR C v x := by
  obtain ⟨h1, i, hi, hsz⟩ := rAgg (w := w) h
  unfold part
  simp only [Sem.run_bind, h1, Result.andThen_ok, Sem.run_ite]
  cases ag with
  | none =>
    simp only [ld] at hv
    rw [List.head?_drop] at hv
    have hlt : off < vs.size := by rw [hs]; exact (List.getElem?_eq_some_iff.1 hv).1
    have := hr off v hv
    simp only [Nat.zero_add, Array.getD_eq_getD_getElem?, Array.getElem?_eq_getElem hlt, Option.getD_some] at this
    refine ⟨vs[off], ?_, this.1⟩
    simp [Array.getElem?_eq_getElem hlt]
  | some n =>
    simp only [ld] at hv
    split at hv
    · rename_i hn
      cases hv
      simp only [Option.getD_some] at hsz
      have hl : off + n ≤ cs.length ∨ n = 0 := by simp at hn; omega
      refine ⟨.agg (vs.extract off (off + n)), by simp [rSize hi, hsz], ?_⟩
      have key : ∀ j c, ((cs.drop off).take n)[j]? = some c → VR C c ((vs.extract off (off + n)).getD j undef) ∧ one ((vs.extract off (off + n)).getD j undef) := fun j c hj => by
        have hj' : j < n ∧ cs[off + j]? = some c := by
          rw [List.getElem?_take] at hj
          split at hj
          · rename_i hjn; rw [List.getElem?_drop] at hj; exact ⟨hjn, hj⟩
          · cases hj
        have hlt : off + j < vs.size := by rw [hs]; exact (List.getElem?_eq_some_iff.1 hj'.2).1
        have := hr (off + j) c hj'.2
        have he : (vs.extract off (off + n)).getD j undef = vs.getD (0 + (off + j)) undef := by
          simp only [Array.getD_eq_getD_getElem?, Nat.zero_add]
          rw [Array.getElem?_extract]
          rw [if_pos (by omega)]
        rw [he]
        exact this
      refine .agg _ _ ?_ (fun j c hj => (key j c hj).2) (fun j c hj => (key j c hj).1)
      simp only [Array.size_extract, List.length_take, List.length_drop, hs]
      omega
    · cases hv

theorem VR.aggRL {cs : List AV} {v : Value} (h : VR C (.agg cs) v) : ∃ vs, v = .agg vs ∧ vs.size = cs.length ∧ RL C cs vs 0 := by
  cases h with
  | agg cs vs hs h1 hv => exact ⟨vs, rfl, hs, fun j c hj => by rw [Nat.zero_add]; exact ⟨hv j c hj, h1 j c hj⟩⟩

theorem add_add (a : Addr) (m n : Nat) : (a.add m).add n = a.add (m + n) := by
  unfold Addr.add
  by_cases h1 : m = 0 <;> by_cases h2 : n = 0 <;> simp [h1, h2]
  omega

theorem bound_ok {len cap : Nat} {x : Option Value} {y : Option AV} (hxy : (x = none ∧ y = none) ∨ ∃ x' y', x = some x' ∧ y = some y' ∧ VR C y' x') (d : Nat) {k : Nat} (hb : bound d y = some k) (m : Nat) (hm : k ≤ m) (code : BoundsCode) :
    (match x with | some v => Instr.sliceBound v m code | none => pure d : Sem Nat).run P w = .ok k w := by
  rcases hxy with ⟨rfl, rfl⟩ | ⟨x', y', rfl, rfl, hv⟩
  · simp only [bound] at hb; cases hb; rfl
  · cases hv <;> simp only [bound] at hb <;> first | (cases hb; done) | skip
    rename_i kk n
    split at hb
    · rename_i h0
      cases hb
      simp only [Instr.sliceBound, asIntOf, pure_bind, Sem.run_ite]
      rw [if_pos ⟨h0, by omega⟩]
      rfl
    · cases hb

theorem slice_ok (t et : TypeId) (it : TypeInfo) (ht : P.underlying t = some (.slice et)) (hi : P.info? et = some it) {x : AV} {u : Value} (hx : VR C x u) {lo hi' : Option Value} {lo' hi'' : Option AV}
    (hlo : (lo = none ∧ lo' = none) ∨ ∃ x' y', lo = some x' ∧ lo' = some y' ∧ VR C y' x') (hhi : (hi' = none ∧ hi'' = none) ∨ ∃ x' y', hi' = some x' ∧ hi'' = some y' ∧ VR C y' x')
    (len cap : Nat) (b : Option Addr) (hu : u = .slice b len cap) {l h : Nat} (hl : bound 0 lo' = some l) (hh : bound len hi'' = some h) (h1 : l ≤ h) (h2 : h ≤ cap) :
    (Instr.sliceAt t u lo hi' none).run P w = .ok (.slice (if cap = l then b else b.map (·.add (l * it.size))) (h - l) (cap - l)) w := by
  subst hu
  unfold Instr.sliceAt Instr.slice Instr.sliceBounds
  have e1 := bound_ok (P := P) (w := w) (len := len) (cap := cap) hhi len hh cap h2 .sliceAcap
  have e2 := bound_ok (P := P) (w := w) (len := len) (cap := cap) hlo 0 hl h h1 .sliceB
  simp only [Sem.run_bind, run_underlying ht, Result.andThen_ok, bind_assoc, pure_bind]
  cases hi' with
  | none =>
    simp only [Sem.run_pure, Result.ok.injEq, and_true] at e1
    subst e1
    simp only [Sem.run_bind, Result.andThen_ok, pure_bind, Option.isSome_none, Bool.false_eq_true, if_false] at e2 ⊢
    cases lo with
    | none =>
      simp only [Sem.run_pure, Result.ok.injEq, and_true] at e2
      subst e2
      simp [rSize hi]
    | some lv =>
      simp only [Sem.run_bind, e2, Result.andThen_ok]
      simp [rSize hi]
  | some hv =>
    simp only [if_true] at e1 ⊢
    simp only [Sem.run_bind, e1, Result.andThen_ok, Option.isSome_none, Bool.false_eq_true, if_false]
    cases lo with
    | none =>
      simp only [Sem.run_pure, Result.ok.injEq, and_true] at e2
      subst e2
      simp [rSize hi]
    | some lv =>
      simp only [Sem.run_bind, e2, Result.andThen_ok]
      simp [rSize hi]


theorem elemOf'_ok {t : TypeId} {z bytes : Nat} {zero : AV} (h : elemOf' P t = some (z, bytes, zero)) :
    ∃ et it zv, P.underlying t = some (.slice et) ∧ P.info? et = some it ∧ it.size = z ∧ it.bytes = bytes ∧ it.zero = some zv ∧ (∀ C, VR C zero zv) ∧ 0 < z ∧ zero.cells.length = z ∧ zero.isTup = false ∧ 0 < bytes := by
  unfold elemOf' at h
  split at h
  · rename_i et hu
    split at h
    · rename_i n i v h1 h2 h3
      split at h
      · rename_i hc
        simp only [Option.some.injEq, Prod.mk.injEq] at h
        obtain ⟨rfl, rfl, rfl⟩ := h
        simp only [Bool.and_eq_true, decide_eq_true_eq, beq_iff_eq, AV.fits, Bool.not_eq_true'] at hc
        simp only [zeroAV, h2, Option.bind_some] at h3
        cases hz : i.zero with
        | none => simp [hz] at h3
        | some zv =>
          simp only [hz, Option.bind_some] at h3
          exact ⟨et, i, zv, hu, h2, hc.1.2, rfl, hz, fun C => (cVal_ok 3 zv v h3 C).1, hc.1.1.1, hc.1.1.2.1, hc.1.1.2.2, hc.2⟩
      · cases h
    · cases h
  · cases h

theorem zeroAV_ok {t : TypeId} {v : AV} (h : zeroAV P t = some v) : ∃ i zv, P.info? t = some i ∧ i.zero = some zv ∧ ∀ C, VR C v zv ∧ v.isTup = false := by
  unfold zeroAV at h
  simp only [Option.bind_eq_some_iff] at h
  obtain ⟨i, hi, zv, hz, hv⟩ := h
  exact ⟨i, zv, hi, hz, fun C => cVal_ok 3 zv v hv C⟩

theorem getD_of {α : Type} {xs : Array α} {j : Nat} {d y : α} (h : xs[j]? = some y) : xs.getD j d = y := by simp [Array.getD_eq_getD_getElem?, h]

theorem VR.slInv {z : Nat} {full : Bool} {es : List AV} {v : Value} (h : VR C (.sl z full es) v) : ∃ (ad : Addr) (cap : Nat) (g : Nat → Nat → Value), v = .slice (some ad) es.length cap ∧ es.length ≤ cap ∧ (full = true → cap = es.length) ∧
    (∀ e ∈ es, e.cells.length = z ∧ e.isTup = false) ∧ (∀ i e j c, es[i]? = some e → e.cells[j]? = some c → C.st (ad.add (i * z + j)) (g i j)) ∧ (∀ i e j c, es[i]? = some e → e.cells[j]? = some c → one (g i j)) ∧
    (∀ i e j c, es[i]? = some e → e.cells[j]? = some c → VR C c (g i j)) := by
  cases h with
  | sl z full es a cap g hc hf hz hs h1 hv => exact ⟨a, cap, g, rfl, hc, hf, hz, hs, h1, hv⟩
theorem VR.rslInv {b z o m : Nat} {c : Option Nat} {v : Value} (h : VR C (.rsl b z o m c) v) : ∃ (ad : Addr) (cap : Nat), v = .slice (some ad) m cap ∧ b < C.n ∧ m ≤ cap ∧ (∀ k, c = some k → cap = k) ∧ (0 < cap → ad = ⟨C.ρ b, o * z, none⟩) ∧ C.bs (C.ρ b) ((o + cap) * z) := by
  cases h with
  | rsl b z o m c a cap h hm hc ha hb => exact ⟨a, cap, rfl, h, hm, hc, ha, hb⟩

/-- A slice of a value, or of a record: the value that comes. -/
theorem vr_slice_sl {z : Nat} {full : Bool} {es : List AV} {ad : Addr} {cap : Nat} (h : VR C (.sl z full es) (.slice (some ad) es.length cap)) (l k : Nat) (h1 : l ≤ k) (h2 : k ≤ es.length) :
    VR C (.sl z (full && k == es.length) ((es.take k).drop l)) (.slice (if cap = l then some ad else (some ad).map (·.add (l * z))) (k - l) (cap - l)) := by
  obtain ⟨ad', cap', g, heq, hc, hf, hz, hs, hone, hv⟩ := h.slInv
  cases heq
  have hlen : ((es.take k).drop l).length = k - l := by simp; omega
  have hget : ∀ i e', ((es.take k).drop l)[i]? = some e' → es[l + i]? = some e' := fun i e' hi => by
    rw [List.getElem?_drop, List.getElem?_take] at hi
    split at hi
    · exact hi
    · cases hi
  have hmem : ∀ e' ∈ (es.take k).drop l, e' ∈ es := fun e' he => List.mem_of_mem_take (List.mem_of_mem_drop he)
  rw [← hlen]
  by_cases hcl : cap = l
  · rw [if_pos hcl]
    have hnil : (es.take k).drop l = [] := List.eq_nil_of_length_eq_zero (by omega)
    rw [hnil]
    exact .sl z _ [] ad (cap - l) g (by simp) (fun _ => by simp; omega) (by simp) (fun i e' j c he => by simp at he) (fun i e' j c he => by simp at he) (fun i e' j c he => by simp at he)
  · rw [if_neg hcl]
    refine .sl z _ _ (ad.add (l * z)) (cap - l) (fun i j => g (l + i) j) (by omega) (fun hfull => ?_) (fun e' he => hz e' (hmem e' he)) (fun i e' j c he hj => ?_) (fun i e' j c he hj => hone _ e' j c (hget i e' he) hj)
      (fun i e' j c he hj => hv _ e' j c (hget i e' he) hj)
    · simp only [Bool.and_eq_true, beq_iff_eq] at hfull
      have := hf hfull.1
      omega
    · rw [add_add]
      have := hs _ e' j c (hget i e' he) hj
      rwa [show (l + i) * z + j = l * z + (i * z + j) by rw [Nat.add_mul]; omega] at this

theorem vr_slice_rsl {b z o m : Nat} {c : Option Nat} {ad : Addr} {cap : Nat} (h : VR C (.rsl b z o m c) (.slice (some ad) m cap)) (l k : Nat) (h1 : l ≤ k) (h2 : k ≤ c.getD m) :
    k ≤ cap ∧ VR C (.rsl b z (o + l) (k - l) (c.map (· - l))) (.slice (if cap = l then some ad else (some ad).map (·.add (l * z))) (k - l) (cap - l)) := by
  obtain ⟨ad', cap', heq, hb, hm, hc, ha, hbs⟩ := h.rslInv
  cases heq
  have hkc : k ≤ cap := by
    cases c with
    | none => simp at h2; omega
    | some c => have := hc c rfl; simp at h2; omega
  refine ⟨hkc, ?_⟩
  by_cases hcl : cap = l
  · rw [if_pos hcl]
    refine .rsl b z (o + l) (k - l) _ ad (cap - l) hb (by omega) (fun q hq => ?_) (fun hp => by omega) ?_
    · simp only [Option.map_eq_some_iff] at hq
      obtain ⟨c', rfl, rfl⟩ := hq
      have := hc c' rfl; omega
    · rwa [show o + l + (cap - l) = o + cap by omega]
  · rw [if_neg hcl]
    have hpos : 0 < cap := by omega
    rw [ha hpos]
    refine .rsl b z (o + l) (k - l) _ _ (cap - l) hb (by omega) (fun q hq => ?_) (fun _ => ?_) ?_
    · simp only [Option.map_eq_some_iff] at hq
      obtain ⟨c', rfl, rfl⟩ := hq
      have := hc c' rfl; omega
    · by_cases hz : l * z = 0
      · simp [Addr.add, hz, Nat.add_mul]
      · simp [Addr.add, hz, Nat.add_mul]
    · rwa [show o + l + (cap - l) = o + cap by omega]

end
end Go.Vx
