/- V: all operations on values: what V says, the machine says. -/
import Derived.Test.YtjnjklnfcpgmpaaDoorVxPop
set_option linter.unusedVariables false
set_option linter.unusedSimpArgs false
namespace Go.Vx

section
variable {P : Program} {C : Cx} {w : World} {e : Env} {a : Act} {nt : Nat}

/-- What an operation on values does, said of the semantics' own part. -/
def PuS (P : Program) (C : Cx) (w : World) (r : Sem Value) (v : AV) : Prop := ∃ x, r.run P w = .ok x w ∧ VR C v x

theorem PuS.pu {r : Sem Value} {v : AV} (h : PuS P C w r v) : Pu P C w ((do pure (.value (← r)) : Sem Next).run P w) v := by
  obtain ⟨x, h1, h2⟩ := h
  exact ⟨x, by simp [h1], h2⟩

theorem fieldAt_ok {s : TypeId} {fs : Array Field} {f : Field} {i n : Nat} (hs : P.underlying s = some (.struct fs)) (hf : fs[i]? = some f) (hn : cellsN P f.type = some n) (hp : 0 < n) (ad : Addr) :
    (Instr.fieldAt s (.pointer (some ad)) i).run P w = .ok (.pointer (some (ad.add f.offset))) w := by
  obtain ⟨ti, hti, hsz⟩ := cellsN_ok hn
  have : ti.size ≠ 0 := by omega
  simp [Instr.fieldAt, run_underlying hs, hf, Instr.sureAddr, fieldPlace, rSize hti, this]

theorem d_fieldA {s : TypeId} {fs : Array Field} {f : Field} {i n : Nat} (hs : P.underlying s = some (.struct fs)) (hf : fs[i]? = some f) (hn : cellsN P f.type = some n) (hp : 0 < n)
    {x : Opd} {u : Value} (hx : VR C (x.ev e) u) {v : AV} (hv : pop e (.fieldA f.offset x) = some v) : PuS P C w (Instr.fieldAt s u i) v := by
  generalize hxe : x.ev e = y at hx
  simp only [pop, hxe] at hv
  cases hx <;> simp only [] at hv <;> first | (cases hv; done) | skip
  · cases hv
    refine ⟨_, fieldAt_ok hs hf hn hp _, ?_⟩
    have : ∀ (r o : Nat), (⟨r, o, none⟩ : Addr).add f.offset = ⟨r, o + f.offset, none⟩ := fun r o => by unfold Addr.add; split <;> simp_all
    rw [this]
    exact .ptr _ _ (by assumption)
  · cases hv
    refine ⟨_, fieldAt_ok hs hf hn hp _, ?_⟩
    have : ∀ (r o : Nat), (⟨r, o, none⟩ : Addr).add f.offset = ⟨r, o + f.offset, none⟩ := fun r o => by unfold Addr.add; split <;> simp_all
    rw [this]
    exact .eptr _ _ _ (by assumption)
  · rename_i cs ad g hst h1 hvv
    cases hv
    refine ⟨_, fieldAt_ok hs hf hn hp _, ?_⟩
    refine .dptr _ _ (fun j => g (f.offset + j)) (fun j c hj => ?_) (fun j c hj => h1 _ c (by rwa [List.getElem?_drop] at hj)) (fun j c hj => hvv _ c (by rwa [List.getElem?_drop] at hj))
    rw [add_add]
    exact hst _ c (by rwa [List.getElem?_drop] at hj)

theorem indexAt_slice_ok {t et : TypeId} {it : TypeInfo} (ht : P.underlying t = some (.slice et)) (hi : P.info? et = some it) (ad : Addr) (len cap : Nat) (k : IntKind) (i : Int) (h0 : 0 ≤ i) (h1 : i < len) :
    (Instr.indexAt t (.slice (some ad) len cap) (.int k i)).run P w = .ok (.pointer (some (ad.add (i.toNat * it.size)))) w := by
  simp only [Instr.indexAt, asIntOf, pure_bind, Sem.run_bind, run_underlying ht, Result.andThen_ok, Sem.run_pure]
  simp [h0, h1, rSize hi]

theorem indexAt_array_ok {t et : TypeId} {it : TypeInfo} {n : Nat} (ht : P.underlying t = some (.array n et)) (hi : P.info? et = some it) (ad : Addr) (k : IntKind) (i : Int) (h0 : 0 ≤ i) (h1 : i < n) :
    (Instr.indexAt t (.pointer (some ad)) (.int k i)).run P w = .ok (.pointer (some (ad.add (i.toNat * it.size)))) w := by
  simp only [Instr.indexAt, asIntOf, pure_bind, Sem.run_bind, run_underlying ht, Result.andThen_ok, Sem.run_pure, Instr.sureAddr]
  simp [h0, h1, rSize hi]

theorem d_idxA {t et : TypeId} {it : TypeInfo} (ht : P.underlying t = some (.slice et)) (hi : P.info? et = some it) {x i : Opd} {u ui : Value} (hx : VR C (x.ev e) u) (hxi : VR C (i.ev e) ui)
    {v : AV} (hv : pop e (.idxA it.size x i) = some v) : PuS P C w (Instr.indexAt t u ui) v := by
  simp only [pop] at hv
  split at hv
  · rename_i z' full es k n h1 h2
    rw [h1] at hx; rw [h2] at hxi
    split at hv
    · rename_i hz
      obtain ⟨rfl, h0⟩ := hz
      simp only [Option.map_eq_some_iff] at hv
      obtain ⟨el, hel, rfl⟩ := hv
      obtain ⟨ad, cap, g, rfl, hc, hf, hzz, hst, hone, hvr⟩ := hx.slInv
      cases hxi
      have hlt : n.toNat < es.length := (List.getElem?_eq_some_iff.1 hel).1
      refine ⟨_, indexAt_slice_ok ht hi ad _ cap k n h0 (by omega), ?_⟩
      refine .dptr _ _ (g n.toNat) (fun j c hj => ?_) (fun j c hj => hone _ el j c hel hj) (fun j c hj => hvr _ el j c hel hj)
      rw [add_add]
      exact hst _ el j c hel hj
    · cases hv
  · rename_i b z' o m c k n h1 h2
    rw [h1] at hx; rw [h2] at hxi
    split at hv
    · rename_i hz
      obtain ⟨rfl, h0, hlt⟩ := hz
      cases hv
      obtain ⟨ad, cap, rfl, hb, hm, hc, ha, hbs⟩ := hx.rslInv
      cases hxi
      refine ⟨_, indexAt_slice_ok ht hi ad _ cap k n h0 hlt, ?_⟩
      have hpos : 0 < cap := by omega
      rw [ha hpos]
      have : (⟨C.ρ b, o * it.size, none⟩ : Addr).add (n.toNat * it.size) = ⟨C.ρ b, (o + n.toNat) * it.size, none⟩ := by
        unfold Addr.add; split <;> simp_all [Nat.add_mul]
      rw [this]
      exact .eptr _ _ _ hb
    · cases hv
  · cases hv

theorem d_idxArr {t et : TypeId} {it : TypeInfo} {n : Nat} (ht : P.underlying t = some (.array n et)) (hi : P.info? et = some it) {x i : Opd} {u ui : Value} (hx : VR C (x.ev e) u) (hxi : VR C (i.ev e) ui)
    {v : AV} (hv : pop e (.idxArr n it.size x i) = some v) : PuS P C w (Instr.indexAt t u ui) v := by
  simp only [pop] at hv
  split at hv
  · rename_i b o k j h1 h2
    rw [h1] at hx; rw [h2] at hxi
    split at hv
    · rename_i hz
      cases hv
      cases hx
      cases hxi
      refine ⟨_, indexAt_array_ok ht hi _ k j hz.1 hz.2, ?_⟩
      have : (⟨C.ρ b, o, none⟩ : Addr).add (j.toNat * it.size) = ⟨C.ρ b, o + j.toNat * it.size, none⟩ := by
        unfold Addr.add; split <;> simp_all
      rw [this]
      exact .ptr _ _ (by assumption)
    · cases hv
  · cases hv

theorem d_slice {t et : TypeId} {it : TypeInfo} (ht : P.underlying t = some (.slice et)) (hi : P.info? et = some it) {x : Opd} {lo hi' : Option Opd} {u : Value} {ulo uhi : Option Value} (hx : VR C (x.ev e) u)
    (hlo : (ulo = none ∧ lo.map (·.ev e) = none) ∨ ∃ x' y', ulo = some x' ∧ lo.map (·.ev e) = some y' ∧ VR C y' x')
    (hhi : (uhi = none ∧ hi'.map (·.ev e) = none) ∨ ∃ x' y', uhi = some x' ∧ hi'.map (·.ev e) = some y' ∧ VR C y' x')
    {v : AV} (hv : pop e (.slice it.size x lo hi') = some v) : PuS P C w (Instr.sliceAt t u ulo uhi none) v := by
  simp only [pop] at hv
  split at hv
  · rename_i h1
    rw [h1] at hx
    split at hv
    · rename_i l h hl hh
      split at hv
      · rename_i h0
        obtain ⟨rfl, rfl⟩ := h0
        cases hv
        cases hx
        refine ⟨_, slice_ok t et it ht hi .nilsl hlo hhi 0 0 none rfl hl hh (Nat.le_refl _) (Nat.le_refl _), ?_⟩
        exact .nilsl
      · cases hv
    · cases hv
  · rename_i z' full es h1
    rw [h1] at hx
    split at hv
    · rename_i l h hl hh
      split at hv
      · rename_i h0
        obtain ⟨rfl, h01, h02⟩ := h0
        cases hv
        obtain ⟨ad, cap, g, rfl, hc, hf, hzz, hst, hone, hvr⟩ := hx.slInv
        exact ⟨_, slice_ok t et it ht hi hx hlo hhi es.length cap (some ad) rfl hl hh h01 (by omega), vr_slice_sl hx l h h01 h02⟩
      · cases hv
    · cases hv
  · rename_i b z' o n c h1
    rw [h1] at hx
    split at hv
    · rename_i l h hl hh
      split at hv
      · rename_i h0
        obtain ⟨rfl, h01, h02⟩ := h0
        cases hv
        obtain ⟨ad, cap, rfl, hb, hm, hc, ha, hbs⟩ := hx.rslInv
        obtain ⟨k1, k2⟩ := vr_slice_rsl hx l h h01 h02
        exact ⟨_, slice_ok t et it ht hi hx hlo hhi n cap (some ad) rfl hl hh h01 k1, k2⟩
      · cases hv
    · cases hv
  · cases hv

theorem ba_size (l : List UInt8) : (⟨l.toArray⟩ : ByteArray).size = l.length := by simp [ByteArray.size]
theorem ba_extract (l : List UInt8) (i j : Nat) : (⟨l.toArray⟩ : ByteArray).extract i j = ⟨((l.take j).drop i).toArray⟩ := by
  apply ByteArray.ext
  rw [ByteArray.data_extract]
  simp only [List.extract_toArray, List.extract_eq_take_drop]
  rw [List.drop_take]

theorem d_sliceStr {t : TypeId} (ht : P.underlying t = some .string) {x : Opd} {lo hi' : Option Opd} {u : Value} {ulo uhi : Option Value} (hx : VR C (x.ev e) u)
    (hlo : (ulo = none ∧ lo.map (·.ev e) = none) ∨ ∃ x' y', ulo = some x' ∧ lo.map (·.ev e) = some y' ∧ VR C y' x')
    (hhi : (uhi = none ∧ hi'.map (·.ev e) = none) ∨ ∃ x' y', uhi = some x' ∧ hi'.map (·.ev e) = some y' ∧ VR C y' x')
    {v : AV} (hv : pop e (.sliceStr x lo hi') = some v) : PuS P C w (Instr.sliceAt t u ulo uhi none) v := by
  simp only [pop] at hv
  split at hv
  · rename_i s h1
    rw [h1] at hx
    split at hv
    · rename_i l h hl hh
      split at hv
      · rename_i h0
        cases hv
        cases hx
        refine ⟨.string ⟨((s.take h).drop l).toArray⟩, ?_, .str _⟩
        unfold Instr.sliceAt Instr.slice Instr.sliceBounds
        have e1 := bound_ok (P := P) (w := w) (len := s.length) (cap := s.length) hhi s.length hh s.length h0.2 .sliceAlen
        have e2 := bound_ok (P := P) (w := w) (len := s.length) (cap := s.length) hlo 0 hl h h0.1 .sliceB
        simp only [Sem.run_bind, run_underlying ht, Result.andThen_ok, pure_bind, Option.isSome_none, Bool.false_eq_true, if_false, ba_size]
        cases uhi with
        | none =>
          simp only [Sem.run_pure, Result.ok.injEq, and_true] at e1
          subst e1
          cases ulo with
          | none =>
            simp only [Sem.run_pure, Result.ok.injEq, and_true] at e2
            subst e2
            simp [ba_extract]
          | some lv =>
            simp only [Sem.run_bind, Sem.run_pure, Result.andThen_ok, e2]
            simp [ba_extract]
        | some hv =>
          simp only [Sem.run_bind, e1, Result.andThen_ok]
          cases ulo with
          | none =>
            simp only [Sem.run_pure, Result.ok.injEq, and_true] at e2
            subst e2
            simp [ba_extract]
          | some lv =>
            simp only [Sem.run_bind, Sem.run_pure, Result.andThen_ok, e2]
            simp [ba_extract]
      · cases hv
    · cases hv
  · cases hv

theorem d_idxStr {t : TypeId} (ht : P.underlying t = some .string) {x i : Opd} {u ui : Value} (hx : VR C (x.ev e) u) (hxi : VR C (i.ev e) ui)
    {v : AV} (hv : pop e (.idxStr x i) = some v) : PuS P C w (Instr.index t u ui) v := by
  simp only [pop] at hv
  split at hv
  · rename_i s k n h1 h2
    rw [h1] at hx; rw [h2] at hxi
    split at hv
    · rename_i h0
      simp only [Option.map_eq_some_iff] at hv
      obtain ⟨b, hb, rfl⟩ := hv
      cases hx
      cases hxi
      refine ⟨.int .u8 b.toNat, ?_, .int _ _⟩
      have hg : (⟨s.toArray⟩ : ByteArray)[n.toNat]? = some b := by
        have hlt := (List.getElem?_eq_some_iff.1 hb)
        obtain ⟨hl, he⟩ := hlt
        rw [getElem?_pos _ _ (by rw [ba_size]; exact hl)]
        have : (⟨s.toArray⟩ : ByteArray)[n.toNat]'(by rw [ba_size]; exact hl) = s[n.toNat] := by
          rw [ByteArray.getElem_eq_getElem_data]
          simp
        rw [this, he]
      simp [Instr.index, asIntOf, run_underlying ht, h0, hg]
    · cases hv
  · cases hv

theorem d_idxAgg {t et : TypeId} {n : Nat} {ag : Option Nat} (ht : P.underlying t = some (.array n et)) (hag : aggSize P et = some ag) {x i : Opd} {u ui : Value} (hx : VR C (x.ev e) u) (hxi : VR C (i.ev e) ui)
    {v : AV} (hv : pop e (.idxAgg n (ag.getD 1) ag.isSome x i) = some v) : PuS P C w (Instr.index t u ui) v := by
  simp only [pop] at hv
  split at hv
  · rename_i cs k j h1 h2
    rw [h1] at hx; rw [h2] at hxi
    split at hv
    · rename_i h0
      obtain ⟨vs, rfl, hs, hr⟩ := hx.aggRL
      cases hxi
      obtain ⟨_, ti, hti, hsz⟩ := rAgg (w := w) hag
      have hag' : (if ag.isSome = true then some (ag.getD 1) else none) = ag := by cases ag <;> rfl
      rw [hag'] at hv
      obtain ⟨x, hx1, hx2⟩ := part_ok (P := P) (w := w) hag hs hr _ hv
      refine ⟨x, ?_, hx2⟩
      simp [Instr.index, asIntOf, run_underlying ht, h0, rSize hti, hsz, hx1]
    · cases hv
  · cases hv

theorem d_fieldV {s : TypeId} {fs : Array Field} {f : Field} {i : Nat} {ag : Option Nat} (hs : P.underlying s = some (.struct fs)) (hf : fs[i]? = some f) (hag : aggSize P f.type = some ag)
    {x : Opd} {u : Value} (hx : VR C (x.ev e) u) {v : AV} (hv : pop e (.fieldV f.offset ag x) = some v) : PuS P C w (Instr.field s u i) v := by
  simp only [pop] at hv
  split at hv
  · rename_i cs h1
    rw [h1] at hx
    obtain ⟨vs, rfl, hs', hr⟩ := hx.aggRL
    obtain ⟨x, hx1, hx2⟩ := part_ok (P := P) (w := w) hag hs' hr _ hv
    refine ⟨x, ?_, hx2⟩
    simp [Instr.field, run_underlying hs, hf, asAgg, hx1]
  · cases hv

theorem d_ext {x : Opd} {i : Nat} {u : Value} (hx : VR C (x.ev e) u) {v : AV} (hv : pop e (.ext x i) = some v) : PuS P C w (Instr.extract u i) v := by
  simp only [pop] at hv
  split at hv
  · rename_i vs h1
    rw [h1] at hx
    cases hx with
    | tup cs ws hs hvv =>
      have hlt : i < ws.size := by rw [hs]; exact (List.getElem?_eq_some_iff.1 hv).1
      refine ⟨ws[i], ?_, ?_⟩
      · simp [Instr.extract, Array.getElem?_eq_getElem hlt]
      · have := hvv i v hv
        simpa [Array.getD_eq_getD_getElem?, Array.getElem?_eq_getElem hlt] using this
  · cases hv

end
end Go.Vx
