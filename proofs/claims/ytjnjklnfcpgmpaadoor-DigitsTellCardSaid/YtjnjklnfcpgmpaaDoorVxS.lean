/- V: reading memory: loads; the elements of a source; texts out of bytes; values that are copies. -/
import Derived.Test.YtjnjklnfcpgmpaaDoorVxR
import Derived.Laws.BytesArg
set_option linter.unusedVariables false
set_option linter.unusedSimpArgs false
namespace Go.Vx
variable {G : Nat → Obj → Prop}

section
variable {P : Program} {ρ : Nat → Nat} {H : Heap} {w : World} {e : Env} {a : Act} {nt : Nat}

theorem load_ok {C : Cx} {t : TypeId} {ag : Option Nat} (h : aggSize P t = some ag) (ad : Addr) {cs : List AV} {g : Nat → Value}
    (hc : ∀ j c, cs[j]? = some c → w.cell? (ad.add j) = some (g j) ∧ VR C c (g j) ∧ one (g j)) {v : AV} (hv : ld ag cs = some v) : PuS P C w (loadVar t ad) v := by
  obtain ⟨h1, i, hi, hsz⟩ := rAgg (w := w) h
  cases ag with
  | none =>
    simp only [ld] at hv
    cases cs with
    | nil => simp at hv
    | cons c cs =>
      simp at hv; subst hv
      obtain ⟨k1, k2, k3⟩ := hc 0 c rfl
      have : ad.add 0 = ad := by simp [Addr.add]
      rw [this] at k1
      refine ⟨g 0, ?_, k2⟩
      simp [loadVar, h1, k1]
  | some n =>
    simp only [ld] at hv
    split at hv
    · rename_i hn
      cases hv
      have hl := run_loadCells (P := P) w ad n g (fun j hj => (hc j (cs[j]'(by omega)) (by simp)).1)
      refine ⟨.agg ((List.range n).map g).toArray, ?_, ?_⟩
      · simp only [Option.getD_some] at hsz
        simp [loadVar, h1, rSize hi, hsz, hl]
      · have key : ∀ j c, (cs.take n)[j]? = some c → VR C c ((((List.range n).map g).toArray).getD j undef) ∧ one ((((List.range n).map g).toArray).getD j undef) := fun j c hj => by
          rw [List.getElem?_take] at hj
          split at hj
          · rename_i hjn
            obtain ⟨_, k2, k3⟩ := hc j c hj
            have : (((List.range n).map g).toArray).getD j undef = g j := by
              simp [Array.getD_eq_getD_getElem?, List.getElem?_toArray, List.getElem?_range hjn]
            rw [this]
            exact ⟨k2, k3⟩
          · cases hj
        exact .agg _ _ (by simp; omega) (fun j c hj => (key j c hj).2) (fun j c hj => (key j c hj).1)
    · cases hv

theorem box_cells {cs : List AV} {r : Nat} {C : Cx} (h : OR C w (.box cs) r) : ∃ arr t fr, w.heap[r]? = some (.cells arr t fr) ∧ arr.size = cs.length ∧ nofreeze arr fr ∧ RL C cs arr 0 := by
  cases h with
  | box cs r arr t fr hb hs hf h1 hv => exact ⟨arr, t, fr, hb, hs, hf, fun j c hj => by rw [Nat.zero_add]; exact ⟨hv j c hj, h1 j c hj⟩⟩

theorem row_cells {z : Nat} {es : List AV} {r : Nat} {C : Cx} (h : OR C w (.row z es) r) : ∃ arr t fr, w.heap[r]? = some (.cells arr t fr) ∧ es.length * z ≤ arr.size ∧ nofreeze arr fr ∧ RE C z es arr 0 := by
  cases h with
  | row z es r arr t fr hb hs hf hz h1 hv => exact ⟨arr, t, fr, hb, hs, hf, hz, fun i x j c hi hj => by rw [Nat.zero_add]; exact ⟨hv i x j c hi hj, h1 i x j c hi hj⟩⟩

theorem cell_at {r : Nat} {arr : Array Value} {t : TypeId} {fr : Nat × Nat} (hb : w.heap[r]? = some (.cells arr t fr)) {j : Nat} (hj : j < arr.size) : w.cell? ⟨r, j, none⟩ = some (arr.getD j undef) := by
  simp only [World.cell?, hb]
  exact getD_some hj

/-- The cells to which an address of V's leads. -/
def cellsAt (H : Heap) : AV → Option (List AV)
  | .ptr b o => match H[b]? with
    | some (.box cs) => some (cs.drop o)
    | _ => none
  | .eptr b z o => match H[b]? with
    | some (.row z' es) => if z = z' ∧ 0 < z then (es[o / z]?).map fun v => v.cells.drop (o % z) else none
    | _ => none
  | .dptr cs => some cs
  | _ => none

theorem cellsAt_ok (hS : Sim ρ H w) {x : AV} {u : Value} (hx : VR (cx ρ H w) x u) {cs : List AV} (h : cellsAt H x = some cs) :
    ∃ (ad : Addr) (g : Nat → Value), u = .pointer (some ad) ∧ ∀ j c, cs[j]? = some c → w.cell? (ad.add j) = some (g j) ∧ VR (cx ρ H w) c (g j) ∧ one (g j) := by
  cases hx <;> simp only [cellsAt] at h <;> first | (cases h; done) | skip
  case ptr b o hb =>
    split at h
    · rename_i cs0 hob
      cases h
      obtain ⟨arr, t, fr, h1, h2, _, h3⟩ := box_cells (hS.obj b _ hob)
      refine ⟨_, fun j => arr.getD (o + j) undef, rfl, fun j c hj => ?_⟩
      rw [List.getElem?_drop] at hj
      have hlt : o + j < arr.size := by rw [h2]; exact (List.getElem?_eq_some_iff.1 hj).1
      have := h3 (o + j) c hj
      rw [Nat.zero_add] at this
      exact ⟨by rw [addr_add]; exact cell_at h1 hlt, this.1, this.2⟩
    · cases h
  case eptr b z o hb =>
    split at h
    · rename_i z' es hob
      split at h
      · rename_i hz
        obtain ⟨rfl, hp⟩ := hz
        simp only [Option.map_eq_some_iff] at h
        obtain ⟨v, hv, rfl⟩ := h
        obtain ⟨arr, t, fr, h1, h2, _, h3⟩ := row_cells (hS.obj b _ hob)
        refine ⟨_, fun j => arr.getD (o + j) undef, rfl, fun j c hj => ?_⟩
        rw [List.getElem?_drop] at hj
        have hil := (List.getElem?_eq_some_iff.1 hv).1
        have hjz : o % z + j < z := by
          have k1 := (h3.1 v (List.mem_of_getElem? hv)).1
          have k2 := (List.getElem?_eq_some_iff.1 hj).1
          omega
        have he : o / z * z + (o % z + j) = o + j := by have := Nat.div_add_mod o z; rw [Nat.mul_comm] at this; omega
        have hlt : o + j < arr.size := by rw [← he]; exact Nat.lt_of_lt_of_le (mul_lt_of hil hjz) h2
        have := h3.2 (o / z) v (o % z + j) c hv hj
        rw [Nat.zero_add, he] at this
        exact ⟨by rw [addr_add]; exact cell_at h1 hlt, this.1, this.2⟩
      · cases h
    · cases h
  case dptr cs ad g hs h1 hv =>
    cases h
    exact ⟨ad, g, rfl, fun j c hj => ⟨(hs j c hj).1, hv j c hj, h1 j c hj⟩⟩

theorem rop_load {pc : Nat → List AV → Heap → Option AV} {ag : Option Nat} {x : Opd} {v : AV} (h : rop pc e H (.load ag x) = some v) : ∃ cs, cellsAt H (x.ev e) = some cs ∧ ld ag cs = some v := by
  simp only [rop] at h
  split at h
  · rename_i b o h1
    split at h
    · rename_i cs h2
      exact ⟨cs.drop o, by simp [h1, cellsAt, h2], h⟩
    · cases h
  · rename_i b z o h1
    split at h
    · rename_i z' es h2
      split at h
      · rename_i hz
        split at h
        · rename_i v' h3
          exact ⟨v'.cells.drop (o % z), by simp only [h1, cellsAt, h2]; rw [if_pos hz, h3]; rfl, h⟩
        · cases h
      · cases h
    · cases h
  · rename_i cs h1
    exact ⟨cs, by simp [h1, cellsAt], h⟩
  · cases h

theorem r_load {pc : Nat → List AV → Heap → Option AV} {pol : Pol} {reg : Nat} {o : Oper} {t : TypeId} {x : Operand} (ho : o.op = .load t x) (hS : Sim ρ H w) (he : ER G (cx ρ H w) e a nt) {vo : ROp}
    (hc : cOp P pol reg o.op = .r vo) {v : AV} (hv : rop pc e H vo = some v) : Pu P (cx ρ H w) w ((execOp a.eval o).run P w) v := by
  rw [ho] at hc
  simp only [cOp] at hc
  obtain ⟨ag, hag, h⟩ := some_bind (orBad_r hc)
  obtain ⟨x', hx, h⟩ := some_bind h
  simp at h; subst h
  obtain ⟨cs, h1, h2⟩ := rop_load hv
  obtain ⟨ad, g, hu, hg⟩ := cellsAt_ok hS (cOpd_ok he hx) h1
  have := (load_ok (P := P) hag ad hg h2).pu
  simpa [execOp, ho, Instr.loadAt, hu, Instr.sureAddr] using this

/-- A source of elements. -/
theorem src_ok (hS : Sim ρ H w) {x : AV} {u : Value} (hx : VR (cx ρ H w) x u) {z : Nat} (hz : srcZ x z = true) (hp : 0 < z) {es : List AV} (h : srcE H x = some es) :
    (Builtin.lenOf u).run P w = .ok es.length w ∧ ∃ arr, (Builtin.firstCells z es.length u).run P w = .ok arr w ∧ arr.size = es.length * z ∧ RE (cx ρ H w) z es arr 0 := by
  cases x <;> simp only [srcE] at h <;> first | (cases h; done) | skip
  case nilsl =>
    cases h; cases hx
    exact ⟨rfl, #[], rfl, by simp, by simp, fun i x j c hi => by simp at hi⟩
  case str s =>
    cases h; cases hx
    have hz1 : z = 1 := by simpa [srcZ] using hz
    subst hz1
    refine ⟨by simp [Builtin.lenOf, ba_size], (s.toArray.map fun b => Value.int .u8 b.toNat), ?_, by simp, ?_, ?_⟩
    · simp only [Builtin.firstCells, List.length_map, ba_extract, Sem.run_pure]
      simp
    · intro x hx'
      obtain ⟨b, _, rfl⟩ := List.mem_map.1 hx'
      exact ⟨rfl, rfl⟩
    · intro i x j c hi hj
      simp only [List.getElem?_map, Option.map_eq_some_iff] at hi
      obtain ⟨b, hb, rfl⟩ := hi
      have hj0 : j = 0 := by
        cases j with
        | zero => rfl
        | succ j => simp [byteV, AV.cells] at hj
      subst hj0
      simp [byteV, AV.cells] at hj
      subst hj
      have : (s.toArray.map fun b => Value.int .u8 b.toNat).getD (0 + (i * 1 + 0)) undef = Value.int .u8 b.toNat := by
        simp [Array.getD_eq_getD_getElem?, hb]
      rw [this]
      exact ⟨.int _ _, rfl⟩
  case sl z' full es' =>
    cases h
    have hzz : z' = z := by simpa [srcZ] using hz
    subst hzz
    obtain ⟨ad, cap, g, rfl, hc, hf, hzc, hst, hone, hv⟩ := hx.slInv
    have hcell : ∀ k, k < es.length * z' → w.cell? (ad.add k) = some (g (k / z') (k % z')) := fun k hk => by
      have hi : k / z' < es.length := Nat.div_lt_of_lt_mul (by rwa [Nat.mul_comm])
      have hj : k % z' < (es[k / z']).cells.length := by rw [(hzc _ (List.getElem_mem hi)).1]; exact Nat.mod_lt _ hp
      have := (hst (k / z') _ (k % z') _ (List.getElem?_eq_getElem hi) (List.getElem?_eq_getElem hj)).1
      have he : k / z' * z' + k % z' = k := by have := Nat.div_add_mod k z'; rw [Nat.mul_comm] at this; omega
      rwa [he] at this
    refine ⟨rfl, ((List.range (es.length * z')).map fun k => g (k / z') (k % z')).toArray, ?_, by simp, hzc, fun i x j c hi hj => ?_⟩
    · exact run_loadCells (P := P) w ad _ _ hcell
    · have hil := (List.getElem?_eq_some_iff.1 hi).1
      have hjz : j < z' := by rw [← (hzc x (List.mem_of_getElem? hi)).1]; exact (List.getElem?_eq_some_iff.1 hj).1
      have hk : i * z' + j < es.length * z' := mul_lt_of hil hjz
      have hd : (i * z' + j) / z' = i := by rw [Nat.mul_comm, Nat.mul_add_div hp, Nat.div_eq_of_lt hjz]; omega
      have hm : (i * z' + j) % z' = j := by rw [Nat.mul_comm, Nat.mul_add_mod, Nat.mod_eq_of_lt hjz]
      have : (((List.range (es.length * z')).map fun k => g (k / z') (k % z')).toArray).getD (0 + (i * z' + j)) undef = g i j := by
        rw [Nat.zero_add]
        simp [Array.getD_eq_getD_getElem?, List.getElem?_toArray, List.getElem?_range hk, hd, hm]
      rw [this]
      exact ⟨hv i x j c hi hj, hone i x j c hi hj⟩
  case rsl b z' o n c =>
    have hzz : z' = z := by simpa [srcZ] using hz
    subst hzz
    split at h
    · rename_i z'' es0 hob
      split at h
      · rename_i hcond
        obtain ⟨rfl, hon⟩ := hcond
        cases h
        obtain ⟨ad, cap, rfl, hb, hm, hc, ha, hbs⟩ := hx.rslInv
        obtain ⟨arr, t, fr, h1, h2, _, h3⟩ := row_cells (hS.obj b _ hob)
        have hlen : ((es0.drop o).take n).length = n := by simp; omega
        have hle : o * z' + n * z' ≤ arr.size := by
          have : (o + n) * z' ≤ es0.length * z' := Nat.mul_le_mul_right z' hon
          rw [Nat.add_mul] at this; omega
        have hcell : ∀ k, k < n * z' → w.cell? (ad.add k) = some (arr.getD (o * z' + k) undef) := fun k hk => by
          have hn0 : 0 < n := by
            rcases Nat.eq_zero_or_pos n with h0 | h0
            · subst h0; simp at hk
            · exact h0
          rw [ha (by omega), addr_add]
          exact cell_at h1 (by omega)
        rw [hlen]
        refine ⟨rfl, ((List.range (n * z')).map fun k => arr.getD (o * z' + k) undef).toArray, run_loadCells (P := P) w ad _ _ hcell, by simp, fun x hx' => h3.1 x (List.mem_of_mem_drop (List.mem_of_mem_take hx')), fun i x j c hi hj => ?_⟩
        rw [List.getElem?_take] at hi
        split at hi
        · rename_i hin
          rw [List.getElem?_drop] at hi
          have hjz : j < z' := by rw [← (h3.1 x (List.mem_of_getElem? hi)).1]; exact (List.getElem?_eq_some_iff.1 hj).1
          have hk : i * z' + j < n * z' := mul_lt_of hin hjz
          have := h3.2 (o + i) x j c hi hj
          rw [Nat.zero_add, Nat.add_mul, Nat.add_assoc] at this
          have he : (((List.range (n * z')).map fun k => arr.getD (o * z' + k) undef).toArray).getD (0 + (i * z' + j)) undef = arr.getD (o * z' + (i * z' + j)) undef := by
            rw [Nat.zero_add]
            simp [Array.getD_eq_getD_getElem?, List.getElem?_toArray, List.getElem?_range hk]
          rw [he]
          exact this
        · cases hi
      · cases h
    · cases h

theorem bytes_of : ∀ {es : List AV} {l : List UInt8}, es.mapM AV.byte? = some l → ∃ ns : List Int, ns.length = es.length ∧ l = ns.map (fun n => UInt8.ofNat n.toNat) ∧ ∀ (i : Nat) (n : Int), ns[i]? = some n → es[i]? = some (.int .u8 n) := by
  intro es
  induction es with
  | nil => intro l h; simp at h; subst h; exact ⟨[], rfl, rfl, fun i n h => by simp at h⟩
  | cons x es ih =>
    intro l h
    simp only [List.mapM_cons] at h
    obtain ⟨b, hb, h⟩ := bindO h
    obtain ⟨bs, hbs, h⟩ := bindO h
    simp at h; subst h
    obtain ⟨ns, h1, h2, h3⟩ := ih hbs
    unfold AV.byte? at hb
    split at hb
    · rename_i n
      cases hb
      refine ⟨n :: ns, by simp [h1], by simp [h2], fun i m hi => ?_⟩
      cases i with
      | zero => simp at hi; subst hi; rfl
      | succ i => simpa using h3 i m (by simpa using hi)
    · cases hb

theorem r_bytesStr {pc : Nat → List AV → Heap → Option AV} {src dst et : TypeId} (h1 : P.underlying src = some (.slice et)) (h2 : P.underlying dst = some .string) (h3 : P.underlying et = some (.int .u8)) {x : Opd} {u : Value}
    (hS : Sim ρ H w) (hx : VR (cx ρ H w) (x.ev e) u) {v : AV} (hv : rop pc e H (.bytesStr x) = some v) : PuS P (cx ρ H w) w (convert src dst u) v := by
  simp only [rop] at hv
  generalize x.ev e = y at hx hv
  split at hv
  · cases hv
  · rename_i hns
    split at hv
    · rename_i hz
      simp only [Option.bind_eq_some_iff, Option.map_eq_some_iff] at hv
      obtain ⟨es, hes, l, hl, rfl⟩ := hv
      obtain ⟨k1, arr, k2, k3, k4⟩ := src_ok (P := P) hS hx hz (by omega) hes
      obtain ⟨ns, n1, n2, n3⟩ := bytes_of hl
      have harr : arr = (ns.map (Value.int .u8)).toArray := by
        apply Array.ext_getElem?
        intro i
        by_cases hi : i < es.length
        · have hni : i < ns.length := by omega
          have he := n3 i ns[i] (List.getElem?_eq_getElem hni)
          have := (k4.2 i _ 0 _ he rfl).1
          have hlt : i < arr.size := by rw [k3]; omega
          rw [Nat.zero_add] at this
          simp only [Nat.mul_one, Nat.add_zero] at this
          have hg := getD_some hlt
          generalize arr.getD i undef = q at this hg
          cases this
          rw [hg]
          simp [hni]
        · rw [Array.getElem?_eq_none (by omega)]
          simp [n1, hi]
      cases hx <;> simp only [srcE] at hes <;> first | (cases hes; done) | skip
      · exact absurd rfl (hns _)
      · cases hes
        simp at n1
        subst n1
        refine ⟨.string ByteArray.empty, run_convert_bytes_nil w src et h1 h3 0 0 dst h2, ?_⟩
        rw [n2]
        exact .str []
      all_goals
        refine ⟨.string ⟨l.toArray⟩, ?_, .str l⟩
        rw [run_convert_bytes_string w src dst et _ _ _ h1 h3 h2]
        have hlen : (Builtin.lenOf (Value.slice (some _) _ _)).run P w = .ok es.length w := k1
        simp only [Builtin.lenOf, Sem.run_pure, Result.ok.injEq, and_true] at hlen
        rw [hlen]
        rw [harr] at k2
        simp only [Builtin.firstCells, Nat.mul_one] at k2
        rw [run_bytesToString w _ es.length _ ns (by simpa using k2), foldl_push_bytes]
        simp [n2, ByteArray.empty, ByteArray.emptyWithCapacity]
        rfl
    · cases hv

end
end Go.Vx
