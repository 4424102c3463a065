/- V: what its values and objects are in the machine's world; that this stays as the world grows. -/
import Derived.Test.YtjnjklnfcpgmpaaDoorVxDefs
import Derived.Laws.World
import Derived.Laws.Append
set_option linter.unusedVariables false
namespace Go.Vx

/-- What a relation hangs on: where V's objects lie; how many there are; which cells stay for good; which blocks have so many cells. -/
structure Cx where
  ρ : Nat → Nat
  n : Nat
  st : Addr → Value → Prop
  bs : Nat → Nat → Prop
  ob : Nat → Obj → Prop

def one (v : Value) : Prop := v.oneCell' = true

inductive VR (C : Cx) : AV → Value → Prop
  | bool (b : Bool) : VR C (.bool b) (.bool b)
  | int (k : IntKind) (n : Int) : VR C (.int k n) (.int k n)
  | str (l : List UInt8) : VR C (.str l) (.string ⟨l.toArray⟩)
  | nilp : VR C .nilp (.pointer none)
  | ptr (b o : Nat) (h : b < C.n) : VR C (.ptr b o) (.pointer (some ⟨C.ρ b, o, none⟩))
  | eptr (b z o : Nat) (h : b < C.n) : VR C (.eptr b z o) (.pointer (some ⟨C.ρ b, o, none⟩))
  | dptr (cs : List AV) (a : Addr) (g : Nat → Value) (hs : ∀ j c, cs[j]? = some c → C.st (a.add j) (g j)) (h1 : ∀ j c, cs[j]? = some c → one (g j))
      (hv : ∀ j c, cs[j]? = some c → VR C c (g j)) : VR C (.dptr cs) (.pointer (some a))
  | nilsl : VR C .nilsl (.slice none 0 0)
  | sl (z : Nat) (full : Bool) (es : List AV) (a : Addr) (cap : Nat) (g : Nat → Nat → Value) (hc : es.length ≤ cap) (hf : full = true → cap = es.length)
      (hz : ∀ e ∈ es, e.cells.length = z ∧ e.isTup = false)
      (hs : ∀ i e j c, es[i]? = some e → e.cells[j]? = some c → C.st (a.add (i * z + j)) (g i j)) (h1 : ∀ i e j c, es[i]? = some e → e.cells[j]? = some c → one (g i j))
      (hv : ∀ i e j c, es[i]? = some e → e.cells[j]? = some c → VR C c (g i j)) : VR C (.sl z full es) (.slice (some a) es.length cap)
  | rsl (b z o m : Nat) (c : Option Nat) (a : Addr) (cap : Nat) (h : b < C.n) (hm : m ≤ cap) (hc : ∀ k, c = some k → cap = k) (ha : 0 < cap → a = ⟨C.ρ b, o * z, none⟩)
      (hb : C.bs (C.ρ b) ((o + cap) * z)) : VR C (.rsl b z o m c) (.slice (some a) m cap)
  | fn (f : Nat) (as bs : List AV) (vs ws : Array Value) (h1 : vs.size = as.length) (h2 : ws.size = bs.length)
      (ha : ∀ j c, as[j]? = some c → VR C c (vs.getD j undef)) (hb : ∀ j c, bs[j]? = some c → VR C c (ws.getD j undef)) : VR C (.fn f as bs) (.func (.func f) vs ws)
  | nilfn : VR C .nilfn .nilFunc
  | agg (cs : List AV) (vs : Array Value) (h : vs.size = cs.length) (h1 : ∀ j c, cs[j]? = some c → one (vs.getD j undef)) (hv : ∀ j c, cs[j]? = some c → VR C c (vs.getD j undef)) : VR C (.agg cs) (.agg vs)
  | tup (cs : List AV) (vs : Array Value) (h : vs.size = cs.length) (hv : ∀ j c, cs[j]? = some c → VR C c (vs.getD j undef)) : VR C (.tup cs) (.tuple vs)

theorem vr_undef (C : Cx) : VR C undefV undef := .tup [] #[] rfl (fun j c h => by simp at h)

/-- One relation tells more than another. -/
structure Cx.le (C D : Cx) : Prop where
  n : C.n ≤ D.n
  ρ : ∀ b, b < C.n → D.ρ b = C.ρ b
  st : ∀ a v, C.st a v → D.st a v
  bs : ∀ r k, C.bs r k → D.bs r k
  ob : ∀ r o, C.ob r o → D.ob r o

theorem VR.mono {C D : Cx} (h : C.le D) {x : AV} {v : Value} (hv : VR C x v) : VR D x v := by
  induction hv with
  | bool b => exact .bool b
  | int k n => exact .int k n
  | str l => exact .str l
  | nilp => exact .nilp
  | ptr b o hb => rw [← h.ρ b hb]; exact .ptr b o (Nat.lt_of_lt_of_le hb h.n)
  | eptr b z o hb => rw [← h.ρ b hb]; exact .eptr b z o (Nat.lt_of_lt_of_le hb h.n)
  | dptr cs a g hs h1 _ ih => exact .dptr cs a g (fun j c hj => h.st _ _ (hs j c hj)) h1 ih
  | nilsl => exact .nilsl
  | sl z full es a cap g hc hf hz hs h1 _ ih => exact .sl z full es a cap g hc hf hz (fun i e j c he hj => h.st _ _ (hs i e j c he hj)) h1 ih
  | rsl b z o m c a cap hb hm hc ha hbs =>
    refine .rsl b z o m c a cap (Nat.lt_of_lt_of_le hb h.n) hm hc (fun hp => ?_) ?_
    · rw [h.ρ b hb]; exact ha hp
    · rw [h.ρ b hb]; exact h.bs _ _ hbs
  | fn f as bs vs ws h1 h2 _ _ iha ihb => exact .fn f as bs vs ws h1 h2 iha ihb
  | nilfn => exact .nilfn
  | agg cs vs hs h1 _ ih => exact .agg cs vs hs h1 ih
  | tup cs vs hs _ ih => exact .tup cs vs hs ih

/-- The machine's block of an object. -/
def nofreeze (arr : Array Value) (fr : Nat × Nat) : Prop := fr.1 = fr.2 ∨ (arr.size ≤ fr.1 ∧ fr.1 < fr.2)
theorem nofreeze.at {arr : Array Value} {fr : Nat × Nat} (h : nofreeze arr fr) : ∀ off, off < arr.size → (decide (fr.1 ≤ off) && decide (off < fr.2)) = false := fun off ho => by
  simp only [Bool.and_eq_false_imp, decide_eq_true_eq, decide_eq_false_iff_not]
  unfold nofreeze at h
  omega
theorem nofreeze.sz {arr arr' : Array Value} {fr : Nat × Nat} (h : nofreeze arr fr) (hs : arr'.size = arr.size) : nofreeze arr' fr := by
  unfold nofreeze at *
  omega

inductive OR (C : Cx) (w : World) : AO → Nat → Prop
  | box (cs : List AV) (r : Nat) (arr : Array Value) (t : TypeId) (fr : Nat × Nat) (hb : w.heap[r]? = some (.cells arr t fr)) (hs : arr.size = cs.length) (hf : nofreeze arr fr)
      (h1 : ∀ j c, cs[j]? = some c → one (arr.getD j undef)) (hv : ∀ j c, cs[j]? = some c → VR C c (arr.getD j undef)) : OR C w (.box cs) r
  | row (z : Nat) (es : List AV) (r : Nat) (arr : Array Value) (t : TypeId) (fr : Nat × Nat) (hb : w.heap[r]? = some (.cells arr t fr)) (hs : es.length * z ≤ arr.size) (hf : nofreeze arr fr)
      (hz : ∀ e ∈ es, e.cells.length = z ∧ e.isTup = false)
      (h1 : ∀ i e j c, es[i]? = some e → e.cells[j]? = some c → one (arr.getD (i * z + j) undef))
      (hv : ∀ i e j c, es[i]? = some e → e.cells[j]? = some c → VR C c (arr.getD (i * z + j) undef)) : OR C w (.row z es) r
  | dead (r : Nat) : OR C w .dead r

theorem OR.mono {C D : Cx} {w w' : World} (h : C.le D) {o : AO} {r : Nat} (ho : OR C w o r) (hb : w'.heap[r]? = w.heap[r]?) : OR D w' o r := by
  cases ho with
  | box cs r arr t fr h0 hs hf h1 hv => exact .box cs r arr t fr (hb.trans h0) hs hf h1 (fun j c hj => (hv j c hj).mono h)
  | row z es r arr t fr h0 hs hf hz h1 hv => exact .row z es r arr t fr (hb.trans h0) hs hf hz h1 (fun i e j c he hj => (hv i e j c he hj).mono h)
  | dead r => exact .dead r

def live (H : Heap) (b : Nat) : Prop := ∃ o, H[b]? = some o ∧ o.isDead = false
/-- A block in which one of V's objects lies. -/
def inR (ρ : Nat → Nat) (H : Heap) (r : Nat) : Prop := ∃ b, live H b ∧ ρ b = r

def cx (ρ : Nat → Nat) (H : Heap) (w : World) : Cx where
  ρ := ρ
  n := H.length
  st := fun a v => w.cell? a = some v ∧ ¬ inR ρ H a.block
  bs := fun r k => ∃ (arr : Array Value) (t : TypeId) (fr : Nat × Nat), w.heap[r]? = some (Obj.cells arr t fr) ∧ k ≤ arr.size
  ob := fun r o => w.heap[r]? = some o ∧ ¬ inR ρ H r

/-- The state of V and the machine's world: each object lies in a block of its own. -/
structure Sim (ρ : Nat → Nat) (H : Heap) (w : World) : Prop where
  obj : ∀ b o, H[b]? = some o → OR (cx ρ H w) w o (ρ b)
  inj : ∀ b b', live H b → live H b' → ρ b = ρ b' → b = b'
  lt : ∀ b, live H b → ρ b < w.heap.size

/-- From one state to a later one; below 'fl' nothing is written. -/
structure Tr (fl : Nat) (ρ : Nat → Nat) (H : Heap) (w : World) (ρ' : Nat → Nat) (H' : Heap) (w' : World) : Prop where
  os : w'.os = w.os
  tape : w'.tape = w.tape
  output : w'.output = w.output
  size : w.heap.size ≤ w'.heap.size
  len : H.length ≤ H'.length
  rho : ∀ b, b < H.length → ρ' b = ρ b
  out : ∀ r, r < w.heap.size → ¬ inR ρ H r → w'.heap[r]? = w.heap[r]? ∧ ¬ inR ρ' H' r
  bsz : ∀ (r : Nat) (arr : Array Value) (t : TypeId) (fr : Nat × Nat), w.heap[r]? = some (Obj.cells arr t fr) → ∃ (arr' : Array Value) (t' : TypeId) (fr' : Nat × Nat), w'.heap[r]? = some (Obj.cells arr' t' fr') ∧ arr.size ≤ arr'.size
  low : ∀ b, b < fl → b < H.length → H'[b]? = H[b]? ∧ (live H b → w'.heap[ρ b]? = w.heap[ρ b]?)

theorem Tr.refl (fl : Nat) (ρ : Nat → Nat) (H : Heap) (w : World) : Tr fl ρ H w ρ H w :=
  ⟨rfl, rfl, rfl, Nat.le_refl _, Nat.le_refl _, fun _ _ => rfl, fun _ _ h => ⟨rfl, h⟩, fun r arr t fr h => ⟨arr, t, fr, h, Nat.le_refl _⟩, fun _ _ _ => ⟨rfl, fun _ => rfl⟩⟩

theorem Tr.trans {fl : Nat} {ρ ρ' ρ'' : Nat → Nat} {H H' H'' : Heap} {w w' w'' : World} (h : Tr fl ρ H w ρ' H' w') (k : Tr fl ρ' H' w' ρ'' H'' w'') : Tr fl ρ H w ρ'' H'' w'' where
  os := k.os.trans h.os
  tape := k.tape.trans h.tape
  output := k.output.trans h.output
  size := Nat.le_trans h.size k.size
  len := Nat.le_trans h.len k.len
  rho := fun b hb => (k.rho b (Nat.lt_of_lt_of_le hb h.len)).trans (h.rho b hb)
  out := fun r hr hn => by
    obtain ⟨h1, h2⟩ := h.out r hr hn
    obtain ⟨k1, k2⟩ := k.out r (Nat.lt_of_lt_of_le hr h.size) h2
    exact ⟨k1.trans h1, k2⟩
  bsz := fun r arr t fr hr => by
    obtain ⟨arr', t', fr', h1, h2⟩ := h.bsz r arr t fr hr
    obtain ⟨arr'', t'', fr'', k1, k2⟩ := k.bsz r arr' t' fr' h1
    exact ⟨arr'', t'', fr'', k1, Nat.le_trans h2 k2⟩
  low := fun b hb hl => by
    obtain ⟨h1, h2⟩ := h.low b hb hl
    obtain ⟨k1, k2⟩ := k.low b hb (Nat.lt_of_lt_of_le hl h.len)
    refine ⟨k1.trans h1, fun hv => ?_⟩
    have hv' : live H' b := by obtain ⟨o, ho, hd⟩ := hv; exact ⟨o, h1.trans ho, hd⟩
    have := k2 hv'
    rw [h.rho b hl] at this
    exact this.trans (h2 hv)

theorem Tr.mono {fl fl' : Nat} {ρ ρ' : Nat → Nat} {H H' : Heap} {w w' : World} (h : Tr fl ρ H w ρ' H' w') (hf : fl' ≤ fl) : Tr fl' ρ H w ρ' H' w' :=
  { h with low := fun b hb => h.low b (Nat.lt_of_lt_of_le hb hf) }

theorem cell?_lt {w : World} {a : Addr} {v : Value} (h : w.cell? a = some v) : a.block < w.heap.size := World.block_lt_of_cell? w a h
theorem cell?_same {w w' : World} {a : Addr} (h : w'.heap[a.block]? = w.heap[a.block]?) : w'.cell? a = w.cell? a := by simp [World.cell?, h]

theorem Tr.le {fl : Nat} {ρ ρ' : Nat → Nat} {H H' : Heap} {w w' : World} (h : Tr fl ρ H w ρ' H' w') : (cx ρ H w).le (cx ρ' H' w') where
  n := h.len
  ρ := h.rho
  st := fun a v ⟨hc, hn⟩ => by
    obtain ⟨h1, h2⟩ := h.out _ (cell?_lt hc) hn
    exact ⟨(cell?_same h1).trans hc, h2⟩
  bs := fun r k ⟨arr, t, fr, hr, hk⟩ => by
    obtain ⟨arr', t', fr', h1, h2⟩ := h.bsz r arr t fr hr
    exact ⟨arr', t', fr', h1, Nat.le_trans hk h2⟩
  ob := fun r o ⟨hr, hn⟩ => by
    obtain ⟨h1, h2⟩ := h.out r (Array.getElem?_eq_some_iff.1 hr).1 hn
    exact ⟨h1.trans hr, h2⟩

theorem Tr.vr {fl : Nat} {ρ ρ' : Nat → Nat} {H H' : Heap} {w w' : World} (h : Tr fl ρ H w ρ' H' w') {x : AV} {v : Value} (hv : VR (cx ρ H w) x v) : VR (cx ρ' H' w') x v := hv.mono h.le

/-- Some draws. -/
theorem Tr.drawn (fl : Nat) (ρ : Nat → Nat) (H : Heap) (w : World) (d : Nat) : Tr fl ρ H w ρ H { w with drawn := d } :=
  ⟨rfl, rfl, rfl, Nat.le_refl _, Nat.le_refl _, fun _ _ => rfl, fun _ _ h => ⟨rfl, h⟩, fun r arr t fr h => ⟨arr, t, fr, h, Nat.le_refl _⟩, fun _ _ _ => ⟨rfl, fun _ => rfl⟩⟩
theorem Sim.drawn {ρ : Nat → Nat} {H : Heap} {w : World} (h : Sim ρ H w) (d : Nat) : Sim ρ H { w with drawn := d } :=
  ⟨fun b o hb => (h.obj b o hb).mono (Tr.drawn 0 ρ H w d).le rfl, h.inj, h.lt⟩

/-- The temporaries. -/
structure ER (G : Nat → Obj → Prop) (C : Cx) (e : Env) (a : Act) (nt : Nat) : Prop where
  size : nt ≤ a.tmps.size
  val : ∀ t, VR C (e t) (a.tmps.getD t undef)
  defers : a.defers = []
  gl : ∀ r o, G r o → C.ob r o

theorem ER.mono {G : Nat → Obj → Prop} {C D : Cx} (h : C.le D) {e : Env} {a : Act} {nt : Nat} (he : ER G C e a nt) : ER G D e a nt := ⟨he.size, fun t => (he.val t).mono h, he.defers, fun r o hx => h.ob _ _ (he.gl r o hx)⟩

theorem ER.put {G : Nat → Obj → Prop} {C : Cx} {e : Env} {a : Act} {nt : Nat} (he : ER G C e a nt) {d : Option Nat} (hd : ∀ t, d = some t → t < nt) {x : AV} {v : Value} (hv : VR C x v) : ER G C (upd e d x) (a.put d v) nt := by
  cases d with
  | none => exact he
  | some d =>
    have hlt := hd d rfl
    refine ⟨by simpa [Act.put] using he.size, fun t => ?_, by simpa [Act.put] using he.defers, he.gl⟩
    by_cases h : t = d
    · subst h
      have : t < a.tmps.size := Nat.lt_of_lt_of_le hlt he.size
      simp only [upd, Act.put, Nat.beq_refl, cond_true]
      simpa [Array.getD, this] using hv
    · have hb : Nat.beq t d = false := by cases hh : Nat.beq t d with
        | false => rfl
        | true => exact absurd (Nat.eq_of_beq_eq_true hh) h
      simp only [upd, hb, cond_false, Act.put]
      have := he.val t
      simp only [Array.getD_eq_getD_getElem?] at this ⊢
      rw [Array.getElem?_setIfInBounds_ne (Ne.symm h)]
      exact this

end Go.Vx
