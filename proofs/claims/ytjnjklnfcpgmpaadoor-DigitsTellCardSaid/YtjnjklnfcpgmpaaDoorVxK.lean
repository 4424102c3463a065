/- V: a law's arguments as values; a law is closed. -/
import Derived.Test.YtjnjklnfcpgmpaaDoorVxJ
import Derived.ProofKit
set_option linter.unusedVariables false
set_option linter.unusedSimpArgs false
namespace Go.Vx

theorem Tr.below {fl : Nat} {ρ ρ' : Nat → Nat} {w w' : World} {H' : Heap} (h : Tr fl ρ [] w ρ' H' w') : Go.RowKit.Below w.heap.size w w' :=
  ⟨h.os, h.tape, h.output, h.size, fun k hk => (h.out k hk (fun ⟨b, ⟨o, ho, _⟩, _⟩ => by simp at ho)).1⟩

theorem sim_nil (ρ : Nat → Nat) (w : World) : Sim ρ [] w := ⟨fun b o h => by simp at h, fun b _ ⟨o, ho, _⟩ => by simp at ho, fun b ⟨o, ho, _⟩ => by simp at ho⟩

theorem not_inR_nil {ρ : Nat → Nat} {r : Nat} : ¬ inR ρ [] r := fun ⟨b, ⟨o, ho, _⟩, _⟩ => by simp at ho

mutual
/-- A value of V's of a type: what an argument reads as. -/
inductive Ty (P : Program) : TypeId → AV → Prop
  | bool {t : TypeId} (b : Bool) (h : P.underlying t = some .bool) : Ty P t (.bool b)
  | int {t : TypeId} (k : IntKind) (n : Int) (h : P.underlying t = some (.int k)) (hw : (Lit.int k n).wf = true) : Ty P t (.int k n)
  | str {t : TypeId} (s : List UInt8) (h : P.underlying t = some .string) (hl : s.length ≤ maxLen) : Ty P t (.str s)
  | nilsl {t e : TypeId} (h : P.underlying t = some (.slice e)) : Ty P t .nilsl
  | sl {t e : TypeId} (es : List AV) (h : P.underlying t = some (.slice e)) (hl : es.length ≤ maxLen) (he : ∀ x ∈ es, Ty P e x) : Ty P t (.sl (P.cellsOf e) false es)
  | agg {t : TypeId} {fs : Array Field} (cs : List AV) (h : P.underlying t = some (.struct fs)) (hc : TyL P fs.toList cs) : Ty P t (.agg cs)
inductive TyL (P : Program) : List Field → List AV → Prop
  | nil : TyL P [] []
  | cons {f : Field} {fs : List Field} {x : AV} {cs : List AV} (h : Ty P f.type x) (hs : TyL P fs cs) : TyL P (f :: fs) (x.cells ++ cs)
end

def contigs (P : Program) (plain : TypeId → Bool) : Nat → List Field → Nat → Bool
  | off, [], total => off == total
  | off, f :: fs, total => f.offset == off && plain f.type && contigs P plain (off + P.cellsOf f.type) fs total

/-- Types whose values V takes for arguments. -/
def plainT (P : Program) : Nat → TypeId → Bool
  | 0, _ => false
  | n + 1, t => match P.underlying t with
    | some .bool | some (.int _) | some .string => true
    | some (.slice e) => plainT P n e && decide (0 < P.cellsOf e)
    | some (.struct fs) => contigs P (plainT P n) 0 fs.toList (P.cellsOf t)
    | _ => false

/-- Cells that stand for a value's. -/
def Cls (C : Cx) (x : AV) (cs : List Value) : Prop := x.isTup = false ∧ x.cells.length = cs.length ∧ ∀ j c, x.cells[j]? = some c → VR C c (cs.getD j undef) ∧ one (cs.getD j undef)

theorem Cls.one {C : Cx} {x : AV} {u : Value} (h : VR C x u) (ha : x.isAgg = false) (ht : x.isTup = false) : Cls C x [u] := by
  have hc : x.cells = [x] := by cases x <;> first | rfl | simp [AV.isAgg] at ha
  refine ⟨ht, by rw [hc]; rfl, fun j c hj => ?_⟩
  rw [hc] at hj
  match j with
  | 0 => simp at hj; subst hj; exact ⟨h, h.one_of ha ht⟩
  | j + 1 => simp at hj

theorem choose_list {p : Nat → AV → Prop} : ∀ n : Nat, (∀ i, i < n → ∃ x, p i x) → ∃ l : List AV, l.length = n ∧ ∀ i x, l[i]? = some x → p i x := by
  intro n
  induction n with
  | zero => intro _; exact ⟨[], rfl, fun i x h => by simp at h⟩
  | succ n ih =>
    intro h
    obtain ⟨l, h1, h2⟩ := ih (fun i hi => h i (by omega))
    obtain ⟨x, hx⟩ := h n (by omega)
    refine ⟨l ++ [x], by simp [h1], fun i y hy => ?_⟩
    rcases Nat.lt_or_ge i n with hlt | hge
    · rw [List.getElem?_append_left (by omega)] at hy; exact h2 i y hy
    · rw [List.getElem?_append_right (by omega), h1] at hy
      have : i - n = 0 := by
        have := (List.getElem?_eq_some_iff.1 hy).1
        simp at this; omega
      rw [this] at hy
      simp at hy
      subst hy
      obtain rfl : i = n := by omega
      exact hx

section
variable {H : Type} {enc : TypeId × Value → H} {P : Program} {w : World} {spare : Nat → Bool} {held : Bool} {ρ : Nat → Nat}

theorem cells?_some {a : Addr} {n : Nat} {cs : List Value} (h : w.cells? 0 a n = some cs) : cs.length = n ∧ ∀ j, j < n → w.cell? (a.add j) = some (cs.getD j undef) := by
  unfold World.cells? at h
  rw [if_pos (Nat.zero_le _)] at h
  obtain ⟨h1, h2⟩ := mapM_some h
  refine ⟨by simpa using h1, fun j hj => ?_⟩
  have hl : j < cs.length := by rw [h1]; simpa using hj
  obtain ⟨i, hi, hc⟩ := h2 j cs[j] (by simp)
  have hij : i = j := by rw [List.getElem?_range hj] at hi; simpa using hi.symm
  subst hij
  rw [hc, List.getD_eq_getElem?_getD, List.getElem?_eq_getElem hl]; rfl

theorem open_cells : ∀ (n : Nat) (t : TypeId), plainT P n t = true → ∀ (fuel : Nat) (cs : List Value) (d : DataW H) (ps : List MemPlace), DataW.trod enc P w 0 spare held fuel t cs = some (d, ps) →
    ∃ x, Ty P t x ∧ Cls (cx ρ [] w) x cs := by
  intro n
  induction n with
  | zero => intro t h; simp [plainT] at h
  | succ n ih =>
    intro t hp fuel cs d ps h
    cases fuel with
    | zero => simp [DataW.trod] at h
    | succ fuel =>
    have hst : ∀ (a : Addr) (u : Value), w.cell? a = some u → (cx ρ [] w).st a u := fun a u hu => ⟨hu, not_inR_nil⟩
    simp only [plainT] at hp
    split at hp
    · rename_i hu
      unfold DataW.trod at h
      rw [hu] at h
      split at h <;> rename_i heq <;> try (cases heq; done)
      · exact ⟨.bool _, .bool _ hu, Cls.one (.bool _) rfl rfl⟩
      all_goals cases h
    · rename_i k hu
      unfold DataW.trod at h
      rw [hu] at h
      split at h <;> rename_i heq <;> try (cases heq; done)
      · cases heq
        split at h
        · rename_i hk
          obtain ⟨rfl, hk⟩ := hk
          exact ⟨.int _ _, .int _ _ hu hk, Cls.one (.int _ _) rfl rfl⟩
        · cases h
      all_goals cases h
    · rename_i hu
      unfold DataW.trod at h
      rw [hu] at h
      split at h <;> rename_i heq <;> try (cases heq; done)
      · split at h
        · rename_i s hs
          refine ⟨.str s.data.toList, .str _ hu (by simpa using hs), Cls.one ?_ rfl rfl⟩
          have := VR.str (C := cx ρ [] w) s.data.toList
          simpa using this
        · cases h
      all_goals cases h
    · rename_i e hu
      simp only [Bool.and_eq_true, decide_eq_true_eq] at hp
      obtain ⟨hp, hz⟩ := hp
      unfold DataW.trod at h
      rw [hu] at h
      split at h <;> rename_i heq <;> try (cases heq; done)
      · exact ⟨.nilsl, .nilsl hu, Cls.one .nilsl rfl rfl⟩
      · rename_i a len cap
        cases heq
        dsimp only at h
        split at h
        · rename_i hc
          obtain ⟨_, hc1, hc2⟩ := hc
          simp only [Option.bind_eq_some_iff] at h
          obtain ⟨elems, hel, _⟩ := h
          obtain ⟨h1, h2⟩ := mapM_some hel
          have each : ∀ i, i < len → ∃ x, Ty P e x ∧ ∃ csi, w.cells? 0 (a.add (i * P.cellsOf e)) (P.cellsOf e) = some csi ∧ Cls (cx ρ [] w) x csi := fun i hi => by
            have hl : i < elems.length := by rw [h1]; simpa using hi
            obtain ⟨i', hi', hx⟩ := h2 i elems[i] (by simp)
            have hii : i' = i := by rw [List.getElem?_range hi] at hi'; simpa using hi'.symm
            subst hii
            simp only [Option.bind_eq_some_iff] at hx
            obtain ⟨csi, hci, htr⟩ := hx
            obtain ⟨x, hx1, hx2⟩ := ih e hp fuel csi _ _ htr
            exact ⟨x, hx1, csi, hci, hx2⟩
          obtain ⟨es, k1, k2⟩ := choose_list (p := fun i x => Ty P e x ∧ ∃ csi, w.cells? 0 (a.add (i * P.cellsOf e)) (P.cellsOf e) = some csi ∧ Cls (cx ρ [] w) x csi) len each
          have mem : ∀ x ∈ es, Ty P e x ∧ x.cells.length = P.cellsOf e ∧ x.isTup = false := fun x hx => by
            obtain ⟨i, hi⟩ := List.getElem?_of_mem hx
            obtain ⟨q1, csi, q2, q3⟩ := k2 i x hi
            exact ⟨q1, q3.2.1.trans (cells?_some q2).1, q3.1⟩
          have cell : ∀ i x j c, es[i]? = some x → x.cells[j]? = some c → ∃ u, w.cell? (a.add (i * P.cellsOf e + j)) = some u ∧ VR (cx ρ [] w) c u ∧ one u := fun i x j c hi hj => by
            obtain ⟨q1, csi, q2, q3⟩ := k2 i x hi
            obtain ⟨r1, r2⟩ := cells?_some q2
            have hjl : j < P.cellsOf e := by rw [← r1, ← q3.2.1]; exact (List.getElem?_eq_some_iff.1 hj).1
            have r3 := r2 j hjl
            rw [add_add] at r3
            exact ⟨_, r3, (q3.2.2 j c hj).1, (q3.2.2 j c hj).2⟩
          have pick : ∀ i x j c, es[i]? = some x → x.cells[j]? = some c → w.cell? (a.add (i * P.cellsOf e + j)) = some ((w.cell? (a.add (i * P.cellsOf e + j))).getD undef) ∧ VR (cx ρ [] w) c ((w.cell? (a.add (i * P.cellsOf e + j))).getD undef) ∧ one ((w.cell? (a.add (i * P.cellsOf e + j))).getD undef) := fun i x j c hi hj => by
            obtain ⟨u, u1, u2, u3⟩ := cell i x j c hi hj
            rw [u1]; exact ⟨rfl, u2, u3⟩
          refine ⟨.sl (P.cellsOf e) false es, .sl es hu (by rw [k1]; omega) (fun x hx => (mem x hx).1), Cls.one ?_ rfl rfl⟩
          rw [← k1]
          exact .sl _ false es a cap (fun i j => (w.cell? (a.add (i * P.cellsOf e + j))).getD undef) (by omega) (fun h => by cases h) (fun x hx => (mem x hx).2)
            (fun i x j c hi hj => hst _ _ (pick i x j c hi hj).1) (fun i x j c hi hj => (pick i x j c hi hj).2.2) (fun i x j c hi hj => (pick i x j c hi hj).2.1)
        · cases h
      all_goals cases h
    · rename_i fs hu
      unfold DataW.trod at h
      rw [hu] at h
      dsimp only at h
      · split at h
        · rename_i hlen
          simp only [Option.map_eq_some_iff] at h
          obtain ⟨xs, hxs, _⟩ := h
          have key : ∀ (l : List Field) (off : Nat) (xs : List (DataW H × List MemPlace)), contigs P (plainT P n) off l (P.cellsOf t) = true → l.mapM (fun f => DataW.trod enc P w 0 spare held fuel f.type ((cs.drop f.offset).take (P.cellsOf f.type))) = some xs →
              ∃ ys, TyL P l ys ∧ ys.length + off = P.cellsOf t ∧ ∀ j c, ys[j]? = some c → VR (cx ρ [] w) c (cs.getD (off + j) undef) ∧ one (cs.getD (off + j) undef) := by
            intro l
            induction l with
            | nil =>
              intro off xs hc _
              simp only [contigs, beq_iff_eq] at hc
              exact ⟨[], .nil, by simpa using hc, fun j c hj => by simp at hj⟩
            | cons f l ihl =>
              intro off xs hc hm
              simp only [contigs, Bool.and_eq_true, beq_iff_eq] at hc
              obtain ⟨⟨hoff, hpf⟩, hrest⟩ := hc
              simp only [List.mapM_cons, Option.bind_eq_bind, Option.bind_eq_some_iff, Option.pure_def, Option.some.injEq] at hm
              obtain ⟨⟨d1, p1⟩, hd1, xs1, hx1, rfl⟩ := hm
              obtain ⟨x, hx, hcl⟩ := ih f.type hpf fuel _ _ _ hd1
              obtain ⟨ys, hy, hyl, hyc⟩ := ihl _ _ hrest hx1
              have hle : off + P.cellsOf f.type ≤ cs.length := by rw [hlen]; omega
              have hxl : x.cells.length = P.cellsOf f.type := by
                rw [hcl.2.1, List.length_take, List.length_drop, hoff]; omega
              refine ⟨x.cells ++ ys, .cons hx hy, by rw [List.length_append, hxl]; omega, fun j c hj => ?_⟩
              rcases Nat.lt_or_ge j x.cells.length with hlt | hge
              · rw [List.getElem?_append_left hlt] at hj
                have := hcl.2.2 j c hj
                have e1 : ((cs.drop f.offset).take (P.cellsOf f.type)).getD j undef = cs.getD (off + j) undef := by
                  rw [List.getD_eq_getElem?_getD, List.getElem?_take_of_lt (by omega), List.getElem?_drop, hoff, List.getD_eq_getElem?_getD]
                rw [e1] at this
                exact this
              · rw [List.getElem?_append_right hge] at hj
                have := hyc _ c hj
                have e2 : off + P.cellsOf f.type + (j - x.cells.length) = off + j := by omega
                rw [e2] at this
                exact this
          obtain ⟨ys, hy, hyl, hyc⟩ := key fs.toList 0 xs hp hxs
          refine ⟨.agg ys, .agg ys hu hy, rfl, by show ys.length = cs.length; omega, fun j c hj => ?_⟩
          have := hyc j c hj
          rw [Nat.zero_add] at this
          exact this
        · cases h
    · cases hp

theorem open_arg {n : Nat} {t : TypeId} (hp : plainT P n t = true) {v : Value} {d : DataW H} {ps : List MemPlace} (ha : (∃ fs, P.underlying t = some (.struct fs) ∧ ∃ cs, v = .agg cs) ∨ ((∀ fs, P.underlying t ≠ some (.struct fs)) ∧ v.cells = #[v]))
    (h : DataW.Trod enc P w 0 spare held t v d ps) : ∃ x, Ty P t x ∧ VR (cx ρ [] w) x v := by
  obtain ⟨fuel, h⟩ := h
  obtain ⟨x, h1, h2⟩ := open_cells (ρ := ρ) n t hp fuel _ _ _ h
  refine ⟨x, h1, ?_⟩
  rcases ha with ⟨fs, hu, cs, rfl⟩ | ⟨hns, hv⟩
  · cases h1 with
    | agg ys hu' hc =>
      refine .agg ys cs h2.2.1.symm (fun j c hj => ?_) (fun j c hj => ?_)
      · have := (h2.2.2 j c hj).2
        simpa [Value.cells, Array.getD_eq_getD_getElem?, List.getD_eq_getElem?_getD] using this
      · have := (h2.2.2 j c hj).1
        simpa [Value.cells, Array.getD_eq_getD_getElem?, List.getD_eq_getElem?_getD] using this
    | bool b h => rw [hu] at h; cases h
    | int k n h hw => rw [hu] at h; cases h
    | str s h hl => rw [hu] at h; cases h
    | nilsl h => rw [hu] at h; cases h
    | sl es h hl he => rw [hu] at h; cases h
  · rw [hv] at h2
    have hc : x.cells = [x] := by
      cases h1 with
      | agg ys hu' hc => exact absurd hu' (hns _)
      | bool b h => rfl
      | int k n h hw => rfl
      | str s h hl => rfl
      | nilsl h => rfl
      | sl es h hl he => rfl
    have := (h2.2.2 0 x (by rw [hc]; rfl)).1
    simpa using this
end
end Go.Vx
