/- V: a law that answers true. -/
import Derived.Test.YtjnjklnfcpgmpaaDoorVxK
set_option linter.unusedVariables false
set_option linter.unusedSimpArgs false
namespace Go.Vx
variable {G : Nat → Obj → Prop}
open Go.ChangeShapes Go.WideShapes Go.ChangeAt Go.RowKit

theorem VRL.nil {C : Cx} : VRL C [] #[] := ⟨rfl, fun j c h => by simp at h⟩
theorem VRL.push {C : Cx} {x : AV} {v : Value} {xs : List AV} {vs : Array Value} (h : VR C x v) (hs : VRL C xs vs) : VRL C (x :: xs) (#[v] ++ vs) := by
  have h1 : VRL C [x] #[v] := ⟨rfl, fun j c hj => by
    match j with
    | 0 => simp at hj; subst hj; exact h
    | j + 1 => simp at hj⟩
  exact h1.append hs

theorem open_any {H : Type} {enc : TypeId × Value → H} {P : Program} {w : World} {spare : Nat → Bool} {held : Bool} (ρ : Nat → Nat) {n : Nat} {t : TypeId} (hp : plainT P n t = true) {v : Value} {r : Reach} {base : Nat} (hv : Value.okWide P w r base t v) {d : DataW H} {ps : List MemPlace}
    (h : DataW.Trod enc P w 0 spare held t v d ps) : ∃ x, Ty P t x ∧ VR (cx ρ [] w) x v := by
  refine open_arg hp ?_ h
  cases n with
  | zero => simp [plainT] at hp
  | succ n =>
    simp only [plainT] at hp
    split at hp
    · rename_i hu
      obtain ⟨b, rfl⟩ := okWide_bool hu hv
      exact .inr ⟨fun fs h => (by rw [hu] at h; cases h), rfl⟩
    · rename_i k hu
      obtain ⟨b, rfl⟩ := okWide_int hu hv
      exact .inr ⟨fun fs h => (by rw [hu] at h; cases h), rfl⟩
    · rename_i hu
      obtain ⟨b, rfl⟩ := okWide_string hu hv
      exact .inr ⟨fun fs h => (by rw [hu] at h; cases h), rfl⟩
    · rename_i e hu
      obtain ⟨a, l, c, rfl⟩ := okWide_slice hu hv
      exact .inr ⟨fun fs h => (by rw [hu] at h; cases h), rfl⟩
    · rename_i fs hu
      obtain ⟨cs, rfl, _⟩ := okWide_struct hu hv
      exact .inl ⟨fs, hu, cs, rfl⟩
    · cases hp

/-- A law's call. -/
theorem law_calls {C : Checked} {F : Nat → VFn} (hF : Fits C.prog G F) {L d fl f : Nat} {fn : Func} {c : Code} (hf : C.prog.funcs[f]? = some fn) (hn : (fn.name == "runtime.NumGoroutine") = false) (hb : fn.body = some c)
    {args : List AV} {vs : Array Value} {ρ : Nat → Nat} {w : World} (hA : VRL (cx ρ [] w) args vs) {H' : Heap} (h : vcall F L d fl f args [] = some (.bool true, H')) (hg : ∀ r o, G r o → w.heap[r]? = some o) :
    Calls C.prog f vs w fun e W' => e = .returned (.bool true) ∧ Go.RowKit.Below w.heap.size w W' := by
  have hU := good hF C.mixed L d fl f args vs ρ [] w (.bool true) H' (sim_nil ρ w) (fun r o hx => ⟨hg r o hx, not_inR_nil⟩) hA h
  rcases hU with ⟨u, w', h1, _⟩ | ⟨_, h2⟩
  · rw [run_callFunc_code hf hn hb] at h1; cases h1
  · refine h2.mono fun e W' he => ?_
    cases e with
    | returned u =>
      obtain ⟨ρ', hT, _, hv⟩ := he
      cases hv
      exact ⟨rfl, hT.below⟩
    | panicked c => exact he.elim
    | outgrown => exact he.elim

/-- The row's last step: what was there stays, the answer is a bool. -/
theorem post_below {H : Type} {enc : TypeId × Value → H} {P : Program} {f : Func} {s : ChangeSpec} {apart fresh handsOn again : Bool} {W W' : World} {args : Array Value} {v : Value} {ds gs : List (DataW H)} {before pa pv : List MemPlace}
    (hW : DataW.Whole enc P f.params.toList s.vars apart W args.toList ds gs before)
    (hres : ∀ (b : Nat) (sp : Nat → Bool) (hd : Bool), DataW.TrodAll enc P W' b sp hd f.resultTypes.toList (v.resultList f.resultTypes.size) (s.fn H (ds ++ gs)).results [])
    (hargs : ∀ sp : Nat → Bool, (∀ p ∈ before, sp p.block = true) → DataW.TrodAll enc P W' 0 sp true f.params.toList args.toList (s.fn H (ds ++ gs)).args pa)
    (hvars : ∀ sp : Nat → Bool, (∀ p ∈ before, sp p.block = true) → DataW.TrodVars enc P W' sp s.vars (s.fn H (ds ++ gs)).vars pv)
    (hps : before = pa ++ pv) (hk : Go.RowKit.Below W.heap.size W W')
    (hok : ∀ (j : Nat) (t : TypeId) (r : Value), f.resultTypes[j]? = some t → (v.resultList f.resultTypes.size)[j]? = some r → Value.okWide P W' .any 0 t r) :
    s.post enc P f apart fresh handsOn again W args v W' := by
  have hold : ∀ p ∈ before, (fun b => decide (b < W.heap.size)) p.block = true := fun p hp => by simpa using hW.lt p hp
  refine ⟨ds, gs, before, [], pa, pv, hW, hres _ _ _, hargs _ hold, hvars _ hold, World.keptBut_mono (fun p hp => ⟨hp, ?_⟩) (hk.frame (· ∈ before)), fun _ => ?_⟩
  · rw [hps, List.mem_append] at hp
    exact Or.inr hp
  · have hlt := hW.lt
    obtain ⟨_, _, _, _, _, hz, hn⟩ := hW
    refine ⟨hok, _, _, ([] ++ pa) ++ pv, ⟨[] ++ pa, pv, trodAll_append (hargs _ (fun _ _ => rfl)) (hres _ _ _), hvars _ (fun _ _ => rfl), rfl, ?_, ?_⟩, ?_⟩
    · intro b off hp
      have hp' : MemPlace.cell b off ∈ before := by rw [hps]; simpa using hp
      rw [hk.frozen (p := ⟨b, off, none⟩) (hlt _ hp')]
      exact hz b off hp'
    · intro ha
      have := hn ha
      rw [hps] at this
      simpa using this
    · intro p hp _
      rw [hps]
      simpa using hp

/-- The arguments read as they did. -/
theorem args_back {H : Type} {enc : TypeId × Value → H} {P : Program} (hl : laidOutB P = true) {W W' : World} (hb : Go.RowKit.Below W.heap.size W W') : ∀ {ts : List TypeId} {vs : List Value} {ds : List (DataW H)} {ps : List MemPlace},
    (∀ t ∈ ts, P.readableRec t = true ∧ t < P.types.size) → DataW.TrodAll enc P W 0 (fun _ => true) true ts vs ds ps → (∀ x ∈ ps, x.block < W.heap.size) →
    ∀ sp : Nat → Bool, (∀ p ∈ ps, sp p.block = true) → DataW.TrodAll enc P W' 0 sp true ts vs ds ps := by
  intro ts
  induction ts with
  | nil =>
    intro vs ds ps _ h _ sp _
    cases vs <;> cases ds <;> simp [DataW.TrodAll] at h ⊢
    exact h
  | cons t ts ih =>
    intro vs ds ps ht h hlt sp hsp
    cases vs with
    | nil => simp [DataW.TrodAll] at h
    | cons v vs =>
      cases ds with
      | nil => simp [DataW.TrodAll] at h
      | cons d ds =>
        simp only [DataW.TrodAll] at h ⊢
        obtain ⟨p, q, h1, h2, rfl⟩ := h
        obtain ⟨r1, r2⟩ := ht t (by simp)
        refine ⟨p, q, ?_, ih (fun t' ht' => ht t' (by simp [ht'])) h2 (fun x hx => hlt x (by simp [hx])) sp (fun x hx => hsp x (by simp [hx])), rfl⟩
        exact WideElems.Trod_stays hl r1 r2 h1 (fun x hx => hb.same (hlt x (by simp [hx]))) (fun x hx => hsp x (by simp [hx]))


section
variable {P : Program}
theorem Ty.slice_inv {t e : TypeId} {x : AV} (h : Ty P t x) (hu : P.underlying t = some (.slice e)) : x = .nilsl ∨ ∃ es, x = .sl (P.cellsOf e) false es ∧ es.length ≤ maxLen ∧ ∀ y ∈ es, Ty P e y := by
  cases h with
  | nilsl h' => exact .inl rfl
  | sl es h' hl he => rw [hu] at h'; cases h'; exact .inr ⟨es, rfl, hl, he⟩
  | bool b h' => rw [hu] at h'; cases h'
  | int k n h' hw => rw [hu] at h'; cases h'
  | str s h' hl => rw [hu] at h'; cases h'
  | agg cs h' hc => rw [hu] at h'; cases h'
theorem Ty.int_inv {t : TypeId} {k : IntKind} {x : AV} (h : Ty P t x) (hu : P.underlying t = some (.int k)) : ∃ n, x = .int k n ∧ (Lit.int k n).wf = true := by
  cases h with
  | int k' n h' hw => rw [hu] at h'; cases h'; exact ⟨n, rfl, hw⟩
  | nilsl h' => rw [hu] at h'; cases h'
  | sl es h' hl he => rw [hu] at h'; cases h'
  | bool b h' => rw [hu] at h'; cases h'
  | str s h' hl => rw [hu] at h'; cases h'
  | agg cs h' hc => rw [hu] at h'; cases h'
theorem Ty.bool_inv {t : TypeId} {x : AV} (h : Ty P t x) (hu : P.underlying t = some .bool) : ∃ b, x = .bool b := by
  cases h with
  | bool b h' => exact ⟨b, rfl⟩
  | int k' n h' hw => rw [hu] at h'; cases h'
  | nilsl h' => rw [hu] at h'; cases h'
  | sl es h' hl he => rw [hu] at h'; cases h'
  | str s h' hl => rw [hu] at h'; cases h'
  | agg cs h' hc => rw [hu] at h'; cases h'
theorem Ty.str_inv {t : TypeId} {x : AV} (h : Ty P t x) (hu : P.underlying t = some .string) : ∃ s, x = .str s ∧ s.length ≤ maxLen := by
  cases h with
  | str s h' hl => exact ⟨s, rfl, hl⟩
  | bool b h' => rw [hu] at h'; cases h'
  | int k' n h' hw => rw [hu] at h'; cases h'
  | nilsl h' => rw [hu] at h'; cases h'
  | sl es h' hl he => rw [hu] at h'; cases h'
  | agg cs h' hc => rw [hu] at h'; cases h'
theorem Ty.struct_inv {t : TypeId} {fs : Array Field} {x : AV} (h : Ty P t x) (hu : P.underlying t = some (.struct fs)) : ∃ cs, x = .agg cs ∧ TyL P fs.toList cs := by
  cases h with
  | agg cs h' hc => rw [hu] at h'; cases h'; exact ⟨cs, rfl, hc⟩
  | str s h' hl => rw [hu] at h'; cases h'
  | bool b h' => rw [hu] at h'; cases h'
  | int k' n h' hw => rw [hu] at h'; cases h'
  | nilsl h' => rw [hu] at h'; cases h'
  | sl es h' hl he => rw [hu] at h'; cases h'
theorem TyL.cons_inv {f : Field} {fs : List Field} {cs : List AV} (h : TyL P (f :: fs) cs) : ∃ x ys, cs = x.cells ++ ys ∧ Ty P f.type x ∧ TyL P fs ys := by
  cases h with
  | cons h hs => exact ⟨_, _, rfl, h, hs⟩
theorem TyL.nil_inv {cs : List AV} (h : TyL P [] cs) : cs = [] := by cases h; rfl
theorem bytes_inv {t e : TypeId} {x : AV} (h : Ty P t x) (hu : P.underlying t = some (.slice e)) (he : P.underlying e = some (.int .u8)) (hc : P.cellsOf e = 1) : ∃ bs : List UInt8, bs.length ≤ maxLen ∧ x.cells = [x] ∧ ((x = .nilsl ∧ bs = []) ∨ x = .sl 1 false (bs.map byteV)) := by
  rcases h.slice_inv hu with rfl | ⟨es, rfl, hl, hes⟩
  · exact ⟨[], by simp, rfl, .inl ⟨rfl, rfl⟩⟩
  · have key : ∀ l : List AV, (∀ y ∈ l, Ty P e y) → ∃ bs : List UInt8, l = bs.map byteV := by
      intro l
      induction l with
      | nil => intro _; exact ⟨[], rfl⟩
      | cons y l ih =>
        intro hy
        obtain ⟨bs, rfl⟩ := ih (fun z hz => hy z (by simp [hz]))
        obtain ⟨n, rfl, hw⟩ := (hy y (by simp)).int_inv he
        have hb : 0 ≤ n ∧ n ≤ 255 := by simpa [Lit.wf, IntKind.min, IntKind.max, IntKind.signed, IntKind.bits] using hw
        refine ⟨UInt8.ofNat n.toNat :: bs, ?_⟩
        have : byteV (UInt8.ofNat n.toNat) = .int .u8 n := by
          unfold byteV
          congr 1
          rw [UInt8.toNat_ofNat']
          omega
        rw [List.map_cons, this]
    obtain ⟨bs, rfl⟩ := key es hes
    rw [hc]
    exact ⟨bs, by simpa using hl, rfl, .inr rfl⟩
theorem i64_bounds {n : Int} (h : (Lit.int .i64 n).wf = true) : -9223372036854775808 ≤ n ∧ n ≤ 9223372036854775807 := by
  simpa [Lit.wf, IntKind.min, IntKind.max, IntKind.signed, IntKind.bits] using h
end
end Go.Vx
