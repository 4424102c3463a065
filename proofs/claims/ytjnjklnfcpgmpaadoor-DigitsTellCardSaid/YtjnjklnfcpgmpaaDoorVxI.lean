/- V: a region that draws its order, walked. -/
import Derived.Test.YtjnjklnfcpgmpaaDoorVxH
set_option linter.unusedVariables false
set_option linter.unusedSimpArgs false
namespace Go.Vx
variable {G : Nat → Obj → Prop}

section
variable {P : Program} {nt : Nat}

theorem getD_tf {l : Array Bool} {k : Nat} (h : k < l.size) : l.getD k true = l.getD k false := by
  simp [Array.getD_eq_getD_getElem?, Array.getElem?_eq_getElem h]

theorem cnt_zero {p : Nat → Bool} : ∀ n, cnt p n = 0 → ∀ k, k < n → p k = false := by
  intro n
  induction n with
  | zero => intro _ k hk; omega
  | succ n ih =>
    intro h k hk
    simp only [cnt] at h
    rcases Nat.lt_or_ge k n with h1 | h1
    · exact ih (by omega) k h1
    · obtain rfl : k = n := by omega
      cases hp : p k with
      | false => rfl
      | true => rw [hp] at h; simp at h

theorem cnt_set {p q : Nat → Bool} {i : Nat} : ∀ n, i < n → p i = true → q i = false → (∀ k, k ≠ i → q k = p k) → cnt q n + 1 = cnt p n := by
  intro n
  induction n with
  | zero => intro h; omega
  | succ n ih =>
    intro hi hp hq h
    simp only [cnt]
    rcases Nat.lt_or_ge i n with h1 | h1
    · have := ih h1 hp hq h
      rw [h n (by omega)]; omega
    · obtain rfl : i = n := by omega
      rw [hp, hq, cnt_congr i (fun k hk => h k (by omega))]; simp

theorem isW_same {pc : Nat → List AV → Heap → Option AV} {call : CallF} {fl : Nat} {o : VOper} {e : Env} {H : Heap} {v : AV} {H' : Heap} (h : stepV pc call fl o e H = some (v, H')) (hw : o.isW = false) : H' = H := by
  simp only [stepV] at h
  split at h
  · cases ho : o.op with
    | p q => rw [ho] at h; simp only [vop, Option.map_eq_some_iff, Prod.mk.injEq] at h; obtain ⟨_, _, _, h⟩ := h; exact h.symm
    | r q => rw [ho] at h; simp only [vop, Option.map_eq_some_iff, Prod.mk.injEq] at h; obtain ⟨_, _, _, h⟩ := h; exact h.symm
    | w q => simp [VOper.isW, ho] at hw
  · simp only [Option.some.injEq, Prod.mk.injEq] at h; exact h.2.symm

theorem isP_any {pc : Nat → List AV → Heap → Option AV} {call : CallF} {fl : Nat} {o : VOper} {e : Env} {H : Heap} {v : AV} {H' : Heap} (h : stepV pc call fl o e H = some (v, H')) (hw : o.isW = false) (hr : o.isR = false) (Y : Heap) :
    stepV pc call fl o e Y = some (v, Y) := by
  simp only [stepV] at h ⊢
  split at h
  · rename_i hg
    rw [if_pos hg]
    cases ho : o.op with
    | p q => rw [ho] at h; simp only [vop, Option.map_eq_some_iff, Prod.mk.injEq] at h ⊢; obtain ⟨v1, h1, h2, _⟩ := h; exact ⟨v1, h1, h2, trivial⟩
    | r q => simp [VOper.isR, ho] at hr
    | w q => simp [VOper.isW, ho] at hw
  · rename_i hg
    rw [if_neg hg]
    simp only [Option.some.injEq, Prod.mk.injEq] at h ⊢
    exact ⟨h.1, trivial⟩

/-- The state of a region whose order is drawn: the operations of 'listed' are done. -/
structure Inv (G : Nat → Obj → Prop) (P : Program) (ops : Array Oper) (vs : List VOper) (V : Nat → AV) (hp : Nat → Heap) (fl nt : Nat) (e : Env) (ρ : Nat → Nat) (H : Heap) (w0 : World) (fuel : Nat) (listed : Array Bool) (a : Act) (w : World) : Prop where
  size : listed.size = ops.size
  closed : ∀ (j : Nat) (o : Oper), ops[j]? = some o → listed.getD j false = true → ∀ ed ∈ o.after.toList, Region.binds .any ed = true → listed.getD ed.on false = true
  fuel : cnt (fun k => !listed.getD k false) ops.size ≤ fuel
  st : ∃ ρ', Tr fl ρ H w0 ρ' (hp (cnt (fun k => isWr vs k && listed.getD k false) ops.size)) w ∧ Sim ρ' (hp (cnt (fun k => isWr vs k && listed.getD k false) ops.size)) w ∧
    ER G (cx ρ' (hp (cnt (fun k => isWr vs k && listed.getD k false) ops.size)) w) (envS vs V e (fun k => listed.getD k false) ops.size) a nt

theorem closed_before {os : List Oper} {S : Nat → Bool} (hcl : ∀ (j : Nat) (o : Oper), os[j]? = some o → S j = true → ∀ ed ∈ o.after.toList, Region.binds .any ed = true → S ed.on = true) {j k : Nat} (hb : Before os j k) : S j = true → S k = true := by
  induction hb with
  | edge h he hbi => intro hs; exact hcl _ _ h hs _ he hbi
  | trans h he hbi _ ih => intro hs; exact ih (hcl _ _ h hs _ he hbi)

theorem draw_any {call : Nat → CallF} (hG : Good P G call) {fl : Nat} {pol : Pol} {reg : Nat} {ops : Array Oper} {vs : List VOper} (hvs : vs = ops.toList.map (cOper P pol reg nt ops)) (hord : Ordered ops.toList vs (befBits ops.toList))
    {E : Nat → Env} {V : Nat → AV} {X : Nat → Heap} (hT : Trace (asPure call) (call fl) fl vs E V X) {hs : List Heap} (hlen : hs.length = cnt (isWr vs) ops.size) (hX : ∀ k, k ≤ ops.size → (X 0 :: hs)[cnt (isWr vs) k]? = some (X k))
    (hseen : ∀ (k : Nat) (o : VOper) (bb : Nat), vs[k]? = some o → (befBits ops.toList)[k]? = some bb → o.isR = true → loOf vs bb < hiOf vs (befBits ops.toList) k →
      Seen.ok (asPure call) (call fl) fl (X 0 :: hs) ⟨o, E k, V k, loOf vs bb, hiOf vs (befBits ops.toList) k⟩ = true)
    {ρ : Nat → Nat} {H : Heap} {w0 : World} {Q : Exit → Act → World → Prop} (hQ : ∀ ρ' a' w', Tr fl ρ H w0 ρ' (X ops.size) w' → Sim ρ' (X ops.size) w' → ER G (cx ρ' (X ops.size) w') (E ops.size) a' nt → Q .normal a' w') :
    ∀ (fuel : Nat) (listed : Array Bool) (a : Act) (w : World), Inv G P ops vs V (fun m => ((X 0 :: hs)[m]?).getD []) fl nt (E 0) ρ H w0 fuel listed a w → wpAny P .any ops Q fuel listed a w := by
  have hvl : vs.length = ops.size := by rw [hvs]; simp
  have hbl : (befBits ops.toList).length = ops.size := by rw [befBits_length _ _ rfl]; simp
  have hol : ∀ (j : Nat), ops.toList[j]? = ops[j]? := fun j => by simp
  -- all is done
  have done : ∀ fuel listed a w, Inv G P ops vs V (fun m => ((X 0 :: hs)[m]?).getD []) fl nt (E 0) ρ H w0 fuel listed a w → (∀ k, k < ops.size → listed.getD k false = true) → Q .normal a w := by
    intro fuel listed a w hI hall
    obtain ⟨ρ', k1, k2, k3⟩ := hI.st
    have hm : cnt (fun k => isWr vs k && listed.getD k false) ops.size = cnt (isWr vs) ops.size := cnt_congr _ fun k hk => by rw [hall k hk]; simp
    have hx : ((X 0 :: hs)[cnt (isWr vs) ops.size]?).getD [] = X ops.size := by rw [hX _ (Nat.le_refl _)]; rfl
    have he : envS vs V (E 0) (fun k => listed.getD k false) ops.size = E ops.size := by
      have h1 := envS_below hT (i := ops.size) (by omega) ops.size (by omega)
      rw [Nat.min_self] at h1
      rw [← h1]
      funext t
      exact envS_congr _ fun k hk _ => by simp only [hall k hk]; simp [hk]
    simp only [hm, hx, he] at k1 k2 k3
    exact hQ ρ' a w k1 k2 k3
  -- none is ready: all is done
  have nored : ∀ listed, (∀ (j : Nat) (o : Oper), ops[j]? = some o → listed.getD j false = true → ∀ ed ∈ o.after.toList, Region.binds .any ed = true → listed.getD ed.on false = true) → listed.size = ops.size →
      Region.ready .any ops listed = [] → ∀ k, k < ops.size → listed.getD k false = true := by
    intro listed hcl hsz hr k
    induction k using Nat.strongRecOn with
    | _ k ih =>
      intro hk
      cases hs : listed.getD k false with
      | true => rfl
      | false =>
        exfalso
        have hmem : k ∈ Region.ready .any ops listed := by
          rw [mem_ready]
          refine ⟨by rw [getD_tf (by omega)]; exact hs, ops[k], by simp [hk], fun ed hed hb => ?_⟩
          have hlt := hord.low k ops[k] ed (by rw [hol]; simp [hk]) (Array.mem_toList_iff.2 hed) hb
          exact ih ed.on hlt (by omega)
        rw [hr] at hmem
        cases hmem
  intro fuel
  induction fuel with
  | zero =>
    intro listed a w hI
    have hall : ∀ k, k < ops.size → listed.getD k false = true := fun k hk => by
      have := cnt_zero _ (Nat.le_zero.1 hI.fuel) k hk
      simpa using this
    refine ⟨?_, done 0 listed a w hI hall⟩
    cases hr : Region.ready .any ops listed with
    | nil => rfl
    | cons i rest =>
      exfalso
      have hi : i ∈ Region.ready .any ops listed := by rw [hr]; simp
      rw [mem_ready] at hi
      obtain ⟨h0, o, ho, _⟩ := hi
      have hlt : i < ops.size := (Array.getElem?_eq_some_iff.1 ho).1
      rw [getD_tf (by rw [hI.size]; exact hlt), hall i hlt] at h0
      cases h0
  | succ fuel ih =>
    intro listed a w hI
    refine ⟨fun hr => done _ listed a w hI (nored listed hI.closed hI.size hr), fun i hi => ?_⟩
    rw [mem_ready] at hi
    obtain ⟨h0, o, ho, hpre⟩ := hi
    have hlt : i < ops.size := (Array.getElem?_eq_some_iff.1 ho).1
    have hil : i < listed.size := by rw [hI.size]; exact hlt
    rw [getD_tf hil] at h0
    have hov : vs[i]? = some (cOper P pol reg nt ops o) := by rw [hvs, List.getElem?_map, hol, ho]; rfl
    have hbb : (befBits ops.toList)[i]? = some ((befBits ops.toList)[i]'(by rw [hbl]; exact hlt)) := by simp
    have hcl : ∀ j k, j < ops.toList.length → listed.getD j false = true → Before ops.toList j k → listed.getD k false = true := fun j k _ hs hb =>
      closed_before (S := fun k => listed.getD k false) (fun j o hj => hI.closed j o (by rw [← hol]; exact hj)) hb hs
    have hpre' : ∀ k, Before ops.toList i k → listed.getD k false = true := fun k hb => by
      cases hb with
      | edge h he hbi =>
        rw [hol, ho] at h; cases h
        exact hpre _ (Array.mem_toList_iff.1 he) hbi
      | trans h he hbi hk =>
        rw [hol, ho] at h; cases h
        exact closed_before (S := fun k => listed.getD k false) (fun j o hj => hI.closed j o (by rw [← hol]; exact hj)) hk (hpre _ (Array.mem_toList_iff.1 he) hbi)
    have ord : ∀ (k : Nat) (b : VOper), vs[k]? = some b → k ≠ i → (∃ t, b.dst = some t ∧ (t ∈ (cOper P pol reg nt ops o).looks ∨ (cOper P pol reg nt ops o).dst = some t)) ∨ (b.isW = true ∧ (cOper P pol reg nt ops o).isW = true) → listed.getD k false = decide (k < i) :=
      fun k b hb hne hc => order_at (S := fun k => listed.getD k false) hord h0 hpre' hcl hov hb hne hc
    have hii : decide (i < i) = false := by simp
    -- what it looks at
    have hlook : ∀ t ∈ (cOper P pol reg nt ops o).looks, E i t = envS vs V (E 0) (fun k => listed.getD k false) ops.size t := fun t ht => by
      have h1 := envS_below hT (i := i) (by omega) ops.size (by omega)
      rw [Nat.min_eq_right (by omega)] at h1
      rw [← h1]
      refine envS_congr _ fun k hk hd => ?_
      by_cases hki : k = i
      · subst hki; simp only [h0, hii]
      · rw [Option.bind_eq_some_iff] at hd
        obtain ⟨b, hb, hd⟩ := hd
        exact (ord k b hb hki (.inl ⟨t, hd, .inl ht⟩)).symm
    have hstep := hT.step i _ hov
    -- how many writers are done
    have hmle : cnt (fun k => isWr vs k && listed.getD k false) ops.size ≤ cnt (isWr vs) ops.size := cnt_le _ fun k _ hk => by simp at hk; exact hk.1
    have hwr : isWr vs i = (cOper P pol reg nt ops o).isW := by simp [isWr, hov]
    have hnew : ∀ k, (listed.setIfInBounds i true).getD k false = (listed.getD k false || decide (k = i)) := fun k => by
      by_cases hk : k = i
      · subst hk; simp [hil]
      · simp [Array.getElem?_setIfInBounds_ne (Ne.symm hk), hk]
    have hnewE : envS vs V (E 0) (fun k => (listed.setIfInBounds i true).getD k false) ops.size = upd (envS vs V (E 0) (fun k => listed.getD k false) ops.size) (cOper P pol reg nt ops o).dst (V i) := by
      funext t
      by_cases hd : (cOper P pol reg nt ops o).dst = some t
      · rw [hd, upd_eq]
        refine envS_last (by simp only [hnew]; simp) (by rw [hov]; exact hd) _ hlt fun k hk1 hk2 hdk => ?_
        rw [Option.bind_eq_some_iff] at hdk
        obtain ⟨b, hb, hdk⟩ := hdk
        have := ord k b hb (by omega) (.inl ⟨t, hdk, .inr hd⟩)
        simp only [hnew, this]
        have h1 : ¬ k < i := by omega
        have h2 : ¬ k = i := by omega
        simp [h1, h2]
      · rw [upd_ne hd]
        refine envS_congr _ fun k hk hdk => ?_
        have hki : k ≠ i := by rintro rfl; rw [hov] at hdk; exact hd hdk
        simp only [hnew]; simp [hki]
    -- the step at the state that is met
    have key : stepV (asPure call) (call fl) fl (cOper P pol reg nt ops o) (envS vs V (E 0) (fun k => listed.getD k false) ops.size) (((X 0 :: hs)[cnt (fun k => isWr vs k && listed.getD k false) ops.size]?).getD []) =
        some (V i, ((X 0 :: hs)[cnt (fun k => isWr vs k && (listed.setIfInBounds i true).getD k false) ops.size]?).getD []) := by
      rw [← stepV_congr hlook]
      by_cases hw : (cOper P pol reg nt ops o).isW = true
      · have hS : ∀ k, k < ops.size → isWr vs k = true → listed.getD k false = decide (k < i) := fun k hk hwk => by
          by_cases hki : k = i
          · subst hki; rw [h0, hii]
          · have hb : vs[k]? = some (vs[k]'(by omega)) := by simp
            exact ord k _ hb hki (.inr ⟨by simpa [isWr, hb] using hwk, hw⟩)
        have c1 : cnt (fun k => isWr vs k && listed.getD k false) ops.size = cnt (isWr vs) i := by
          rw [← cnt_below ops.size (by omega : i ≤ ops.size)]
          refine cnt_congr _ fun k hk => ?_
          cases hwk : isWr vs k with
          | false => rfl
          | true => rw [hS k hk hwk]
        have c2 : cnt (fun k => isWr vs k && (listed.setIfInBounds i true).getD k false) ops.size = cnt (isWr vs) (i + 1) := by
          rw [← cnt_below ops.size (by omega : i + 1 ≤ ops.size)]
          refine cnt_congr _ fun k hk => ?_
          cases hwk : isWr vs k with
          | false => rfl
          | true =>
            rw [hnew, hS k hk hwk]
            simp only [Bool.true_and]
            rw [← Bool.decide_or]
            exact decide_eq_decide.2 ⟨fun h => by omega, fun h => by omega⟩
        rw [c1, c2, hX i (by omega), hX (i + 1) (by omega)]
        exact hstep
      · have hw' : (cOper P pol reg nt ops o).isW = false := by simpa using hw
        have hsame := isW_same hstep hw'
        have c2 : cnt (fun k => isWr vs k && (listed.setIfInBounds i true).getD k false) ops.size = cnt (fun k => isWr vs k && listed.getD k false) ops.size := by
          refine cnt_congr _ fun k hk => ?_
          by_cases hki : k = i
          · subst hki; rw [hwr, hw']; rfl
          · rw [hnew]; simp [hki]
        rw [c2]
        by_cases hr : (cOper P pol reg nt ops o).isR = true
        · -- a reader
          have lo1 : loOf vs ((befBits ops.toList)[i]'(by rw [hbl]; exact hlt)) ≤ cnt (fun k => isWr vs k && listed.getD k false) ops.size := by
            have : loOf vs ((befBits ops.toList)[i]'(by rw [hbl]; exact hlt)) = cnt (fun j => isWr vs j && ((befBits ops.toList)[i]'(by rw [hbl]; exact hlt)).testBit j) vs.length := cnt_filter _ _
            rw [this, hvl]
            refine cnt_le _ fun k hk hb => ?_
            rw [Bool.and_eq_true] at hb ⊢
            exact ⟨hb.1, hpre' k (befBits_spec _ _ rfl i _ k hbb hb.2)⟩
          have lo2 : loOf vs ((befBits ops.toList)[i]'(by rw [hbl]; exact hlt)) ≤ cnt (isWr vs) i := by
            have : loOf vs ((befBits ops.toList)[i]'(by rw [hbl]; exact hlt)) = cnt (fun j => isWr vs j && ((befBits ops.toList)[i]'(by rw [hbl]; exact hlt)).testBit j) vs.length := cnt_filter _ _
            rw [this, hvl, ← cnt_below ops.size (by omega : i ≤ ops.size)]
            refine cnt_le _ fun k hk hb => ?_
            rw [Bool.and_eq_true] at hb ⊢
            exact ⟨hb.1, by simpa using before_lt hord (befBits_spec _ _ rfl i _ k hbb hb.2)⟩
          have hiE : hiOf vs (befBits ops.toList) i = cnt (fun j => match vs[j]?, (befBits ops.toList)[j]? with | some v, some bb => v.isW && !bb.testBit i && j != i | _, _ => false) vs.length := cnt_filter _ _
          have hi1 : cnt (fun k => isWr vs k && listed.getD k false) ops.size ≤ hiOf vs (befBits ops.toList) i := by
            rw [hiE, hvl]
            refine cnt_le _ fun k hk hb => ?_
            rw [Bool.and_eq_true] at hb
            have hkv : vs[k]? = some (vs[k]'(by omega)) := by simp
            have hkb : (befBits ops.toList)[k]? = some ((befBits ops.toList)[k]'(by omega)) := by simp
            simp only [hkv, hkb]
            have h1 : (vs[k]'(by omega)).isW = true := by simpa [isWr, hkv] using hb.1
            have h2 : k ≠ i := by rintro rfl; rw [h0] at hb; cases hb.2
            have h3 : ((befBits ops.toList)[k]'(by omega)).testBit i = false := by
              cases hx : ((befBits ops.toList)[k]'(by omega)).testBit i with
              | false => rfl
              | true =>
                have := hcl k i (by simpa using hk) hb.2 (befBits_spec _ _ rfl k _ i hkb hx)
                rw [h0] at this; cases this
            simp [h1, h2, h3]
          have hi2 : cnt (isWr vs) i ≤ hiOf vs (befBits ops.toList) i := by
            rw [hiE, hvl, ← cnt_below ops.size (by omega : i ≤ ops.size)]
            refine cnt_le _ fun k hk hb => ?_
            rw [Bool.and_eq_true] at hb
            have hki : k < i := by simpa using hb.2
            have hkv : vs[k]? = some (vs[k]'(by omega)) := by simp
            have hkb : (befBits ops.toList)[k]? = some ((befBits ops.toList)[k]'(by omega)) := by simp
            simp only [hkv, hkb]
            have h1 : (vs[k]'(by omega)).isW = true := by simpa [isWr, hkv] using hb.1
            have h2 : k ≠ i := by omega
            have h3 : ((befBits ops.toList)[k]'(by omega)).testBit i = false := by
              cases hx : ((befBits ops.toList)[k]'(by omega)).testBit i with
              | false => rfl
              | true => have := before_lt hord (befBits_spec _ _ rfl k _ i hkb hx); omega
            simp [h1, h2, h3]
          have hmlt : cnt (fun k => isWr vs k && listed.getD k false) ops.size < (X 0 :: hs).length := by rw [List.length_cons, hlen]; omega
          obtain ⟨Y, hY⟩ : ∃ Y, (X 0 :: hs)[cnt (fun k => isWr vs k && listed.getD k false) ops.size]? = some Y := ⟨_, List.getElem?_eq_getElem hmlt⟩
          rw [hY, Option.getD_some]
          rcases Nat.lt_or_ge (loOf vs ((befBits ops.toList)[i]'(by rw [hbl]; exact hlt))) (hiOf vs (befBits ops.toList) i) with hlh | hge
          · have hok := hseen i _ _ hov hbb hr hlh
            simp only [Seen.ok, List.all_eq_true] at hok
            have hmem : Y ∈ ((X 0 :: hs).drop (loOf vs ((befBits ops.toList)[i]'(by rw [hbl]; exact hlt)))).take (hiOf vs (befBits ops.toList) i - loOf vs ((befBits ops.toList)[i]'(by rw [hbl]; exact hlt)) + 1) := by
              apply List.mem_of_getElem? (i := cnt (fun k => isWr vs k && listed.getD k false) ops.size - loOf vs ((befBits ops.toList)[i]'(by rw [hbl]; exact hlt)))
              rw [List.getElem?_take_of_lt (by omega), List.getElem?_drop, ← hY]
              congr 1
              omega
            have hY2 := hok Y hmem
            simp only [Seen.okAt] at hY2
            split at hY2
            · rename_i v H1 hst
              rw [hst, isW_same hst hw', same_ok hY2]
            · cases hY2
          · have hm : cnt (fun k => isWr vs k && listed.getD k false) ops.size = cnt (isWr vs) i := by omega
            rw [hm, hX i (by omega)] at hY
            cases hY
            rw [hsame] at hstep
            exact hstep
        · exact isP_any hstep hw' (by simpa using hr) _
    obtain ⟨ρ', k1, k2, k3⟩ := hI.st
    refine step_ok hG ho k2 k3 key fun ρ'' a' w' hT' hS' he' => ih _ a' w' ?_
    refine ⟨by simp [hI.size], fun j oj hj hs ed hed hb => ?_, ?_, ρ'', k1.trans hT', hS', ?_⟩
    · rw [hnew] at hs ⊢
      rw [Bool.or_eq_true] at hs
      rcases hs with hs | hs
      · rw [hI.closed j oj hj hs ed hed hb]; rfl
      · have hji : j = i := by simpa using hs
        subst hji
        rw [ho] at hj; cases hj
        rw [hpre ed (Array.mem_toList_iff.1 hed) hb]; rfl
    · have h1 := hI.fuel
      have h2 : cnt (fun k => !(listed.setIfInBounds i true).getD k false) ops.size + 1 = cnt (fun k => !listed.getD k false) ops.size :=
        cnt_set ops.size hlt (by simp only [h0]; rfl) (by simp only [hnew]; simp) fun k hk => by simp only [hnew]; simp [hk]
      omega
    · rw [hnewE]; exact he'

end
end Go.Vx
