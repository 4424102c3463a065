/- V: append. -/
import Derived.Test.YtjnjklnfcpgmpaaDoorVxW
import Derived.IntWalk
set_option linter.unusedVariables false
set_option linter.unusedSimpArgs false
namespace Go.Vx

/-- append, once it is known how many elements come, and which. -/
def apTail (zeros : Bool) (elem : TypeId) (size n sLen sCap : Nat) (base : Option Addr) (s x : Value) (appended : Sem (Array Value)) : Sem Value := do
  let need := sLen + n
  if need ≤ sCap then
    let new ← appended
    if let some a := base then storeCells (a.add (sLen * size)) new.toList
    pure (.slice base need sCap)
  else
    if (need : Int) > IntKind.i64.max ∧ (zeros ∨ (← typeInfo elem).bytes = 0) then runtimePanic (.error "growslice: len out of range")
    if Builtin.nextslicecap need sCap * (← typeInfo elem).bytes > 2 ^ 48 then (if zeros then runtimePanic (.error "growslice: len out of range") else do
      if !(← Builtin.mayShare size sLen n base x) then mark .noRoom
      unsupported (.resourceLimit "append: a slice or a string whose bytes no memory bears"))
    let newCap ← choose (.appendCap need sCap elem)
    askRoom (newCap * (← typeInfo elem).bytes)
    let old ← Builtin.firstCells size sLen s
    let new ← appended
    let rest := Builtin.zeroCells (← zeroValue elem).cells (newCap - need)
    pure (.slice (some (← newRow elem (old ++ new ++ rest))) need newCap)

section
variable {P : Program} {ρ : Nat → Nat} {H : Heap} {w : World} {e : Env} {a : Act} {nt : Nat}

theorem append_src {t t1 et ty : TypeId} {it : TypeInfo} {d : TypeDesc} {ts : Array TypeId} (h0 : ts[0]? = some t) (h1 : ts[1]? = some t1) (ht : P.underlying t = some (.slice et)) (hi : P.info? et = some it)
    (ht1 : P.underlying t1 = some d) (hd : ∀ k, d ≠ .int k) (base : Option Addr) (sLen sCap : Nat) (x : Value) (n : Nat) (hn : (Builtin.lenOf x).run P w = .ok n w) :
    (Builtin.append_ ts ty #[.slice base sLen sCap, x]).run P w = (apTail false et it.size n sLen sCap base (.slice base sLen sCap) x (Builtin.firstCells it.size n x)).run P w := by
  unfold Builtin.append_ apTail
  simp only [h0, h1, List.getElem?_toArray, List.getElem?_cons_zero, List.getElem?_cons_succ, Sem.run_bind, run_underlying ht, run_underlying ht1, Result.andThen_ok, rSize hi, Sem.run_pure]
  cases d <;> first
    | exact absurd rfl (hd _)
    | (simp only [Bool.false_eq_true, if_false, hn, Bool.not_false, if_true, Sem.run_bind, Result.andThen_ok]; done)
    | (simp only [Bool.false_eq_true, if_false, hn, Bool.not_false, if_true, Sem.run_bind, Result.andThen_ok]; rfl)

theorem append_zeros {t t1 et ty : TypeId} {it : TypeInfo} {k1 : IntKind} {ts : Array TypeId} (h0 : ts[0]? = some t) (h1 : ts[1]? = some t1) (ht : P.underlying t = some (.slice et)) (hi : P.info? et = some it)
    (ht1 : P.underlying t1 = some (.int k1)) (base : Option Addr) (sLen sCap : Nat) (k : IntKind) (n : Int) (hn0 : 0 ≤ n) (hn1 : n ≤ limit) (hn2 : n * it.bytes ≤ limit) :
    (Builtin.append_ ts ty #[.slice base sLen sCap, .int k n]).run P w =
      (apTail true et it.size n.toNat sLen sCap base (.slice base sLen sCap) (.int k n) (if n.toNat * it.size = 0 then pure #[] else do pure (Builtin.zeroCells (← zeroValue et).cells n.toNat))).run P w := by
  have hw : IntKind.i64.wrap n = n := by
    have := Go.IntWalk.i64_in n (by unfold limit at hn1; omega)
    exact this
  have h3 : ¬ n < 0 := by omega
  have h4 : ¬ n * (it.bytes : Int) > 2 ^ 48 := by unfold limit at hn2; omega
  unfold Builtin.append_ apTail
  simp only [h0, h1, List.getElem?_toArray, List.getElem?_cons_zero, List.getElem?_cons_succ, Sem.run_bind, run_underlying ht, run_underlying ht1, Result.andThen_ok, rSize hi, Sem.run_pure, asInt, asIntOf, pure_bind, hw, if_true, Sem.run_ite, rTI hi, h3, h4, if_false,
    Bool.not_true, Bool.false_eq_true]
  rfl


theorem RE.append {C : Cx} {z : Nat} {os ys : List AV} {a0 a1 rest : Array Value} (h0 : RE C z os a0 0) (s0 : a0.size = os.length * z) (h1 : RE C z ys a1 0) (s1 : a1.size = ys.length * z) : RE C z (os ++ ys) (a0 ++ a1 ++ rest) 0 := by
  refine ⟨fun x hx => ?_, fun i x j c hi hj => ?_⟩
  · rcases List.mem_append.1 hx with h | h
    · exact h0.1 x h
    · exact h1.1 x h
  · rw [Nat.zero_add]
    rcases Nat.lt_or_ge i os.length with h | h
    · rw [List.getElem?_append_left h] at hi
      have hjz : j < z := by
        have k1 := (h0.1 x (List.mem_of_getElem? hi)).1
        have k2 := (List.getElem?_eq_some_iff.1 hj).1
        omega
      have hlt : i * z + j < a0.size := by rw [s0]; exact mul_lt_of h hjz
      have := h0.2 i x j c hi hj
      rw [Nat.zero_add] at this
      have he : (a0 ++ a1 ++ rest).getD (i * z + j) undef = a0.getD (i * z + j) undef := by
        simp only [Array.getD_eq_getD_getElem?]
        rw [Array.append_assoc, Array.getElem?_append_left hlt]
      rw [he]
      exact this
    · rw [List.getElem?_append_right h] at hi
      have hjz : j < z := by
        have k1 := (h1.1 x (List.mem_of_getElem? hi)).1
        have k2 := (List.getElem?_eq_some_iff.1 hj).1
        omega
      have hil := (List.getElem?_eq_some_iff.1 hi).1
      have hk : (i - os.length) * z + j < a1.size := by rw [s1]; exact mul_lt_of hil hjz
      have hsub : i * z + j - a0.size = (i - os.length) * z + j := by
        rw [s0, Nat.sub_mul]
        have : os.length * z ≤ i * z := Nat.mul_le_mul_right z h
        omega
      have hge : a0.size ≤ i * z + j := by
        rw [s0]
        have : os.length * z ≤ i * z := Nat.mul_le_mul_right z h
        omega
      have := h1.2 (i - os.length) x j c hi hj
      rw [Nat.zero_add] at this
      have he : (a0 ++ a1 ++ rest).getD (i * z + j) undef = a1.getD ((i - os.length) * z + j) undef := by
        simp only [Array.getD_eq_getD_getElem?]
        rw [Array.append_assoc, Array.getElem?_append_right hge, hsub, Array.getElem?_append_left hk]
      rw [he]
      exact this

/-- The world behind one draw. -/
def one1 (w : World) : World := { w with drawn := w.drawn + 1 }

theorem grow_ok {et : TypeId} {it : TypeInfo} {zv : Value} (hi : P.info? et = some it) (hzv : it.zero = some zv) (hzs : zv.cells.size = it.size) (zeros : Bool) {base : Option Addr} {s x : Value} {n sLen sCap : Nat} {app : Sem (Array Value)}
    {os ys : List AV} {C : Cx} {a0 a1 : Array Value} (hlt : sCap < sLen + n) (hlim : (((sLen + n) * it.bytes : Nat) : Int) ≤ limit) (hby : 0 < it.bytes)
    (hold : (Builtin.firstCells it.size sLen s).run P (one1 w) = .ok a0 (one1 w)) (hnew : app.run P (one1 w) = .ok a1 (one1 w))
    (s0 : a0.size = os.length * it.size) (s1 : a1.size = ys.length * it.size) (l0 : os.length = sLen) (l1 : ys.length = n) (r0 : RE C it.size os a0 0) (r1 : RE C it.size ys a1 0) :
    ∃ (cap : Nat) (arr : Array Value) (w' : World), (apTail zeros et it.size n sLen sCap base s x app).run P w = .ok (.slice (some ⟨w.heap.size, 0, none⟩) (sLen + n) cap) w' ∧ Adds w w' (.cells arr et) ∧ sLen + n ≤ cap ∧ arr.size = cap * it.size ∧ RE C it.size (os ++ ys) arr 0 := by
  let q : Question := .appendCap (sLen + n) sCap et
  let cap := q.cut (w.tape w.drawn q)
  have hcap : sLen + n ≤ cap := Nat.le_add_right _ _
  let rest := Builtin.zeroCells zv.cells (cap - (sLen + n))
  refine ⟨cap, a0 ++ a1 ++ rest, (one1 w).alloc (.cells (a0 ++ a1 ++ rest) et), ?_, adds_drawn (w.drawn + 1) (adds_alloc (one1 w) _), hcap, ?_, RE.append r0 s0 r1 s1⟩
  · have hmax : ((sLen + n : Nat) : Int) ≤ limit := by
      have : sLen + n ≤ (sLen + n) * it.bytes := Nat.le_mul_of_pos_right _ hby
      omega
    have g1 : ¬ ((sLen + n : Nat) : Int) > IntKind.i64.max := by rw [IntKind.max_i64]; unfold limit at hmax; omega
    have g2 : ¬ Builtin.nextslicecap (sLen + n) sCap * it.bytes > 2 ^ 48 := by
      have := growslice_fits (bytes := it.bytes) hlt (by unfold limit at hlim; omega)
      omega
    have g3 : (choose q).run P w = .ok cap (one1 w) := by
      rw [run_choose]
      rfl
    unfold apTail
    simp only []
    rw [if_neg (by omega)]
    simp only [Sem.run_bind, rTI hi, Result.andThen_ok]
    rw [if_neg (by rintro ⟨h, _⟩; exact g1 h)]
    simp only [Sem.run_bind, rTI hi, Result.andThen_ok]
    rw [if_neg g2]
    simp only [Sem.run_bind, rTI hi, Result.andThen_ok]
    have g4 : ∀ b, (askRoom b).run P (one1 w) = .ok () (one1 w) := fun b => by unfold askRoom; split <;> rfl
    have g3' : (choose (.appendCap (sLen + n) sCap et)).run P w = .ok cap (one1 w) := g3
    rw [g3']
    simp only [Result.andThen_ok, rTI hi, g4, hold, hnew, rZero hi hzv, newRow, Sem.run_bind, Sem.run_pure]
    rfl
  · have hr : rest.size = (cap - (sLen + n)) * it.size := by simp [rest, Builtin.zeroCells, hzs]
    rw [Array.size_append, Array.size_append, s0, s1, l0, l1, hr, ← Nat.add_mul, ← Nat.add_mul]
    congr 1
    omega

theorem one1_sim (hS : Sim ρ H w) : Sim ρ H (one1 w) := hS.drawn _
theorem one1_cx : cx ρ H (one1 w) = cx ρ H w := rfl

theorem place_ok {zeros : Bool} {et : TypeId} {size n sLen sCap : Nat} {base : Option Addr} {s x : Value} {app : Sem (Array Value)} {a1 : Array Value} (hle : sLen + n ≤ sCap) (hnew : app.run P w = .ok a1 w)
    {w' : World} (hst : (match base with | some ad => storeCells (ad.add (sLen * size)) a1.toList | none => pure () : Sem Unit).run P w = .ok () w') :
    (apTail zeros et size n sLen sCap base s x app).run P w = .ok (.slice base (sLen + n) sCap) w' := by
  unfold apTail
  simp only []
  rw [if_pos hle]
  cases base with
  | none =>
    simp only [Sem.run_pure, Result.ok.injEq, true_and] at hst
    subst hst
    simp [hnew]
  | some ad =>
    simp only [Sem.run_bind, hnew, Result.andThen_ok]
    simp only [] at hst
    simp [hst]

theorem splice_nil (xs : List AV) (o : Nat) : splice xs o [] = xs := by simp [splice]

theorem RE.spliceE {C : Cx} {z : Nat} {es ys : List AV} {arr arr' a1 : Array Value} {o : Nat} (h : RE C z es arr 0) (h1 : RE C z ys a1 0) (s1 : a1.size = ys.length * z) (ho : o + ys.length ≤ es.length)
    (hg : ∀ k, arr'.getD k undef = if o * z ≤ k ∧ k < o * z + a1.size then a1.getD (k - o * z) undef else arr.getD k undef) : RE C z (splice es o ys) arr' 0 := by
  refine ⟨fun x hx => ?_, fun i x j c hi hj => ?_⟩
  · unfold splice at hx
    rcases List.mem_append.1 hx with hx | hx
    · rcases List.mem_append.1 hx with hx | hx
      · exact h.1 x (List.mem_of_mem_take hx)
      · exact h1.1 x hx
    · exact h.1 x (List.mem_of_mem_drop hx)
  · rw [splice_get _ _ _ ho] at hi
    rw [Nat.zero_add, hg]
    split at hi
    · rename_i hio
      have hjz : j < z := by
        have k1 := (h.1 x (List.mem_of_getElem? hi)).1
        have k2 := (List.getElem?_eq_some_iff.1 hj).1
        omega
      have := mul_lt_of (z := z) hio hjz
      rw [if_neg (by omega)]
      have := h.2 i x j c hi hj
      rwa [Nat.zero_add] at this
    · rename_i hio
      have hge : o * z ≤ i * z := Nat.mul_le_mul_right z (by omega)
      split at hi
      · rename_i hiy
        have hjz : j < z := by
          have k1 := (h1.1 x (List.mem_of_getElem? hi)).1
          have k2 := (List.getElem?_eq_some_iff.1 hj).1
          omega
        have hlt : (i - o) * z + j < ys.length * z := mul_lt_of (by omega) hjz
        have he : i * z + j - o * z = (i - o) * z + j := by rw [Nat.sub_mul]; omega
        rw [if_pos (by rw [s1]; omega), he]
        have := h1.2 (i - o) x j c hi hj
        rwa [Nat.zero_add] at this
      · rename_i hiy
        have hjz : j < z := by
          have k1 := (h.1 x (List.mem_of_getElem? hi)).1
          have k2 := (List.getElem?_eq_some_iff.1 hj).1
          omega
        have hge2 : (o + ys.length) * z ≤ i * z := Nat.mul_le_mul_right z (by omega)
        rw [Nat.add_mul] at hge2
        rw [if_neg (by rw [s1]; omega)]
        have := h.2 i x j c hi hj
        rwa [Nat.zero_add] at this

theorem RE.one {C : Cx} {z : Nat} {es : List AV} {arr : Array Value} (h : RE C z es arr 0) (hs : arr.size = es.length * z) (hp : 0 < z) : ∀ u ∈ arr.toList, one u := by
  intro u hu
  obtain ⟨k, hk, rfl⟩ := List.getElem_of_mem hu
  have hk' : k < arr.size := by simpa using hk
  have hi : k / z < es.length := Nat.div_lt_of_lt_mul (by rw [Nat.mul_comm]; omega)
  have hj : k % z < (es[k / z]).cells.length := by rw [(h.1 _ (List.getElem_mem hi)).1]; exact Nat.mod_lt _ hp
  have := (h.2 (k / z) _ (k % z) _ (List.getElem?_eq_getElem hi) (List.getElem?_eq_getElem hj)).2
  have he : k / z * z + k % z = k := by have := Nat.div_add_mod k z; rw [Nat.mul_comm] at this; omega
  rw [Nat.zero_add, he, Array.getD_eq_getD_getElem?, Array.getElem?_eq_getElem hk'] at this
  simpa using this

/-- The value that append makes, and V's heap behind it. -/
theorem appended_ok {fl : Nat} {z bytes : Nat} {et : TypeId} {it : TypeInfo} {zv : Value} (hi : P.info? et = some it) (hz : it.size = z) (hb : it.bytes = bytes) (hzv : it.zero = some zv) (hzs : zv.cells.size = z) (hp : 0 < z) (hby : 0 < bytes)
    (hS : Sim ρ H w) {s : AV} {ys : List AV} {v : AV} {H' : Heap} (hv : appended fl H z bytes s ys = some (v, H')) {us : Value} (hs : VR (cx ρ H w) s us) (zeros : Bool) (x : Value) {app : Sem (Array Value)} {a1 a2 : Array Value}
    (hnew : app.run P w = .ok a1 w) (s1 : a1.size = ys.length * z) (r1 : RE (cx ρ H w) z ys a1 0) (hnew2 : app.run P (one1 w) = .ok a2 (one1 w)) (s2 : a2.size = ys.length * z) (r2 : RE (cx ρ H w) z ys a2 0) :
    ∃ base sLen sCap, us = .slice base sLen sCap ∧ ∃ (y : Value) (w' : World) (ρ' : Nat → Nat), (apTail zeros et it.size ys.length sLen sCap base us x app).run P w = .ok y w' ∧ Tr fl ρ H w ρ' H' w' ∧ Sim ρ' H' w' ∧ VR (cx ρ' H' w') v y := by
  subst hz; subst hb
  -- what grows
  have grow : ∀ (ρ0 : Nat → Nat) (H0 : Heap) (base : Option Addr) (sLen sCap : Nat) (os : List AV), Tr fl ρ H w ρ0 H0 w → Sim ρ0 H0 w → H0.length = H.length → us = .slice base sLen sCap → os.length = sLen → sCap < sLen + ys.length → (((sLen + ys.length) * it.bytes : Nat) : Int) ≤ limit →
      (∃ a0 : Array Value, (Builtin.firstCells it.size sLen us).run P (one1 w) = .ok a0 (one1 w) ∧ a0.size = os.length * it.size ∧ RE (cx ρ H w) it.size os a0 0) →
      ∃ (y : Value) (w' : World) (ρ' : Nat → Nat), (apTail zeros et it.size ys.length sLen sCap base us x app).run P w = .ok y w' ∧ Tr fl ρ H w ρ' (H0 ++ [.row it.size (os ++ ys)]) w' ∧ Sim ρ' (H0 ++ [.row it.size (os ++ ys)]) w' ∧
        VR (cx ρ' (H0 ++ [.row it.size (os ++ ys)]) w') (.rsl H.length it.size 0 (sLen + ys.length) none) y := by
    intro ρ0 H0 base sLen sCap os hT0 hS0 hlen0 hus hol hlt hlim ⟨a0, h0, hs0, hr0⟩
    obtain ⟨cap, arr, w', g1, g2, g3, g4, g5⟩ := grow_ok (P := P) (w := w) (zeros := zeros) (base := base) (x := x) hi hzv hzs hlt hlim hby h0 hnew2 hs0 s2 hol rfl hr0 r2
    obtain ⟨ρ', k1, k2, k3, k4⟩ := new_row (fl := fl) (c := none) hS0 g2 (nofreeze_zero _) (RE.mono hT0.le g5) g3 (fun k hk => by cases hk) (by rw [g4]; exact Nat.le_refl _)
      (by rw [g4, List.length_append, hol]; exact Nat.mul_le_mul_right _ g3)
    rw [hlen0] at k4
    exact ⟨_, w', ρ', g1, hT0.trans k2, k3, k4⟩
  unfold appended at hv
  split at hv
  · -- nil
    cases hs
    split at hv
    · rename_i hlim
      split at hv
      · cases hv
        refine ⟨none, 0, 0, rfl, .slice none 0 0, w, ρ, ?_, Tr.refl .., hS, .nilsl⟩
        exact place_ok (by simp) hnew rfl
      · rename_i hne
        cases hv
        have hpos : 0 < ys.length := by
          cases ys with
          | nil => exact absurd rfl hne
          | cons _ _ => simp
        obtain ⟨y, w', ρ', k1, k2, k3, k4⟩ := grow ρ H none 0 0 [] (Tr.refl ..) hS rfl rfl rfl (by omega) (by simpa using hlim) ⟨#[], rfl, by simp, by simp, fun i x j c hi => by simp at hi⟩
        refine ⟨none, 0, 0, rfl, y, w', ρ', k1, by simpa using k2, by simpa using k3, by simpa using k4⟩
    · cases hv
  · rename_i z' full es
    have hs' := hs
    obtain ⟨ad, cap, g, rfl, hc, hf, hzz, hst, hone, hvr⟩ := hs.slInv
    split at hv
    · rename_i hcond
      obtain ⟨rfl, hlim⟩ := hcond
      split at hv
      · cases hv
        refine ⟨some ad, es.length, cap, rfl, .slice (some ad) es.length cap, w, ρ, ?_, Tr.refl .., hS, hs'⟩
        have h1nil : a1 = #[] := by
          apply Array.eq_empty_of_size_eq_zero
          simpa using s1
        exact place_ok (by simpa using hc) hnew (by rw [h1nil]; rfl)
      · rename_i hne
        split at hv
        · rename_i hfull
          cases hv
          have hpos : 0 < ys.length := by
            cases ys with
            | nil => exact absurd rfl hne
            | cons _ _ => simp
          obtain ⟨_, a0, q1, q2, q3⟩ := src_ok (P := P) (one1_sim hS) (x := .sl it.size full es) hs' (z := it.size) (by simp [srcZ]) hp (es := es) rfl
          obtain ⟨y, w', ρ', k1, k2, k3, k4⟩ := grow ρ H (some ad) es.length cap es (Tr.refl ..) hS rfl rfl rfl (by rw [hf hfull]; omega) hlim ⟨a0, q1, q2, q3⟩
          exact ⟨some ad, es.length, cap, rfl, y, w', ρ', k1, k2, k3, k4⟩
        · cases hv
    · cases hv
  · rename_i b z' o n c
    have hs' := hs
    obtain ⟨ad, cap, rfl, hbl, hm, hcc, ha, hbs⟩ := hs.rslInv
    split at hv
    · rename_i hcond
      obtain ⟨rfl, hlim⟩ := hcond
      split at hv
      · rename_i z'' es hob
        split at hv
        · rename_i hcond2
          obtain ⟨rfl, hon⟩ := hcond2
          obtain ⟨arr, t', fr, h1, h2, h3, h4⟩ := row_cells (hS.obj b _ hob)
          have hlive := live_of hob rfl
          obtain ⟨_, a0, q1, q2, q3⟩ := src_ok (P := P) (one1_sim hS) (x := .rsl b it.size o n c) hs' (z := it.size) (by simp [srcZ]) hp (es := (es.drop o).take n) (by simp [srcE, hob, hon])
          have hlen : ((es.drop o).take n).length = n := by simp; omega
          rw [hlen] at q1
          have hbcap : (o + cap) * it.size ≤ arr.size := by
            obtain ⟨arr0, t0, fr0, hb0, hk0⟩ := hbs
            have hb0' : w.heap[ρ b]? = some (.cells arr0 t0 fr0) := hb0
            rw [h1] at hb0'
            cases hb0'
            exact hk0
          have hone1 := r1.one s1 hp
          -- written in place
          have inplace : n + ys.length ≤ cap → ∃ arr' w', (match (some ad : Option Addr) with | some ad => storeCells (ad.add (n * it.size)) a1.toList | none => pure () : Sem Unit).run P w = .ok () w' ∧ Turns w w' (ρ b) arr' t' fr ∧ arr'.size = arr.size ∧
              ∀ k, arr'.getD k undef = if (o + n) * it.size ≤ k ∧ k < (o + n) * it.size + a1.size then a1.getD (k - (o + n) * it.size) undef else arr.getD k undef := by
            intro hle
            rcases Nat.eq_zero_or_pos cap with hc0 | hc0
            · have : ys.length = 0 := by omega
              have h1nil : a1 = #[] := by
                apply Array.eq_empty_of_size_eq_zero
                rw [s1, this]; simp
              refine ⟨arr, w, by rw [h1nil]; rfl, Turns.refl h1, rfl, fun k => ?_⟩
              rw [h1nil, if_neg (by simp)]
            · rw [ha hc0]
              have hbound : (o + n) * it.size + a1.size ≤ arr.size := by
                have : (o + n + ys.length) * it.size ≤ (o + cap) * it.size := Nat.mul_le_mul_right _ (by omega)
                rw [Nat.add_mul (o + n)] at this
                rw [s1]; omega
              obtain ⟨arr', w', k1, k2, k3, k4⟩ := store_ok (P := P) ((o + n) * it.size) a1.toList 0 arr w h1 h3 (by simpa using hbound) hone1
              refine ⟨arr', w', ?_, k2, k3, fun k => ?_⟩
              · show (storeCells ((⟨ρ b, o * it.size, none⟩ : Addr).add (n * it.size)) a1.toList).run P w = _
                rw [addr_add, ← Nat.add_mul]
                exact k1
              · have := k4 k
                rw [Array.length_toList, Nat.add_zero] at this
                rw [this]
                simp [Array.getD_eq_getD_getElem?, List.getD_eq_getElem?_getD]
          split at hv
          · rename_i cc
            have hcap : cap = cc := hcc cc rfl
            subst hcap
            split at hv
            · rename_i hle
              split at hv
              · rename_i hle2
                simp only [Option.map_eq_some_iff] at hv
                obtain ⟨H1, hput, hv⟩ := hv
                simp only [Prod.mk.injEq] at hv
                obtain ⟨rfl, rfl⟩ := hv
                obtain ⟨hflb, rfl⟩ := putO_some hput
                obtain ⟨arr', w', k1, k2, k3, k4⟩ := inplace hle
                obtain ⟨hT, hS'⟩ := upd_obj fl hS hlive hflb h1 (by omega) k2 (.row it.size (splice es (o + n) ys)) rfl (fun C hleC => or_row k2.new (h3.sz (by omega))
                  (by rw [splice_length _ _ _ hle2, k3]; exact h2) (RE.spliceE (RE.mono hleC h4) (RE.mono hleC r1) s1 hle2 k4))
                refine ⟨some ad, n, cap, rfl, .slice (some ad) (n + ys.length) cap, w', ρ, place_ok hle hnew k1, hT, hS', ?_⟩
                refine .rsl b it.size o (n + ys.length) (some cap) ad cap (by simpa [cx] using hbl) hle (fun k hk => by cases hk; rfl) (fun hp' => ha hp') ?_
                exact ⟨arr', t', fr, k2.new, by rw [k3]; exact hbcap⟩
              · cases hv
            · rename_i hgt
              simp only [Option.some.injEq, Prod.mk.injEq] at hv
              obtain ⟨rfl, rfl⟩ := hv
              obtain ⟨y, w', ρ', k1, k2, k3, k4⟩ := grow ρ H (some ad) n cap ((es.drop o).take n) (Tr.refl ..) hS rfl rfl hlen (by omega) hlim ⟨a0, q1, q2, q3⟩
              exact ⟨some ad, n, cap, rfl, y, w', ρ', k1, k2, k3, k4⟩
          · split at hv
            · rename_i ho0
              subst ho0
              simp only [Option.map_eq_some_iff] at hv
              obtain ⟨H1, hput, hv⟩ := hv
              simp only [Prod.mk.injEq] at hv
              obtain ⟨rfl, rfl⟩ := hv
              obtain ⟨hflb, rfl⟩ := putO_some hput
              rcases Nat.lt_or_ge cap (n + ys.length) with hgt | hle
              · obtain ⟨hT0, hS0⟩ := kill_obj fl hS hlive hflb
                obtain ⟨y, w', ρ', k1, k2, k3, k4⟩ := grow ρ (H.set b .dead) (some ad) n cap (es.take n) hT0 hS0 (by simp) rfl (by simp; omega) hgt hlim ⟨a0, q1, by simpa using q2, by have q3' : RE (cx ρ H w) it.size ((es.drop 0).take n) a0 0 := q3; simpa using q3'⟩
                exact ⟨some ad, n, cap, rfl, y, w', ρ', k1, k2, k3, k4⟩
              · obtain ⟨arr', w', k1, k2, k3, k4⟩ := inplace hle
                have hle' : n + ys.length ≤ cap := hle
                have hrow : ∀ C, (cx ρ H w).le C → RE C it.size (es.take n ++ ys) arr' 0 := by
                  intro C hleC
                  refine ⟨fun x hx => ?_, fun i x j c hi hj => ?_⟩
                  · rcases List.mem_append.1 hx with hx | hx
                    · exact h4.1 x (List.mem_of_mem_take hx)
                    · exact r1.1 x hx
                  · rw [Nat.zero_add, k4]
                    have hnl : (es.take n).length = n := by simp; omega
                    rcases Nat.lt_or_ge i n with hin | hin
                    · rw [List.getElem?_append_left (by omega), List.getElem?_take, if_pos hin] at hi
                      have hjz : j < it.size := by
                        have e1 := (h4.1 x (List.mem_of_getElem? hi)).1
                        have e2 := (List.getElem?_eq_some_iff.1 hj).1
                        omega
                      have := mul_lt_of (z := it.size) hin hjz
                      rw [if_neg (by rw [Nat.zero_add]; omega)]
                      have := (RE.mono hleC h4).2 i x j c hi hj
                      rwa [Nat.zero_add] at this
                    · rw [List.getElem?_append_right (by omega), hnl] at hi
                      have hjz : j < it.size := by
                        have e1 := (r1.1 x (List.mem_of_getElem? hi)).1
                        have e2 := (List.getElem?_eq_some_iff.1 hj).1
                        omega
                      have hil := (List.getElem?_eq_some_iff.1 hi).1
                      have hlt : (i - n) * it.size + j < ys.length * it.size := mul_lt_of hil hjz
                      have hge : n * it.size ≤ i * it.size := Nat.mul_le_mul_right _ hin
                      have he : i * it.size + j - (0 + n) * it.size = (i - n) * it.size + j := by rw [Nat.sub_mul, Nat.zero_add]; omega
                      rw [if_pos (by rw [Nat.zero_add, s1]; rw [Nat.sub_mul] at hlt; omega), he]
                      have := (RE.mono hleC r1).2 (i - n) x j c hi hj
                      rwa [Nat.zero_add] at this
                obtain ⟨ρ', e1, hT, hS'⟩ := heir_obj fl hS hlive hflb h1 (by omega) k2 (.row it.size (es.take n ++ ys)) rfl (fun C hleC => or_row k2.new (h3.sz (by omega))
                  (by
                    have : (n + ys.length) * it.size ≤ (0 + cap) * it.size := Nat.mul_le_mul_right _ (by omega)
                    rw [List.length_append, List.length_take, Nat.min_eq_left (by omega), k3]
                    omega) (hrow C hleC))
                refine ⟨some ad, n, cap, rfl, .slice (some ad) (n + ys.length) cap, w', ρ', place_ok hle hnew k1, hT, hS', ?_⟩
                refine .rsl H.length it.size 0 (n + ys.length) none ad cap (by simp [cx]) hle (fun k hk => by cases hk) (fun hp' => ?_) ?_
                · rw [ha hp']
                  simp [cx, e1]
                · refine ⟨arr', t', fr, ?_, by rw [k3]; exact hbcap⟩
                  show w'.heap[ρ' H.length]? = _
                  rw [e1]
                  exact k2.new
            · cases hv
        · cases hv
      · cases hv
    · cases hv
  · cases hv

end
end Go.Vx
