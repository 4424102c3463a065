/- V: runs beside any heap: operations on memory, code, calls. -/
import Derived.Test.YtjnjklnfcpgmpaaDoorVxT
set_option linter.unusedVariables false
set_option linter.unusedSimpArgs false
namespace Go.Vx

section
variable {H0 : Heap} {e : Env} {H : Heap}
theorem shH_get {b : Nat} : (shH H0 H)[b + H0.length]? = (H[b]?).map (AO.sh H0.length) := by
  simp only [shH]
  rw [List.getElem?_append_right (by omega), Nat.add_sub_cancel, List.getElem?_map]
theorem shH_len : (shH H0 H).length = H.length + H0.length := by simp [shH, Nat.add_comm]
theorem shH_set {b : Nat} {o : AO} : (shH H0 H).set (b + H0.length) (o.sh H0.length) = shH H0 (H.set b o) := by
  simp only [shH]
  rw [List.set_append_right _ _ (by omega), Nat.add_sub_cancel, List.map_set]
theorem shH_add {o : AO} : shH H0 H ++ [o.sh H0.length] = shH H0 (H ++ [o]) := by simp [shH]
def shP (H0 : Heap) (p : AV × Heap) : AV × Heap := (p.1.sh H0.length, shH H0 p.2)
theorem putO_sh {fl b : Nat} {o : AO} : putO (shH H0 H) (fl + H0.length) (b + H0.length) (o.sh H0.length) = (putO H fl b o).map (shH H0) := by
  simp only [putO, Nat.add_le_add_iff_right]
  split
  · simp only [shH_set, Option.map_some]
  · rfl
theorem loadV_sh {ag : Option Nat} {v : AV} : loadV (shH H0 H) ag (v.sh H0.length) = (loadV H ag v).map (AV.sh H0.length) := by
  cases v <;> simp only [AV.sh, loadV, Option.map_none, shL_map, ld_sh, shH_get]
  case ptr b o =>
    cases H[b]? with
    | none => rfl
    | some x => cases x <;> simp only [Option.map_some, AO.sh, boxLd, Option.map_none, ← List.map_drop, ld_sh]
  case eptr b z o =>
    cases H[b]? with
    | none => rfl
    | some x =>
      cases x <;> simp only [Option.map_some, AO.sh, rowLd, Option.map_none]
      case row z' es =>
        split
        · simp only [List.getElem?_map]
          cases es[o / z]? <;> simp only [Option.map_some, Option.map_none, cells_sh, ← List.map_drop, ld_sh]
        · rfl
theorem byteV_sh {n : Nat} {b : UInt8} : (byteV b).sh n = byteV b := rfl
theorem srcE_sh {v : AV} : srcE (shH H0 H) (v.sh H0.length) = (srcE H v).map (List.map (AV.sh H0.length)) := by
  cases v <;> simp only [AV.sh, srcE, Option.map_none, Option.map_some, shL_map, shH_get, List.map_nil]
  case str s => simp [byteV_sh, Function.comp_def]
  case rsl b z o n c =>
    cases H[b]? with
    | none => rfl
    | some x =>
      cases x <;> simp only [Option.map_some, AO.sh, Option.map_none, List.length_map]
      split
      · simp only [Option.map_some, List.map_take, List.map_drop]
      · rfl
theorem srcZ_sh {n z : Nat} {v : AV} : srcZ (v.sh n) z = srcZ v z := by cases v <;> rfl
theorem byte_sh {n : Nat} {v : AV} : AV.byte? (v.sh n) = AV.byte? v := by cases v <;> rfl
theorem bytesV_sh {v : AV} : bytesV (shH H0 H) (v.sh H0.length) = (bytesV H v).map (AV.sh H0.length) := by
  have key : ∀ (es : List AV), (es.map (AV.sh H0.length)).mapM AV.byte? = es.mapM AV.byte? := by
    intro es
    induction es with
    | nil => rfl
    | cons x es ih => rw [List.map_cons, List.mapM_cons, List.mapM_cons, byte_sh, ih]
  have hh : ∀ v : AV, ((srcE (shH H0 H) (v.sh H0.length)).bind fun es => (es.mapM AV.byte?).map AV.str) = ((srcE H v).bind fun es => (es.mapM AV.byte?).map AV.str).map (AV.sh H0.length) := by
    intro v
    rw [srcE_sh]
    cases srcE H v with
    | none => rfl
    | some es =>
      simp only [Option.map_some, Option.bind_some, key]
      cases es.mapM AV.byte? <;> rfl
  have hz : ∀ v : AV, (if srcZ (v.sh H0.length) 1 = true then (srcE (shH H0 H) (v.sh H0.length)).bind fun es => (es.mapM AV.byte?).map AV.str else none) = (if srcZ v 1 = true then (srcE H v).bind fun es => (es.mapM AV.byte?).map AV.str else none).map (AV.sh H0.length) := by
    intro v
    rw [srcZ_sh, hh]
    split <;> rfl
  cases v with
  | str s => rfl
  | bool b => exact hz (.bool b)
  | int k n => exact hz (.int k n)
  | nilp => exact hz .nilp
  | ptr b o => exact hz (.ptr b o)
  | eptr b z o => exact hz (.eptr b z o)
  | dptr cs => exact hz (.dptr cs)
  | nilsl => exact hz .nilsl
  | sl z f es => exact hz (.sl z f es)
  | rsl b z o n c => exact hz (.rsl b z o n c)
  | fn f a b => exact hz (.fn f a b)
  | nilfn => exact hz .nilfn
  | agg cs => exact hz (.agg cs)
  | tup vs => exact hz (.tup vs)
end

section
variable {H0 : Heap} {pc pc' : Nat → List AV → Heap → Option AV} {call call' : CallF} {fl : Nat}
def PcSh (H0 : Heap) (pc pc' : Nat → List AV → Heap → Option AV) : Prop := ∀ f args H, pc' f (AV.shL H0.length args) (shH H0 H) = (pc f args H).map (AV.sh H0.length)
def CallSh (H0 : Heap) (call call' : CallF) : Prop := ∀ f args H, call' f (AV.shL H0.length args) (shH H0 H) = (call f args H).map (shP H0)
theorem rop_sh (hp : PcSh H0 pc pc') {e : Env} {H : Heap} {o : ROp} : rop pc' (shE H0.length e) (shH H0 H) (o.sh H0.length) = (rop pc e H o).map (AV.sh H0.length) := by
  cases o with
  | load ag x => rw [ROp.sh, rop_loadV, rop_loadV, ev_sh, loadV_sh]
  | bytesStr x => rw [ROp.sh, rop_bytesStr, rop_bytesStr, ev_sh, bytesV_sh]
  | clone z bytes x =>
    simp only [ROp.sh, rop, ev_sh, srcZ_sh, srcE_sh]
    split
    · cases srcE H (x.ev e) with
      | none => rfl
      | some es =>
        simp only [Option.map_some, Option.bind_some, List.length_map]
        split
        · cases es <;> simp [AV.sh, shL_map]
        · rfl
    · rfl
  | pcall f args =>
    rw [ROp.sh, rop_pcall, rop_pcall, ev_sh, evs_sh]
    cases f.ev e <;> simp only [AV.sh, pcallV, Option.map_none]
    case fn g a b =>
      rw [← hp]
      congr 1
      simp only [shL_map, List.map_append]
theorem asElem_sh {n : Nat} {v : AV} {cs : List AV} : asElem (v.sh n) (cs.map (AV.sh n)) = (asElem v cs).map (AV.sh n) := by
  have one : (match cs.map (AV.sh n) with | [c] => if c.isAgg then none else some c | _ => none) = (match cs with | [c] => if c.isAgg then none else some c | _ => none).map (AV.sh n) := by
    match cs with
    | [] => rfl
    | [c] =>
      simp only [List.map_cons, List.map_nil, isAgg_sh]
      split <;> rfl
    | c :: d :: r => rfl
  cases v <;> first | exact one | skip
  case agg ds => simp only [AV.sh, asElem, Option.map_some, shL_map]
theorem appended_sh {H : Heap} {z bytes : Nat} {s : AV} {ys : List AV} : appended (fl + H0.length) (shH H0 H) z bytes (s.sh H0.length) (ys.map (AV.sh H0.length)) = (appended fl H z bytes s ys).map (shP H0) := by
  cases s <;> simp only [AV.sh, appended, Option.map_none, shL_map, List.length_map]
  case nilsl =>
    split
    · cases ys with
      | nil => rfl
      | cons y ys => simp only [List.map_cons, Option.map_some, shP, AV.sh, shH_len, ← shH_add, AO.sh]
    · rfl
  case sl z' f es =>
    split
    · cases ys with
      | nil => simp only [List.map_nil, Option.map_some, shP, AV.sh, shL_map]
      | cons y ys =>
        simp only [List.map_cons]
        split
        · simp only [Option.map_some, shP, AV.sh, shH_len, ← shH_add, AO.sh, List.map_append, List.map_cons]
        · rfl
    · rfl
  case rsl b z' o n c =>
    split
    · rw [shH_get]
      cases H[b]? with
      | none => rfl
      | some x =>
        cases x <;> simp only [Option.map_some, AO.sh, Option.map_none, List.length_map]
        case row z'' es =>
          split
          · cases c with
            | some c =>
              simp only
              split
              · split
                · have := putO_sh (H0 := H0) (H := H) (fl := fl) (b := b) (o := .row z (splice es (o + n) ys))
                  simp only [AO.sh, ← splice_sh] at this
                  rw [this, Option.map_map, Option.map_map]
                  cases putO H fl b (.row z (splice es (o + n) ys)) <;> rfl
                · rfl
              · simp only [Option.map_some, shP, AV.sh, shH_len, ← shH_add, AO.sh, List.map_append, List.map_take, List.map_drop]
            | none =>
              simp only
              split
              · have := putO_sh (H0 := H0) (H := H) (fl := fl) (b := b) (o := .dead)
                simp only [AO.sh] at this
                rw [this, Option.map_map, Option.map_map]
                cases putO H fl b .dead
                · rfl
                · simp only [Option.map_some, Function.comp_apply, shP, AV.sh, shH_len, ← shH_add, AO.sh, List.map_append, List.map_take]
              · rfl
          · rfl
    · rfl
theorem wop_sh (hc : CallSh H0 call call') {e : Env} {H : Heap} {o : WOp} : wop call' (fl + H0.length) (shE H0.length e) (shH H0 H) (o.sh H0.length) = (wop call fl e H o).map (shP H0) := by
  cases o with
  | alloc zs => simp only [WOp.sh, wop, Option.map_some, shP, AV.sh, shH_len, ← shH_add, AO.sh, Nat.zero_add]
  | box n x =>
    simp only [WOp.sh, wop, ev_sh, fits_sh]
    split
    · simp only [Option.map_some, shP, AV.sh, shH_len, ← shH_add, AO.sh, cells_sh]
    · rfl
  | store n a x =>
    simp only [WOp.sh, wop, ev_sh, fits_sh]
    split
    · cases a.ev e <;> simp only [AV.sh, Option.map_none, shH_get]
      case ptr b o =>
        cases H[b]? with
        | none => rfl
        | some y =>
          cases y <;> simp only [Option.map_some, AO.sh, Option.map_none, List.length_map]
          split
          · rename_i cs _
            have := putO_sh (H0 := H0) (H := H) (fl := fl) (b := b) (o := .box (splice cs o (x.ev e).cells))
            simp only [AO.sh, ← splice_sh, ← cells_sh] at this
            rw [this, Option.map_map, Option.map_map]
            cases putO H fl b (.box (splice cs o (x.ev e).cells)) <;> rfl
          · rfl
      case eptr b z o =>
        cases H[b]? with
        | none => rfl
        | some y =>
          cases y <;> simp only [Option.map_some, AO.sh, Option.map_none, List.length_map]
          case row z' es =>
            split
            · rw [List.getElem?_map]
              cases es[o / z]? with
              | none => rfl
              | some v =>
                simp only [Option.map_some, cells_sh, splice_sh, asElem_sh]
                cases asElem v (splice v.cells (o % z) (x.ev e).cells) with
                | none => rfl
                | some v' =>
                  simp only [Option.map_some]
                  have := putO_sh (H0 := H0) (H := H) (fl := fl) (b := b) (o := .row z (es.set (o / z) v'))
                  simp only [AO.sh, List.map_set] at this
                  rw [this, Option.map_map, Option.map_map]
                  cases putO H fl b (.row z (es.set (o / z) v')) <;> rfl
            · rfl
    · rfl
  | litMut z zero k ps =>
    simp only [WOp.sh, wop, ← List.map_replicate, parts1_sh, Option.map_map]
    cases parts1 z e (List.replicate k zero) ps with
    | none => rfl
    | some es => simp only [Option.map_some, Function.comp_apply, shP, AV.sh, shH_len, ← shH_add, AO.sh]
  | mksl z bytes zero l c =>
    simp only [WOp.sh, wop, ev_sh]
    cases l.ev e <;> cases c.ev e <;> simp only [AV.sh, Option.map_none]
    split
    · simp only [Option.map_some, shP, AV.sh, shH_len, ← shH_add, AO.sh, List.map_replicate]
    · rfl
  | strBytes x =>
    simp only [WOp.sh, wop, ev_sh]
    cases x.ev e <;> simp only [AV.sh, Option.map_none]
    split
    · simp only [Option.map_some, shP, AV.sh, shH_len, ← shH_add, AO.sh, List.map_map]
      rfl
    · rfl
  | mark x =>
    simp only [WOp.sh, wop, ev_sh]
    cases x.ev e <;> simp only [AV.sh, Option.map_none]
    case rsl b z o n c =>
      rw [shH_get]
      cases H[b]? with
      | none => rfl
      | some y =>
        cases y <;> simp only [Option.map_some, AO.sh, Option.map_none, List.length_map, Nat.add_le_add_iff_right]
        split <;> rfl
  | append z bytes s x =>
    simp only [WOp.sh, wop, ev_sh, srcZ_sh, srcE_sh]
    split
    · cases srcE H (x.ev e) with
      | none => rfl
      | some ys => simp only [Option.map_some, Option.bind_some, appended_sh]
    · rfl
  | appendN z bytes zero s x =>
    simp only [WOp.sh, wop, ev_sh]
    cases x.ev e <;> simp only [AV.sh, Option.map_none]
    split
    · rw [← List.map_replicate, appended_sh]
    · rfl
  | clear z zero x =>
    simp only [WOp.sh, wop, ev_sh]
    cases x.ev e <;> simp only [AV.sh, Option.map_none]
    case nilsl => rfl
    case rsl b z' o n c =>
      split
      · rfl
      · rw [shH_get]
        cases H[b]? with
        | none => rfl
        | some y =>
          cases y <;> simp only [Option.map_some, AO.sh, Option.map_none, List.length_map]
          case row z'' es =>
            split
            · have := putO_sh (H0 := H0) (H := H) (fl := fl) (b := b) (o := .row z (splice es o (List.replicate n zero)))
              simp only [AO.sh, ← splice_sh, List.map_replicate] at this
              rw [this, Option.map_map, Option.map_map]
              cases putO H fl b (.row z (splice es o (List.replicate n zero))) <;> rfl
            · rfl
  | call f args =>
    rw [WOp.sh, wop_call, wop_call, ev_sh, evs_sh]
    cases f.ev e <;> simp only [AV.sh, callV, Option.map_none]
    case fn g a b =>
      rw [← hc]
      congr 1
      simp only [shL_map, List.map_append]
  | bad => rfl

theorem vop_sh (hp : PcSh H0 pc pc') (hc : CallSh H0 call call') {e : Env} {H : Heap} {o : VOp} : vop pc' call' (fl + H0.length) (shE H0.length e) (shH H0 H) (o.sh H0.length) = (vop pc call fl e H o).map (shP H0) := by
  cases o with
  | p o => simp only [VOp.sh, vop, pop_sh, Option.map_map]; rfl
  | r o => simp only [VOp.sh, vop, rop_sh hp, Option.map_map]; rfl
  | w o => simp only [VOp.sh, vop, wop_sh hc]
theorem upd_sh {n : Nat} {e : Env} {d : Option Nat} {v : AV} : upd (shE n e) d (v.sh n) = shE n (upd e d v) := by
  cases d with
  | none => rfl
  | some d =>
    funext t
    simp only [upd, shE]
    cases Nat.beq t d <;> rfl
theorem wanted_sh {n : Nat} {e : Env} {g : Option (Nat × Bool)} : wantedV (shE n e) g = wantedV e g := by
  cases g with
  | none => rfl
  | some p =>
    obtain ⟨t, b⟩ := p
    simp only [wantedV, shE]
    cases e t <;> rfl
theorem stepV_sh (hp : PcSh H0 pc pc') (hc : CallSh H0 call call') {e : Env} {H : Heap} {o : VOper} : stepV pc' call' (fl + H0.length) (o.sh H0.length) (shE H0.length e) (shH H0 H) = (stepV pc call fl o e H).map (shP H0) := by
  simp only [stepV, VOper.sh, wanted_sh, vop_sh hp hc]
  split <;> rfl
theorem vops_sh (hp : PcSh H0 pc pc') (hc : CallSh H0 call call') : ∀ {ops : List VOper} {e : Env} {H : Heap}, vops pc' call' (fl + H0.length) (ops.map (VOper.sh H0.length)) (shE H0.length e) (shH H0 H) = (vops pc call fl ops e H).map fun p => (shE H0.length p.1, shH H0 p.2) := by
  intro ops
  induction ops with
  | nil => intro e H; rfl
  | cons o ops ih =>
    intro e H
    simp only [List.map_cons, vops, stepV_sh hp hc]
    cases stepV pc call fl o e H with
    | none => rfl
    | some r => simp only [Option.map_some, Option.bind_some, shP, VOper.sh, upd_sh, ih]

theorem beq_add {a b n : Nat} : (a + n == b + n) = (a == b) := by
  rw [Bool.eq_iff_iff, beq_iff_eq, beq_iff_eq]; omega
mutual
theorem same_sh {n : Nat} : ∀ (x y : AV), AV.same (x.sh n) (y.sh n) = AV.same x y
  | .bool _, y => by cases y <;> rfl
  | .int _ _, y => by cases y <;> rfl
  | .str _, y => by cases y <;> rfl
  | .nilp, y => by cases y <;> rfl
  | .nilsl, y => by cases y <;> rfl
  | .nilfn, y => by cases y <;> rfl
  | .ptr a b, y => by cases y <;> simp only [AV.sh, AV.same, beq_add]
  | .eptr a b c, y => by cases y <;> simp only [AV.sh, AV.same, beq_add]
  | .rsl a b c d o, y => by cases y <;> simp only [AV.sh, AV.same, beq_add]
  | .dptr a, y => by cases y <;> simp only [AV.sh, AV.same]; exact sameL_sh _ _
  | .sl z f a, y => by cases y <;> simp only [AV.sh, AV.same]; rw [sameL_sh]
  | .agg a, y => by cases y <;> simp only [AV.sh, AV.same]; exact sameL_sh _ _
  | .tup a, y => by cases y <;> simp only [AV.sh, AV.same]; exact sameL_sh _ _
  | .fn f a b, y => by cases y <;> simp only [AV.sh, AV.same]; rw [sameL_sh, sameL_sh]
theorem sameL_sh {n : Nat} : ∀ (x y : List AV), AV.sameL (AV.shL n x) (AV.shL n y) = AV.sameL x y
  | [], y => by cases y <;> rfl
  | a :: as, [] => rfl
  | a :: as, b :: bs => by simp only [AV.shL, AV.sameL, same_sh a b, sameL_sh as bs]
end
def Seen.sh (n : Nat) (s : Seen) : Seen := ⟨s.op.sh n, shE n s.env, s.val.sh n, s.lo, s.hi⟩
theorem isR_sh {n : Nat} {o : VOper} : (o.sh n).isR = o.isR := by obtain ⟨d, op, g⟩ := o; cases op <;> rfl
theorem isW_sh {n : Nat} {o : VOper} : (o.sh n).isW = o.isW := by obtain ⟨d, op, g⟩ := o; cases op <;> rfl
theorem vdraw_sh (hp : PcSh H0 pc pc') (hc : CallSh H0 call call') : ∀ {ops : List DOp} {e : Env} {H : Heap}, vdraw pc' call' (fl + H0.length) (ops.map fun p => (p.1.sh H0.length, p.2)) (shE H0.length e) (shH H0 H) = (vdraw pc call fl ops e H).map fun p => (shE H0.length p.1, shH H0 p.2.1, p.2.2.1.map (Seen.sh H0.length), p.2.2.2.map (shH H0)) := by
  intro ops
  induction ops with
  | nil => intro e H; rfl
  | cons o ops ih =>
    intro e H
    obtain ⟨o, lo, hi⟩ := o
    simp only [List.map_cons, vdraw, stepV_sh hp hc]
    cases stepV pc call fl o e H with
    | none => rfl
    | some r =>
      have hd : (o.sh H0.length).dst = o.dst := rfl
      simp only [Option.map_some, Option.bind_some, shP, hd, upd_sh, ih, Option.map_map, isR_sh, isW_sh]
      cases vdraw pc call fl ops (upd e o.dst r.fst) r.snd with
      | none => rfl
      | some q =>
        simp only [Option.map_some, Function.comp_apply]
        congr 1
        simp only [Prod.mk.injEq, true_and]
        constructor
        · split <;> rfl
        · split <;> rfl
theorem seen_ok_sh (hp : PcSh H0 pc pc') (hc : CallSh H0 call call') {s : Seen} {hs : List Heap} : Seen.ok pc' call' (fl + H0.length) (hs.map (shH H0)) (s.sh H0.length) = Seen.ok pc call fl hs s := by
  have h1 : ∀ H, Seen.okAt pc' call' (fl + H0.length) (s.sh H0.length) (shH H0 H) = Seen.okAt pc call fl s H := by
    intro H
    simp only [Seen.okAt, Seen.sh, stepV_sh hp hc]
    cases stepV pc call fl s.op s.env H with
    | none => rfl
    | some r => simp only [Option.map_some, shP, same_sh]
  have h2 : (s.sh H0.length).lo = s.lo := rfl
  have h3 : (s.sh H0.length).hi = s.hi := rfl
  simp only [Seen.ok, h2, h3, ← List.map_drop, ← List.map_take, List.all_map]
  congr 1
  funext H
  exact h1 H
theorem vdrawn_sh (hp : PcSh H0 pc pc') (hc : CallSh H0 call call') {ops : List DOp} {e : Env} {H : Heap} : vdrawn pc' call' (fl + H0.length) (ops.map fun p => (p.1.sh H0.length, p.2)) (shE H0.length e) (shH H0 H) = (vdrawn pc call fl ops e H).map fun p => (shE H0.length p.1, shH H0 p.2) := by
  simp only [vdrawn, vdraw_sh hp hc]
  cases vdraw pc call fl ops e H with
  | none => rfl
  | some q =>
    obtain ⟨e', H', ss, hs⟩ := q
    simp only [Option.map_some, Option.bind_some, List.all_map, ← List.map_cons]
    have : (ss.all fun s => Seen.ok pc' call' (fl + H0.length) (List.map (shH H0) (H :: hs)) (s.sh H0.length)) = ss.all (Seen.ok pc call fl (H :: hs)) := by
      congr 1
      funext s
      exact seen_ok_sh hp hc
    have h2 : (ss.all (Seen.ok pc' call' (fl + H0.length) (List.map (shH H0) (H :: hs)) ∘ Seen.sh H0.length)) = ss.all (Seen.ok pc call fl (H :: hs)) := this
    rw [h2]
    split <;> rfl

def shSt (H0 : Heap) (s : St) : St := (s.1, shE H0.length s.2.1, shH H0 s.2.2)
theorem rounds_sh {f f' : Env → Heap → Option St} (hf : ∀ e H, f' (shE H0.length e) (shH H0 H) = (f e H).map (shSt H0)) : ∀ (n : Nat) (e : Env) (H : Heap), rounds f' n (shE H0.length e) (shH H0 H) = (rounds f n e H).map (shSt H0) := by
  intro n
  induction n with
  | zero => intro e H; rfl
  | succ n ih =>
    intro e H
    simp only [rounds, hf]
    cases f e H with
    | none => rfl
    | some s =>
      obtain ⟨x, e', H'⟩ := s
      cases x <;> simp only [Option.map_some, Option.bind_some, shSt, ih]
      all_goals rfl
theorem vexec_sh (hp : PcSh H0 pc pc') (hc : CallSh H0 call call') {L : Nat} : ∀ (c : VC) {e : Env} {H : Heap}, vexec L pc' call' (fl + H0.length) (c.sh H0.length) (shE H0.length e) (shH H0 H) = (vexec L pc call fl c e H).map (shSt H0) := by
  intro c
  induction c with
  | skip => intro e H; rfl
  | reg ops =>
    intro e H
    simp only [VC.sh, vexec, vops_sh hp hc, Option.map_map]
    cases vops pc call fl ops e H <;> rfl
  | draw ops =>
    intro e H
    simp only [VC.sh, vexec, vdrawn_sh hp hc, Option.map_map]
    cases vdrawn pc call fl ops e H <;> rfl
  | seq a b iha ihb =>
    intro e H
    simp only [VC.sh, vexec, iha]
    cases vexec L pc call fl a e H with
    | none => rfl
    | some s =>
      obtain ⟨x, e', H'⟩ := s
      cases x <;> simp only [Option.map_some, Option.bind_some, shSt, ihb]
      all_goals rfl
  | cond c a b iha ihb =>
    intro e H
    simp only [VC.sh, vexec, ev_sh]
    cases c.ev e <;> simp only [AV.sh, Option.map_none]
    case bool t => cases t <;> simp [iha, ihb]
  | block id c ih =>
    intro e H
    simp only [VC.sh, vexec, ih, Option.map_map]
    cases vexec L pc call fl c e H with
    | none => rfl
    | some s =>
      obtain ⟨x, e', H'⟩ := s
      cases x <;> simp only [Option.map_some, Function.comp_apply, shSt]
      case exit id' =>
        by_cases h : id' = id <;> simp [h]
  | loop c ih =>
    intro e H
    simp only [VC.sh, vexec]
    exact rounds_sh (fun e H => ih) L e H
  | exit id => intro e H; rfl
  | ret => intro e H; rfl
  | bad => intro e H; rfl
end
end Go.Vx
