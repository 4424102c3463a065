/- V: a run that is handed values alone does the same beside any heap: addresses are moved, and nothing else. -/
import Derived.Test.YtjnjklnfcpgmpaaDoorVxN
set_option linter.unusedVariables false
set_option linter.unusedSimpArgs false
namespace Go.Vx

mutual
def AV.sh (n : Nat) : AV → AV
  | .ptr b o => .ptr (b + n) o
  | .eptr b z o => .eptr (b + n) z o
  | .dptr cs => .dptr (AV.shL n cs)
  | .sl z f es => .sl z f (AV.shL n es)
  | .rsl b z o m c => .rsl (b + n) z o m c
  | .fn f a b => .fn f (AV.shL n a) (AV.shL n b)
  | .agg cs => .agg (AV.shL n cs)
  | .tup vs => .tup (AV.shL n vs)
  | .bool b => .bool b
  | .int k m => .int k m
  | .str s => .str s
  | .nilp => .nilp
  | .nilsl => .nilsl
  | .nilfn => .nilfn
def AV.shL (n : Nat) : List AV → List AV
  | [] => []
  | x :: xs => x.sh n :: AV.shL n xs
end
theorem shL_map {n : Nat} : ∀ {xs : List AV}, AV.shL n xs = xs.map (AV.sh n) := by
  intro xs
  induction xs with
  | nil => rfl
  | cons x xs ih => simp only [AV.shL, ih, List.map_cons]
def AO.sh (n : Nat) : AO → AO
  | .box cs => .box (cs.map (AV.sh n))
  | .row z es => .row z (es.map (AV.sh n))
  | .dead => .dead
def Opd.sh (n : Nat) : Opd → Opd
  | .tmp t => .tmp t
  | .cst v => .cst (v.sh n)
def shE (n : Nat) (e : Env) : Env := fun t => (e t).sh n
/-- A heap, behind another one. -/
def shH (H0 H : Heap) : Heap := H0 ++ H.map (AO.sh H0.length)

def POp.sh (n : Nat) : POp → POp
  | .mov x => .mov (x.sh n)
  | .pick c a b => .pick (c.sh n) (a.sh n) (b.sh n)
  | .build zs ps => .build (zs.map (AV.sh n)) (ps.map fun p => (p.1, p.2.1, p.2.2.sh n))
  | .lit z zero k ps => .lit z (zero.sh n) k (ps.map fun p => (p.1, p.2.sh n))
  | .nilck x => .nilck (x.sh n)
  | .ibin op x y => .ibin op (x.sh n) (y.sh n)
  | .beq q x y => .beq q (x.sh n) (y.sh n)
  | .nileq k q x y => .nileq k q (x.sh n) (y.sh n)
  | .eqagg ks q x y => .eqagg ks q (x.sh n) (y.sh n)
  | .un op x => .un op (x.sh n)
  | .conv k x => .conv k (x.sh n)
  | .mkfn f a b => .mkfn f (a.map (Opd.sh n)) (b.map (Opd.sh n))
  | .slice z x lo hi => .slice z (x.sh n) (lo.map (Opd.sh n)) (hi.map (Opd.sh n))
  | .sliceStr x lo hi => .sliceStr (x.sh n) (lo.map (Opd.sh n)) (hi.map (Opd.sh n))
  | .fieldA off x => .fieldA off (x.sh n)
  | .fieldV off ag x => .fieldV off ag (x.sh n)
  | .idxA z x i => .idxA z (x.sh n) (i.sh n)
  | .idxArr m z x i => .idxArr m z (x.sh n) (i.sh n)
  | .idxStr x i => .idxStr (x.sh n) (i.sh n)
  | .idxAgg m z ag x i => .idxAgg m z ag (x.sh n) (i.sh n)
  | .ext x i => .ext (x.sh n) i
  | .len x => .len (x.sh n)
  | .lenStr x => .lenStr (x.sh n)
  | .cap x => .cap (x.sh n)
  | .mm q x y => .mm q (x.sh n) (y.sh n)
def ROp.sh (n : Nat) : ROp → ROp
  | .load ag x => .load ag (x.sh n)
  | .bytesStr x => .bytesStr (x.sh n)
  | .clone z b x => .clone z b (x.sh n)
  | .pcall f args => .pcall (f.sh n) (args.map (Opd.sh n))
def WOp.sh (n : Nat) : WOp → WOp
  | .alloc zs => .alloc (zs.map (AV.sh n))
  | .box m x => .box m (x.sh n)
  | .store m a x => .store m (a.sh n) (x.sh n)
  | .litMut z zero k ps => .litMut z (zero.sh n) k (ps.map fun p => (p.1, p.2.sh n))
  | .mksl z b zero l c => .mksl z b (zero.sh n) (l.sh n) (c.sh n)
  | .strBytes x => .strBytes (x.sh n)
  | .mark x => .mark (x.sh n)
  | .append z b s x => .append z b (s.sh n) (x.sh n)
  | .appendN z b zero s x => .appendN z b (zero.sh n) (s.sh n) (x.sh n)
  | .clear z zero x => .clear z (zero.sh n) (x.sh n)
  | .call f args => .call (f.sh n) (args.map (Opd.sh n))
  | .bad => .bad
def VOp.sh (n : Nat) : VOp → VOp
  | .p o => .p (o.sh n)
  | .r o => .r (o.sh n)
  | .w o => .w (o.sh n)
def VOper.sh (n : Nat) (o : VOper) : VOper := ⟨o.dst, o.op.sh n, o.guard⟩
def VC.sh (n : Nat) : VC → VC
  | .skip => .skip
  | .reg ops => .reg (ops.map (VOper.sh n))
  | .draw ops => .draw (ops.map fun p => (p.1.sh n, p.2))
  | .seq a b => .seq (a.sh n) (b.sh n)
  | .cond c a b => .cond (c.sh n) (a.sh n) (b.sh n)
  | .block id c => .block id (c.sh n)
  | .loop c => .loop (c.sh n)
  | .exit id => .exit id
  | .ret => .ret
  | .bad => .bad

section
variable {n : Nat} {e : Env}
theorem ev_sh {x : Opd} : (x.sh n).ev (shE n e) = (x.ev e).sh n := by cases x <;> rfl
theorem evs_sh {xs : List Opd} : (xs.map (Opd.sh n)).map (·.ev (shE n e)) = AV.shL n (xs.map (·.ev e)) := by
  rw [shL_map, List.map_map, List.map_map]
  exact List.map_congr_left fun x _ => ev_sh
theorem evo_sh {x : Option Opd} : (x.map (Opd.sh n)).map (·.ev (shE n e)) = (x.map (·.ev e)).map (AV.sh n) := by
  cases x with
  | none => rfl
  | some x => simp [ev_sh]
theorem cells_sh {v : AV} : (v.sh n).cells = v.cells.map (AV.sh n) := by cases v <;> simp [AV.sh, AV.cells, shL_map]
theorem isTup_sh {v : AV} : (v.sh n).isTup = v.isTup := by cases v <;> rfl
theorem isAgg_sh {v : AV} : (v.sh n).isAgg = v.isAgg := by cases v <;> rfl
theorem fits_sh {v : AV} {m : Nat} : (v.sh n).fits m = v.fits m := by simp only [AV.fits, cells_sh, isTup_sh, List.length_map]
theorem splice_sh {xs ys : List AV} {o : Nat} : splice (xs.map (AV.sh n)) o (ys.map (AV.sh n)) = (splice xs o ys).map (AV.sh n) := by
  simp [splice, List.map_take, List.map_drop]
theorem ld_sh {ag : Option Nat} {cs : List AV} : ld ag (cs.map (AV.sh n)) = (ld ag cs).map (AV.sh n) := by
  cases ag with
  | none => simp [ld]
  | some m =>
    simp only [ld, List.length_map]
    split
    · simp [AV.sh, shL_map, List.map_take]
    · rfl
theorem bound_sh {d : Nat} {o : Option AV} : bound d (o.map (AV.sh n)) = bound d o := by
  cases o with
  | none => rfl
  | some v => cases v <;> rfl
theorem parts1_sh {z : Nat} : ∀ {ps : List (Nat × Opd)} {es : List AV}, parts1 z (shE n e) (es.map (AV.sh n)) (ps.map fun p => (p.1, p.2.sh n)) = (parts1 z e es ps).map (List.map (AV.sh n)) := by
  intro ps
  induction ps with
  | nil => intro es; rfl
  | cons p ps ih =>
    intro es
    obtain ⟨i, x⟩ := p
    simp only [List.map_cons, parts1, ev_sh, fits_sh, List.length_map]
    split
    · rw [← List.map_set, ih]
    · rfl
theorem parts2_sh : ∀ {ps : List (Nat × Nat × Opd)} {cs : List AV}, parts2 (shE n e) (cs.map (AV.sh n)) (ps.map fun p => (p.1, p.2.1, p.2.2.sh n)) = (parts2 e cs ps).map (List.map (AV.sh n)) := by
  intro ps
  induction ps with
  | nil => intro es; rfl
  | cons p ps ih =>
    intro es
    obtain ⟨i, s, x⟩ := p
    simp only [List.map_cons, parts2, ev_sh, fits_sh, List.length_map]
    split
    · rw [cells_sh, splice_sh, ih]
    · rfl
theorem ibin_sh {op : BinOp} {a b : AV} : ibin op (a.sh n) (b.sh n) = (ibin op a b).map (AV.sh n) := by
  cases a <;> cases b <;> simp only [AV.sh, ibin, Option.map_none]
  case int.int k a k' b =>
    cases op <;> simp only [] <;> (repeat' split) <;> rfl
  case str.str a b =>
    cases op <;> simp only [] <;> (repeat' split) <;> rfl
theorem nilEq_sh {k : Nat} {a b : AV} : nilEq k (a.sh n) (b.sh n) = nilEq k a b := by
  match k with
  | 0 => cases a <;> cases b <;> rfl
  | 1 => cases a <;> cases b <;> rfl
  | 2 => cases a <;> cases b <;> rfl
  | k + 3 => cases a <;> cases b <;> rfl
theorem eqCells_sh : ∀ {ks : List Nat} {a b : List AV}, eqCells ks (a.map (AV.sh n)) (b.map (AV.sh n)) = eqCells ks a b := by
  intro ks
  induction ks with
  | nil => intro a b; cases a <;> cases b <;> rfl
  | cons k ks ih =>
    intro a b
    cases a with
    | nil => cases b <;> (match k with | 0 => rfl | 1 => rfl | 2 => rfl | k + 3 => rfl)
    | cons x a =>
      cases b with
      | nil =>
        match k with
        | 0 => cases x <;> rfl
        | 1 => cases x <;> rfl
        | 2 => cases x <;> rfl
        | k + 3 => cases x <;> rfl
      | cons y b =>
        match k with
        | 0 => cases x <;> cases y <;> first | rfl | (simp only [List.map_cons, AV.sh, eqCells, ih])
        | 1 => cases x <;> cases y <;> first | rfl | (simp only [List.map_cons, AV.sh, eqCells, ih])
        | 2 => cases x <;> cases y <;> first | rfl | (simp only [List.map_cons, AV.sh, eqCells, ih])
        | k + 3 => cases x <;> cases y <;> rfl
theorem un_sh {op : UnOp} {a : AV} : un op (a.sh n) = (un op a).map (AV.sh n) := by
  cases a <;> simp only [AV.sh, un, Option.map_none] <;> cases op <;> rfl
theorem sliceV_sh {z : Nat} {x : AV} {lo hi : Option AV} : sliceV z (x.sh n) (lo.map (AV.sh n)) (hi.map (AV.sh n)) = (sliceV z x lo hi).map (AV.sh n) := by
  cases x <;> simp only [AV.sh, sliceV, bound_sh, Option.map_none, shL_map, List.length_map]
  case nilsl => cases bound 0 lo <;> cases bound 0 hi <;> simp only [Option.map_none] <;> split <;> rfl
  case sl z' f es =>
    cases bound 0 lo <;> cases bound es.length hi <;> simp only [Option.map_none]
    split
    · simp only [Option.map_some, AV.sh, shL_map, List.map_drop, List.map_take]
    · rfl
  case rsl b z' o m c => cases bound 0 lo <;> cases bound m hi <;> simp only [Option.map_none] <;> split <;> rfl
theorem pop_sh {o : POp} : pop (shE n e) (o.sh n) = (pop e o).map (AV.sh n) := by
  cases o with
  | mov x => simp only [POp.sh, pop, ev_sh, Option.map_some]
  | pick c a b =>
    simp only [POp.sh, pop, ev_sh]
    cases c.ev e <;> simp only [AV.sh, Option.map_none]
    case bool t => cases t <;> rfl
  | build zs ps =>
    simp only [POp.sh, pop, parts2_sh, Option.map_map]
    cases parts2 e zs ps <;> simp [AV.sh, shL_map]
  | lit z zero len ps =>
    simp only [POp.sh, pop, ← List.map_replicate, parts1_sh, Option.map_map]
    cases parts1 z e (List.replicate len zero) ps <;> simp [AV.sh, shL_map]
  | nilck x =>
    simp only [POp.sh, pop, ev_sh]
    cases x.ev e <;> rfl
  | ibin op x y => simp only [POp.sh, pop, ev_sh, ibin_sh]
  | beq q x y =>
    simp only [POp.sh, pop, ev_sh]
    cases x.ev e <;> cases y.ev e <;> rfl
  | nileq k q x y =>
    simp only [POp.sh, pop, ev_sh, nilEq_sh, Option.map_map]
    cases nilEq k (x.ev e) (y.ev e) <;> rfl
  | eqagg ks q x y =>
    simp only [POp.sh, pop, ev_sh]
    cases x.ev e <;> cases y.ev e <;> simp only [AV.sh, Option.map_none, shL_map, eqCells_sh, Option.map_map]
    case agg.agg a b => cases eqCells ks a b <;> rfl
  | un op x => simp only [POp.sh, pop, ev_sh, un_sh]
  | conv k x =>
    simp only [POp.sh, pop, ev_sh]
    cases k <;> cases x.ev e <;> rfl
  | mkfn f a b =>
    simp only [POp.sh, pop, evs_sh, Option.map_some, AV.sh]
  | slice z x lo hi => rw [POp.sh, pop_slice, pop_slice, ev_sh, evo_sh, evo_sh, sliceV_sh]
  | sliceStr x lo hi =>
    simp only [POp.sh, pop, ev_sh, evo_sh, bound_sh]
    cases x.ev e <;> simp only [AV.sh, Option.map_none]
    case str s => cases bound 0 (lo.map (·.ev e)) <;> cases bound s.length (hi.map (·.ev e)) <;> simp only [Option.map_none] <;> split <;> rfl
  | fieldA off x =>
    simp only [POp.sh, pop, ev_sh]
    cases x.ev e <;> simp only [AV.sh, Option.map_none, Option.map_some, shL_map, List.map_drop]
  | fieldV off ag x =>
    simp only [POp.sh, pop, ev_sh]
    cases x.ev e <;> simp only [AV.sh, Option.map_none, shL_map, ← List.map_drop, ld_sh]
  | idxA z x i =>
    simp only [POp.sh, pop, ev_sh]
    cases x.ev e <;> cases i.ev e <;> simp only [AV.sh, Option.map_none]
    case sl.int z' f es k j =>
      split
      · simp only [shL_map, List.getElem?_map, Option.map_map]
        cases es[j.toNat]? <;> simp [AV.sh, shL_map, cells_sh]
      · rfl
    case rsl.int => split <;> rfl
  | idxArr m z x i =>
    simp only [POp.sh, pop, ev_sh]
    cases x.ev e <;> cases i.ev e <;> simp only [AV.sh, Option.map_none]
    case ptr.int => split <;> rfl
  | idxStr x i =>
    simp only [POp.sh, pop, ev_sh]
    cases x.ev e <;> cases i.ev e <;> simp only [AV.sh, Option.map_none]
    case str.int s k j =>
      split
      · cases s[j.toNat]? <;> rfl
      · rfl
  | idxAgg m z ag x i =>
    simp only [POp.sh, pop, ev_sh]
    cases x.ev e <;> cases i.ev e <;> simp only [AV.sh, Option.map_none]
    case agg.int cs k j =>
      split
      · simp only [shL_map, ← List.map_drop, ld_sh]
      · rfl
  | ext x i =>
    simp only [POp.sh, pop, ev_sh]
    cases x.ev e <;> simp only [AV.sh, Option.map_none, shL_map, List.getElem?_map]
  | len x =>
    simp only [POp.sh, pop, ev_sh]
    cases x.ev e <;> simp only [AV.sh, Option.map_none, Option.map_some, shL_map, List.length_map]
  | lenStr x =>
    simp only [POp.sh, pop, ev_sh]
    cases x.ev e <;> rfl
  | cap x =>
    simp only [POp.sh, pop, ev_sh]
    cases x.ev e <;> try rfl
    case sl z f es => cases f <;> simp [AV.sh, shL_map]
    case rsl b z o m c => cases c <;> rfl
  | mm q x y =>
    simp only [POp.sh, pop, ev_sh]
    cases x.ev e <;> cases y.ev e <;> simp only [AV.sh, Option.map_none]
    case int.int => split <;> rfl
end
end Go.Vx
