/- V: a deterministic interpreter with value semantics for the loaded programs' code: definitions. -/
import Derived.Calls
set_option linter.unusedVariables false
namespace Go.Vx

/-- V's values. -/
inductive AV where
  | bool (b : Bool)
  | int (k : IntKind) (n : Int)
  | str (s : List UInt8)
  | nilp
  | ptr (b o : Nat)
  | eptr (b z o : Nat)
  | dptr (cs : List AV)
  | nilsl
  | sl (z : Nat) (full : Bool) (es : List AV)
  | rsl (b z o n : Nat) (c : Option Nat)
  | fn (f : Nat) (first captured : List AV)
  | nilfn
  | agg (cs : List AV)
  | tup (vs : List AV)
  deriving Inhabited

/-- V's objects. -/
inductive AO where
  | box (cs : List AV)
  | row (z : Nat) (es : List AV)
  | dead
  deriving Inhabited

abbrev Heap := List AO
abbrev Env := Nat → AV

def undefV : AV := .tup []
def AV.cells : AV → List AV
  | .agg cs => cs
  | v => [v]
def AV.isTup : AV → Bool
  | .tup _ => true
  | _ => false
def AV.isAgg : AV → Bool
  | .agg _ => true
  | _ => false
def AO.isDead : AO → Bool
  | .dead => true
  | _ => false
/-- As many cells as they should be, and no several results. -/
def AV.fits (v : AV) (n : Nat) : Bool := v.cells.length == n && !v.isTup
def byteV (b : UInt8) : AV := .int .u8 (b.toNat : Int)
def AV.byte? : AV → Option UInt8
  | .int .u8 n => some (UInt8.ofNat n.toNat)
  | _ => none
/-- One piece of a list in another's place. -/
def splice (xs : List AV) (o : Nat) (ys : List AV) : List AV := xs.take o ++ ys ++ xs.drop (o + ys.length)

inductive Opd where
  | tmp (t : Nat)
  | cst (v : AV)

def Opd.ev (e : Env) : Opd → AV
  | .tmp t => e t
  | .cst v => v

/-- Conversions. -/
inductive CK where
  | toInt (k : IntKind)
  | same
  deriving DecidableEq

/-- Operations that read no heap. -/
inductive POp where
  | mov (x : Opd)
  | pick (c a b : Opd)
  | build (zs : List AV) (parts : List (Nat × Nat × Opd))
  | lit (z : Nat) (zero : AV) (len : Nat) (parts : List (Nat × Opd))
  | nilck (x : Opd)
  | ibin (op : BinOp) (x y : Opd)
  | beq (neq : Bool) (x y : Opd)
  | nileq (k : Nat) (neq : Bool) (x y : Opd)     -- k: 0 pointers, 1 slices, 2 functions
  | eqagg (ks : List Nat) (neq : Bool) (x y : Opd)     -- ks: 0 bools, 1 whole numbers, 2 texts
  | un (op : UnOp) (x : Opd)
  | conv (k : CK) (x : Opd)
  | mkfn (f : Nat) (first captured : List Opd)
  | slice (z : Nat) (x : Opd) (lo hi : Option Opd)
  | sliceStr (x : Opd) (lo hi : Option Opd)
  | fieldA (off : Nat) (x : Opd)
  | fieldV (off : Nat) (ag : Option Nat) (x : Opd)
  | idxA (z : Nat) (x i : Opd)
  | idxArr (n z : Nat) (x i : Opd)
  | idxStr (x i : Opd)
  | idxAgg (n z : Nat) (ag : Bool) (x i : Opd)
  | ext (x : Opd) (i : Nat)
  | len (x : Opd)
  | lenStr (x : Opd)
  | cap (x : Opd)
  | mm (max : Bool) (x y : Opd)

/-- Operations that read the heap, and leave it. -/
inductive ROp where
  | load (ag : Option Nat) (x : Opd)
  | bytesStr (x : Opd)
  | clone (z bytes : Nat) (x : Opd)
  | pcall (f : Opd) (args : List Opd)

/-- Operations that write. -/
inductive WOp where
  | alloc (zs : List AV)
  | box (n : Nat) (x : Opd)
  | store (n : Nat) (a x : Opd)
  | litMut (z : Nat) (zero : AV) (len : Nat) (parts : List (Nat × Opd))
  | mksl (z bytes : Nat) (zero : AV) (l c : Opd)
  | strBytes (x : Opd)
  | mark (x : Opd)
  | append (z bytes : Nat) (s x : Opd)
  | appendN (z bytes : Nat) (zero : AV) (s x : Opd)
  | clear (z : Nat) (zero : AV) (x : Opd)
  | call (f : Opd) (args : List Opd)
  | bad

inductive VOp where
  | p (o : POp)
  | r (o : ROp)
  | w (o : WOp)

structure VOper where
  dst : Option Nat
  op : VOp
  guard : Option (Nat × Bool)

def limit : Int := 70368744177664    -- 2 ^ 46 bytes

def parts1 (z : Nat) (e : Env) : List AV → List (Nat × Opd) → Option (List AV)
  | es, [] => some es
  | es, (i, x) :: r => if (x.ev e).fits z && decide (i < es.length) then parts1 z e (es.set i (x.ev e)) r else none
def parts2 (e : Env) : List AV → List (Nat × Nat × Opd) → Option (List AV)
  | cs, [] => some cs
  | cs, (off, size, x) :: r =>
    if (x.ev e).fits size && decide (off + size ≤ cs.length) then parts2 e (splice cs off (x.ev e).cells) r else none

def bitsOf (op : BinOp) (k : IntKind) (x y : Int) : Int :=
  let a := BitVec.ofInt k.bits x
  let b := BitVec.ofInt k.bits y
  match op with
  | .and => k.wrap (a &&& b).toNat
  | .or => k.wrap (a ||| b).toNat
  | .xor => k.wrap (a ^^^ b).toNat
  | _ => k.wrap (a &&& ~~~b).toNat

def ibin (op : BinOp) : AV → AV → Option AV
  | .int k a, .int k' b =>
    match op with
    | .shl => if b < 0 then none else some (.int k (k.wrap (a * 2 ^ (min b.toNat k.bits))))
    | .shr => if b < 0 then none else some (.int k (a.fdiv (2 ^ (min b.toNat k.bits))))
    | .add => if k = k' then some (.int k (k.wrap (a + b))) else none
    | .sub => if k = k' then some (.int k (k.wrap (a - b))) else none
    | .mul => if k = k' then some (.int k (k.wrap (a * b))) else none
    | .quo => if k = k' then if b = 0 then none else some (.int k (k.wrap (a.tdiv b))) else none
    | .rem => if k = k' then if b = 0 then none else some (.int k (a.tmod b)) else none
    | .and | .or | .xor | .andNot => if k = k' then some (.int k (bitsOf op k a b)) else none
    | .eql => if k = k' then some (.bool (a == b)) else none
    | .neq => if k = k' then some (.bool (a != b)) else none
    | .lss => if k = k' then some (.bool (a < b)) else none
    | .leq => if k = k' then some (.bool (a ≤ b)) else none
    | .gtr => if k = k' then some (.bool (a > b)) else none
    | .geq => if k = k' then some (.bool (a ≥ b)) else none
  | .str a, .str b =>
    match op with
    | .add => if ((a.length + b.length : Nat) : Int) ≤ limit then some (.str (a ++ b)) else none
    | .eql => some (.bool (a == b))
    | .neq => some (.bool (!(a == b)))
    | _ => none
  | _, _ => none

def nilEq : Nat → AV → AV → Option Bool
  | 0, .nilp, .nilp => some true
  | 0, .nilp, .ptr .. | 0, .nilp, .eptr .. | 0, .nilp, .dptr _ => some false
  | 0, .ptr .., .nilp | 0, .eptr .., .nilp | 0, .dptr _, .nilp => some false
  | 1, .nilsl, .nilsl => some true
  | 1, .nilsl, .sl .. | 1, .nilsl, .rsl .. => some false
  | 1, .sl .., .nilsl | 1, .rsl .., .nilsl => some false
  | 2, .nilfn, .nilfn => some true
  | 2, .nilfn, .fn .. | 2, .fn .., .nilfn => some false
  | _, _, _ => none
/-- Cells that Go holds against each other one by one: whole numbers, bools, texts. -/
def eqCells : List Nat → List AV → List AV → Option Bool
  | [], [], [] => some true
  | 1 :: ks, .int k a :: xs, .int k' b :: ys => if k = k' then (eqCells ks xs ys).map fun r => a == b && r else none
  | 0 :: ks, .bool a :: xs, .bool b :: ys => (eqCells ks xs ys).map fun r => a == b && r
  | 2 :: ks, .str a :: xs, .str b :: ys => (eqCells ks xs ys).map fun r => a == b && r
  | _, _, _ => none

def un (op : UnOp) : AV → Option AV
  | .bool b => match op with | .not => some (.bool (!b)) | _ => none
  | .int k n => match op with
    | .neg => some (.int k (k.wrap (0 - n)))
    | _ => none
  | _ => none

def bound (d : Nat) : Option AV → Option Nat
  | none => some d
  | some (.int _ i) => if 0 ≤ i then some i.toNat else none
  | _ => none

def ld (ag : Option Nat) (cs : List AV) : Option AV :=
  match ag with
  | none => cs.head?
  | some n => if n ≤ cs.length then some (.agg (cs.take n)) else none

def pop (e : Env) : POp → Option AV
  | .mov x => some (x.ev e)
  | .pick c a b => match c.ev e with
    | .bool t => some (if t then a.ev e else b.ev e)
    | _ => none
  | .build zs parts => (parts2 e zs parts).map .agg
  | .lit z zero len parts => (parts1 z e (List.replicate len zero) parts).map (.sl z true)
  | .nilck x => match x.ev e with
    | .nilp | .nilfn => none
    | v => some v
  | .ibin op x y => ibin op (x.ev e) (y.ev e)
  | .beq neq x y => match x.ev e, y.ev e with
    | .bool a, .bool b => some (.bool (if neq then !(a == b) else a == b))
    | _, _ => none
  | .nileq k neq x y => (nilEq k (x.ev e) (y.ev e)).map fun r => .bool (if neq then !r else r)
  | .eqagg ks neq x y => match x.ev e, y.ev e with
    | .agg a, .agg b => (eqCells ks a b).map fun r => .bool (if neq then !r else r)
    | _, _ => none
  | .un op x => un op (x.ev e)
  | .conv k x => match k, x.ev e with
    | .toInt k, .int _ n => some (.int k (k.wrap n))
    | .same, .str s => some (.str s)
    | _, _ => none
  | .mkfn f first captured => some (.fn f (first.map (·.ev e)) (captured.map (·.ev e)))
  | .slice z x lo hi => match x.ev e with
    | .nilsl => match bound 0 (lo.map (·.ev e)), bound 0 (hi.map (·.ev e)) with
      | some l, some h => if l = 0 ∧ h = 0 then some .nilsl else none
      | _, _ => none
    | .sl z' full es => match bound 0 (lo.map (·.ev e)), bound es.length (hi.map (·.ev e)) with
      | some l, some h => if z = z' ∧ l ≤ h ∧ h ≤ es.length then some (.sl z (full && h == es.length) ((es.take h).drop l)) else none
      | _, _ => none
    | .rsl b z' o n c => match bound 0 (lo.map (·.ev e)), bound n (hi.map (·.ev e)) with
      | some l, some h => if z = z' ∧ l ≤ h ∧ h ≤ c.getD n then some (.rsl b z (o + l) (h - l) (c.map (· - l))) else none
      | _, _ => none
    | _ => none
  | .sliceStr x lo hi => match x.ev e with
    | .str s => match bound 0 (lo.map (·.ev e)), bound s.length (hi.map (·.ev e)) with
      | some l, some h => if l ≤ h ∧ h ≤ s.length then some (.str ((s.take h).drop l)) else none
      | _, _ => none
    | _ => none
  | .fieldA off x => match x.ev e with
    | .ptr b o => some (.ptr b (o + off))
    | .eptr b z o => some (.eptr b z (o + off))
    | .dptr cs => some (.dptr (cs.drop off))
    | _ => none
  | .fieldV off ag x => match x.ev e with
    | .agg cs => ld ag (cs.drop off)
    | _ => none
  | .idxA z x i => match x.ev e, i.ev e with
    | .sl z' _ es, .int _ n => if z = z' ∧ 0 ≤ n then (es[n.toNat]?).map fun v => .dptr v.cells else none
    | .rsl b z' o m _, .int _ n => if z = z' ∧ 0 ≤ n ∧ n < m then some (.eptr b z ((o + n.toNat) * z)) else none
    | _, _ => none
  | .idxArr n z x i => match x.ev e, i.ev e with
    | .ptr b o, .int _ j => if 0 ≤ j ∧ j < n then some (.ptr b (o + j.toNat * z)) else none
    | _, _ => none
  | .idxStr x i => match x.ev e, i.ev e with
    | .str s, .int _ n => if 0 ≤ n then (s[n.toNat]?).map byteV else none
    | _, _ => none
  | .idxAgg n z ag x i => match x.ev e, i.ev e with
    | .agg cs, .int _ j => if 0 ≤ j ∧ j < n then ld (if ag then some z else none) (cs.drop (j.toNat * z)) else none
    | _, _ => none
  | .ext x i => match x.ev e with
    | .tup vs => vs[i]?
    | _ => none
  | .lenStr x => match x.ev e with
    | .str s => some (.int .i64 s.length)
    | _ => none
  | .len x => match x.ev e with
    | .nilsl => some (.int .i64 0)
    | .sl _ _ es => some (.int .i64 es.length)
    | .rsl _ _ _ n _ => some (.int .i64 n)
    | _ => none
  | .cap x => match x.ev e with
    | .nilsl => some (.int .i64 0)
    | .sl _ true es => some (.int .i64 es.length)
    | .rsl _ _ _ _ (some c) => some (.int .i64 c)
    | _ => none
  | .mm mx x y => match x.ev e, y.ev e with
    | .int k a, .int k' b => if k = k' then some (.int k (if mx then (if a < b then b else a) else (if b < a then b else a))) else none
    | _, _ => none

/-- The elements of what is appended, or made a text. -/
def srcE (H : Heap) : AV → Option (List AV)
  | .nilsl => some []
  | .sl _ _ es => some es
  | .rsl b z o n _ => match H[b]? with
    | some (.row z' es) => if z = z' ∧ o + n ≤ es.length then some ((es.drop o).take n) else none
    | _ => none
  | .str s => some (s.map byteV)
  | _ => none
/-- The size of an element of a source. -/
def srcZ : AV → Nat → Bool
  | .sl z _ _, z' => z == z'
  | .rsl _ z _ _ _, z' => z == z'
  | .str _, z' => z' == 1
  | .nilsl, _ => true
  | _, _ => false

abbrev CallF := Nat → List AV → Heap → Option (AV × Heap)

def rop (pc : Nat → List AV → Heap → Option AV) (e : Env) (H : Heap) : ROp → Option AV
  | .load ag x => match x.ev e with
    | .ptr b o => match H[b]? with
      | some (.box cs) => ld ag (cs.drop o)
      | _ => none
    | .eptr b z o => match H[b]? with
      | some (.row z' es) => if z = z' ∧ 0 < z then match es[o / z]? with
        | some v => ld ag (v.cells.drop (o % z))
        | none => none
        else none
      | _ => none
    | .dptr cs => ld ag cs
    | _ => none
  | .bytesStr x => match x.ev e with
    | .str _ => none
    | v => if srcZ v 1 then (srcE H v).bind fun es => (es.mapM AV.byte?).map .str else none
  | .clone z bytes x => if srcZ (x.ev e) z then (srcE H (x.ev e)).bind fun es =>
      if ((es.length * bytes : Nat) : Int) ≤ limit then some (match es with | [] => .nilsl | _ => .sl z false es) else none
    else none
  | .pcall f args => match f.ev e with
    | .fn g first captured => pc g (first ++ args.map (·.ev e) ++ captured) H
    | _ => none

/-- What stands in an object's place. -/
def putO (H : Heap) (fl b : Nat) (o : AO) : Option Heap := if fl ≤ b then some (H.set b o) else none

def asElem (v : AV) (cs : List AV) : Option AV :=
  match v with
  | .agg _ => some (.agg cs)
  | _ => match cs with
    | [c] => if c.isAgg then none else some c
    | _ => none

def appended (fl : Nat) (H : Heap) (z bytes : Nat) (s : AV) (ys : List AV) : Option (AV × Heap) :=
  match s with
  | .nilsl =>
    if ((ys.length * bytes : Nat) : Int) ≤ limit then
      match ys with
      | [] => some (.nilsl, H)
      | _ => some (.rsl H.length z 0 ys.length none, H ++ [.row z ys])
    else none
  | .sl z' full es =>
    if z = z' ∧ (((es.length + ys.length) * bytes : Nat) : Int) ≤ limit then
      match ys with
      | [] => some (s, H)
      | _ => if full then some (.rsl H.length z 0 (es.length + ys.length) none, H ++ [.row z (es ++ ys)]) else none
    else none
  | .rsl b z' o n c =>
    if z = z' ∧ (((n + ys.length) * bytes : Nat) : Int) ≤ limit then
      match H[b]? with
      | some (.row z'' es) =>
        if z = z'' ∧ o + n ≤ es.length then
          match c with
          | some c =>
            if n + ys.length ≤ c then
              if o + n + ys.length ≤ es.length then (putO H fl b (.row z (splice es (o + n) ys))).map fun H' => (.rsl b z o (n + ys.length) (some c), H') else none
            else some (.rsl H.length z 0 (n + ys.length) none, H ++ [.row z ((es.drop o).take n ++ ys)])
          | none =>
            if o = 0 then (putO H fl b .dead).map fun H' => (.rsl H.length z 0 (n + ys.length) none, H' ++ [.row z (es.take n ++ ys)]) else none
        else none
      | _ => none
    else none
  | _ => none

def wop (call : CallF) (fl : Nat) (e : Env) (H : Heap) : WOp → Option (AV × Heap)
  | .alloc zs => some (.ptr H.length 0, H ++ [.box zs])
  | .box n x => if (x.ev e).fits n then some (.ptr H.length 0, H ++ [.box (x.ev e).cells]) else none
  | .store n a x =>
    if (x.ev e).fits n then match a.ev e with
      | .ptr b o => match H[b]? with
        | some (.box cs) => if o + n ≤ cs.length then (putO H fl b (.box (splice cs o (x.ev e).cells))).map fun H' => (undefV, H') else none
        | _ => none
      | .eptr b z o => match H[b]? with
        | some (.row z' es) => if z = z' ∧ 0 < z ∧ o % z + n ≤ z then match es[o / z]? with
          | some v => match asElem v (splice v.cells (o % z) (x.ev e).cells) with
            | some v' => (putO H fl b (.row z (es.set (o / z) v'))).map fun H' => (undefV, H')
            | none => none
          | none => none
          else none
        | _ => none
      | _ => none
    else none
  | .litMut z zero len parts => (parts1 z e (List.replicate len zero) parts).map fun es => (.rsl H.length z 0 len (some len), H ++ [.row z es])
  | .mksl z bytes zero l c => match l.ev e, c.ev e with
    | .int _ l, .int _ c => if 0 ≤ l ∧ l ≤ c ∧ c * bytes ≤ limit ∧ c ≤ limit then
        some (.rsl H.length z 0 l.toNat (some c.toNat), H ++ [.row z (List.replicate c.toNat zero)]) else none
    | _, _ => none
  | .strBytes x => match x.ev e with
    | .str s => if (s.length : Int) ≤ limit then some (.rsl H.length 1 0 s.length none, H ++ [.row 1 (s.map byteV)]) else none
    | _ => none
  | .mark x => match x.ev e with
    | .rsl b z o n c => match H[b]? with
      | some (.row z' es) => if fl ≤ b ∧ 0 < z ∧ z = z' ∧ o = 0 ∧ 0 < n ∧ n ≤ es.length then some (.rsl b z o n c, H) else none
      | _ => none
    | _ => none
  | .append z bytes s x => if srcZ (x.ev e) z then (srcE H (x.ev e)).bind fun ys => appended fl H z bytes (s.ev e) ys else none
  | .appendN z bytes zero s x => match x.ev e with
    | .int _ n => if 0 ≤ n ∧ n ≤ limit ∧ n * bytes ≤ limit then appended fl H z bytes (s.ev e) (List.replicate n.toNat zero) else none
    | _ => none
  | .clear z zero x => match x.ev e with
    | .nilsl => some (undefV, H)
    | .rsl b z' o n _ => if n = 0 then some (undefV, H) else match H[b]? with
      | some (.row z'' es) => if z = z' ∧ z = z'' ∧ o + n ≤ es.length then
          (putO H fl b (.row z (splice es o (List.replicate n zero)))).map fun H' => (undefV, H') else none
      | _ => none
    | _ => none
  | .call f args => match f.ev e with
    | .fn g first captured => call g (first ++ args.map (·.ev e) ++ captured) H
    | _ => none
  | .bad => none

def vop (pc : Nat → List AV → Heap → Option AV) (call : CallF) (fl : Nat) (e : Env) (H : Heap) : VOp → Option (AV × Heap)
  | .p o => (pop e o).map fun v => (v, H)
  | .r o => (rop pc e H o).map fun v => (v, H)
  | .w o => wop call fl e H o

def upd (e : Env) (d : Option Nat) (v : AV) : Env :=
  match d with
  | some d => fun t => bif Nat.beq t d then v else e t
  | none => e

def wantedV (e : Env) : Option (Nat × Bool) → Bool
  | none => true
  | some (t, b) => match e t with
    | .bool x => x == b
    | _ => false

/-- One operation, if its guard lets it. -/
def stepV (pc : Nat → List AV → Heap → Option AV) (call : CallF) (fl : Nat) (o : VOper) (e : Env) (H : Heap) : Option (AV × Heap) :=
  if wantedV e o.guard then vop pc call fl e H o.op else some (undefV, H)

def vops (pc : Nat → List AV → Heap → Option AV) (call : CallF) (fl : Nat) : List VOper → Env → Heap → Option (Env × Heap)
  | [], e, H => some (e, H)
  | o :: r, e, H => (stepV pc call fl o e H).bind fun (v, H') => vops pc call fl r (upd e o.dst v) H'

/-! ### Two values, held against each other -/
mutual
def AV.same : AV → AV → Bool
  | .bool a, .bool b => a == b
  | .int k a, .int k' b => k == k' && a == b
  | .str a, .str b => a == b
  | .nilp, .nilp => true
  | .ptr a b, .ptr c d => a == c && b == d
  | .eptr a b c, .eptr d e f => a == d && b == e && c == f
  | .dptr a, .dptr b => AV.sameL a b
  | .nilsl, .nilsl => true
  | .sl z f es, .sl z' f' es' => z == z' && f == f' && AV.sameL es es'
  | .rsl a b c d o, .rsl a' b' c' d' o' => a == a' && b == b' && c == c' && d == d' && o == o'
  | .fn f a b, .fn f' a' b' => f == f' && AV.sameL a a' && AV.sameL b b'
  | .nilfn, .nilfn => true
  | .agg a, .agg b => AV.sameL a b
  | .tup a, .tup b => AV.sameL a b
  | _, _ => false
def AV.sameL : List AV → List AV → Bool
  | [], [] => true
  | x :: xs, y :: ys => AV.same x y && AV.sameL xs ys
  | _, _ => false
end

/-! ### A region that draws its order: the text's order; each reader says the same at every heap that it may meet -/
structure Seen where
  op : VOper
  env : Env
  val : AV
  lo : Nat
  hi : Nat

def VOper.isR (o : VOper) : Bool := match o.op with | .r _ => true | _ => false
def VOper.isW (o : VOper) : Bool := match o.op with | .w _ => true | _ => false

abbrev DOp := VOper × Nat × Nat     -- an operation; how many writers are done ahead of it, at least and at most

def vdraw (pc : Nat → List AV → Heap → Option AV) (call : CallF) (fl : Nat) : List DOp → Env → Heap → Option (Env × Heap × List Seen × List Heap)
  | [], e, H => some (e, H, [], [])
  | (o, lo, hi) :: r, e, H => (stepV pc call fl o e H).bind fun (v, H') =>
    (vdraw pc call fl r (upd e o.dst v) H').map fun (e', H'', ss, hs) =>
      (e', H'', if o.isR && decide (lo < hi) then ⟨o, e, v, lo, hi⟩ :: ss else ss, if o.isW then H' :: hs else hs)

def Seen.okAt (pc : Nat → List AV → Heap → Option AV) (call : CallF) (fl : Nat) (s : Seen) (H : Heap) : Bool :=
  match stepV pc call fl s.op s.env H with
  | some (v, _) => AV.same v s.val
  | none => false
def Seen.ok (pc : Nat → List AV → Heap → Option AV) (call : CallF) (fl : Nat) (hs : List Heap) (s : Seen) : Bool :=
  ((hs.drop s.lo).take (s.hi - s.lo + 1)).all (s.okAt pc call fl)

def vdrawn (pc : Nat → List AV → Heap → Option AV) (call : CallF) (fl : Nat) (ops : List DOp) (e : Env) (H : Heap) : Option (Env × Heap) :=
  (vdraw pc call fl ops e H).bind fun (e', H', ss, hs) => if ss.all (Seen.ok pc call fl (H :: hs)) then some (e', H') else none

/-! ### Code -/
inductive VC where
  | skip
  | reg (ops : List VOper)
  | draw (ops : List DOp)
  | seq (a b : VC)
  | cond (c : Opd) (a b : VC)
  | block (id : Nat) (c : VC)
  | loop (c : VC)
  | exit (id : Nat)
  | ret
  | bad

inductive VX where
  | normal
  | exit (id : Nat)
  | ret
  deriving DecidableEq

abbrev St := VX × Env × Heap

def rounds (f : Env → Heap → Option St) : Nat → Env → Heap → Option St
  | 0, _, _ => none
  | n + 1, e, H => (f e H).bind fun (x, e', H') =>
    match x with
    | .normal => rounds f n e' H'
    | x => some (x, e', H')

def vexec (L : Nat) (pc : Nat → List AV → Heap → Option AV) (call : CallF) (fl : Nat) : VC → Env → Heap → Option St
  | .skip, e, H => some (.normal, e, H)
  | .reg ops, e, H => (vops pc call fl ops e H).map fun (e', H') => (.normal, e', H')
  | .draw ops, e, H => (vdrawn pc call fl ops e H).map fun (e', H') => (.normal, e', H')
  | .seq a b, e, H => (vexec L pc call fl a e H).bind fun (x, e', H') =>
    match x with
    | .normal => vexec L pc call fl b e' H'
    | x => some (x, e', H')
  | .cond c a b, e, H => match c.ev e with
    | .bool t => if t then vexec L pc call fl a e H else vexec L pc call fl b e H
    | _ => none
  | .block id c, e, H => (vexec L pc call fl c e H).map fun (x, e', H') =>
    match x with
    | .exit id' => if id' = id then (.normal, e', H') else (.exit id', e', H')
    | x => (x, e', H')
  | .loop c, e, H => rounds (vexec L pc call fl c) L e H
  | .exit id, e, H => some (.exit id, e, H)
  | .ret, e, H => some (.ret, e, H)
  | .bad, _, _ => none

inductive Res where
  | tmp (t : Nat)
  | cell (t : Nat) (ag : Option Nat)

structure VF where
  body : VC
  res : List Res

/-- Records that are not handed on as such become values; nothing above n may be named. -/
def freeze (H : Heap) (n : Nat) : Nat → AV → Option AV
  | 0, _ => none
  | _ + 1, .ptr b o => if b < n then some (.ptr b o) else none
  | _ + 1, .eptr b z o => if b < n then some (.eptr b z o) else none
  | d + 1, .dptr cs => (cs.mapM (freeze H n d)).map .dptr
  | d + 1, .sl z f es => (es.mapM (freeze H n d)).map (.sl z f)
  | d + 1, .rsl b z o m c =>
    if b < n then some (.rsl b z o m c) else match H[b]? with
    | some (.row z' es) => if z = z' ∧ o + m ≤ es.length then (((es.drop o).take m).mapM (freeze H n d)).map (.sl z false) else none
    | _ => none
  | d + 1, .fn f a b => match a.mapM (freeze H n d), b.mapM (freeze H n d) with
    | some a', some b' => some (.fn f a' b')
    | _, _ => none
  | d + 1, .agg cs => (cs.mapM (freeze H n d)).map .agg
  | d + 1, .tup cs => (cs.mapM (freeze H n d)).map .tup
  | _ + 1, v => some v

def vres1 (e : Env) (H : Heap) : Res → Option AV
  | .tmp t => some (e t)
  | .cell t ag => match e t with
    | .ptr b o => match H[b]? with
      | some (.box cs) => ld ag (cs.drop o)
      | _ => none
    | _ => none
def vres (e : Env) (H : Heap) (rs : List Res) : Option AV :=
  (rs.mapM (vres1 e H)).map fun vs => match vs with | [v] => v | _ => .tup vs

inductive VFn where
  | code (f : VF)
  | ext (g : List AV → Heap → Option AV)
  | none

def envOf (args : List AV) : Env := fun t => (args[t]?).getD undefV

/-- What a function does that is called for its value alone: nothing that was there is written; what is made and not handed back is forgotten. -/
def asPure (call : Nat → CallF) (f : Nat) (args : List AV) (H : Heap) : Option AV :=
  (call H.length f args H).bind fun (v, H') => freeze H' H.length 12 v

def vbody (L : Nat) (call : Nat → CallF) (fl : Nat) (f : VF) (args : List AV) (H : Heap) : Option (AV × Heap) :=
  (vexec L (asPure call) (call fl) fl f.body (envOf args) H).bind fun (x, e, H') =>
    match x with
    | .exit _ => none
    | _ => (vres e H' f.res).map fun v => (v, H')

def vcall (F : Nat → VFn) (L : Nat) : Nat → Nat → CallF
  | 0, _, _, _, _ => none
  | d + 1, fl, f, args, H => match F f with
    | .code vf => vbody L (vcall F L d) fl vf args H
    | .ext g => (g args H).map fun v => (v, H)
    | .none => none

/-- Functions by their numbers. -/
def vlook : List (Nat × VFn) → Nat → VFn
  | [], _ => .none
  | (k, v) :: r, n => bif Nat.beq k n then v else vlook r n

/-! ### The compiler: from a loaded function's code to V's -/
structure Pol where
  pure : Nat → Nat → Bool    -- region and callee: called for its value alone
  dyn : Nat → Bool           -- regions in which function values are called for their values alone
  muts : Bool                -- literals of slices are records
  clone : Nat → Bool         -- regions in which append(nil, ..) makes a value

def cVal : Nat → Value → Option AV
  | 0, _ => none
  | _ + 1, .bool b => some (.bool b)
  | _ + 1, .int k n => some (.int k n)
  | _ + 1, .string s => some (.str s.data.toList)
  | _ + 1, .pointer none => some .nilp
  | _ + 1, .slice none 0 0 => some .nilsl
  | _ + 1, .nilFunc => some .nilfn
  | d + 1, .agg cs => (cs.toList.mapM (cVal d)).bind fun l => if l.all fun c => !c.isAgg then some (.agg l) else none
  | _ + 1, _ => none

def cOpd : Operand → Option Opd
  | .tmp t => some (.tmp t)
  | .const v => (cVal 3 v).map .cst
  | .func f => some (.cst (.fn f [] []))
  | .global _ => none

def cOpdO : Option Operand → Option (Option Opd)
  | none => some none
  | some x => (cOpd x).map some

section
variable (P : Program)
def aggSize (t : TypeId) : Option (Option Nat) :=      -- of a type: none, if one cell; the number of cells, if a struct or an array
  match P.underlying t, P.info? t with
  | some (.struct _), some i | some (.array _ _), some i => some (some i.size)
  | some _, some i => if i.size = 1 then some none else none
  | _, _ => none
def zeroAV (t : TypeId) : Option AV := (P.info? t).bind fun i => i.zero.bind (cVal 3)
def cellsN (t : TypeId) : Option Nat := (aggSize P t).map fun o => o.getD 1
/-- An element's type: how many cells, how many bytes, its zero value. -/
def elemOf' (t : TypeId) : Option (Nat × Nat × AV) :=
  match P.underlying t with
  | some (.slice e) => match cellsN P e, P.info? e, zeroAV P e with
    | some n, some i, some v => if 0 < n && v.fits n && i.size == n && decide (0 < i.bytes) then some (n, i.bytes, v) else none
    | _, _, _ => none
  | _ => none

def cParts (xs : Array (Nat × Operand)) : Option (List (Nat × Opd)) := xs.toList.mapM fun (i, x) => (cOpd x).map fun y => (i, y)

def plainFields : Nat → List Field → Option (List Nat)
  | _, [] => some []
  | i, f :: fs =>
    if f.name ≠ "_" ∧ f.offset = i ∧ (P.info? f.type).map (·.size) = some 1 then
      match P.underlying f.type with
      | some .bool => (plainFields (i + 1) fs).map (0 :: ·)
      | some (.int _) => (plainFields (i + 1) fs).map (1 :: ·)
      | some .string => (plainFields (i + 1) fs).map (2 :: ·)
      | _ => none
    else none

def badOp : VOp := .w .bad
def orBad (o : Option VOp) : VOp := o.getD badOp

def cOp (pol : Pol) (reg : Nat) (o : Op) : VOp := orBad <|
  match o with
  | .move x | .assign x => do some (.p (.mov (← cOpd x)))
  | .pick c a b => do some (.p (.pick (← cOpd c) (← cOpd a) (← cOpd b)))
  | .alloc t => do
    let v ← zeroAV P t
    let n ← cellsN P t
    if v.fits n then some (.w (.alloc v.cells)) else none
  | .box t x => do some (.w (.box (← cellsN P t) (← cOpd x)))
  | .build t parts => do
    let v ← zeroAV P t
    let n ← cellsN P t
    let ps ← cParts parts
    if !v.fits n then none else
    match P.underlying t with
    | some (.struct fs) => if !(fs.toList.all fun f => (P.info? f.type).isSome) then none else do
      let ps' ← ps.mapM fun (i, x) => do
        let f ← fs[i]?
        let m ← cellsN P f.type
        some (f.offset, m, x)
      some (.p (.build v.cells ps'))
    | some (.array _ e) => do
      let m ← cellsN P e
      some (.p (.build v.cells (ps.map fun (i, x) => (i * m, m, x))))
    | _ => none
  | .buildSlice t len parts => do
    let (z, _, zero) ← elemOf' P t
    let ps ← cParts parts
    if len * z > 2 ^ 24 then none else
    some (if pol.muts then .w (.litMut z zero len ps) else .p (.lit z zero len ps))
  | .load t a => do some (.r (.load (← aggSize P t) (← cOpd a)))
  | .store t a v => do some (.w (.store (← cellsN P t) (← cOpd a) (← cOpd v)))
  | .nilCheck x => do some (.p (.nilck (← cOpd x)))
  | .binOp op t x y _ => do
    let x' ← cOpd x
    let y' ← cOpd y
    match P.underlying t with
    | some (.int _) | some .string => some (.p (.ibin op x' y'))
    | some .bool => match op with
      | .eql => some (.p (.beq false x' y'))
      | .neq => some (.p (.beq true x' y'))
      | _ => none
    | some (.pointer _) => match op with
      | .eql => some (.p (.nileq 0 false x' y'))
      | .neq => some (.p (.nileq 0 true x' y'))
      | _ => none
    | some (.slice _) => match op with
      | .eql => some (.p (.nileq 1 false x' y'))
      | .neq => some (.p (.nileq 1 true x' y'))
      | _ => none
    | some (.func _ _ _) => match op with
      | .eql => some (.p (.nileq 2 false x' y'))
      | .neq => some (.p (.nileq 2 true x' y'))
      | _ => none
    | some (.struct fs) => if P.stoodInHeld t then none else match plainFields P 0 fs.toList, op with
      | some ks, .eql => some (.p (.eqagg ks false x' y'))
      | some ks, .neq => some (.p (.eqagg ks true x' y'))
      | _, _ => none
    | _ => none
  | .unOp op _ x => do some (.p (.un op (← cOpd x)))
  | .convert src dst x => do
    let x' ← cOpd x
    match P.underlying src, P.underlying dst with
    | some (.int _), some (.int k) => some (.p (.conv (.toInt k) x'))
    | some .string, some .string => some (.p (.conv .same x'))
    | some .string, some (.slice e) => match P.underlying e with
      | some (.int .u8) => some (.w (.strBytes x'))
      | _ => none
    | some (.slice _), some (.slice e) => match src == dst, P.underlying e with
      | true, some (.int .u8) => some (.w (.mark x'))
      | _, _ => none
    | some (.slice e), some .string => match P.underlying e with
      | some (.int .u8) => some (.r (.bytesStr x'))
      | _ => none
    | _, _ => none
  | .makeFunc (.func f) first captured => do
    some (.p (.mkfn f (← first.toList.mapM cOpd) (← captured.toList.mapM cOpd)))
  | .makeSlice t l c => do
    let (z, bytes, zero) ← elemOf' P t
    some (.w (.mksl z bytes zero (← cOpd l) (← cOpd c)))
  | .slice t x lo hi none => do
    let x' ← cOpd x
    let lo' ← cOpdO lo
    let hi' ← cOpdO hi
    match P.underlying t with
    | some .string => some (.p (.sliceStr x' lo' hi'))
    | some (.slice _) => do
      let (z, _, _) ← elemOf' P t
      some (.p (.slice z x' lo' hi'))
    | _ => none
  | .fieldAddr s x i => do
    let x' ← cOpd x
    match P.underlying s with
    | some (.struct fs) => do
      let f ← fs[i]?
      let n ← cellsN P f.type
      if 0 < n then some (.p (.fieldA f.offset x')) else none
    | _ => none
  | .field s x i => do
    let x' ← cOpd x
    match P.underlying s with
    | some (.struct fs) => do
      let f ← fs[i]?
      some (.p (.fieldV f.offset (← aggSize P f.type) x'))
    | _ => none
  | .indexAddr t x i => do
    let x' ← cOpd x
    let i' ← cOpd i
    match P.underlying t with
    | some (.slice _) => do
      let (z, _, _) ← elemOf' P t
      some (.p (.idxA z x' i'))
    | some (.array n e) => do
      let m ← cellsN P e
      some (.p (.idxArr n m x' i'))
    | _ => none
  | .index t x i => do
    let x' ← cOpd x
    let i' ← cOpd i
    match P.underlying t with
    | some .string => some (.p (.idxStr x' i'))
    | some (.array n e) => do
      let ag ← aggSize P e
      some (.p (.idxAgg n (ag.getD 1) ag.isSome x' i'))
    | _ => none
  | .extract x i => do some (.p (.ext (← cOpd x) i))
  | .call c => do
    let args ← c.args.toList.mapM cOpd
    match c.callee with
    | .value f => do
      let f' ← cOpd f
      match f with
      | .func g => some (if pol.pure reg g then .r (.pcall f' args) else .w (.call f' args))
      | _ => some (if pol.dyn reg then .r (.pcall f' args) else .w (.call f' args))
    | .invoke _ _ => none
    | .builtin b => do
      let t ← c.argTypes[0]?
      match b, args with
      | .len, [x] => match P.underlying t with
        | some .string => some (.p (.lenStr x))
        | some (.slice _) => some (.p (.len x))
        | some (.array n _) => some (.p (.mov (.cst (.int .i64 n))))
        | _ => none
      | .cap, [x] => match P.underlying t with
        | some (.slice _) => some (.p (.cap x))
        | _ => none
      | .min, [x, y] => some (.p (.mm false x y))
      | .max, [x, y] => some (.p (.mm true x y))
      | .append, [s, x] => do
        let (z, bytes, zero) ← elemOf' P t
        let t1 ← c.argTypes[1]?
        match P.underlying t1 with
        | some (.int _) => some (.w (.appendN z bytes zero s x))
        | some _ => match s with
          | .cst .nilsl => some (if pol.clone reg then .r (.clone z bytes x) else .w (.append z bytes s x))
          | _ => some (.w (.append z bytes s x))
        | none => none
      | .clear, [x] => do
        let (z, _, zero) ← elemOf' P t
        some (.w (.clear z zero x))
      | _, _ => none
  | _ => none

/-- Which operations stand ahead of one, by edges that hold in every order: a number's bits. -/
def befBits (ops : List Oper) : List Nat :=
  (ops.foldl (fun acc o => acc ++ [o.after.toList.foldl (fun s e => if Region.binds .any e then s ||| 2 ^ e.on ||| acc.getD e.on 0 else s) 0]) [])


end

def Opd.reads : Opd → List Nat
  | .tmp t => [t]
  | .cst _ => []
def readsO : Option Opd → List Nat
  | none => []
  | some x => x.reads
def POp.reads : POp → List Nat
  | .mov x | .nilck x | .un _ x | .conv _ x | .fieldA _ x | .fieldV _ _ x | .ext x _ | .len x | .lenStr x | .cap x => x.reads
  | .pick c a b => c.reads ++ a.reads ++ b.reads
  | .build _ ps => ps.flatMap fun (_, _, x) => x.reads
  | .lit _ _ _ ps => ps.flatMap fun (_, x) => x.reads
  | .ibin _ x y | .beq _ x y | .nileq _ _ x y | .eqagg _ _ x y | .mm _ x y => x.reads ++ y.reads
  | .idxA _ x y | .idxArr _ _ x y | .idxStr x y | .idxAgg _ _ _ x y => x.reads ++ y.reads
  | .mkfn _ a b => a.flatMap Opd.reads ++ b.flatMap Opd.reads
  | .slice _ x l h | .sliceStr x l h => x.reads ++ readsO l ++ readsO h
def ROp.reads : ROp → List Nat
  | .load _ x | .bytesStr x | .clone _ _ x => x.reads
  | .pcall f as => f.reads ++ as.flatMap Opd.reads
def WOp.reads : WOp → List Nat
  | .alloc _ | .bad => []
  | .box _ x | .strBytes x | .mark x | .clear _ _ x => x.reads
  | .store _ a x => a.reads ++ x.reads
  | .litMut _ _ _ ps => ps.flatMap fun (_, x) => x.reads
  | .mksl _ _ _ l c => l.reads ++ c.reads
  | .append _ _ s x | .appendN _ _ _ s x => s.reads ++ x.reads
  | .call f as => f.reads ++ as.flatMap Opd.reads
def VOp.reads : VOp → List Nat
  | .p o => o.reads
  | .r o => o.reads
  | .w o => o.reads
def VOper.looks (o : VOper) : List Nat := o.op.reads ++ (match o.guard with | some (t, _) => [t] | none => [])

section
variable (P : Program)
def cOper (pol : Pol) (reg nt : Nat) (ops : Array Oper) (o : Oper) : VOper :=
  let ok := (match o.dst with | some d => decide (d < nt) | none => true) &&
    (match o.guard with | some (g, _) => ((ops[g]?).bind (·.dst)).isSome | none => true)
  { dst := o.dst, op := if ok then cOp P pol reg o.op else badOp,
    guard := match o.guard with
      | some (g, w) => some ((((ops[g]?).bind (·.dst)).getD 0), w)
      | none => none }

/-- A pair of operations, the first one ahead in the text: are they ordered if they must be? -/
def pairOk (a b : VOper) (i bb : Nat) : Bool :=
  let touch := (match a.dst with | some d => b.looks.contains d || b.dst == some d | none => false) ||
    (match b.dst with | some d => a.looks.contains d | none => false)
  (!touch && !(a.isW && b.isW)) || bb.testBit i

def drawOk (ops : List Oper) (vs : List VOper) (bef : List Nat) : Bool :=
  ((List.range ops.length).all fun i => ((ops.getD i default).after.all fun e => !Region.binds .any e || decide (e.on < i))) &&
  ((List.range vs.length).all fun j => (List.range j).all fun i =>
    match vs[i]?, vs[j]?, bef[j]? with
    | some a, some b, some bb => pairOk a b i bb
    | _, _, _ => false)

def loOf (vs : List VOper) (bb : Nat) : Nat := ((List.range vs.length).filter fun j => (match vs[j]? with | some v => v.isW | none => false) && bb.testBit j).length
def hiOf (vs : List VOper) (bef : List Nat) (i : Nat) : Nat :=
  ((List.range vs.length).filter fun j => (match vs[j]?, bef[j]? with | some v, some bb => v.isW && !bb.testBit i && j != i | _, _ => false)).length

def cRegion (pol : Pol) (id nt : Nat) (ops : Array Oper) (draw : Bool) : VC :=
  let vs := ops.toList.map (cOper P pol id nt ops)
  if draw then
    let bef := befBits ops.toList
    if drawOk ops.toList vs bef then .draw ((List.range vs.length).filterMap fun i =>
      match vs[i]?, bef[i]? with
      | some v, some bb => some (v, loOf vs bb, hiOf vs bef i)
      | _, _ => none) else .bad
  else .reg vs

def cCode (pol : Pol) (nt : Nat) : Code → VC
  | .skip => .skip
  | .region id ops draw => cRegion P pol id nt ops draw
  | .seq a b => .seq (cCode pol nt a) (cCode pol nt b)
  | .cond c a b => match cOpd c with
    | some c' => .cond c' (cCode pol nt a) (cCode pol nt b)
    | none => .bad
  | .block id c => .block id (cCode pol nt c)
  | .loop c => .loop (cCode pol nt c)
  | .exit id => .exit id
  | .ret => .ret
  | _ => .bad

def cRes : ResultVar → Option Res
  | .tmp t => some (.tmp t)
  | .cell a t => (aggSize P t).map (.cell a)

def cFunc (pol : Pol) (fn : Func) : VFn :=
  match fn.body, fn.results.toList.mapM (cRes P) with
  | some c, some rs => .code { body := cCode P pol fn.ntmps c, res := rs }
  | _, _ => .none
end

end Go.Vx
