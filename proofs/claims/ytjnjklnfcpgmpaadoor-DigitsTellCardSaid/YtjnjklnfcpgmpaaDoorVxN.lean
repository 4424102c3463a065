/- V: operations on memory, for rewriting; texts of bytes. -/
import Derived.Test.YtjnjklnfcpgmpaaDoorVxM
set_option linter.unusedVariables false
set_option linter.unusedSimpArgs false
namespace Go.Vx

section
variable {pc : Nat → List AV → Heap → Option AV} {call : CallF} {fl : Nat} {e : Env} {H : Heap}

/-! the heap -/
theorem get_set_self {b : Nat} {x : AO} (h : b < H.length) : (H.set b x)[b]? = some x := by simp [h]
theorem get_set_ne {b b' : Nat} {x : AO} (h : b ≠ b') : (H.set b x)[b']? = H[b']? := by simp [List.getElem?_set, h]
theorem get_add_lt {b : Nat} {x : AO} (h : b < H.length) : (H ++ [x])[b]? = H[b]? := List.getElem?_append_left h
theorem get_add_eq {x : AO} {n : Nat} (h : n = H.length) : (H ++ [x])[n]? = some x := by subst h; simp
theorem putO_ok {b : Nat} {o : AO} (h : fl ≤ b) : putO H fl b o = some (H.set b o) := by simp [putO, h]
theorem lt_of_get {b : Nat} {o : AO} (h : H[b]? = some o) : b < H.length := (List.getElem?_eq_some_iff.1 h).1

/-! loads -/
def boxLd (o : Option AO) (ag : Option Nat) (k : Nat) : Option AV := match o with | some (.box cs) => ld ag (cs.drop k) | _ => none
theorem boxLd_box {cs : List AV} {ag : Option Nat} {k : Nat} : boxLd (some (.box cs)) ag k = ld ag (cs.drop k) := rfl
def rowLd (o : Option AO) (ag : Option Nat) (z k : Nat) : Option AV := match o with
  | some (.row z' es) => if z = z' ∧ 0 < z then match es[k / z]? with
    | some v => ld ag (v.cells.drop (k % z))
    | none => none
    else none
  | _ => none
def loadV (H : Heap) (ag : Option Nat) (v : AV) : Option AV := match v with
  | .ptr b o => boxLd H[b]? ag o
  | .eptr b z o => rowLd H[b]? ag z o
  | .dptr cs => ld ag cs
  | _ => none
theorem rop_loadV {ag : Option Nat} {x : Opd} : rop pc e H (.load ag x) = loadV H ag (x.ev e) := by
  simp only [rop, loadV]
  cases x.ev e <;> first | rfl | skip
theorem loadV_ptr {ag : Option Nat} {b o : Nat} : loadV H ag (.ptr b o) = boxLd H[b]? ag o := rfl
theorem loadV_dptr {ag : Option Nat} {cs : List AV} : loadV H ag (.dptr cs) = ld ag cs := rfl
theorem loadV_eptr {ag : Option Nat} {b z k : Nat} {es : List AV} {v : AV} {j : Nat} (h : H[b]? = some (.row z es)) (hz : 0 < z) (hj : j < z) (hv : es[k]? = some v) : loadV H ag (.eptr b z (k * z + j)) = ld ag (v.cells.drop j) := by
  have h1 : (k * z + j) / z = k := by rw [Nat.mul_comm, Nat.mul_add_div hz, Nat.div_eq_of_lt hj]; rfl
  have h2 : (k * z + j) % z = j := by rw [Nat.mul_comm, Nat.mul_add_mod, Nat.mod_eq_of_lt hj]
  simp only [loadV, rowLd, h, h1, h2, hv, hz, and_self, if_true]

/-! stores -/
def storeB (H : Heap) (fl b o n : Nat) (v : AV) (ob : Option AO) : Option (AV × Heap) := match ob with
  | some (.box cs) => if o + n ≤ cs.length then (putO H fl b (.box (splice cs o v.cells))).map fun H' => (undefV, H') else none
  | _ => none
def storeV (H : Heap) (fl n : Nat) (a v : AV) : Option (AV × Heap) :=
  if v.fits n then match a with
      | .ptr b o => storeB H fl b o n v H[b]?
      | .eptr b z o => match H[b]? with
        | some (.row z' es) => if z = z' ∧ 0 < z ∧ o % z + n ≤ z then match es[o / z]? with
          | some v' => match asElem v' (splice v'.cells (o % z) v.cells) with
            | some v'' => (putO H fl b (.row z (es.set (o / z) v''))).map fun H' => (undefV, H')
            | none => none
          | none => none
          else none
        | _ => none
      | _ => none
    else none
theorem wop_store {n : Nat} {a x : Opd} : wop call fl e H (.store n a x) = storeV H fl n (a.ev e) (x.ev e) := rfl
theorem storeV_ptr {b o n : Nat} {v : AV} {cs : List AV} (hv : v.fits n = true) (hb : H[b]? = some (.box cs)) (ho : o + n ≤ cs.length) (hf : fl ≤ b) : storeV H fl n (.ptr b o) v = some (undefV, H.set b (.box (splice cs o v.cells))) := by
  simp only [storeV, hv, if_true, storeB, hb, ho, putO_ok hf, Option.map_some]
theorem storeV_at {b o n : Nat} {v : AV} (hv : v.fits n = true) : storeV H fl n (.ptr b o) v = storeB H fl b o n v H[b]? := by simp only [storeV, hv, if_true]
theorem storeB_box {b o n : Nat} {v : AV} {cs : List AV} (ho : o + n ≤ cs.length) (hf : fl ≤ b) : storeB H fl b o n v (some (.box cs)) = some (undefV, H.set b (.box (splice cs o v.cells))) := by simp only [storeB, ho, if_true, putO_ok hf, Option.map_some]
theorem cells_int {k : IntKind} {n : Int} : AV.cells (.int k n) = [.int k n] := rfl
theorem cells_bool {b : Bool} : AV.cells (.bool b) = [.bool b] := rfl
theorem cells_str {s : List UInt8} : AV.cells (.str s) = [.str s] := rfl
theorem cells_nilsl : AV.cells .nilsl = [.nilsl] := rfl
theorem cells_sl {z : Nat} {f : Bool} {es : List AV} : AV.cells (.sl z f es) = [.sl z f es] := rfl
theorem cells_rsl {b z o n : Nat} {c : Option Nat} : AV.cells (.rsl b z o n c) = [.rsl b z o n c] := rfl
theorem cells_nilp : AV.cells .nilp = [.nilp] := rfl
theorem cells_ptr {b o : Nat} : AV.cells (.ptr b o) = [.ptr b o] := rfl
theorem cells_agg {cs : List AV} : AV.cells (.agg cs) = cs := rfl
theorem splice_0 {x : AV} {xs ys : List AV} : splice (x :: xs) 0 ys = ys ++ (x :: xs).drop ys.length := by simp [splice]
theorem splice_s {x : AV} {xs ys : List AV} {o : Nat} : splice (x :: xs) (o + 1) ys = x :: splice xs o ys := by
  have : o + 1 + ys.length = (o + ys.length) + 1 := by omega
  simp [splice, this]
theorem storeV_row1 {b k : Nat} {v v0 : AV} {es : List AV} (hv : v.fits 1 = true) (ha : v.isAgg = false) (hb : H[b]? = some (.row 1 es)) (hk : es[k]? = some v0) (h0 : v0.isAgg = false) (hf : fl ≤ b) : storeV H fl 1 (.eptr b 1 (k * 1)) v = some (undefV, H.set b (.row 1 (es.set k v))) := by
  have e1 : k * 1 % 1 = 0 := Nat.mod_one _
  have e2 : k * 1 / 1 = k := by simp
  have e3 : v0.cells = [v0] := by cases v0 <;> first | rfl | simp [AV.isAgg] at h0
  have e4 : v.cells = [v] := by cases v <;> first | rfl | simp [AV.isAgg] at ha
  have e5 : asElem v0 (splice v0.cells 0 v.cells) = some v := by
    rw [e3, e4]
    have : splice [v0] 0 [v] = [v] := rfl
    rw [this]
    cases v0 <;> first | (simp [AV.isAgg] at h0; done) | simp [asElem, ha]
  simp only [storeV, hv, if_true, hb, e1, e2, hk, e5, putO_ok hf, Option.map_some, and_self, Nat.zero_add, Nat.le_refl, Nat.lt_one_iff, Nat.zero_lt_one]

theorem store_mid {xs ys : List AV} {k k' : IntKind} {n n' : Int} {m : Nat} (hm : m = xs.length) (hf : fl ≤ H.length) : storeV (H ++ [.row 1 (xs ++ .int k n :: ys)]) fl 1 (.eptr H.length 1 m) (.int k' n') = some (undefV, H ++ [.row 1 (xs ++ .int k' n' :: ys)]) := by
  subst hm
  have h1 := storeV_row1 (H := H ++ [.row 1 (xs ++ .int k n :: ys)]) (fl := fl) (b := H.length) (k := xs.length) (v := .int k' n') (v0 := .int k n) (es := xs ++ .int k n :: ys) rfl rfl (by simp) (by simp) rfl hf
  rw [Nat.mul_one] at h1
  rw [h1]
  simp

/-! new objects -/
theorem wop_alloc {zs : List AV} : wop call fl e H (.alloc zs) = some (.ptr H.length 0, H ++ [.box zs]) := rfl
def boxV (H : Heap) (n : Nat) (v : AV) : Option (AV × Heap) := if v.fits n then some (.ptr H.length 0, H ++ [.box v.cells]) else none
theorem wop_box {n : Nat} {x : Opd} : wop call fl e H (.box n x) = boxV H n (x.ev e) := rfl
theorem boxV_ok {n : Nat} {v : AV} (h : v.fits n = true) : boxV H n v = some (.ptr H.length 0, H ++ [.box v.cells]) := by simp [boxV, h]
def mkslV (H : Heap) (z bytes : Nat) (zero l c : AV) : Option (AV × Heap) := match l, c with
    | .int _ l, .int _ c => if 0 ≤ l ∧ l ≤ c ∧ c * bytes ≤ limit ∧ c ≤ limit then
        some (.rsl H.length z 0 l.toNat (some c.toNat), H ++ [.row z (List.replicate c.toNat zero)]) else none
    | _, _ => none
theorem wop_mksl {z bytes : Nat} {zero : AV} {l c : Opd} : wop call fl e H (.mksl z bytes zero l c) = mkslV H z bytes zero (l.ev e) (c.ev e) := rfl
theorem mkslV_ok {z bytes : Nat} {zero : AV} {k k' : IntKind} {l c : Nat} (h1 : l ≤ c) (h2 : ((c * bytes : Nat) : Int) ≤ limit) (h3 : (c : Int) ≤ limit) : mkslV H z bytes zero (.int k l) (.int k' c) = some (.rsl H.length z 0 l (some c), H ++ [.row z (List.replicate c zero)]) := by
  have : (0 : Int) ≤ l ∧ (l : Int) ≤ c ∧ (c : Int) * bytes ≤ limit ∧ (c : Int) ≤ limit := ⟨by omega, by omega, by simpa using h2, h3⟩
  simp only [mkslV, this, and_self, if_true, Int.toNat_natCast]

/-! calls -/
def callV (call : CallF) (H : Heap) (f : AV) (args : List AV) : Option (AV × Heap) := match f with
  | .fn g first captured => call g (first ++ args ++ captured) H
  | _ => none
theorem wop_call {f : Opd} {args : List Opd} : wop call fl e H (.call f args) = callV call H (f.ev e) (args.map (·.ev e)) := rfl
theorem callV_fn {g : Nat} {first captured args : List AV} : callV call H (.fn g first captured) args = call g (first ++ args ++ captured) H := rfl
def pcallV (pc : Nat → List AV → Heap → Option AV) (H : Heap) (f : AV) (args : List AV) : Option AV := match f with
  | .fn g first captured => pc g (first ++ args ++ captured) H
  | _ => none
theorem rop_pcall {f : Opd} {args : List Opd} : rop pc e H (.pcall f args) = pcallV pc H (f.ev e) (args.map (·.ev e)) := rfl
theorem pcallV_fn {g : Nat} {first captured args : List AV} : pcallV pc H (.fn g first captured) args = pc g (first ++ args ++ captured) H := rfl

/-! building -/
theorem pop_build {zs : List AV} {ps : List (Nat × Nat × Opd)} : pop e (.build zs ps) = (parts2 e zs ps).map .agg := rfl
theorem parts2_nil {cs : List AV} : parts2 e cs [] = some cs := rfl
def part2V (e : Env) (cs : List AV) (off size : Nat) (v : AV) (r : List (Nat × Nat × Opd)) : Option (List AV) :=
  if v.fits size && decide (off + size ≤ cs.length) then parts2 e (splice cs off v.cells) r else none
theorem parts2_cons {cs : List AV} {off size : Nat} {x : Opd} {r : List (Nat × Nat × Opd)} : parts2 e cs ((off, size, x) :: r) = part2V e cs off size (x.ev e) r := rfl
theorem part2V_ok {cs : List AV} {off size : Nat} {v : AV} {r : List (Nat × Nat × Opd)} (h1 : v.fits size = true) (h2 : off + size ≤ cs.length) : part2V e cs off size v r = parts2 e (splice cs off v.cells) r := by simp [part2V, h1, h2]
theorem pop_lit {z len : Nat} {zero : AV} {ps : List (Nat × Opd)} : pop e (.lit z zero len ps) = (parts1 z e (List.replicate len zero) ps).map (.sl z true) := rfl
theorem parts1_nil {z : Nat} {es : List AV} : parts1 z e es [] = some es := rfl
def part1V (z : Nat) (e : Env) (es : List AV) (i : Nat) (v : AV) (r : List (Nat × Opd)) : Option (List AV) :=
  if v.fits z && decide (i < es.length) then parts1 z e (es.set i v) r else none
theorem parts1_cons {z : Nat} {es : List AV} {i : Nat} {x : Opd} {r : List (Nat × Opd)} : parts1 z e es ((i, x) :: r) = part1V z e es i (x.ev e) r := rfl
theorem part1V_ok {z : Nat} {es : List AV} {i : Nat} {v : AV} {r : List (Nat × Opd)} (h1 : v.fits z = true) (h2 : i < es.length) : part1V z e es i v r = parts1 z e (es.set i v) r := by simp [part1V, h1, h2]

/-! slices -/
def idxArrV (n z : Nat) (x i : AV) : Option AV := match x, i with
  | .ptr b o, .int _ j => if 0 ≤ j ∧ j < n then some (.ptr b (o + j.toNat * z)) else none
  | _, _ => none
theorem pop_idxArr {n z : Nat} {x i : Opd} : pop e (.idxArr n z x i) = idxArrV n z (x.ev e) (i.ev e) := rfl
theorem idxArrV_ok {n z b o : Nat} {k : IntKind} {j : Int} (h0 : 0 ≤ j) (h1 : j < n) : idxArrV n z (.ptr b o) (.int k j) = some (.ptr b (o + j.toNat * z)) := by simp [idxArrV, h0, h1]
def idxAV (z : Nat) (x i : AV) : Option AV := match x, i with
  | .sl z' _ es, .int _ n => if z = z' ∧ 0 ≤ n then (es[n.toNat]?).map fun v => .dptr v.cells else none
  | .rsl b z' o m _, .int _ n => if z = z' ∧ 0 ≤ n ∧ n < m then some (.eptr b z ((o + n.toNat) * z)) else none
  | _, _ => none
theorem pop_idxA {z : Nat} {x i : Opd} : pop e (.idxA z x i) = idxAV z (x.ev e) (i.ev e) := rfl
theorem idxAV_sl {z : Nat} {f : Bool} {es : List AV} {k : IntKind} {n : Nat} {v : AV} (h : es[n]? = some v) : idxAV z (.sl z f es) (.int k n) = some (.dptr v.cells) := by
  have : z = z ∧ (0 : Int) ≤ (n : Int) := ⟨rfl, by omega⟩
  simp only [idxAV, this, and_self, if_true, Int.toNat_natCast, h, Option.map_some]
theorem idxAV_rsl {b z o m : Nat} {c : Option Nat} {k : IntKind} {n : Nat} (h : n < m) : idxAV z (.rsl b z o m c) (.int k n) = some (.eptr b z ((o + n) * z)) := by
  have : z = z ∧ (0 : Int) ≤ (n : Int) ∧ (n : Int) < (m : Int) := ⟨rfl, by omega, by omega⟩
  simp only [idxAV, this, and_self, if_true, Int.toNat_natCast]
def boundV (d : Nat) (v : Option AV) : Option Nat := bound d v
theorem bound_none {d : Nat} : bound d none = some d := rfl
theorem bound_int {d : Nat} {k : IntKind} {n : Nat} : bound d (some (.int k n)) = some n := by
  have : (0 : Int) ≤ (n : Int) := by omega
  simp [bound, this]
def sliceV (z : Nat) (x : AV) (lo hi : Option AV) : Option AV := match x with
    | .nilsl => match bound 0 lo, bound 0 hi with
      | some l, some h => if l = 0 ∧ h = 0 then some .nilsl else none
      | _, _ => none
    | .sl z' full es => match bound 0 lo, bound es.length hi with
      | some l, some h => if z = z' ∧ l ≤ h ∧ h ≤ es.length then some (.sl z (full && h == es.length) ((es.take h).drop l)) else none
      | _, _ => none
    | .rsl b z' o n c => match bound 0 lo, bound n hi with
      | some l, some h => if z = z' ∧ l ≤ h ∧ h ≤ c.getD n then some (.rsl b z (o + l) (h - l) (c.map (· - l))) else none
      | _, _ => none
    | _ => none
theorem pop_slice {z : Nat} {x : Opd} {lo hi : Option Opd} : pop e (.slice z x lo hi) = sliceV z (x.ev e) (lo.map (·.ev e)) (hi.map (·.ev e)) := by
  simp only [pop, sliceV]
  cases x.ev e <;> rfl

theorem set_add_eq {x y : AO} {n : Nat} (h : n = H.length) : (H ++ [x]).set n y = H ++ [y] := by subst h; simp
theorem set_add_lt {x y : AO} {b : Nat} (h : b < H.length) : (H ++ [x]).set b y = H.set b y ++ [x] := List.set_append_left _ _ h
theorem sliceV_rsl {z b o n c l h : Nat} {k k' : IntKind} (h1 : l ≤ h) (h2 : h ≤ c) : sliceV z (.rsl b z o n (some c)) (some (.int k l)) (some (.int k' h)) = some (.rsl b z (o + l) (h - l) (some (c - l))) := by
  have : z = z ∧ l ≤ h ∧ h ≤ c := ⟨rfl, h1, h2⟩
  simp only [sliceV, bound_int, Option.getD_some, this, and_self, if_true, Option.map_some]
theorem sliceV_rsl0 {z b o n c h : Nat} {k' : IntKind} (h2 : h ≤ c) : sliceV z (.rsl b z o n (some c)) none (some (.int k' h)) = some (.rsl b z o h (some c)) := by
  have : z = z ∧ 0 ≤ h ∧ h ≤ c := ⟨rfl, by omega, h2⟩
  simp only [sliceV, bound_none, bound_int, Option.getD_some, this, and_self, if_true, Option.map_some, Nat.add_zero, Nat.sub_zero]

/-! whole numbers -/
theorem cast0 : ((0 : Nat) : Int) = 0 := rfl
theorem wrap_i64 {x : Int} (h1 : -9223372036854775808 ≤ x) (h2 : x ≤ 9223372036854775807) : IntKind.i64.wrap x = x := by
  simp only [IntKind.wrap, IntKind.bits, IntKind.signed, Bool.true_and, decide_eq_true_eq, ge_iff_le]
  split <;> omega
theorem wrap_u8 {x : Int} (h1 : 0 ≤ x) (h2 : x ≤ 255) : IntKind.u8.wrap x = x := by
  simp only [IntKind.wrap, IntKind.bits, IntKind.signed, Bool.false_and, Bool.false_eq_true, if_false]
  omega

theorem wrap_u64 {x : Int} (h1 : 0 ≤ x) (h2 : x ≤ 18446744073709551615) : IntKind.u64.wrap x = x := by
  simp only [IntKind.wrap, IntKind.bits, IntKind.signed, Bool.false_and, Bool.false_eq_true, if_false]
  omega
theorem ib_shl {k k' : IntKind} {a b : Int} (h : 0 ≤ b) : ibin .shl (.int k a) (.int k' b) = some (.int k (k.wrap (a * 2 ^ (min b.toNat k.bits)))) := by
  have : ¬ b < 0 := by omega
  simp [ibin, this]
theorem ib_shr {k k' : IntKind} {a b : Int} (h : 0 ≤ b) : ibin .shr (.int k a) (.int k' b) = some (.int k (a.fdiv (2 ^ (min b.toNat k.bits)))) := by
  have : ¬ b < 0 := by omega
  simp [ibin, this]
theorem ib_or {k : IntKind} {a b : Int} : ibin .or (.int k a) (.int k b) = some (.int k (bitsOf .or k a b)) := by simp [ibin]
theorem ib_and {k : IntKind} {a b : Int} : ibin .and (.int k a) (.int k b) = some (.int k (bitsOf .and k a b)) := by simp [ibin]
theorem ib_xor {k : IntKind} {a b : Int} : ibin .xor (.int k a) (.int k b) = some (.int k (bitsOf .xor k a b)) := by simp [ibin]
theorem or_byte {m n : Nat} (hm : m < 72057594037927936) (hn : n < 256) : bitsOf .or .u64 ((m * 256 : Nat) : Int) (n : Int) = ((m * 256 + n : Nat) : Int) := by
  have e1 : m * 256 = m <<< 8 := by rw [Nat.shiftLeft_eq]
  have e2 : m <<< 8 ||| n = m * 256 + n := by rw [← Nat.shiftLeft_add_eq_or_of_lt (by omega : n < 2 ^ 8), ← e1]
  have e3 : (BitVec.ofNat 64 (m * 256) ||| BitVec.ofNat 64 n).toNat = m * 256 + n := by
    rw [BitVec.toNat_or, BitVec.toNat_ofNat, BitVec.toNat_ofNat, Nat.mod_eq_of_lt (by omega), Nat.mod_eq_of_lt (by omega), ← e2, e1]
  show IntKind.u64.wrap ((BitVec.ofInt 64 ((m * 256 : Nat) : Int) ||| BitVec.ofInt 64 (n : Int)).toNat : Int) = _
  rw [BitVec.ofInt_natCast, BitVec.ofInt_natCast, e3]
  exact wrap_u64 (by omega) (by omega)

/-- A number's bytes, the greatest first. -/
def beNum (bs : List UInt8) : Nat := bs.foldl (fun a b => a * 256 + b.toNat) 0
theorem beNum_snoc (bs : List UInt8) (b : UInt8) : beNum (bs ++ [b]) = beNum bs * 256 + b.toNat := by simp [beNum, List.foldl_append]
theorem beNum_lt (bs : List UInt8) : beNum bs < 256 ^ bs.length := by
  induction h : bs.length generalizing bs with
  | zero => have : bs = [] := List.eq_nil_of_length_eq_zero h; subst this; decide
  | succ n ih =>
    have hne : bs ≠ [] := by rintro rfl; simp at h
    rw [← List.dropLast_concat_getLast hne, beNum_snoc, Nat.pow_succ]
    have := ih bs.dropLast (by simp [h])
    have h2 := (bs.getLast hne).toNat_lt
    omega

/-! append -/
def appendV (fl : Nat) (H : Heap) (z bytes : Nat) (s x : AV) : Option (AV × Heap) := if srcZ x z then (srcE H x).bind fun ys => appended fl H z bytes s ys else none
theorem wop_append {z bytes : Nat} {s x : Opd} : wop call fl e H (.append z bytes s x) = appendV fl H z bytes (s.ev e) (x.ev e) := rfl
theorem appendV_ok {z bytes : Nat} {s x : AV} {ys : List AV} (h1 : srcZ x z = true) (h2 : srcE H x = some ys) : appendV fl H z bytes s x = appended fl H z bytes s ys := by simp only [appendV, h1, if_true, h2, Option.bind_some]
theorem app_nil {z bytes : Nat} {ys : List AV} (hl : ((ys.length * bytes : Nat) : Int) ≤ limit) (hne : ys ≠ []) : appended fl H z bytes .nilsl ys = some (.rsl H.length z 0 ys.length none, H ++ [.row z ys]) := by
  cases ys with
  | nil => exact absurd rfl hne
  | cons y ys => simp only [appended, hl, if_true]
theorem app_nil0 {z bytes : Nat} : appended fl H z bytes .nilsl [] = some (.nilsl, H) := by simp [appended, limit]
def appendNV (fl : Nat) (H : Heap) (z bytes : Nat) (zero s x : AV) : Option (AV × Heap) := match x with
    | .int _ n => if 0 ≤ n ∧ n ≤ limit ∧ n * bytes ≤ limit then appended fl H z bytes s (List.replicate n.toNat zero) else none
    | _ => none
theorem wop_appendN {z bytes : Nat} {zero : AV} {s x : Opd} : wop call fl e H (.appendN z bytes zero s x) = appendNV fl H z bytes zero (s.ev e) (x.ev e) := rfl
theorem appendNV_ok {z bytes n : Nat} {zero s : AV} {k : IntKind} (h1 : (n : Int) ≤ limit) (h2 : ((n * bytes : Nat) : Int) ≤ limit) : appendNV fl H z bytes zero s (.int k n) = appended fl H z bytes s (List.replicate n zero) := by
  have : (0 : Int) ≤ n ∧ (n : Int) ≤ limit ∧ (n : Int) * bytes ≤ limit := ⟨by omega, h1, by simpa using h2⟩
  simp only [appendNV, this, and_self, if_true, Int.toNat_natCast]
theorem sliceV_rsln {z b o n h : Nat} {k' : IntKind} (h2 : h ≤ n) : sliceV z (.rsl b z o n none) none (some (.int k' h)) = some (.rsl b z o h none) := by
  have : z = z ∧ 0 ≤ h ∧ h ≤ n := ⟨rfl, by omega, h2⟩
  simp only [sliceV, bound_none, bound_int, Option.getD_none, this, and_self, if_true, Option.map_none, Nat.add_zero, Nat.sub_zero]
theorem sliceV_nil {z : Nat} {k : IntKind} : sliceV z .nilsl none (some (.int k 0)) = some .nilsl := rfl
theorem app_sl0 {z bytes : Nat} {f : Bool} {es : List AV} (hl : ((es.length * bytes : Nat) : Int) ≤ limit) : appended fl H z bytes (.sl z f es) [] = some (.sl z f es, H) := by
  have h : (((es.length + ([] : List AV).length) * bytes : Nat) : Int) ≤ limit := by simpa using hl
  simp only [appended, h, and_self, if_true]
theorem app_sl {z bytes : Nat} {es ys : List AV} (hl : (((es.length + ys.length) * bytes : Nat) : Int) ≤ limit) (hne : ys ≠ []) : appended fl H z bytes (.sl z true es) ys = some (.rsl H.length z 0 (es.length + ys.length) none, H ++ [.row z (es ++ ys)]) := by
  cases ys with
  | nil => exact absurd rfl hne
  | cons y ys => simp only [appended, hl, and_self, if_true]
theorem app_cap {z bytes b o n c : Nat} {ys es : List AV} (hl : (((n + ys.length) * bytes : Nat) : Int) ≤ limit) (hb : H[b]? = some (.row z es)) (ho : o + n ≤ es.length) (hc : n + ys.length ≤ c) (he : o + n + ys.length ≤ es.length) (hf : fl ≤ b) :
    appended fl H z bytes (.rsl b z o n (some c)) ys = some (.rsl b z o (n + ys.length) (some c), H.set b (.row z (splice es (o + n) ys))) := by
  simp only [appended, hl, and_self, if_true, hb, ho, hc, he, putO_ok hf, Option.map_some]
theorem app_own {z bytes b n : Nat} {ys es : List AV} (hl : (((n + ys.length) * bytes : Nat) : Int) ≤ limit) (hb : H[b]? = some (.row z es)) (ho : n ≤ es.length) (hf : fl ≤ b) :
    appended fl H z bytes (.rsl b z 0 n none) ys = some (.rsl H.length z 0 (n + ys.length) none, H.set b .dead ++ [.row z (es.take n ++ ys)]) := by
  have ho' : 0 + n ≤ es.length := by omega
  simp only [appended, hl, and_self, if_true, hb, ho', putO_ok hf, Option.map_some]

/-! texts -/
def bytesV (H : Heap) (v : AV) : Option AV := match v with
  | .str _ => none
  | v => if srcZ v 1 then (srcE H v).bind fun es => (es.mapM AV.byte?).map .str else none
theorem rop_bytesStr {x : Opd} : rop pc e H (.bytesStr x) = bytesV H (x.ev e) := rfl

theorem byte_byteV (b : UInt8) : AV.byte? (byteV b) = some b := by simp [byteV, AV.byte?]
theorem mapM_bytes (bs : List UInt8) : (bs.map byteV).mapM AV.byte? = some bs := by
  induction bs with
  | nil => rfl
  | cons b bs ih =>
    rw [List.map_cons, List.mapM_cons, byte_byteV, ih]
    rfl

/-- A slice: its elements. -/
inductive SL (H : Heap) (z : Nat) : AV → List AV → Prop
  | nil : SL H z .nilsl []
  | sl (f : Bool) (es : List AV) : SL H z (.sl z f es) es
  | rsl (b o n : Nat) (c : Option Nat) (rs es : List AV) (hb : H[b]? = some (.row z rs)) (hn : o + n ≤ rs.length) (hc : n ≤ c.getD n) (he : (rs.drop o).take n = es) : SL H z (.rsl b z o n c) es

theorem SL.src {z : Nat} {v : AV} {es : List AV} (h : SL H z v es) : srcE H v = some es ∧ srcZ v z = true ∧ (∀ s, v ≠ .str s) := by
  cases h with
  | nil => exact ⟨rfl, rfl, fun s h => by cases h⟩
  | sl f es => exact ⟨rfl, by simp [srcZ], fun s h => by cases h⟩
  | rsl b o n c rs es hb hn hc he => exact ⟨by simp only [srcE, hb, hn, and_self, if_true, he], by simp [srcZ], fun s h => by cases h⟩
theorem SL.len {z : Nat} {v : AV} {es : List AV} (h : SL H z v es) : lenV v = some (.int .i64 es.length) := by
  cases h with
  | nil => rfl
  | sl f es => rfl
  | rsl b o n c rs es hb hn hc he =>
    have := congrArg List.length he
    simp at this
    have : n = es.length := by omega
    subst this; rfl
theorem SL.fits {z : Nat} {v : AV} {es : List AV} (h : SL H z v es) : v.fits 1 = true := by cases h <;> rfl
theorem SL.cells {z : Nat} {v : AV} {es : List AV} (h : SL H z v es) : v.cells = [v] := by cases h <;> rfl
theorem SL.notagg {z : Nat} {v : AV} {es : List AV} (h : SL H z v es) : v.isAgg = false := by cases h <;> rfl
theorem SL.app {z fl bytes : Nat} {v s : AV} {es : List AV} (h : SL H z v es) : appendV fl H z bytes s v = appended fl H z bytes s es := appendV_ok h.src.2.1 h.src.1
theorem SL.mono {z : Nat} {H' : Heap} {v : AV} {es : List AV} (h : SL H z v es) (hk : ∀ b, (∃ o n c, v = .rsl b z o n c) → H'[b]? = H[b]?) : SL H' z v es := by
  cases h with
  | nil => exact .nil
  | sl f es => exact .sl f es
  | rsl b o n c rs es hb hn hc he => exact .rsl b o n c rs es ((hk b ⟨o, n, c, rfl⟩).trans hb) hn hc he
theorem SL.add {z : Nat} {v : AV} {es : List AV} {x : AO} (h : SL H z v es) : SL (H ++ [x]) z v es := by
  cases h with
  | nil => exact .nil
  | sl f es => exact .sl f es
  | rsl b o n c rs es hb hn hc he => exact .rsl b o n c rs es ((get_add_lt (lt_of_get hb)).trans hb) hn hc he
theorem SL.nil_inv {z : Nat} {es : List AV} (h : SL H z .nilsl es) : es = [] := by cases h; rfl
theorem SL.nq {z : Nat} {v : AV} {es : List AV} (h : SL H z v es) (hn : v ≠ .nilsl) : nilEq 1 v .nilsl = some false := by
  cases h with
  | nil => exact absurd rfl hn
  | sl f es => rfl
  | rsl b o n c rs es hb _ _ _ => rfl
theorem SL.setBox {z b : Nat} {v : AV} {es cs : List AV} {o : AO} (h : SL H z v es) (hb : H[b]? = some (.box cs)) : SL (H.set b o) z v es := h.mono fun b' ⟨o', n', c', hv⟩ => by
  subst hv
  cases h with
  | rsl _ _ _ _ rs es hb' _ _ _ =>
    refine get_set_ne ?_
    rintro rfl
    rw [hb] at hb'; cases hb'
theorem SL.upto {z : Nat} {H' : Heap} {v : AV} {es : List AV} (h : SL H z v es) (hk : ∀ b, b < H.length → H'[b]? = H[b]?) : SL H' z v es := h.mono fun b ⟨o, n, c, hv⟩ => by
  subst hv
  cases h with
  | rsl _ _ _ _ rs es hb' _ _ _ => exact hk b (lt_of_get hb')
/-- Between two places. -/
theorem SL.slice {z : Nat} {v : AV} {es : List AV} (h : SL H z v es) {l n : Nat} (hl : l ≤ n) (hn : n ≤ es.length) (lo hi : Option AV) (h1 : bound 0 lo = some l) (h2 : bound es.length hi = some n) (h2' : ∀ d, hi ≠ none → bound d hi = some n) :
    ∃ v', sliceV z v lo hi = some v' ∧ SL H z v' ((es.take n).drop l) := by
  cases h with
  | nil =>
    have e1 : n = 0 := by simpa using hn
    subst e1
    have e2 : l = 0 := by omega
    subst e2
    refine ⟨.nilsl, ?_, .nil⟩
    have : bound 0 hi = some 0 := h2
    simp [sliceV, h1, this]
  | sl f es =>
    refine ⟨_, ?_, .sl (f && n == es.length) ((es.take n).drop l)⟩
    have : z = z ∧ l ≤ n ∧ n ≤ es.length := ⟨rfl, hl, hn⟩
    simp only [sliceV, h1, h2, this, and_self, if_true]
  | rsl b o m c rs es hb hm hc he =>
    have hle := congrArg List.length he
    simp at hle
    have hmb : m = es.length := by omega
    have h3 : z = z ∧ l ≤ n ∧ n ≤ c.getD m := ⟨rfl, hl, by omega⟩
    have h2m : bound m hi = some n := by rw [hmb]; exact h2
    refine ⟨.rsl b z (o + l) (n - l) (c.map (· - l)), by simp only [sliceV, h1, h2m, h3, and_self, if_true], ?_⟩
    refine .rsl b _ _ _ rs _ hb (by omega) ?_ ?_
    · cases c with
      | none => simp
      | some c => simp at hc ⊢; omega
    · rw [← he, List.take_take, Nat.min_eq_left (by omega), List.drop_take, List.drop_drop]
theorem SL.take {z : Nat} {v : AV} {es : List AV} (h : SL H z v es) {n : Nat} (hn : n ≤ es.length) (k : IntKind) : ∃ v', sliceV z v none (some (.int k n)) = some v' ∧ SL H z v' (es.take n) := by
  obtain ⟨v', h1, h2⟩ := h.slice (l := 0) (n := n) (by omega) hn none (some (.int k n)) rfl bound_int (fun d _ => bound_int)
  exact ⟨v', h1, by simpa using h2⟩
theorem SL.drop {z : Nat} {v : AV} {es : List AV} (h : SL H z v es) {n : Nat} (hn : n ≤ es.length) (k : IntKind) : ∃ v', sliceV z v (some (.int k n)) none = some v' ∧ SL H z v' (es.drop n) := by
  obtain ⟨v', h1, h2⟩ := h.slice (l := n) (n := es.length) hn (Nat.le_refl _) (some (.int k n)) none bound_int rfl (fun d h => absurd rfl h)
  exact ⟨v', h1, by simpa using h2⟩
/-- An element. -/
theorem SL.get {z : Nat} {v : AV} {es : List AV} (h : SL H z v es) (hz : 0 < z) {i : Nat} {x : AV} (hi : es[i]? = some x) (k : IntKind) : ∃ p, idxAV z v (.int k i) = some p ∧ (∀ ag, loadV H ag p = ld ag x.cells) ∧ (∀ off, off < z → ∃ q, fieldAV off p = some q ∧ ∀ ag, loadV H ag q = ld ag (x.cells.drop off)) := by
  cases h with
  | nil => simp at hi
  | sl f es => exact ⟨_, idxAV_sl hi, fun ag => rfl, fun off _ => ⟨_, rfl, fun ag => rfl⟩⟩
  | rsl b o n c rs es hb hn hc he =>
    have hlt : i < n := by
      have h1 := (List.getElem?_eq_some_iff.1 hi).1
      rw [← he] at h1
      simp at h1; omega
    have hx : rs[o + i]? = some x := by
      rw [← he, List.getElem?_take_of_lt hlt, List.getElem?_drop] at hi; exact hi
    refine ⟨_, idxAV_rsl hlt, fun ag => ?_, fun off hoff => ⟨_, rfl, fun ag => ?_⟩⟩
    · have := loadV_eptr (ag := ag) hb hz hz hx
      simpa using this
    · exact loadV_eptr (ag := ag) hb hz hoff hx

/-- A slice of bytes: which. -/
abbrev BS (H : Heap) (v : AV) (bs : List UInt8) : Prop := SL H 1 v (bs.map byteV)
theorem SL.str {v : AV} {bs : List UInt8} (h : BS H v bs) : bytesV H v = some (.str bs) := by
  obtain ⟨h1, h2, h3⟩ := h.src
  cases v
  case str s => exact absurd rfl (h3 s)
  all_goals simp only [bytesV, h1, h2, if_true, Option.bind_some, mapM_bytes, Option.map_some]
theorem SL.blen {v : AV} {bs : List UInt8} (h : BS H v bs) : lenV v = some (.int .i64 bs.length) := by have := h.len; simpa using this
theorem SL.btake {v : AV} {bs : List UInt8} (h : BS H v bs) {n : Nat} (hn : n ≤ bs.length) (k : IntKind) : ∃ v', sliceV 1 v none (some (.int k n)) = some v' ∧ BS H v' (bs.take n) := by
  obtain ⟨v', h1, h2⟩ := h.take (n := n) (by simpa using hn) k
  exact ⟨v', h1, by rw [BS, List.map_take]; exact h2⟩
end

/-! values without addresses -/
mutual
def sol : Nat → AV → Bool
  | 0, _ => false
  | _ + 1, .ptr .. => false
  | _ + 1, .eptr .. => false
  | _ + 1, .rsl .. => false
  | d + 1, .dptr cs => solL d cs
  | d + 1, .sl _ _ es => solL d es
  | d + 1, .agg cs => solL d cs
  | d + 1, .tup cs => solL d cs
  | d + 1, .fn _ a b => solL d a && solL d b
  | _ + 1, _ => true
def solL : Nat → List AV → Bool
  | _, [] => true
  | d, x :: xs => sol d x && solL d xs
end
theorem solL_mem {d : Nat} : ∀ {xs : List AV}, solL d xs = true ↔ ∀ x ∈ xs, sol d x = true := by
  intro xs
  induction xs with
  | nil => simp [solL]
  | cons x xs ih => simp [solL, ih]
theorem mapM_self {f : AV → Option AV} : ∀ {xs : List AV}, (∀ x ∈ xs, f x = some x) → xs.mapM f = some xs := by
  intro xs
  induction xs with
  | nil => intro _; rfl
  | cons x xs ih =>
    intro h
    rw [List.mapM_cons, h x (by simp), ih (fun y hy => h y (by simp [hy]))]
    rfl
theorem sol_freeze {H : Heap} {n : Nat} : ∀ (d d' : Nat) (x : AV), d ≤ d' → sol d x = true → freeze H n d' x = some x := by
  intro d
  induction d with
  | zero => intro d' x _ h; simp [sol] at h
  | succ d ih =>
    intro d' x hd h
    obtain ⟨d', rfl⟩ : ∃ m, d' = m + 1 := ⟨d' - 1, by omega⟩
    have l : ∀ xs, solL d xs = true → xs.mapM (freeze H n d') = some xs := fun xs hx => mapM_self fun y hy => ih d' y (by omega) (solL_mem.1 hx y hy)
    cases x <;> simp only [sol, Bool.and_eq_true, Bool.false_eq_true] at h <;> simp only [freeze]
    case dptr cs => rw [l cs h]; rfl
    case sl z f es => rw [l es h]; rfl
    case agg cs => rw [l cs h]; rfl
    case tup cs => rw [l cs h]; rfl
    case fn f a b => rw [l a h.1, l b h.2]
theorem sol_mono : ∀ (d d' : Nat) (x : AV), d ≤ d' → sol d x = true → sol d' x = true := by
  intro d
  induction d with
  | zero => intro d' x _ h; simp [sol] at h
  | succ d ih =>
    intro d' x hd h
    obtain ⟨d', rfl⟩ : ∃ m, d' = m + 1 := ⟨d' - 1, by omega⟩
    have l : ∀ xs, solL d xs = true → solL d' xs = true := fun xs hx => solL_mem.2 fun y hy => ih d' y (by omega) (solL_mem.1 hx y hy)
    cases x <;> simp only [sol, Bool.and_eq_true, Bool.false_eq_true] at h ⊢
    case dptr cs => exact l cs h
    case sl z f es => exact l es h
    case agg cs => exact l cs h
    case tup cs => exact l cs h
    case fn f a b => exact ⟨l a h.1, l b h.2⟩

section
variable {H : Heap} {n : Nat}
theorem fz_int {k : IntKind} {m : Int} : freeze H n 12 (.int k m) = some (.int k m) := rfl
theorem fz_bool {b : Bool} : freeze H n 12 (.bool b) = some (.bool b) := rfl
theorem fz_str {s : List UInt8} : freeze H n 12 (.str s) = some (.str s) := rfl
theorem fz_nilsl : freeze H n 12 .nilsl = some .nilsl := rfl
theorem fz_nilp : freeze H n 12 .nilp = some .nilp := rfl
theorem fz_ptr {b o : Nat} (h : b < n) : freeze H n 12 (.ptr b o) = some (.ptr b o) := by simp [freeze, h]
theorem fz_bytes (d : Nat) (bs : List UInt8) : (bs.map byteV).mapM (freeze H n (d + 1)) = some (bs.map byteV) := by
  induction bs with
  | nil => rfl
  | cons b bs ih =>
    rw [List.map_cons, List.mapM_cons, ih]
    rfl
/-- A slice that is handed back by a call for its value. -/
theorem SL.freeze {H0 : Heap} {z d : Nat} {v : AV} {es : List AV} (h : SL H z v es) (hk : ∀ b, b < H0.length → H[b]? = H0[b]?) (hd : d < 12) (hs : ∀ x ∈ es, sol d x = true) : ∃ v', Go.Vx.freeze H H0.length 12 v = some v' ∧ SL H0 z v' es ∧ (sol (d + 1) v = true → v' = v) ∧ ((∀ b o n c, v = .rsl b z o n c → H0.length ≤ b) → sol (d + 1) v' = true) := by
  have hes : solL d es = true := solL_mem.2 hs
  have hm : es.mapM (Go.Vx.freeze H H0.length 11) = some es := mapM_self fun x hx => sol_freeze d 11 x (by omega) (hs x hx)
  cases h with
  | nil => exact ⟨.nilsl, rfl, .nil, fun _ => rfl, fun _ => rfl⟩
  | sl f es => exact ⟨.sl z f es, by simp only [Go.Vx.freeze, hm, Option.map_some], .sl f es, fun _ => rfl, fun _ => by simp only [sol]; exact hes⟩
  | rsl b o m c rs es hb hn hc he =>
    by_cases hlt : b < H0.length
    · exact ⟨.rsl b z o m c, by simp only [Go.Vx.freeze, hlt, if_true], .rsl b o m c rs es ((hk b hlt).symm.trans hb) hn hc he, fun _ => rfl, fun h => by have := h b o m c rfl; omega⟩
    · refine ⟨.sl z false es, ?_, .sl false es, fun h => by simp [sol] at h, fun _ => by simp only [sol]; exact hes⟩
      simp only [Go.Vx.freeze, hlt, if_false, hb, hn, and_self, if_true, he, hm, Option.map_some]
theorem sol_bytes (d : Nat) (bs : List UInt8) : ∀ x ∈ bs.map byteV, sol (d + 1) x = true := fun x hx => by
  obtain ⟨b, _, rfl⟩ := List.mem_map.1 hx; rfl
end
end Go.Vx
