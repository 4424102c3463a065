/- V: bytes that a function gathers, one behind the other. -/
import Derived.Test.YtjnjklnfcpgmpaaDoorVxZ
set_option linter.unusedVariables false
set_option linter.unusedSimpArgs false
namespace Go.Vx

/-- Bytes that a call has gathered: the row has no room left. -/
def NewC (H : Heap) (n0 : Nat) (v : AV) (bs : List UInt8) : Prop := (v = .nilsl ∧ bs = []) ∨ ∃ b, n0 ≤ b ∧ v = .rsl b 1 0 bs.length none ∧ H[b]? = some (.row 1 (bs.map byteV))
theorem NewC.new {H : Heap} {n0 : Nat} {v : AV} {bs : List UInt8} (h : NewC H n0 v bs) : NewB H n0 v bs := by
  rcases h with ⟨rfl, rfl⟩ | ⟨b, hb, rfl, hr⟩
  · exact .inl ⟨rfl, rfl⟩
  · exact .inr ⟨b, none, hb, rfl, hr, Nat.le_refl _⟩
theorem NewC.bs {H : Heap} {n0 : Nat} {v : AV} {bs : List UInt8} (h : NewC H n0 v bs) : BS H v bs := h.new.bs
theorem NewC.nil {H : Heap} {n0 : Nat} : NewC H n0 .nilsl [] := .inl ⟨rfl, rfl⟩
theorem NewC.app {H : Heap} {fl n0 : Nat} {s v : AV} {x y : List UInt8} (hs : NewC H n0 s x) (hf : fl ≤ n0) (hv : BS H v y) (hn : n0 ≤ H.length) (hl : x.length + y.length ≤ 1000000000) :
    ∃ v' H', appendV fl H 1 1 s v = some (v', H') ∧ NewC H' n0 v' (x ++ y) ∧ H.length ≤ H'.length ∧ ∀ b, b < n0 → H'[b]? = H[b]? := by
  rcases hs with ⟨rfl, rfl⟩ | ⟨b, hb, rfl, hr⟩
  · by_cases hy : y = []
    · subst hy
      exact ⟨.nilsl, H, by rw [hv.app]; exact app_nil0, .inl ⟨rfl, rfl⟩, Nat.le_refl _, fun _ _ => rfl⟩
    · refine ⟨.rsl H.length 1 0 y.length none, H ++ [.row 1 (y.map byteV)], ?_, .inr ⟨H.length, hn, rfl, get_add_eq rfl⟩, by simp, fun b hb => get_add_lt (by omega)⟩
      rw [hv.app, app_nil (by simp [limit] at hl ⊢; omega) (by simpa using hy)]
      simp
  · have hbl := lt_of_get hr
    refine ⟨.rsl H.length 1 0 (x.length + y.length) none, H.set b .dead ++ [.row 1 ((x ++ y).map byteV)], ?_, .inr ⟨H.length, hn, by simp, get_add_eq (by simp)⟩, by simp, fun b' hb' => ?_⟩
    · rw [hv.app, app_own (es := x.map byteV) (by simp [limit]; omega) hr (by simp) (by omega)]
      simp [List.take_of_length_le]
    · rw [get_add_lt (by simp; omega), get_set_ne (by omega)]
/-- A pure call whose value is known by what it is. -/
theorem pure_ex {F : Nat → VFn} {L d f : Nat} {args : List AV} {H : Heap} {vf : VF} {K : AV → Prop} (hF : F f = .code vf)
    (h : W L (asPure (vcall F L d)) (vcall F L d H.length) H.length vf.body (envOf args) H (retQ vf.res fun v1 H1 => ∃ v, freeze H1 H.length 12 v1 = some v ∧ K v)) : ∃ v, asPure (vcall F L (d + 1)) f args H = some v ∧ K v := by
  obtain ⟨v1, H1, h1, v, h2, hk⟩ := call_W hF h
  exact ⟨v, by simp only [asPure, h1, Option.bind_some, h2], hk⟩
/-! ### halves of bytes -/
theorem shr4 {n : Nat} (h : n < 256) : ibin .shr (.int .u8 (n : Int)) (.int .u64 4) = some (.int .u8 ((n / 16 : Nat) : Int)) := by
  have : ∀ n : Nat, n < 256 → ((n : Int).fdiv (2 ^ (min (4 : Int).toNat IntKind.u8.bits))) = ((n / 16 : Nat) : Int) := by decide +kernel
  simp only [ibin]
  rw [if_neg (by decide), this n h]
theorem and15 {n : Nat} (h : n < 256) : ibin .and (.int .u8 (n : Int)) (.int .u8 15) = some (.int .u8 ((n % 16 : Nat) : Int)) := by
  have : ∀ n : Nat, n < 256 → bitsOf .and .u8 (n : Int) 15 = ((n % 16 : Nat) : Int) := by decide +kernel
  simp only [ibin, if_true]
  rw [this n h]
theorem shl4 {n : Nat} (h : n < 16) : ibin .shl (.int .u8 (n : Int)) (.int .u64 4) = some (.int .u8 ((n * 16 : Nat) : Int)) := by
  have : ∀ n : Nat, n < 16 → IntKind.u8.wrap ((n : Int) * 2 ^ (min (4 : Int).toNat IntKind.u8.bits)) = ((n * 16 : Nat) : Int) := by decide +kernel
  simp only [ibin]
  rw [if_neg (by decide), this n h]
theorem or4 {n m : Nat} (h : n < 16) (hm : m < 16) : ibin .or (.int .u8 ((n * 16 : Nat) : Int)) (.int .u8 (m : Int)) = some (.int .u8 ((n * 16 + m : Nat) : Int)) := by
  have : ∀ n : Nat, n < 16 → ∀ m : Nat, m < 16 → bitsOf .or .u8 ((n * 16 : Nat) : Int) (m : Int) = ((n * 16 + m : Nat) : Int) := by decide +kernel
  simp only [ibin, if_true]
  rw [this n h m hm]
theorem shl4i {n : Nat} (h : n < 16) : ibin .shl (.int .i64 (n : Int)) (.int .u64 4) = some (.int .i64 ((n * 16 : Nat) : Int)) := by
  have : ∀ n : Nat, n < 16 → IntKind.i64.wrap ((n : Int) * 2 ^ (min (4 : Int).toNat IntKind.i64.bits)) = ((n * 16 : Nat) : Int) := by decide +kernel
  simp only [ibin]
  rw [if_neg (by decide), this n h]
theorem or4i {n m : Nat} (h : n < 16) (hm : m < 16) : ibin .or (.int .i64 ((n * 16 : Nat) : Int)) (.int .i64 (m : Int)) = some (.int .i64 ((n * 16 + m : Nat) : Int)) := by
  have : ∀ n : Nat, n < 16 → ∀ m : Nat, m < 16 → bitsOf .or .i64 ((n * 16 : Nat) : Int) (m : Int) = ((n * 16 + m : Nat) : Int) := by decide +kernel
  simp only [ibin, if_true]
  rw [this n h m hm]
theorem bs_one {H : Heap} {n : Nat} (h : n < 256) : BS H (.sl 1 true [.int .u8 (n : Int)]) [UInt8.ofNat n] := by
  have : [AV.int .u8 (n : Int)] = [UInt8.ofNat n].map byteV := by
    simp only [List.map_cons, List.map_nil, byteV, UInt8.toNat_ofNat']
    rw [Nat.mod_eq_of_lt (by omega)]
  rw [this]
  exact .sl true _
theorem bs_two {H : Heap} {n m : Nat} (h : n < 256) (hm : m < 256) : BS H (.sl 1 true [.int .u8 (n : Int), .int .u8 (m : Int)]) [UInt8.ofNat n, UInt8.ofNat m] := by
  have : [AV.int .u8 (n : Int), AV.int .u8 (m : Int)] = [UInt8.ofNat n, UInt8.ofNat m].map byteV := by
    simp only [List.map_cons, List.map_nil, byteV, UInt8.toNat_ofNat']
    rw [Nat.mod_eq_of_lt (by omega), Nat.mod_eq_of_lt (by omega)]
  rw [this]
  exact .sl true _
end Go.Vx
