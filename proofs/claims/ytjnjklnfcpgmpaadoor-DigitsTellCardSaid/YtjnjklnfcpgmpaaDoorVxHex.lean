/- V: a function whose one argument is bytes that are a value, and whose answer is a text: known by its contract. -/
import Derived.Test.YtjnjklnfcpgmpaaDoorVxX
set_option linter.unusedVariables false
set_option linter.unusedSimpArgs false
namespace Go.Vx
open Go.RowKit
variable {G : Nat → Obj → Prop}

def byteOf : AV → Option UInt8
  | .int .u8 n => if 0 ≤ n ∧ n < 256 then some (UInt8.ofNat n.toNat) else none
  | _ => none
def bytesOf (es : List AV) : Option (List UInt8) := es.mapM byteOf
def sgn (n : Nat) : UInt8 := ([48, 49, 50, 51, 52, 53, 54, 55, 56, 57, 65, 66, 67, 68, 69, 70] : List UInt8).getD n 0
def hexL (bs : List UInt8) : List UInt8 := bs.flatMap fun c => [sgn (c.toNat / 16), sgn (c.toNat % 16)]
def hexV1 : AV → Option AV
  | .nilsl => some (.str [])
  | .sl 1 _ es => if es.length ≤ 35184372088832 then (bytesOf es).map fun bs => .str (hexL bs) else none
  | _ => none
def hexV : List AV → Heap → Option AV
  | [x], _ => hexV1 x
  | _, _ => none
theorem byteOf_sh (n : Nat) (x : AV) : byteOf (x.sh n) = byteOf x := by
  cases x <;> rfl
theorem bytesOf_sh (n : Nat) (es : List AV) : bytesOf (AV.shL n es) = bytesOf es := by
  unfold bytesOf
  induction es with
  | nil => rfl
  | cons x es ih => simp only [AV.shL, List.mapM_cons, byteOf_sh, ih]
theorem shL_len (n : Nat) (es : List AV) : (AV.shL n es).length = es.length := by rw [shL_map]; simp
theorem hexV_sh : ExtSh hexV := fun H0 args H => by
  match args with
  | [] => rfl
  | [x] =>
    show hexV1 (x.sh H0.length) = (hexV1 x).map (AV.sh H0.length)
    cases x
    case sl z f es =>
      by_cases hz : z = 1
      · subst hz
        simp only [AV.sh, hexV1, shL_len, bytesOf_sh]
        split
        · cases bytesOf es <;> rfl
        · rfl
      · match z, hz with
        | 0, _ => rfl
        | z + 2, _ => rfl
        | 1, h => exact absurd rfl h
    all_goals rfl
  | a :: b :: r => rfl
theorem bytesOf_eq : ∀ {es : List AV} {bs : List UInt8}, bytesOf es = some bs → es = bs.map byteV := by
  intro es
  induction es with
  | nil => intro bs h; simp [bytesOf] at h; subst h; rfl
  | cons x es ih =>
    intro bs h
    simp only [bytesOf, List.mapM_cons, Option.bind_eq_bind, Option.bind_eq_some_iff] at h
    obtain ⟨b, hb, r, hr, he⟩ := h
    cases he
    have hx : x = byteV b := by
      cases x <;> simp only [byteOf] at hb <;> try cases hb
      rename_i k n
      cases k <;> simp only at hb <;> try cases hb
      split at hb
      · rename_i hn
        cases hb
        simp only [byteV, UInt8.toNat_ofNat']
        congr 1
        omega
      · cases hb
    rw [hx, ih hr]
    rfl
theorem bytesOf_map (bs : List UInt8) : bytesOf (bs.map byteV) = some bs := by
  unfold bytesOf
  induction bs with
  | nil => rfl
  | cons b bs ih =>
    have hb : byteOf (byteV b) = some b := by
      have := b.toNat_lt
      simp only [byteOf, byteV]
      rw [if_pos ⟨by omega, by omega⟩]
      simp
    simp only [List.map_cons, List.mapM_cons, hb, ih]
    rfl
theorem vrl_one {C : Cx} {a : AV} {vs : Array Value} (h : VRL C [a] vs) : ∃ u, vs = #[u] ∧ VR C a u := by
  obtain ⟨h1, h2⟩ := h
  have hs : vs.size = 1 := h1
  refine ⟨vs.getD 0 undef, ?_, h2 0 a rfl⟩
  apply Array.ext
  · simp [hs]
  · intro i hi hi'
    have : i = 0 := by omega
    subst this; simp [Array.getD, hs]
theorem fit_hex {P : Program} {f : Nat} {fn : Func} {c : Code} (hf : P.funcs[f]? = some fn) (hn : (fn.name == "runtime.NumGoroutine") = false) (hb : fn.body = some c)
    (hc : ∀ (p : Option Addr) (cap : Nat) (bs : List UInt8) (w : World), bs.length ≤ 35184372088832 → bs.length ≤ cap →
      (∀ j b, bs[j]? = some b → ∃ a, p = some a ∧ w.cell? (a.add j) = some (.int .u8 (b.toNat : Int)) ∧ a.block < w.heap.size) →
      Calls P f #[.slice p bs.length cap] w fun e w' => e = .returned (.string ⟨(hexL bs).toArray⟩) ∧ Below w.heap.size w w') : Fit1 P G f (.ext hexV) := by
  intro fl args vs ρ H w v hS hgl hA hg
  unfold hexV at hg
  split at hg
  · rename_i x
    obtain ⟨u, rfl, hu⟩ := vrl_one hA
    cases x <;> (try (simp only [hexV1] at hg)) <;> try (cases hg; done)
    case nilsl =>
      cases hg
      cases hu
      have h0 := hc none 0 [] w (by simp) (by simp) (fun j b hj => by simp at hj)
      refine upon_calls hf hn hb (h0.mono fun e w' ⟨he, hw⟩ => ?_)
      subst he
      obtain ⟨k1, k2⟩ := tr_below (fl := fl) hS hw
      exact ⟨_, rfl, ρ, k1, k2, .str _⟩
    case sl z full es =>
      by_cases hz : z = 1
      case neg => (match z, hz, hg with | 0, _, hg => cases hg | z + 2, _, hg => cases hg | 1, h, _ => exact absurd rfl h)
      subst hz
      simp only at hg
      split at hg
      · rename_i hlen
        rw [Option.map_eq_some_iff] at hg
        obtain ⟨bs, hbs, rfl⟩ := hg
        have he := bytesOf_eq hbs
        subst he
        cases hu with
        | sl z full es a cap g hcap hf' hz hs h1 hv =>
          have hl : (bs.map byteV).length = bs.length := by simp
          rw [hl] at hcap ⊢
          refine upon_calls hf hn hb ((hc (some a) cap bs w (by omega) hcap (fun j b hj => ?_)).mono fun e w' ⟨he, hw⟩ => ?_)
          · have hj' : (bs.map byteV)[j]? = some (byteV b) := by rw [List.getElem?_map, hj]; rfl
            obtain ⟨k1, _⟩ := hs j (byteV b) 0 (byteV b) hj' rfl
            have k2 := hv j (byteV b) 0 (byteV b) hj' rfl
            generalize g j 0 = y at k1 k2
            unfold byteV at k2
            cases k2
            simp only [Nat.mul_one, Nat.add_zero] at k1
            refine ⟨a, rfl, k1, ?_⟩
            have : (a.add j).block < w.heap.size := by
              unfold World.cell? at k1
              rcases Nat.lt_or_ge (a.add j).block w.heap.size with h' | h'
              · exact h'
              · rw [Array.getElem?_eq_none h'] at k1; cases k1
            have hab : (a.add j).block = a.block := by unfold Addr.add; split <;> rfl
            rwa [hab] at this
          · subst he
            obtain ⟨k1, k2⟩ := tr_below (fl := fl) hS hw
            exact ⟨_, rfl, ρ, k1, k2, .str _⟩
      · cases hg
  · cases hg
end Go.Vx
