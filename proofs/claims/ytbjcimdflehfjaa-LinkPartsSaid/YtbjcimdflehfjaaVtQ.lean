/- A part of the proof: lemmas about runs of the program's code. No condition beyond those that the lemmas state. -/
import Derived.Test.YtbjcimdflehfjaaVtP
set_option linter.unusedVariables false
set_option linter.unusedSimpArgs false
set_option maxRecDepth 20000
namespace Go.Vx.Ytbjcimdflehfjaa
variable {L d : Nat} {H : Heap}

/-- A slice that grows, and where it lies. -/
def Gr (H : Heap) (v : AV) (us : List AV) (o : Option Nat) : Prop := (v = .nilsl ∧ us = [] ∧ o = none) ∨ ∃ b, o = some b ∧ v = .rsl b 1 0 us.length none ∧ H[b]? = some (.row 1 us)
theorem Gr.sl {v : AV} {us : List AV} {o : Option Nat} (h : Gr H v us o) : SL H 1 v us := by
  rcases h with ⟨rfl, rfl, _⟩ | ⟨b, _, rfl, hb⟩
  · exact .nil
  · exact .rsl b 0 _ _ _ _ hb (by simp) (by simp) (by simp)
theorem Gr.app {v : AV} {us ys : List AV} {o : Option Nat} {bytes : Nat} (h : Gr H v us o) (hne : ys ≠ []) (hl : (us.length + ys.length) * bytes ≤ 70368744177664) :
    ∃ v' H', appended 0 H 1 bytes v ys = some (v', H') ∧ Gr H' v' (us ++ ys) (some H.length) ∧ H'.length = H.length + 1 ∧ ∀ b, b < H.length → o ≠ some b → H'[b]? = H[b]? := by
  rcases h with ⟨rfl, rfl, rfl⟩ | ⟨b, rfl, rfl, hb⟩
  · simp only [List.length_nil, Nat.zero_add] at hl
    refine ⟨_, _, app_nil (by unfold limit; omega) hne, .inr ⟨H.length, rfl, by simp, get_add_eq rfl⟩, by simp, fun b hb _ => get_add_lt hb⟩
  · refine ⟨_, _, app_own (es := us) (by unfold limit; omega) hb (Nat.le_refl _) (Nat.zero_le _), .inr ⟨H.length, rfl, by simp, ?_⟩, by simp, fun b' hb' hne' => ?_⟩
    · rw [List.take_length]; exact get_add_eq (by simp)
    · have : b ≠ b' := fun h => hne' (by rw [h])
      rw [get_add_lt (by simpa using hb'), get_set_ne this]
theorem Gr.keep {H' : Heap} {v : AV} {us : List AV} {b : Nat} (h : Gr H v us (some b)) (hk : H'[b]? = H[b]?) : Gr H' v us (some b) := by
  rcases h with ⟨_, _, h⟩ | ⟨b', h, rfl, hb⟩
  · cases h
  · cases h; exact .inr ⟨b, rfl, rfl, hk.trans hb⟩

/-- The texts that were made, each in a block of its own. -/
inductive Ms (H : Heap) (k : Nat) : List AV → List (List UInt8) → Prop
  | nil : Ms H k [] []
  | cons {b : Nat} {f : List UInt8} {ms : List AV} {fs : List (List UInt8)} (hb : b < k) (h : H[b]? = some (.row 1 (f.map byteV))) (hs : Ms H k ms fs) : Ms H k (.rsl b 1 0 f.length (some f.length) :: ms) (f :: fs)
theorem Ms.length {k : Nat} {ms : List AV} {fs : List (List UInt8)} (h : Ms H k ms fs) : ms.length = fs.length := by
  induction h with
  | nil => rfl
  | cons _ _ _ ih => simp [ih]
theorem Ms.keep {k k' : Nat} {H' : Heap} {ms : List AV} {fs : List (List UInt8)} (h : Ms H k ms fs) (hk : ∀ b, b < k → H'[b]? = H[b]?) (hkk : k ≤ k') : Ms H' k' ms fs := by
  induction h with
  | nil => exact .nil
  | cons hb h _ ih => exact .cons (by omega) ((hk _ hb).trans h) ih
theorem Ms.snoc {k b : Nat} {ms : List AV} {fs : List (List UInt8)} {f : List UInt8} (h : Ms H k ms fs) (hb : b < k) (hr : H[b]? = some (.row 1 (f.map byteV))) : Ms H k (ms ++ [.rsl b 1 0 f.length (some f.length)]) (fs ++ [f]) := by
  induction h with
  | nil => exact .cons hb hr .nil
  | cons h1 h2 _ ih => exact .cons h1 h2 ih

/-- Two texts, held against each other. -/
def rB (H : Heap) (x y : AV) : Bool := match bytesV H x, bytesV H y with
  | some (.str a), some (.str b) => a == b
  | _, _ => false
theorem rB_eq {x y : AV} {a b : List UInt8} (hx : BS H x a) (hy : BS H y b) : rB H x y = (a == b) := by
  unfold rB
  rw [hx.str, hy.str]
theorem Ms.bs {b : Nat} {f : List UInt8} (h : H[b]? = some (.row 1 (f.map byteV))) : BS H (.rsl b 1 0 f.length (some f.length)) f :=
  .rsl b 0 _ _ _ _ h (by simp) (by simp) (by rw [List.drop_zero, List.take_of_length_le (by simp)])
theorem all2_got {k : Nat} {us ms : List AV} {fs : List (List UInt8)} (h1 : PBs us fs) (h2 : Ms H k ms fs) : all2 (rB H) us ms = true := by
  induction h1 generalizing ms with
  | nil => cases h2; rfl
  | cons hu hs ih =>
    cases h2 with
    | cons hb hr hs2 =>
      simp only [all2, ih hs2, Bool.and_true]
      rw [rB_eq (hu.bs H) (Ms.bs hr)]
      simp
theorem same6_ok {k : Nat} {v w : AV} {us ms : List AV} {fs : List (List UInt8)} (hv : SL H 1 v us) (hw : SL H 1 w ms) (h1 : PBs us fs) (h2 : Ms H k ms fs) (hl : us.length ≤ 1000000) (hL : 2000000 ≤ L) :
    asPure (vcall (vlook tbl) L (d + 2)) 34 [v, w, .fn 20 [] []] H = some (.bool true) := by
  have key : ∀ (us ms : List AV) (fs : List (List UInt8)), PBs us fs → Ms H k ms fs → ∀ (i : Nat) (x y : AV), us[i]? = some x → ms[i]? = some y → ∃ a b, BS H x a ∧ BS H y b := by
    intro us ms fs h1
    induction h1 generalizing ms with
    | nil => intro h2 i x y hx; simp at hx
    | cons hu hs ih =>
      intro h2 i x y hx hy
      cases h2 with
      | cons hb hr hs2 =>
        cases i with
        | zero => simp at hx hy; subst hx; subst hy; exact ⟨_, _, hu.bs H, Ms.bs hr⟩
        | succ i => exact ih _ hs2 i x y (by simpa using hx) (by simpa using hy)
  have := same_fn (F := vlook tbl) (L := L) (d := d + 1) (f := 34) (ag := none) (H := H) rfl (by omega) hv hw (one := .fn 20 [] []) (by omega) (by omega) (rB H) (fun _ i x y hx hy => by
    obtain ⟨a, b, ha, hb⟩ := key us ms fs h1 h2 i x y hx hy
    refine ⟨x, y, by rw [ha.cells]; rfl, by rw [hb.cells]; rfl, ?_⟩
    simp only [pcallV_fn, List.nil_append, List.append_nil]
    rw [bytes_ok ha hb, rB_eq ha hb])
  rw [all2_got h1 h2] at this
  exact this

theorem u8_byte (z : Int) : ∃ x : UInt8, AV.int .u8 (IntKind.u8.wrap z) = byteV x := by
  refine ⟨UInt8.ofNat (IntKind.u8.wrap z).toNat, ?_⟩
  unfold byteV
  congr 1
  rw [UInt8.toNat_ofNat']
  simp only [IntKind.wrap, IntKind.bits, IntKind.signed, Bool.false_and, Bool.false_eq_true, if_false]
  omega
theorem mod300 (s m : Int) (hm : 0 < m) : 0 ≤ (IntKind.u64.wrap s).tmod m ∧ (IntKind.u64.wrap s).tmod m < m := by
  have h0 : 0 ≤ IntKind.u64.wrap s := by
    simp only [IntKind.wrap, IntKind.bits, IntKind.signed, Bool.false_and, Bool.false_eq_true, if_false]
    omega
  exact ⟨Int.tmod_nonneg _ h0, Int.tmod_lt_of_pos _ hm⟩
end Go.Vx.Ytbjcimdflehfjaa
