/- digits.Hex: the bytes' signs. -/
import Derived.Test.YtjnjklnfcpgmpaaDoorShelf
import Derived.WalkKit
import Derived.BigCall
import Derived.Test.YtjnjklnfcpgmpaaDoorVxHex
namespace Go.Proofs
open Go.Shelf Go.RowKit

theorem Tryd.hexL_len (bs : List UInt8) : (Go.Vx.hexL bs).length = 2 * bs.length := by
  induction bs with
  | nil => rfl
  | cons b bs ih => simp [Go.Vx.hexL] at ih ⊢; omega

theorem Tryd.sgn_eq : ∀ n (h : n < 16), (({ data := #[48, 49, 50, 51, 52, 53, 54, 55, 56, 57, 65, 66, 67, 68, 69, 70] } : ByteArray)[n]'h) = Go.Vx.sgn n := by decide
set_option maxHeartbeats 4000000 in
set_option maxRecDepth 1000000 in
theorem Tryd.hex_walk (p : Option Addr) (cap : Nat) (bs : List UInt8) (w : World) (hs : bs.length ≤ 35184372088832) (hcap : bs.length ≤ cap)
    (hc : ∀ j b, bs[j]? = some b → ∃ a, p = some a ∧ w.cell? (a.add j) = some (.int .u8 (b.toNat : Int)) ∧ a.block < w.heap.size) :
    Calls Tryd.prog 21 #[.slice p bs.length cap] w fun e w' => e = .returned (.string ⟨(Go.Vx.hexL bs).toArray⟩) ∧ Below w.heap.size w w' := by
  go_enter Tryd.func21, Tryd.ntmps21
  go_wp2
  go_loopw [8] (fun vi wr => ∃ k : Nat, vi = .int .i64 k ∧ k ≤ bs.length ∧ Lib.IsBuilderF 51 5 w.heap.size w.heap.size (Lib.byteCells (Go.Vx.hexL (bs.take k))) wr ∧ Below w.heap.size w wr) (fun vi _ => bs.length - (intOf vi).toNat)
  case atStart =>
    refine ⟨0, rfl, by omega, Lib.IsBuilderF.of (Lib.fresh_isBuilder 51 5 w), (Below.refl _ w).alloc (Nat.le_refl _) _⟩
  case round =>
    obtain ⟨k, rfl, hk, hI, hbw⟩ := hrel
    by_cases hp : k < bs.length
    · obtain ⟨c, hcc⟩ : ∃ c, bs[k]? = some c := ⟨_, List.getElem?_eq_getElem hp⟩
      obtain ⟨a, rfl, hcell, hblk⟩ := hc k c hcc
      have hcell2 : wr.cell? (a.add k) = some (.int .u8 (c.toNat : Int)) := by rw [hbw.cell (p := a.add k) (by unfold Addr.add; split <;> exact hblk)]; exact hcell
      have hp' : ((k : Nat) : Int) < ((bs.length : Nat) : Int) := by omega
      have hc256 := c.toNat_lt
      have hq1 : (c.toNat : Int) / 16 < 16 := by omega
      have hq2 : (0 : Int) ≤ (c.toNat : Int) / 16 := by omega
      go_wp2_with (go_at_call 30; refine (Tryd.Builder_WriteByte_k w.heap.size w.heap.size _ _ _ hI (by rw [Lib.byteCells_length, Tryd.hexL_len]; simp; omega) hbw.size).mono ?_)
      rintro e W1 ⟨rfl, h1, b1, k1⟩
      rw [Tryd.sgn_eq _ (by omega), show [Value.int .u8 ((Go.Vx.sgn (c.toNat / 16)).toNat : Int)] = Lib.byteCells [Go.Vx.sgn (c.toNat / 16)] from rfl, ← Lib.byteCells_append] at h1
      go_wp2_with (go_at_call 30; refine (Tryd.Builder_WriteByte_k w.heap.size w.heap.size _ _ _ (Or.inr h1) (by rw [Lib.byteCells_length, List.length_append, Tryd.hexL_len]; simp; omega) (hbw.trans b1).size).mono ?_)
      rintro e W2 ⟨rfl, h2, b2, k2⟩
      rw [Tryd.sgn_eq _ (Nat.mod_lt _ (by omega)), show [Value.int .u8 ((Go.Vx.sgn (c.toNat % 16)).toNat : Int)] = Lib.byteCells [Go.Vx.sgn (c.toNat % 16)] from rfl, ← Lib.byteCells_append] at h2
      have hx : Go.Vx.hexL (bs.take k) ++ [Go.Vx.sgn (c.toNat / 16)] ++ [Go.Vx.sgn (c.toNat % 16)] = Go.Vx.hexL (bs.take (k + 1)) := by
        rw [List.take_add_one, hcc]; simp [Go.Vx.hexL]
      rw [hx] at h2
      have hw : IntKind.i64.wrap ((k : Int) + 1) = ((k + 1 : Nat) : Int) := by rw [IntKind.wrap_i64]; omega
      go_wp2
      go_roundw
      case rel => exact ⟨k + 1, by first | rfl | (rw [hw]) | (simp; omega), by omega, Or.inr h2, (hbw.trans b1).trans b2⟩
      case measure => simp [intOf]; omega
    · have hp' : ¬ ((k : Nat) : Int) < ((bs.length : Nat) : Int) := by omega
      have hke : k = bs.length := by omega
      subst hke
      rw [List.take_length] at hI
      go_wp2_with (go_at_call 31; refine (Tryd.Builder_String_any_k w.heap.size w.heap.size _ _ hI hbw.size).mono ?_)
      rintro e W1 rfl h0 b1 k1
      go_wp2
      go_ret
      exact ⟨rfl, hbw.trans b1⟩
end Go.Proofs
