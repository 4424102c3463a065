/- V: bytes that are a value; what a call for its value hands back. -/
import Derived.Test.YtjnjklnfcpgmpaaDoorVxY
import Derived.Test.YtjnjklnfcpgmpaaDoorVxExt
set_option linter.unusedVariables false
set_option linter.unusedSimpArgs false
namespace Go.Vx

/-- Bytes that are a value. -/
inductive PB : AV → List UInt8 → Prop
  | nil : PB .nilsl []
  | sl (f : Bool) (bs : List UInt8) : PB (.sl 1 f (bs.map byteV)) bs
theorem PB.bs {u : AV} {bs : List UInt8} (h : PB u bs) (H : Heap) : BS H u bs := by cases h with
  | nil => exact .nil
  | sl f bs => exact .sl f _
theorem PB.sol {u : AV} {bs : List UInt8} (h : PB u bs) : Go.Vx.sol 2 u = true := by
  cases h with
  | nil => rfl
  | sl f bs => simp only [Go.Vx.sol]; exact solL_mem.2 (sol_bytes 0 bs)
theorem PB.of {H : Heap} {u : AV} {bs : List UInt8} (h : BS H u bs) (hs : Go.Vx.sol 2 u = true) : PB u bs := by
  have h : SL H 1 u (bs.map byteV) := h
  generalize he : bs.map byteV = es at h
  cases h with
  | nil =>
    have : bs = [] := by simpa using he
    subst this; exact .nil
  | sl f es => subst he; exact .sl f bs
  | rsl b o n c rs es hb _ _ _ => simp [Go.Vx.sol] at hs
theorem PB.sh {u : AV} {bs : List UInt8} (h : PB u bs) (n : Nat) : u.sh n = u := by
  cases h with
  | nil => rfl
  | sl f bs =>
    simp only [AV.sh, shL_map, List.map_map]
    congr 1
theorem PB.slice {u : AV} {bs : List UInt8} (h : PB u bs) {l n : Nat} (hl : l ≤ n) (hn : n ≤ bs.length) (k k' : IntKind) : ∃ u', sliceV 1 u (some (.int k l)) (some (.int k' n)) = some u' ∧ PB u' ((bs.take n).drop l) := by
  cases h with
  | nil =>
    have e1 : n = 0 := by simpa using hn
    subst e1
    have e2 : l = 0 := by omega
    subst e2
    exact ⟨.nilsl, rfl, .nil⟩
  | sl f bs =>
    refine ⟨_, ?_, .sl (f && n == (bs.map byteV).length) _⟩
    have : 1 = 1 ∧ l ≤ n ∧ n ≤ (bs.map byteV).length := ⟨rfl, hl, by simpa using hn⟩
    simp only [sliceV, bound_int, this, and_self, if_true, List.map_drop, List.map_take]
theorem PB.take {u : AV} {bs : List UInt8} (h : PB u bs) {n : Nat} (hn : n ≤ bs.length) (k' : IntKind) : ∃ u', sliceV 1 u none (some (.int k' n)) = some u' ∧ PB u' (bs.take n) := by
  cases h with
  | nil =>
    have e1 : n = 0 := by simpa using hn
    subst e1
    exact ⟨.nilsl, rfl, .nil⟩
  | sl f bs =>
    refine ⟨_, ?_, .sl (f && n == (bs.map byteV).length) _⟩
    have : 1 = 1 ∧ 0 ≤ n ∧ n ≤ (bs.map byteV).length := ⟨rfl, Nat.zero_le _, by simpa using hn⟩
    simp only [sliceV, bound_int, bound_none, this, and_self, if_true, List.map_take, List.drop_zero]
theorem PB.tail {u : AV} {bs : List UInt8} (h : PB u bs) {l : Nat} (hl : l ≤ bs.length) (k : IntKind) : ∃ u', sliceV 1 u (some (.int k l)) none = some u' ∧ PB u' (bs.drop l) := by
  cases h with
  | nil =>
    have e2 : l = 0 := by simpa using hl
    subst e2
    exact ⟨.nilsl, rfl, .nil⟩
  | sl f bs =>
    refine ⟨_, ?_, .sl (f && (bs.map byteV).length == (bs.map byteV).length) _⟩
    have : 1 = 1 ∧ l ≤ (bs.map byteV).length ∧ (bs.map byteV).length ≤ (bs.map byteV).length := ⟨rfl, by simpa using hl, Nat.le_refl _⟩
    simp only [sliceV, bound_int, bound_none, this, and_self, if_true, List.map_drop, List.take_length]

/-- Bytes that a call has made. -/
def NewB (H : Heap) (n0 : Nat) (v : AV) (bs : List UInt8) : Prop := (v = .nilsl ∧ bs = []) ∨ ∃ b c, n0 ≤ b ∧ v = .rsl b 1 0 bs.length c ∧ H[b]? = some (.row 1 (bs.map byteV)) ∧ bs.length ≤ c.getD bs.length
theorem NewB.bs {H : Heap} {n0 : Nat} {v : AV} {bs : List UInt8} (h : NewB H n0 v bs) : BS H v bs := by
  rcases h with ⟨rfl, rfl⟩ | ⟨b, c, hb, rfl, hr, hc⟩
  · exact .nil
  · exact .rsl b 0 _ _ _ _ hr (by simp) hc (by rw [List.drop_zero, List.take_of_length_le (by simp)])
theorem NewB.fz {H : Heap} {n0 : Nat} {v : AV} {bs : List UInt8} (h : NewB H n0 v bs) (d : Nat) : ∃ v', freeze H n0 (d + 2) v = some v' ∧ PB v' bs ∧ ∀ d', freeze H n0 (d' + 2) v = some v' := by
  rcases h with ⟨rfl, rfl⟩ | ⟨b, c, hb, rfl, hr, hc⟩
  · exact ⟨.nilsl, rfl, .nil, fun _ => rfl⟩
  · have hnl : ¬ b < n0 := by omega
    have key : ∀ d, freeze H n0 (d + 2) (.rsl b 1 0 bs.length c) = some (.sl 1 false (bs.map byteV)) := fun d => by
      have : (1 = 1 ∧ 0 + bs.length ≤ (bs.map byteV).length) := ⟨rfl, by simp⟩
      simp only [freeze, hnl, if_false, hr, this, and_self, if_true, List.drop_zero]
      rw [List.take_of_length_le (by simp), fz_bytes]
      rfl
    exact ⟨_, key d, .sl false bs, key⟩
theorem NewB.tup2 {H : Heap} {n0 : Nat} {v : AV} {bs : List UInt8} {a : Int} (h : NewB H n0 v bs) : ∃ v', freeze H n0 12 (.tup [v, .int .i64 a]) = some (.tup [v', .int .i64 a]) ∧ PB v' bs := by
  obtain ⟨v', h1, h2, h3⟩ := h.fz 0
  refine ⟨v', ?_, h2⟩
  have h4 := h3 9
  simp only [freeze, List.mapM_cons, List.mapM_nil] at h4 ⊢
  rw [h4]
  rfl
theorem NewB.tup3 {H : Heap} {n0 : Nat} {v : AV} {bs : List UInt8} {a b : Int} (h : NewB H n0 v bs) : ∃ v', freeze H n0 12 (.tup [v, .int .i64 a, .int .i64 b]) = some (.tup [v', .int .i64 a, .int .i64 b]) ∧ PB v' bs := by
  obtain ⟨v', h1, h2, h3⟩ := h.fz 0
  refine ⟨v', ?_, h2⟩
  have h4 := h3 9
  simp only [freeze, List.mapM_cons, List.mapM_nil] at h4 ⊢
  rw [h4]
  rfl
/-- append(nil, ..) -/
theorem newB_clone {H : Heap} {fl n0 : Nat} {v : AV} {bs : List UInt8} (h : BS H v bs) (hn : n0 ≤ H.length) (hl : bs.length ≤ 1000000000) : ∃ v' H', appendV fl H 1 1 .nilsl v = some (v', H') ∧ NewB H' n0 v' bs ∧ H.length ≤ H'.length ∧ ∀ b, b < H.length → H'[b]? = H[b]? := by
  by_cases hb : bs = []
  · subst hb
    exact ⟨.nilsl, H, by rw [h.app]; exact app_nil0, .inl ⟨rfl, rfl⟩, Nat.le_refl _, fun _ _ => rfl⟩
  · refine ⟨.rsl H.length 1 0 bs.length none, H ++ [.row 1 (bs.map byteV)], ?_, .inr ⟨H.length, none, hn, rfl, get_add_eq rfl, by simp⟩, by simp, fun b hb => get_add_lt hb⟩
    rw [h.app, app_nil (by simp [limit]; omega) (by simpa using hb)]
    simp
/-- append(nil, ..), and what has room. -/
theorem newB_clone5 {H : Heap} {fl n0 : Nat} {v : AV} {bs : List UInt8} (h : BS H v bs) (hn : n0 ≤ H.length) (hl : bs.length ≤ 1000000000) : ∃ v' H', appendV fl H 1 1 .nilsl v = some (v', H') ∧ NewB H' n0 v' bs ∧ H.length ≤ H'.length ∧ (∀ b, b < H.length → H'[b]? = H[b]?) ∧ ∀ b c, v' = .rsl b 1 0 bs.length c → c = none ∧ H.length ≤ b := by
  by_cases hb : bs = []
  · subst hb
    exact ⟨.nilsl, H, by rw [h.app]; exact app_nil0, .inl ⟨rfl, rfl⟩, Nat.le_refl _, fun _ _ => rfl, fun _ _ h => by cases h⟩
  · refine ⟨.rsl H.length 1 0 bs.length none, H ++ [.row 1 (bs.map byteV)], ?_, .inr ⟨H.length, none, hn, rfl, get_add_eq rfl, by simp⟩, by simp, fun b hb => get_add_lt hb, fun b c h => ?_⟩
    · rw [h.app, app_nil (by simp [limit]; omega) (by simpa using hb)]
      simp
    · cases h; exact ⟨rfl, Nat.le_refl _⟩
/-- append to what the call has made. -/
theorem NewB.app {H : Heap} {fl n0 : Nat} {s v : AV} {x y : List UInt8} (hs : NewB H n0 s x) (hcap : ∀ b c, s = .rsl b 1 0 x.length c → c = none ∧ fl ≤ b) (hv : BS H v y) (hn : n0 ≤ H.length) (hl : x.length + y.length ≤ 1000000000) : ∃ v' H', appendV fl H 1 1 s v = some (v', H') ∧ NewB H' n0 v' (x ++ y) ∧ H.length ≤ H'.length ∧ ∀ b, b < n0 → H'[b]? = H[b]? := by
  rcases hs with ⟨rfl, rfl⟩ | ⟨b, c, hb, rfl, hr, hc⟩
  · obtain ⟨v', H', h1, h2, h3, h4⟩ := newB_clone (fl := fl) (n0 := n0) hv hn (by simpa using hl)
    exact ⟨v', H', h1, h2, h3, fun b hb => h4 b (by omega)⟩
  · obtain ⟨rfl, hfl⟩ := hcap b c rfl
    have hbl := lt_of_get hr
    refine ⟨.rsl H.length 1 0 (x.length + y.length) none, H.set b .dead ++ [.row 1 ((x ++ y).map byteV)], ?_, .inr ⟨H.length, none, hn, by simp, get_add_eq (by simp), by simp⟩, by simp, fun b' hb' => ?_⟩
    · rw [hv.app, app_own (es := x.map byteV) (by simp [limit]; omega) hr (by simp) hfl]
      simp [List.take_of_length_le]
    · rw [get_add_lt (by simp; omega), get_set_ne (by omega)]
end Go.Vx
