/- A part of the proof: lemmas about runs of the program's code. No condition beyond those that the lemmas state. -/
import Derived.Test.YtbjcimdflehfjaaVtQ
set_option linter.unusedVariables false
set_option linter.unusedSimpArgs false
set_option maxRecDepth 20000
namespace Go.Vx.Ytbjcimdflehfjaa
variable {L d : Nat} {H : Heap}

theorem Gr.app' {v : AV} {us ys : List AV} {o : Option Nat} {bytes : Nat} (h : Gr H v us o) (hl : (us.length + ys.length) * bytes ≤ 70368744177664) :
    ∃ v' H' o', appended 0 H 1 bytes v ys = some (v', H') ∧ Gr H' v' (us ++ ys) o' ∧ H.length ≤ H'.length ∧ (∀ g, o' = some g → H.length ≤ g ∧ g < H'.length) ∧ ∀ b, b < H.length → o ≠ some b → H'[b]? = H[b]? := by
  by_cases hy : ys = []
  · subst hy
    rcases h with ⟨rfl, rfl, rfl⟩ | ⟨b, rfl, rfl, hb⟩
    · exact ⟨_, _, none, app_nil0, .inl ⟨rfl, rfl, rfl⟩, Nat.le_refl _, fun g hg => (by cases hg), fun _ _ _ => rfl⟩
    · refine ⟨_, _, some H.length, app_own (es := us) (by unfold limit; omega) hb (Nat.le_refl _) (Nat.zero_le _), .inr ⟨H.length, rfl, by simp, ?_⟩, by simp, fun g hg => (by cases hg; simp), fun b' hb' hne' => ?_⟩
      · rw [List.take_length]; exact get_add_eq (by simp)
      · have : b ≠ b' := fun h => hne' (by rw [h])
        rw [get_add_lt (by simpa using hb'), get_set_ne this]
  · obtain ⟨v', H', h1, h2, h3, h4⟩ := h.app hy hl
    exact ⟨v', H', some H.length, h1, h2, by omega, fun g hg => (by cases hg; omega), h4⟩
theorem Gr.lt {v : AV} {us : List AV} {b : Nat} (h : Gr H v us (some b)) : b < H.length := by
  rcases h with ⟨_, _, h⟩ | ⟨b', h, _, hb⟩
  · cases h
  · cases h; exact lt_of_get hb
theorem Gr.of {H' : Heap} {v : AV} {us : List AV} {o : Option Nat} (h : Gr H v us o) (hk : ∀ b, o = some b → H'[b]? = H[b]?) : Gr H' v us o := by
  rcases h with h | ⟨b, rfl, rfl, hb⟩
  · exact .inl h
  · exact .inr ⟨b, rfl, rfl, (hk b rfl).trans hb⟩

/-- Behind the first loop's rounds: what was made. -/
def Made (H : Heap) (v w : AV) (fs : List (List UInt8)) : Prop := ∃ (k : Nat) (oa ob : Option Nat) (ms : List AV), Gr H v ((cat fs).map byteV) oa ∧ Gr H w ms ob ∧ Ms H k ms fs ∧ fine fs ∧ k ≤ H.length ∧ (∀ a, oa = some a → k ≤ a) ∧ (∀ b, ob = some b → k ≤ b ∧ oa ≠ some b)

theorem Made.next {H H1 : Heap} {v w : AV} {fs : List (List UInt8)} {f : List UInt8} (h : Made H v w fs) (hH : H1 = H ++ [.row 1 (f.map byteV)]) (h1 : 1 ≤ f.length) (h2 : f.length ≤ 300) (hl : fs.length ≤ 12) {u : AV} (hu : PB u (framed f)) :
    ∃ v' H2 w' H3, appendV 0 H1 1 1 v u = some (v', H2) ∧ appendV 0 H2 1 24 w (.sl 1 true [.rsl H.length 1 0 f.length (some f.length)]) = some (w', H3) ∧ Made H3 v' w' (fs ++ [f]) := by
  subst hH
  obtain ⟨k, oa, ob, ms, ga, gb, hms, hfn, hk, ha, hb⟩ := h
  have hcl := cat_len hfn
  have hml := hms.length
  have hal : ∀ a, oa = some a → a < H.length := fun a e => by subst e; exact ga.lt
  have hbl : ∀ b, ob = some b → b < H.length := fun b e => by subst e; exact gb.lt
  have ga1 : Gr (H ++ [.row 1 (f.map byteV)]) v ((cat fs).map byteV) oa := ga.of fun b e => get_add_lt (hal b e)
  obtain ⟨v', H2, o2, e2, g2, l2, p2, q2⟩ := ga1.app' (ys := (framed f).map byteV) (bytes := 1) (by simp [framed_len]; omega)
  have gb2 : Gr H2 w ms ob := gb.of fun b e => by
    have := hbl b e
    rw [q2 b (by simp; omega) (hb b e).2, get_add_lt this]
  obtain ⟨w', H3, o3, e3, g3, l3, p3, q3⟩ := gb2.app' (ys := [.rsl H.length 1 0 f.length (some f.length)]) (bytes := 24) (by simp; omega)
  simp at l2
  have old : ∀ b, b < k → H3[b]? = H[b]? := fun b hb' => by
    have n1 : oa ≠ some b := fun e => by have := ha b e; omega
    have n2 : ob ≠ some b := fun e => by have := (hb b e).1; omega
    rw [q3 b (by omega) n2, q2 b (by simp; omega) n1, get_add_lt (by omega)]
  have new : H3[H.length]? = some (.row 1 (f.map byteV)) := by
    have n1 : oa ≠ some H.length := fun e => by have := hal _ e; omega
    have n2 : ob ≠ some H.length := fun e => by have := hbl _ e; omega
    rw [q3 _ (by omega) n2, q2 _ (by simp) n1, get_add_eq rfl]
  refine ⟨v', H2, w', H3, by rw [(hu.bs _).app]; exact e2, by rw [appendV_ok (ys := [.rsl H.length 1 0 f.length (some f.length)]) rfl rfl]; exact e3, H.length + 1, o2, o3, _, ?_, g3, (hms.keep old (by omega)).snoc (by omega) new, ?_, by omega, fun a e => ?_, fun b e => ⟨?_, fun e' => ?_⟩⟩
  · rw [cat_snoc, List.map_append]
    refine g2.of fun b e => ?_
    have := (p2 b e).2
    refine q3 b this fun e' => ?_
    have := hbl b e'
    have := (p2 b e).1
    simp at this; omega
  · intro g hg
    rcases List.mem_append.1 hg with hg | hg
    · exact hfn g hg
    · simp at hg; subst hg; omega
  · have := (p2 a e).1; simp at this; omega
  · have := (p3 b e).1; omega
  · have h3 := (p3 b e).1
    have h4 := (p2 b e').2
    omega

/-- Behind the second loop's rounds. -/
structure Fed (H : Heap) (n0 b : Nat) (K : Heap) (got : AV) (us : List AV) (r : List UInt8) : Prop where
  len : n0 ≤ H.length
  keep : ∀ b', b' < n0 → b' ≠ b → H[b']? = K[b']?
  link : LinkAt H b r
  gr : ∃ og, Gr H got us og ∧ ∀ g, og = some g → n0 ≤ g

theorem Fed.next {H K : Heap} {n0 b : Nat} {got v : AV} {us : List AV} {ws cs r : List UInt8} {fs : List (List UInt8)} (h : Fed H n0 b K got us ws) (hb : b < n0) (hv : BS H v cs) (hp : Parse (ws ++ cs) fs r) (hw : ws.length + cs.length ≤ 1000000) (hL : 2000000 ≤ L) (hu : us.length ≤ 1000000) :
    ∃ v' H1 us' got' H2, vcall (vlook tbl) L (d + 7) 0 33 [.ptr b 0, v] H = some (.tup [v', .int .i64 0], H1) ∧ appendV 0 H1 1 24 got v' = some (got', H2) ∧ PBs us' fs ∧ Fed H2 n0 b K got' (us ++ us') r := by
  obtain ⟨h1, h2, h3, og, g1, g2⟩ := h
  obtain ⟨v', H1, us', e1, o1, p1, l1, f1⟩ := feed_ok (L := L) (d := d) (fl := 0) h3 hv hp hw (Nat.zero_le _) hL
  have hul := p1.length
  have hfl : fs.length ≤ 1000000 := by
    have : ∀ (ws : List UInt8) (fs : List (List UInt8)) (r : List UInt8), Parse ws fs r → fs.length ≤ ws.length := by
      intro ws fs r h
      induction h with
      | stop h => simp
      | frame hn h1 h2 h3 hr ih => simp at ih ⊢; omega
    have := this _ _ _ hp
    simp at this; omega
  have gl : ∀ g, og = some g → g < H.length := fun g e => by subst e; exact g1.lt
  have g1' : Gr H1 got us og := g1.of fun g e => f1.same g (by have := g2 g e; omega) (gl g e)
  obtain ⟨got', H2, o2, e2, k2, l2, p2, q2⟩ := g1'.app' (ys := us') (bytes := 24) (by omega)
  have hle := f1.len
  refine ⟨v', H1, us', got', H2, e1, by rw [o1.sl.app]; exact e2, p1, ⟨by omega, fun b' hb' hne => ?_, ?_, o2, k2, fun g e => by have := (p2 g e).1; omega⟩⟩
  · rw [q2 b' (by omega) (fun e => by have := g2 b' e; omega), f1.same b' hne (by omega)]
    exact h2 b' hb' hne
  · obtain ⟨u, u1, u2⟩ := l1
    refine ⟨u, ?_, u2⟩
    rw [q2 b (by omega) (fun e => by have := g2 b e; omega)]
    exact u1
end Go.Vx.Ytbjcimdflehfjaa
