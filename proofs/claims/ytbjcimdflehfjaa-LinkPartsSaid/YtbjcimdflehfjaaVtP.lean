/- A part of the proof: lemmas about runs of the program's code. No condition beyond those that the lemmas state. -/
import Derived.Test.YtbjcimdflehfjaaVtO
set_option linter.unusedVariables false
set_option linter.unusedSimpArgs false
set_option maxRecDepth 20000
namespace Go.Vx.Ytbjcimdflehfjaa
variable {L d : Nat} {H : Heap}

def cat (fs : List (List UInt8)) : List UInt8 := fs.flatMap framed
def fine (fs : List (List UInt8)) : Prop := ∀ f ∈ fs, 1 ≤ f.length ∧ f.length ≤ 4096

/-- What comes first of frames: so many frames, and a piece of the next one. -/
theorem parse_prefix : ∀ (todo : List (List UInt8)) (p rest : List UInt8), fine todo → p ++ rest = cat todo →
    ∃ fs todo' r, todo = fs ++ todo' ∧ Parse p fs r ∧ r ++ rest = cat todo' ∧ ((todo' = [] ∧ r = []) ∨ ∃ f t, todo' = f :: t ∧ r.length < 2 + f.length) := by
  intro todo
  induction todo with
  | nil =>
    intro p rest _ h
    have hp : p = [] := by simp [cat] at h; exact h.1
    have hr : rest = [] := by simp [cat] at h; exact h.2
    subst hp; subst hr
    exact ⟨[], [], [], rfl, .stop (.inl (by simp)), rfl, .inl ⟨rfl, rfl⟩⟩
  | cons f t ih =>
    intro p rest hf h
    obtain ⟨f1, f2⟩ := hf f (by simp)
    have hc : cat (f :: t) = framed f ++ cat t := by simp [cat]
    rw [hc] at h
    by_cases hlt : p.length < 2 + f.length
    · have hp : p = (framed f).take p.length := by
        have := congrArg (List.take p.length) h
        rw [List.take_left, List.take_append_of_le_length (by rw [framed_len]; omega)] at this
        exact this
      refine ⟨[], f :: t, p, rfl, .stop ?_, by rw [hc]; exact h, .inr ⟨f, t, rfl, hlt⟩⟩
      rw [hp]
      exact short_piece f1 f2 hlt
    · obtain ⟨q, hq⟩ : ∃ q, p = framed f ++ q := by
        refine ⟨p.drop (framed f).length, ?_⟩
        have := congrArg (List.take (framed f).length) h
        rw [List.take_left, List.take_append_of_le_length (by rw [framed_len]; omega)] at this
        conv => lhs; rw [← List.take_append_drop (framed f).length p, this]
      subst hq
      rw [List.append_assoc] at h
      have h' := List.append_cancel_left h
      obtain ⟨fs, todo', r, k1, k2, k3, k4⟩ := ih q rest (fun g hg => hf g (by simp [hg])) h'
      exact ⟨f :: fs, todo', r, by rw [k1]; rfl, parse_framed f1 f2 k2, k3, k4⟩

theorem cat_len {fs : List (List UInt8)} (h : fine fs) : (cat fs).length ≤ fs.length * 4098 := by
  induction fs with
  | nil => simp [cat]
  | cons f t ih =>
    have := h f (by simp)
    have hc : cat (f :: t) = framed f ++ cat t := by simp [cat]
    rw [hc, List.length_append, framed_len, List.length_cons]
    have := ih (fun g hg => h g (by simp [hg]))
    omega
theorem cat_snoc (fs : List (List UInt8)) (f : List UInt8) : cat (fs ++ [f]) = cat fs ++ framed f := by simp [cat]
end Go.Vx.Ytbjcimdflehfjaa
