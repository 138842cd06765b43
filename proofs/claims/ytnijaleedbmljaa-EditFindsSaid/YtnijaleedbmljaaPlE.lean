/- The plain law of lines and columns (no program in sight). -/
import Derived.Test.YtnijaleedbmljaaPlC
namespace Go.Proofs.Ytnijaleedbmljaa.Pl
set_option linter.unusedVariables false

/-- One byte more: behind a byte 10 a new line begins. -/
def lcStep (p : Nat × Nat) (c : UInt8) : Nat × Nat := if c = 10 then (p.1 + 1, 0) else (p.1, p.2 + 1)
/-- The line and column behind a text. -/
def lc (s : T) : Nat × Nat := s.foldl lcStep (0, 0)

theorem lc_snoc (s : T) (c : UInt8) : lc (s ++ [c]) = lcStep (lc s) c := by simp [lc]
theorem lc_nil : lc [] = (0, 0) := rfl

theorem rev_ind {α : Type} {P : List α → Prop} (h0 : P []) (h1 : ∀ s c, P s → P (s ++ [c])) (s : List α) : P s := by
  have h : ∀ t : List α, P t.reverse := by
    intro t
    induction t with
    | nil => exact h0
    | cons c t ih => rw [List.reverse_cons]; exact h1 _ _ ih
  have := h s.reverse
  rwa [List.reverse_reverse] at this

theorem lc_le (s : T) : (lc s).1 ≤ s.length ∧ (lc s).2 ≤ s.length := by
  refine rev_ind (P := fun s => (lc s).1 ≤ s.length ∧ (lc s).2 ≤ s.length) ⟨Nat.le_refl _, Nat.le_refl _⟩ ?_ s
  intro s c ih
  rw [lc_snoc]
  unfold lcStep
  split <;> simp <;> omega

end Go.Proofs.Ytnijaleedbmljaa.Pl
