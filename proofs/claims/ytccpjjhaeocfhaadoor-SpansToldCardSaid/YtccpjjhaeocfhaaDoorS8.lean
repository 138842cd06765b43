/- Walks: the iterator of the ranges of the lines that a function names, over each of the program's own functions (printed by gens8.py). -/
import Derived.Test.YtccpjjhaeocfhaaDoorS7
set_option linter.unusedVariables false
set_option linter.unusedSimpArgs false
namespace Go.Proofs.YtccpjjhaeocfhaaDoor
open Go Go.RowKit Go.Shelf
attribute [local go_sem] Oper.semAt_some

theorem It_next {f : Nat → Bool} {i : Nat} {em : List Sp.R} {b : Int} (h : Sp.It f i em b) : ∃ em' b', Sp.It f (i + 1) em' b' ∧ em <+: em' := by
  cases hf : f i
  · by_cases hb : 0 ≤ b
    · exact ⟨_, _, h.ends hf hb, List.prefix_append _ _⟩
    · exact ⟨_, _, h.stays hf hb, List.prefix_refl _⟩
  · by_cases hb : b < 0
    · exact ⟨_, _, h.opens hf hb, List.prefix_refl _⟩
    · exact ⟨_, _, h.goes hf hb, List.prefix_refl _⟩
theorem It_pre {f : Nat → Bool} {i : Nat} : ∀ (d : Nat) {em : List Sp.R} {b : Int}, Sp.It f i em b → em <+: Sp.setOf f (i + d) := by
  intro d
  induction d generalizing i with
  | zero =>
    intro em b h
    by_cases hb : 0 ≤ b
    · rw [Nat.add_zero, ← h.doneOpen hb]; exact List.prefix_append _ _
    · rw [Nat.add_zero, ← h.doneShut hb]; exact List.prefix_refl _
  | succ d ih =>
    intro em b h
    obtain ⟨em', b', h', hp⟩ := It_next h
    have := ih h'
    rw [show i + 1 + d = i + (d + 1) by omega] at this
    exact hp.trans this
theorem It_prefix {f : Nat → Bool} {i n : Nat} {em : List Sp.R} {b : Int} (h : Sp.It f i em b) (hi : i ≤ n) : em <+: Sp.setOf f n := by
  have := It_pre (n - i) h
  rwa [show i + (n - i) = n by omega] at this
theorem It_bd {f : Nat → Bool} {i : Nat} {em : List Sp.R} {b : Int} (h : Sp.It f i em b) : -1 ≤ b ∧ b < (i : Int) := by
  rcases h with ⟨h, _, _⟩ | ⟨h1, h2, _⟩ <;> omega
theorem It_openPre {f : Nat → Bool} {n : Nat} {em : List Sp.R} {b : Int} (h : Sp.It f n em b) (hb : 0 ≤ b) : em ++ [(b, (n : Int))] <+: Sp.setOf f n := by rw [h.doneOpen hb]; exact List.prefix_refl _

/-- A function value that says of each line below n whether it is in, in every world that keeps what lies below N. -/
def Says (k : Nat) (lbk : Array Value) (f : Nat → Bool) (n N : Nat) (W : World) : Prop :=
  ∀ W', Keep N W W' → ∀ i : Nat, i < n → Calls Tryd.prog k (#[.int .i64 i] ++ lbk) W' fun e w' => e = .returned (.bool (f i)) ∧ W' = w'
theorem Says.keep {k : Nat} {lbk : Array Value} {f : Nat → Bool} {n N : Nat} {W W1 : World} (h : Says k lbk f n N W) (g : Keep N W W1) : Says k lbk f n N W1 := fun W' hW' => h W' (g.trans hW')
theorem Says.mono {k : Nat} {lbk : Array Value} {f : Nat → Bool} {n N M : Nat} {W : World} (h : Says k lbk f n N W) (g : N ≤ M) : Says k lbk f n M W := fun W' hW' => h W' (hW'.mono g)

end Go.Proofs.YtccpjjhaeocfhaaDoor
