/- Sets of lines, in plain Lean: whether a list of ranges is one; which lines it has; the ranges of the lines that a function names. -/
import Derived.WalkKit
set_option linter.unusedVariables false
set_option linter.unusedSimpArgs false
namespace Go.Proofs.YtccpjjhaeocfhaaDoor
namespace Sp

abbrev R := Int × Int
/-- Is it a set, the one ahead having ended at `last`? -/
def okFrom (last : Int) : List R → Bool
  | [] => true
  | r :: l => decide (last < r.1) && decide (0 ≤ r.1) && decide (r.1 < r.2) && decide (r.2 ≤ 65536) && okFrom r.2 l
def ok (l : List R) : Bool := okFrom (-1) l
def has (l : List R) (i : Int) : Bool := l.any fun r => decide (r.1 ≤ i) && decide (i < r.2)

/-- A line more. -/
def put (out : List R) (i : Nat) : List R :=
  match out.getLast? with
  | none => [((i : Int), (i : Int) + 1)]
  | some r => if r.2 = (i : Int) then out.dropLast ++ [(r.1, (i : Int) + 1)] else out ++ [((i : Int), (i : Int) + 1)]
/-- The ranges of the lines below n. -/
def setOf (f : Nat → Bool) : Nat → List R
  | 0 => []
  | k + 1 => if f k = true then put (setOf f k) k else setOf f k

theorem setOf_congr {f g : Nat → Bool} : ∀ {n : Nat}, (∀ i, i < n → f i = g i) → setOf f n = setOf g n := by
  intro n
  induction n with
  | zero => intro _; rfl
  | succ k ih =>
    intro h
    simp only [setOf]
    rw [h k (by omega), ih (fun i hi => h i (by omega))]
theorem setOf_tail {f : Nat → Bool} {n : Nat} : ∀ {m : Nat}, n ≤ m → (∀ i, n ≤ i → i < m → f i = false) → setOf f m = setOf f n := by
  intro m
  induction m with
  | zero => intro h _; rw [show n = 0 by omega]
  | succ k ih =>
    intro h hf
    by_cases e : n = k + 1
    · rw [e]
    · simp only [setOf]
      rw [hf k (by omega) (by omega), if_neg (by simp)]
      exact ih (by omega) (fun i h1 h2 => hf i h1 (by omega))

theorem put_last {out : List R} {r : R} {i : Nat} (h : r.2 = (i : Int)) : put (out ++ [r]) i = out ++ [(r.1, (i : Int) + 1)] := by
  unfold put
  rw [List.getLast?_append]
  simp [h]
theorem put_new {out : List R} {i : Nat} (h : ∀ r, out.getLast? = some r → r.2 ≠ (i : Int)) : put out i = out ++ [((i : Int), (i : Int) + 1)] := by
  unfold put
  cases e : out.getLast? with
  | none => rw [List.getLast?_eq_none_iff.1 e]; rfl
  | some r => simp only; rw [if_neg (h r e)]

/-- The iterator's state: what has come, and where the range begins that is open (-1: none is). -/
def It (f : Nat → Bool) (i : Nat) (em : List R) (b : Int) : Prop :=
  (b = -1 ∧ setOf f i = em ∧ ∀ r, em.getLast? = some r → r.2 < (i : Int)) ∨ (0 ≤ b ∧ b < (i : Int) ∧ setOf f i = em ++ [(b, (i : Int))])

theorem It.start (f : Nat → Bool) : It f 0 [] (-1) := .inl ⟨rfl, rfl, by simp⟩
theorem It.opens {f : Nat → Bool} {i : Nat} {em : List R} {b : Int} (h : It f i em b) (hf : f i = true) (hb : b < 0) : It f (i + 1) em i := by
  rcases h with ⟨_, h2, h3⟩ | ⟨h1, _, _⟩
  · refine .inr ⟨by omega, by simp; omega, ?_⟩
    simp only [setOf]
    rw [if_pos hf, h2, put_new (fun r hr => by have := h3 r hr; omega)]
    simp
  · omega
theorem It.goes {f : Nat → Bool} {i : Nat} {em : List R} {b : Int} (h : It f i em b) (hf : f i = true) (hb : ¬ b < 0) : It f (i + 1) em b := by
  rcases h with ⟨h1, _, _⟩ | ⟨h1, h2, h3⟩
  · omega
  · refine .inr ⟨h1, by simp; omega, ?_⟩
    simp only [setOf]
    rw [if_pos hf, h3, put_last rfl]
    simp
theorem It.ends {f : Nat → Bool} {i : Nat} {em : List R} {b : Int} (h : It f i em b) (hf : f i = false) (hb : 0 ≤ b) : It f (i + 1) (em ++ [(b, (i : Int))]) (-1) := by
  rcases h with ⟨h1, _, _⟩ | ⟨h1, h2, h3⟩
  · omega
  · refine .inl ⟨rfl, ?_, fun r hr => ?_⟩
    · simp only [setOf]
      rw [hf, if_neg (by simp), h3]
    · rw [List.getLast?_append] at hr
      simp at hr
      rw [← hr]; simp; omega
theorem It.stays {f : Nat → Bool} {i : Nat} {em : List R} {b : Int} (h : It f i em b) (hf : f i = false) (hb : ¬ 0 ≤ b) : It f (i + 1) em b := by
  rcases h with ⟨h1, h2, h3⟩ | ⟨h1, _, _⟩
  · refine .inl ⟨h1, ?_, fun r hr => by have := h3 r hr; simp; omega⟩
    simp only [setOf]
    rw [hf, if_neg (by simp), h2]
  · omega
theorem It.doneOpen {f : Nat → Bool} {i : Nat} {em : List R} {b : Int} (h : It f i em b) (hb : 0 ≤ b) : em ++ [(b, (i : Int))] = setOf f i := by
  rcases h with ⟨h1, _, _⟩ | ⟨_, _, h3⟩
  · omega
  · exact h3.symm
theorem It.doneShut {f : Nat → Bool} {i : Nat} {em : List R} {b : Int} (h : It f i em b) (hb : ¬ 0 ≤ b) : em = setOf f i := by
  rcases h with ⟨_, h2, _⟩ | ⟨h1, _, _⟩
  · exact h2.symm
  · omega
theorem put_length (out : List R) (i : Nat) : (put out i).length ≤ out.length + 1 := by
  unfold put
  split
  · simp
  · split
    · rw [List.length_append, List.length_dropLast]; simp
    · simp
theorem setOf_length (f : Nat → Bool) : ∀ n, (setOf f n).length ≤ n := by
  intro n
  induction n with
  | zero => simp [setOf]
  | succ k ih =>
    simp only [setOf]
    split
    · have := put_length (setOf f k) k; omega
    · omega
theorem It.length {f : Nat → Bool} {i : Nat} {em : List R} {b : Int} (h : It f i em b) : em.length ≤ i := by
  have := setOf_length f i
  rcases h with ⟨_, h2, _⟩ | ⟨_, _, h3⟩
  · rw [← h2]; exact this
  · rw [h3, List.length_append] at this; omega

end Sp
end Go.Proofs.YtccpjjhaeocfhaaDoor
