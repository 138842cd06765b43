/- Sets of lines, in plain Lean: how many pieces begin and end at a line; how many are open. -/
import Derived.Test.YtccpjjhaeocfhaaDoorSpC
set_option linter.unusedVariables false
set_option linter.unusedSimpArgs false
namespace Go.Proofs.YtccpjjhaeocfhaaDoor
namespace Sp
open Go

def bgc : List T → Nat → Int
  | [], _ => 0
  | x :: r, i => (if lo x - 1 = (i : Int) then 1 else 0) + bgc r i
def enc : List T → Nat → Int
  | [], _ => 0
  | x :: r, i => (if hi x = (i : Int) then 1 else 0) + enc r i
def act : List T → Nat → Int
  | [], _ => 0
  | x :: r, k => (if lo x - 1 < (k : Int) ∧ (k : Int) ≤ hi x then 1 else 0) + act r k

theorem bgc_snoc (P : List T) (x : T) (i : Nat) : bgc (P ++ [x]) i = if lo x - 1 = (i : Int) then bgc P i + 1 else bgc P i := by
  induction P with
  | nil => simp only [List.nil_append, bgc]; split <;> rfl
  | cons y r ih => simp only [List.cons_append, bgc, ih]; split <;> split <;> omega
theorem enc_snoc (P : List T) (x : T) (i : Nat) : enc (P ++ [x]) i = if hi x = (i : Int) then enc P i + 1 else enc P i := by
  induction P with
  | nil => simp only [List.nil_append, enc]; split <;> rfl
  | cons y r ih => simp only [List.cons_append, enc, ih]; split <;> split <;> omega
theorem bgc_bd (P : List T) (i : Nat) : 0 ≤ bgc P i ∧ bgc P i ≤ P.length := by
  induction P with
  | nil => simp [bgc]
  | cons y r ih => simp only [bgc, List.length_cons]; split <;> omega
theorem enc_bd (P : List T) (i : Nat) : 0 ≤ enc P i ∧ enc P i ≤ P.length := by
  induction P with
  | nil => simp [enc]
  | cons y r ih => simp only [enc, List.length_cons]; split <;> omega
theorem act_bd (P : List T) (i : Nat) : 0 ≤ act P i ∧ act P i ≤ P.length := by
  induction P with
  | nil => simp [act]
  | cons y r ih => simp only [act, List.length_cons]; split <;> omega
theorem act_zero {P : List T} (h : ∀ x ∈ P, pOk x = true) : act P 0 = 0 := by
  induction P with
  | nil => rfl
  | cons y r ih =>
    have := (pOk_iff y).1 (h y (by simp))
    simp only [act]
    rw [ih (fun x hx => h x (by simp [hx])), if_neg (by omega)]
    rfl
theorem act_step {P : List T} (h : ∀ x ∈ P, pOk x = true) (k : Nat) : act P (k + 1) = act P k + (bgc P k - enc P k) := by
  induction P with
  | nil => rfl
  | cons y r ih =>
    have h1 := (pOk_iff y).1 (h y (by simp))
    have h2 := ih (fun x hx => h x (by simp [hx]))
    simp only [act, bgc, enc]
    rw [h2]
    push_cast
    split <;> split <;> split <;> split <;> omega
theorem act_pos {P : List T} (k : Nat) : decide (0 < act P (k + 1)) = has (P.map pR) (k : Int) := by
  induction P with
  | nil => rfl
  | cons y r ih =>
    have hb := act_bd r (k + 1)
    have hc : act (y :: r) (k + 1) = (if lo y - 1 < ((k + 1 : Nat) : Int) ∧ ((k + 1 : Nat) : Int) ≤ hi y then 1 else 0) + act r (k + 1) := rfl
    have e0 : has (pR y :: r.map pR) (k : Int) = true ↔ (lo y - 1 ≤ (k : Int) ∧ (k : Int) < hi y) ∨ has (r.map pR) (k : Int) = true := by
      rw [has_cons, Bool.or_eq_true, Bool.and_eq_true, decide_eq_true_eq, decide_eq_true_eq]; rfl
    rw [List.map_cons, Bool.eq_iff_iff, e0, ← ih, decide_eq_true_eq, decide_eq_true_eq]
    by_cases h : lo y - 1 < ((k + 1 : Nat) : Int) ∧ ((k + 1 : Nat) : Int) ≤ hi y
    · rw [if_pos h] at hc
      rw [hc]
      constructor
      · intro _; left; constructor <;> omega
      · intro _; omega
    · rw [if_neg h] at hc
      rw [hc, Int.zero_add]
      constructor
      · intro h2; exact .inr h2
      · intro h2
        rcases h2 with h2 | h2
        · exfalso; apply h; constructor <;> omega
        · exact h2

theorem rightT_iff (t : T) : rightT t = true ↔ ∀ x ∈ spl 44 t, pOk x = true := by unfold rightT; rw [List.all_eq_true]
theorem rightT_no {t x : T} (hx : x ∈ spl 44 t) (h : pOk x = false) : rightT t = false := by
  rw [Bool.eq_false_iff]
  intro e
  rw [(rightT_iff t).1 e x hx] at h
  cases h

end Sp
end Go.Proofs.YtccpjjhaeocfhaaDoor
