/- Sets of lines, in plain Lean: the ranges of the lines that a function names are a set, and have just these lines; two sets with the same lines are the same. -/
import Derived.Test.YtccpjjhaeocfhaaDoorSpA
set_option linter.unusedVariables false
set_option linter.unusedSimpArgs false
namespace Go.Proofs.YtccpjjhaeocfhaaDoor
namespace Sp

def lastEnd (last : Int) (l : List R) : Int := (l.getLast?.map (·.2)).getD last

theorem okFrom_snoc (last : Int) (l : List R) (r : R) : okFrom last (l ++ [r]) = (okFrom last l && (decide (lastEnd last l < r.1) && decide (0 ≤ r.1) && decide (r.1 < r.2) && decide (r.2 ≤ 65536))) := by
  induction l generalizing last with
  | nil => simp [okFrom, lastEnd]; rfl
  | cons x t ih =>
    rw [List.cons_append, okFrom, ih, okFrom]
    have : lastEnd x.2 t = lastEnd last (x :: t) := by
      unfold lastEnd
      cases t with
      | nil => simp
      | cons y u => rw [List.getLast?_cons_cons]; obtain ⟨z, hz⟩ : ∃ z, (y :: u).getLast? = some z := ⟨_, List.getLast?_eq_some_getLast (by simp)⟩; rw [hz]; rfl
    rw [this]; simp only [Bool.and_assoc]
theorem has_snoc (l : List R) (r : R) (i : Int) : has (l ++ [r]) i = (has l i || (decide (r.1 ≤ i) && decide (i < r.2))) := by simp [has]
theorem has_cons (l : List R) (r : R) (i : Int) : has (r :: l) i = ((decide (r.1 ≤ i) && decide (i < r.2)) || has l i) := by simp [has]

theorem setOf_inv (f : Nat → Bool) : ∀ n : Nat, n ≤ 65536 → ok (setOf f n) = true ∧ (∀ r, (setOf f n).getLast? = some r → r.2 ≤ (n : Int)) ∧ ∀ i : Int, has (setOf f n) i = (decide (0 ≤ i) && decide (i < (n : Int)) && f i.toNat) := by
  intro n
  induction n with
  | zero =>
    intro _
    refine ⟨rfl, by simp [setOf], fun i => ?_⟩
    simp only [setOf, has, List.any_nil]
    by_cases h : 0 ≤ i <;> by_cases h2 : i < 0 <;> simp [h, h2] <;> omega
  | succ k ih =>
    intro hk
    obtain ⟨h1, h2, h3⟩ := ih (by omega)
    simp only [setOf]
    by_cases hf : f k = true
    · rw [if_pos hf]
      by_cases hl : ∃ r, (setOf f k).getLast? = some r ∧ r.2 = (k : Int)
      · obtain ⟨r, hr, hr2⟩ := hl
        obtain ⟨l, hl⟩ : ∃ l, setOf f k = l ++ [r] := ⟨(setOf f k).dropLast, by
          rcases List.eq_nil_or_concat (setOf f k) with e | ⟨l, x, e⟩
          · rw [e] at hr; simp at hr
          · rw [e] at hr ⊢; simp at hr ⊢; exact hr⟩
        rw [hl] at h1 h3 ⊢
        rw [put_last hr2]
        unfold ok at h1 ⊢
        rw [okFrom_snoc] at h1 ⊢
        simp only [Bool.and_eq_true, decide_eq_true_eq] at h1 ⊢
        refine ⟨⟨h1.1, ⟨⟨h1.2.1.1, by omega⟩, by omega⟩⟩, fun q hq => ?_, fun i => ?_⟩
        · simp at hq; rw [← hq]; simp
        · have := h3 i
          rw [has_snoc] at this ⊢
          by_cases hi : i = (k : Int)
          · subst hi
            have e1 : decide (r.1 ≤ (k : Int)) = true := decide_eq_true (by omega)
            simp only [e1, Int.toNat_natCast, hf]
            simp; intro _; omega
          · have e : decide (i < ((k + 1 : Nat) : Int)) = decide (i < (k : Int)) := by rw [Bool.eq_iff_iff]; simp; omega
            have e2 : decide (i < (k : Int) + 1) = decide (i < r.2) := by rw [Bool.eq_iff_iff]; simp; omega
            rw [e, ← this]
            simp only
            rw [e2]
      · have hne : ∀ r, (setOf f k).getLast? = some r → r.2 ≠ (k : Int) := fun r hr e => hl ⟨r, hr, e⟩
        rw [put_new hne]
        unfold ok at h1 ⊢
        rw [okFrom_snoc]
        simp only [Bool.and_eq_true, decide_eq_true_eq]
        refine ⟨⟨h1, ⟨⟨?_, by omega⟩, by omega⟩, by omega⟩, fun q hq => ?_, fun i => ?_⟩
        · unfold lastEnd
          cases e : (setOf f k).getLast? with
          | none => simp; omega
          | some r => have a := h2 r e; have b := hne r e; simp; omega
        · simp at hq; rw [← hq]; simp
        · rw [has_snoc, h3 i]
          by_cases hi : i = (k : Int)
          · subst hi
            simp [hf]
          · have e : decide (i < ((k + 1 : Nat) : Int)) = decide (i < (k : Int)) := by rw [Bool.eq_iff_iff]; simp; omega
            have e2 : (decide ((k : Int) ≤ i) && decide (i < (k : Int) + 1)) = false := by
              rw [Bool.and_eq_false_iff]; simp only [decide_eq_false_iff_not]; omega
            rw [e]
            simp only
            rw [e2, Bool.or_false]
    · rw [if_neg hf]
      refine ⟨h1, fun r hr => by have := h2 r hr; push_cast; omega, fun i => ?_⟩
      rw [h3 i]
      by_cases hi : i = (k : Int)
      · subst hi; simp [hf]
      · have e : decide (i < ((k + 1 : Nat) : Int)) = decide (i < (k : Int)) := by rw [Bool.eq_iff_iff]; simp; omega
        rw [e]

theorem setOf_ok (f : Nat → Bool) {n : Nat} (h : n ≤ 65536) : ok (setOf f n) = true := (setOf_inv f n h).1
theorem has_setOf (f : Nat → Bool) {n : Nat} (h : n ≤ 65536) (i : Int) : has (setOf f n) i = (decide (0 ≤ i) && decide (i < (n : Int)) && f i.toNat) := (setOf_inv f n h).2.2 i

theorem okFrom_cons {last : Int} {r : R} {l : List R} (h : okFrom last (r :: l) = true) : last < r.1 ∧ 0 ≤ r.1 ∧ r.1 < r.2 ∧ r.2 ≤ 65536 ∧ okFrom r.2 l = true := by
  simpa [okFrom, and_assoc] using h
theorem has_gt {last : Int} {l : List R} (h : okFrom last l = true) : ∀ i : Int, i ≤ last → has l i = false := by
  induction l generalizing last with
  | nil => intro i _; rfl
  | cons r t ih =>
    intro i hi
    obtain ⟨h1, h2, h3, h4, h5⟩ := okFrom_cons h
    rw [has_cons, ih h5 i (by omega)]
    simp; omega
theorem okFrom_mem {last : Int} {l : List R} (h : okFrom last l = true) : ∀ r ∈ l, last < r.1 ∧ 0 ≤ r.1 ∧ r.1 < r.2 ∧ r.2 ≤ 65536 := by
  induction l generalizing last with
  | nil => simp
  | cons x t ih =>
    obtain ⟨h1, h2, h3, h4, h5⟩ := okFrom_cons h
    intro r hr
    rcases List.mem_cons.1 hr with rfl | hr
    · exact ⟨h1, h2, h3, h4⟩
    · obtain ⟨a, b, c, d⟩ := ih h5 r hr
      exact ⟨by omega, b, c, d⟩
theorem has_range {l : List R} (h : ok l = true) {i : Int} (hi : has l i = true) : 0 ≤ i ∧ i < 65536 := by
  simp only [has, List.any_eq_true] at hi
  obtain ⟨r, hr, h2⟩ := hi
  have := okFrom_mem h r hr
  simp at h2
  omega

theorem uniq {last : Int} {a b : List R} (ha : okFrom last a = true) (hb : okFrom last b = true) (h : ∀ i, has a i = has b i) : a = b := by
  induction a generalizing last b with
  | nil =>
    cases b with
    | nil => rfl
    | cons y u =>
      have q := okFrom_cons hb
      have := h y.1
      rw [has_cons] at this
      simp [has] at this
      omega
  | cons x t ih =>
    obtain ⟨p1, p2, p3, p4, p5⟩ := okFrom_cons ha
    cases b with
    | nil =>
      have := h x.1
      rw [has_cons] at this
      simp [has] at this
      omega
    | cons y u =>
      obtain ⟨q1, q2, q3, q4, q5⟩ := okFrom_cons hb
      have hx := has_gt p5
      have hy := has_gt q5
      have e1 : x.1 = y.1 := by
        by_cases c : x.1 < y.1
        · have := h x.1
          rw [has_cons, has_cons, hy x.1 (by omega), show decide (y.1 ≤ x.1) = false by simp; omega, show decide (x.1 < x.2) = true by simp; omega] at this
          simp at this
        · by_cases d : y.1 < x.1
          · have := h y.1
            rw [has_cons, has_cons, hx y.1 (by omega), show decide (x.1 ≤ y.1) = false by simp; omega, show decide (y.1 < y.2) = true by simp; omega] at this
            simp at this
          · omega
      have e2 : x.2 = y.2 := by
        by_cases c : x.2 < y.2
        · have := h x.2
          rw [has_cons, has_cons, hx x.2 (by omega)] at this
          simp at this; omega
        · by_cases d : y.2 < x.2
          · have := h y.2
            rw [has_cons, has_cons, hy y.2 (by omega)] at this
            simp at this; omega
          · omega
      obtain ⟨x1, x2⟩ := x
      obtain ⟨y1, y2⟩ := y
      simp only at e1 e2 p1 p2 p3 p4 p5 q1 q2 q3 q4 q5 hx hy
      subst e1 e2
      rw [ih p5 q5 (fun i => ?_)]
      by_cases c : i ≤ x2
      · rw [hx i c, hy i c]
      · have := h i
        rw [has_cons, has_cons] at this
        have z : decide (i < x2) = false := by simp; omega
        simpa [z] using this

/-- The set of a set's lines is the set. -/
theorem setOf_has {l : List R} (h : ok l = true) : setOf (fun i => has l (i : Int)) 65536 = l := by
  refine uniq (last := -1) (setOf_ok _ (Nat.le_refl _)) h (fun i => ?_)
  rw [has_setOf _ (Nat.le_refl _)]
  by_cases hi : has l i = true
  · have := has_range h hi
    rw [Int.toNat_of_nonneg this.1, hi]
    simp; omega
  · by_cases h0 : 0 ≤ i
    · rw [Int.toNat_of_nonneg h0]; simp [hi]
    · have : decide (0 ≤ i) = false := by simp; omega
      simp [this, hi]

/-- A set meets the lines from `a` on, below `b`, just if one of its ranges does. -/
def meets (l : List R) (a b : Int) : Bool := l.any fun r => decide (max r.1 a < min r.2 b)
theorem meets_iff {l : List R} (h : ok l = true) (a b : Int) : meets l a b = true ↔ ∃ v : Int, a ≤ v ∧ v < b ∧ has l v = true := by
  simp only [meets, has, List.any_eq_true, decide_eq_true_eq, Bool.and_eq_true]
  constructor
  · rintro ⟨r, hr, hm⟩
    exact ⟨max r.1 a, by omega, by omega, r, hr, by omega, by omega⟩
  · rintro ⟨v, h1, h2, r, hr, h3, h4⟩
    exact ⟨r, hr, by omega⟩

/-- One of the lines a, .., a + k - 1 is in. -/
def anyOf (f : Int → Bool) (a : Int) : Nat → Bool
  | 0 => false
  | k + 1 => anyOf f a k || f (a + k)
theorem anyOf_iff (f : Int → Bool) (a : Int) : ∀ k, anyOf f a k = true ↔ ∃ v : Int, a ≤ v ∧ v < a + k ∧ f v = true := by
  intro k
  induction k with
  | zero => simp [anyOf]; intro v h1 h2; omega
  | succ k ih =>
    simp only [anyOf, Bool.or_eq_true, ih]
    constructor
    · rintro (⟨v, h1, h2, h3⟩ | h)
      · exact ⟨v, h1, by push_cast; omega, h3⟩
      · exact ⟨a + k, by omega, by push_cast; omega, h⟩
    · rintro ⟨v, h1, h2, h3⟩
      by_cases c : v = a + k
      · exact .inr (c ▸ h3)
      · exact .inl ⟨v, h1, by push_cast at h2; omega, h3⟩

end Sp
end Go.Proofs.YtccpjjhaeocfhaaDoor
