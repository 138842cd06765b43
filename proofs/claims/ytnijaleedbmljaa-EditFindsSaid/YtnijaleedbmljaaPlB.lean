/- The plain law of longest common lists and of best pairs (no program in sight). -/
import Derived.PlainAid
namespace Go.Proofs.Ytnijaleedbmljaa.Pl
section
variable {α : Type} [DecidableEq α]

/-- How long a longest common list is. -/
def lcs : List α → List α → Nat
  | [], _ => 0
  | _ :: _, [] => 0
  | a :: u, b :: v => if a = b then lcs u v + 1 else max (lcs u (b :: v)) (lcs (a :: u) v)
termination_by u v => u.length + v.length

theorem lcs_nil_left (v : List α) : lcs [] v = 0 := by unfold lcs; rfl
theorem lcs_nil_right (u : List α) : lcs u [] = 0 := by cases u <;> (unfold lcs; rfl)
theorem lcs_cons (a b : α) (u v : List α) : lcs (a :: u) (b :: v) = if a = b then lcs u v + 1 else max (lcs u (b :: v)) (lcs (a :: u) v) := by
  rw [lcs]

omit [DecidableEq α] in
theorem sublist_tail {x a : α} {c u : List α} (h : (x :: c).Sublist (a :: u)) : c.Sublist u := by
  cases h with
  | cons _ h => exact (List.sublist_cons_self x c).trans h
  | cons_cons _ h => exact h
omit [DecidableEq α] in
theorem sublist_ne {x a : α} {c u : List α} (h : (x :: c).Sublist (a :: u)) (hne : x ≠ a) : (x :: c).Sublist u := by
  cases h with
  | cons _ h => exact h
  | cons_cons _ h => exact absurd rfl hne

theorem lcs_ge : ∀ (n : Nat) (u v c : List α), u.length + v.length ≤ n → c.Sublist u → c.Sublist v → c.length ≤ lcs u v := by
  intro n
  induction n with
  | zero =>
    intro u v c hn hu hv
    have := hu.length_le
    omega
  | succ n ih =>
    intro u v c hn hu hv
    cases c with
    | nil => simp
    | cons x c =>
      cases u with
      | nil => cases hu
      | cons a u =>
        cases v with
        | nil => cases hv
        | cons b v =>
          simp only [List.length_cons] at hn
          rw [lcs_cons]
          split
          · have := ih u v c (by omega) (sublist_tail hu) (sublist_tail hv)
            simp only [List.length_cons]; omega
          · next hab =>
            by_cases hxa : x = a
            · subst hxa
              have := ih (x :: u) v (x :: c) (by simp; omega) hu (sublist_ne hv hab)
              omega
            · have := ih u (b :: v) (x :: c) (by simp; omega) (sublist_ne hu hxa) hv
              omega

theorem lcs_common (u v c : List α) (hu : c.Sublist u) (hv : c.Sublist v) : c.length ≤ lcs u v := lcs_ge _ u v c (Nat.le_refl _) hu hv

theorem lcs_has : ∀ (n : Nat) (u v : List α), u.length + v.length ≤ n → ∃ c : List α, c.Sublist u ∧ c.Sublist v ∧ c.length = lcs u v := by
  intro n
  induction n with
  | zero =>
    intro u v hn
    have hu : u = [] := List.eq_nil_of_length_eq_zero (by omega)
    subst hu
    exact ⟨[], by simp, by simp, by rw [lcs_nil_left]; rfl⟩
  | succ n ih =>
    intro u v hn
    cases u with
    | nil => exact ⟨[], by simp, by simp, by rw [lcs_nil_left]; rfl⟩
    | cons a u =>
      cases v with
      | nil => exact ⟨[], by simp, by simp, by rw [lcs_nil_right]; rfl⟩
      | cons b v =>
        simp only [List.length_cons] at hn
        rw [lcs_cons]
        split
        · next h =>
          subst h
          obtain ⟨c, h1, h2, h3⟩ := ih u v (by omega)
          exact ⟨a :: c, h1.cons_cons a, h2.cons_cons a, by simp [h3]⟩
        · rcases Nat.le_total (lcs u (b :: v)) (lcs (a :: u) v) with h | h
          · obtain ⟨c, h1, h2, h3⟩ := ih (a :: u) v (by simp; omega)
            exact ⟨c, h1, h2.cons b, by omega⟩
          · obtain ⟨c, h1, h2, h3⟩ := ih u (b :: v) (by simp; omega)
            exact ⟨c, h1.cons a, h2, by omega⟩

theorem lcs_le_left (u v : List α) : lcs u v ≤ u.length := by
  obtain ⟨c, h1, _, h3⟩ := lcs_has _ u v (Nat.le_refl _)
  have := h1.length_le; omega
theorem lcs_le_right (u v : List α) : lcs u v ≤ v.length := by
  obtain ⟨c, _, h2, h3⟩ := lcs_has _ u v (Nat.le_refl _)
  have := h2.length_le; omega
theorem lcs_symm (u v : List α) : lcs u v = lcs v u := by
  obtain ⟨c, h1, h2, h3⟩ := lcs_has _ u v (Nat.le_refl _)
  obtain ⟨d, g1, g2, g3⟩ := lcs_has _ v u (Nat.le_refl _)
  have := lcs_common v u c h2 h1
  have := lcs_common u v d g2 g1
  omega
theorem lcs_self (u : List α) : lcs u u = u.length := by
  have := lcs_common u u u (List.Sublist.refl _) (List.Sublist.refl _)
  have := lcs_le_left u u
  omega

omit [DecidableEq α] in
theorem sublist_meet {b : List α} : ∀ {u v : List α}, u.Sublist b → v.Sublist b → ∃ t : List α, t.Sublist u ∧ t.Sublist v ∧ u.length + v.length ≤ t.length + b.length := by
  induction b with
  | nil => intro u v hu hv; exact ⟨[], by simp, by simp, by have h1 := hu.length_le; have h2 := hv.length_le; simp only [List.length_nil] at h1 h2 ⊢; omega⟩
  | cons x b ih =>
    intro u v hu hv
    cases hu with
    | cons _ hu =>
      cases hv with
      | cons _ hv =>
        obtain ⟨t, h1, h2, h3⟩ := ih hu hv
        exact ⟨t, h1, h2, by simp; omega⟩
      | cons_cons _ hv =>
        obtain ⟨t, h1, h2, h3⟩ := ih hu hv
        exact ⟨t, h1, h2.cons x, by simp; omega⟩
    | cons_cons _ hu =>
      cases hv with
      | cons _ hv =>
        obtain ⟨t, h1, h2, h3⟩ := ih hu hv
        exact ⟨t, h1.cons x, h2, by simp; omega⟩
      | cons_cons _ hv =>
        obtain ⟨t, h1, h2, h3⟩ := ih hu hv
        exact ⟨x :: t, h1.cons_cons x, h2.cons_cons x, by simp; omega⟩

/-- By way of a third list: the triangle. -/
theorem lcs_way (a b c : List α) : lcs a b + lcs b c ≤ lcs a c + b.length := by
  obtain ⟨u, h1, h2, h3⟩ := lcs_has _ a b (Nat.le_refl _)
  obtain ⟨v, g1, g2, g3⟩ := lcs_has _ b c (Nat.le_refl _)
  obtain ⟨t, t1, t2, t3⟩ := sublist_meet h2 g1
  have := lcs_common a c t (t1.trans h1) (t2.trans g2)
  omega

/-- The best pairs of two lists, by their places from (i, j) on. -/
def pairs (i j : Nat) : List α → List α → List (Nat × Nat)
  | [], _ => []
  | _ :: _, [] => []
  | a :: u, b :: v =>
    if a = b then (i, j) :: pairs (i + 1) (j + 1) u v
    else if lcs (a :: u) v ≤ lcs u (b :: v) then pairs (i + 1) j u (b :: v)
    else pairs i (j + 1) (a :: u) v
termination_by u v => u.length + v.length

theorem pairs_nil_left (i j : Nat) (v : List α) : pairs i j [] v = [] := by unfold pairs; rfl
theorem pairs_nil_right (i j : Nat) (u : List α) : pairs i j u [] = [] := by cases u <;> (unfold pairs; rfl)
theorem pairs_cons (i j : Nat) (a b : α) (u v : List α) : pairs i j (a :: u) (b :: v) =
    if a = b then (i, j) :: pairs (i + 1) (j + 1) u v
    else if lcs (a :: u) v ≤ lcs u (b :: v) then pairs (i + 1) j u (b :: v)
    else pairs i (j + 1) (a :: u) v := by rw [pairs]

theorem pairs_length : ∀ (n : Nat) (i j : Nat) (u v : List α), u.length + v.length ≤ n → (pairs i j u v).length = lcs u v := by
  intro n
  induction n with
  | zero =>
    intro i j u v hn
    have hu : u = [] := List.eq_nil_of_length_eq_zero (by omega)
    subst hu
    rw [pairs_nil_left, lcs_nil_left]; rfl
  | succ n ih =>
    intro i j u v hn
    cases u with
    | nil => rw [pairs_nil_left, lcs_nil_left]; rfl
    | cons a u =>
      cases v with
      | nil => rw [pairs_nil_right, lcs_nil_right]; rfl
      | cons b v =>
        simp only [List.length_cons] at hn
        rw [pairs_cons, lcs_cons]
        split
        · rw [List.length_cons, ih _ _ u v (by omega)]
        · split
          · rw [ih _ _ u (b :: v) (by simp; omega)]; omega
          · rw [ih _ _ (a :: u) v (by simp; omega)]; omega

omit [DecidableEq α] in
/-- Lists of pairs that rise in both places, from (i, j) on, below (n, m), and stand for lines that are the same. -/
def Aligned (a b : List α) : Nat → Nat → List (Nat × Nat) → Prop
  | _, _, [] => True
  | i, j, p :: r => i ≤ p.1 ∧ j ≤ p.2 ∧ (∃ x, a[p.1]? = some x ∧ b[p.2]? = some x) ∧ Aligned a b (p.1 + 1) (p.2 + 1) r

omit [DecidableEq α] in
theorem Aligned.mono {a b : List α} {i j i' j' : Nat} {r : List (Nat × Nat)} (h : Aligned a b i j r) (hi : i' ≤ i) (hj : j' ≤ j) : Aligned a b i' j' r := by
  cases r with
  | nil => trivial
  | cons p r => exact ⟨Nat.le_trans hi h.1, Nat.le_trans hj h.2.1, h.2.2⟩

theorem pairs_aligned (a b : List α) : ∀ (n : Nat) (i j : Nat) (u v : List α), u.length + v.length ≤ n → u = a.drop i → v = b.drop j → Aligned a b i j (pairs i j u v) := by
  intro n
  induction n with
  | zero =>
    intro i j u v hn _ _
    have hu : u = [] := List.eq_nil_of_length_eq_zero (by omega)
    subst hu
    rw [pairs_nil_left]; trivial
  | succ n ih =>
    intro i j u v hn hu hv
    cases u with
    | nil => rw [pairs_nil_left]; trivial
    | cons x u =>
      cases v with
      | nil => rw [pairs_nil_right]; trivial
      | cons y v =>
        simp only [List.length_cons] at hn
        have hx : a[i]? = some x := by rw [← List.head?_drop, ← hu]; rfl
        have hy : b[j]? = some y := by rw [← List.head?_drop, ← hv]; rfl
        have hu' : u = a.drop (i + 1) := by rw [← List.tail_drop, ← hu]; rfl
        have hv' : v = b.drop (j + 1) := by rw [← List.tail_drop, ← hv]; rfl
        rw [pairs_cons]
        split
        · next h =>
          exact ⟨Nat.le_refl _, Nat.le_refl _, ⟨x, hx, by rw [hy, h]⟩, ih _ _ u v (by omega) hu' hv'⟩
        · split
          · exact (ih _ _ u (y :: v) (by simp; omega) hu' hv).mono (by omega) (Nat.le_refl _)
          · exact (ih _ _ (x :: u) v (by simp; omega) hu hv').mono (Nat.le_refl _) (by omega)
end

/-- Numbers in the place of lines: the same. -/
theorem lcs_map {α β : Type} [DecidableEq α] [DecidableEq β] (f : α → β) : ∀ (n : Nat) (u v : List α), u.length + v.length ≤ n → (∀ x ∈ u, ∀ y ∈ v, f x = f y → x = y) → lcs (u.map f) (v.map f) = lcs u v := by
  intro n
  induction n with
  | zero =>
    intro u v hn _
    have hu : u = [] := List.eq_nil_of_length_eq_zero (by omega)
    subst hu
    simp [lcs_nil_left]
  | succ n ih =>
    intro u v hn hf
    cases u with
    | nil => simp [lcs_nil_left]
    | cons a u =>
      cases v with
      | nil => simp [lcs_nil_right]
      | cons b v =>
        simp only [List.length_cons] at hn
        have h1 := ih u v (by omega) (fun x hx y hy => hf x (by simp [hx]) y (by simp [hy]))
        have h2 := ih u (b :: v) (by simp; omega) (fun x hx y hy => hf x (by simp [hx]) y hy)
        have h3 := ih (a :: u) v (by simp; omega) (fun x hx y hy => hf x hx y (by simp [hy]))
        simp only [List.map_cons] at h2 h3 ⊢
        rw [lcs_cons, lcs_cons, h1, h2, h3]
        by_cases hab : a = b
        · rw [if_pos hab, if_pos (by rw [hab])]
        · rw [if_neg hab, if_neg (fun e => hab (hf a (by simp) b (by simp) e))]

theorem pairs_map {α β : Type} [DecidableEq α] [DecidableEq β] (f : α → β) : ∀ (n : Nat) (i j : Nat) (u v : List α), u.length + v.length ≤ n → (∀ x ∈ u, ∀ y ∈ v, f x = f y → x = y) → pairs i j (u.map f) (v.map f) = pairs i j u v := by
  intro n
  induction n with
  | zero =>
    intro i j u v hn _
    have hu : u = [] := List.eq_nil_of_length_eq_zero (by omega)
    subst hu
    simp [pairs_nil_left]
  | succ n ih =>
    intro i j u v hn hf
    cases u with
    | nil => simp [pairs_nil_left]
    | cons a u =>
      cases v with
      | nil => simp [pairs_nil_right]
      | cons b v =>
        simp only [List.length_cons] at hn
        have hf2 : ∀ x ∈ u, ∀ y ∈ b :: v, f x = f y → x = y := fun x hx y hy => hf x (by simp [hx]) y hy
        have hf3 : ∀ x ∈ a :: u, ∀ y ∈ v, f x = f y → x = y := fun x hx y hy => hf x hx y (by simp [hy])
        have h1 := ih (i + 1) (j + 1) u v (by omega) (fun x hx y hy => hf x (by simp [hx]) y (by simp [hy]))
        have h2 := ih (i + 1) j u (b :: v) (by simp; omega) hf2
        have h3 := ih i (j + 1) (a :: u) v (by simp; omega) hf3
        have l2 := lcs_map f _ u (b :: v) (Nat.le_refl _) hf2
        have l3 := lcs_map f _ (a :: u) v (Nat.le_refl _) hf3
        simp only [List.map_cons] at h2 h3 l2 l3 ⊢
        rw [pairs_cons, pairs_cons, h1, h2, h3, l2, l3]
        by_cases hab : a = b
        · rw [if_pos hab, if_pos (by rw [hab])]
        · rw [if_neg hab, if_neg (fun e => hab (hf a (by simp) b (by simp) e))]

end Go.Proofs.Ytnijaleedbmljaa.Pl
