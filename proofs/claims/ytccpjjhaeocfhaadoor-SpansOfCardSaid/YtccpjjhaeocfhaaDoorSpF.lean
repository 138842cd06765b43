/- Sets of lines, in plain Lean: how many lines a set of numbers has; in whatever order they are named. -/
import Derived.Test.YtccpjjhaeocfhaaDoorSpansBack
set_option linter.unusedVariables false
set_option linter.unusedSimpArgs false
namespace Go.Proofs.YtccpjjhaeocfhaaDoor
open Go

/-- What the law adds up. -/
def span (l : List Sp.R) : Int := l.foldl (fun s r => s + r.2 - r.1) 0
theorem span_acc (l : List Sp.R) (s : Int) : l.foldl (fun s r => s + r.2 - r.1) s = s + span l := by
  induction l generalizing s with
  | nil => simp [span]
  | cons r t ih =>
    unfold span
    simp only [List.foldl_cons]
    rw [ih, ih (0 + r.2 - r.1)]
    omega
theorem span_snoc (l : List Sp.R) (r : Sp.R) : span (l ++ [r]) = span l + r.2 - r.1 := by unfold span; rw [List.foldl_append]; rfl
theorem span_put (l : List Sp.R) (i : Nat) : span (Sp.put l i) = span l + 1 := by
  unfold Sp.put
  cases h : l.getLast? with
  | none =>
    rw [List.getLast?_eq_none_iff] at h
    subst h
    simp [span]; omega
  | some r =>
    have e : l = l.dropLast ++ [r] := by
      have hne : l ≠ [] := by rintro rfl; simp at h
      have h2 := List.getLast?_eq_some_getLast hne
      rw [h] at h2
      rw [Option.some.inj h2]
      exact (List.dropLast_concat_getLast hne).symm
    simp only
    split
    · rename_i hr
      rw [span_snoc]
      conv => rhs; rw [e, span_snoc]
      simp only
      omega
    · rw [span_snoc]; simp only; omega
def cnt (f : Nat → Bool) : Nat → Nat
  | 0 => 0
  | k + 1 => cnt f k + if f k = true then 1 else 0
theorem span_setOf (f : Nat → Bool) (n : Nat) : span (Sp.setOf f n) = (cnt f n : Int) := by
  induction n with
  | zero => rfl
  | succ k ih =>
    unfold Sp.setOf cnt
    by_cases h : f k = true
    · rw [if_pos h, if_pos h, span_put, ih]; omega
    · rw [if_neg h, if_neg h, ih]; omega
theorem cnt_congr {f g : Nat → Bool} {n : Nat} (h : ∀ i, i < n → f i = g i) : cnt f n = cnt g n := by
  induction n with
  | zero => rfl
  | succ k ih => unfold cnt; rw [ih (fun i hi => h i (by omega)), h k (by omega)]
theorem cnt_more {g : Nat → Bool} {x n : Nat} (hx : x < n) (hg : g x = false) : cnt (fun i => if i = x then true else g i) n = cnt g n + 1 := by
  induction n with
  | zero => omega
  | succ k ih =>
    unfold cnt
    by_cases h : x = k
    · subst h
      rw [cnt_congr (g := g) (fun i hi => if_neg (by omega))]
      simp [hg]
    · rw [ih (by omega), if_neg (show ¬ k = x by omega)]
      omega
/-- The numbers met, each once, in the order of their first meeting. -/
def met (l : List Int) : List Int := l.foldl (fun s x => if x ∈ s then s else s ++ [x]) []
theorem met_snoc (l : List Int) (x : Int) : met (l ++ [x]) = if x ∈ met l then met l else met l ++ [x] := by unfold met; rw [List.foldl_append]; rfl
theorem mem_met (l : List Int) (x : Int) : x ∈ met l ↔ x ∈ l := by
  have key : ∀ (n : Nat) (l : List Int), l.length = n → (x ∈ met l ↔ x ∈ l) := by
    intro n
    induction n with
    | zero => intro l h; rw [List.length_eq_zero_iff.1 h]; simp [met]
    | succ n ih =>
      intro l h
      have hne : l ≠ [] := by rintro rfl; simp at h
      rw [← List.dropLast_concat_getLast hne, met_snoc]
      have i1 := ih l.dropLast (by simp [h])
      split
      · rename_i hm
        rw [i1]
        simp only [List.mem_append, List.mem_singleton]
        constructor
        · exact Or.inl
        · rintro (h1 | rfl)
          · exact h1
          · exact i1.1 hm
      · simp only [List.mem_append, List.mem_singleton, i1]
  exact key _ l rfl
theorem cnt_met {l : List Int} (h : ∀ x ∈ l, 0 ≤ x ∧ x < 65536) : cnt (named l) 65536 = (met l).length := by
  obtain ⟨N, hN⟩ : ∃ N : Nat, N = 65536 := ⟨_, rfl⟩
  rw [← hN]
  have h' : ∀ x ∈ l, 0 ≤ x ∧ x < (N : Int) := fun x hx => by have := h x hx; omega
  clear h hN
  have key : ∀ (n : Nat) (l : List Int), l.length = n → (∀ x ∈ l, 0 ≤ x ∧ x < (N : Int)) → cnt (named l) N = (met l).length := by
    intro n
    induction n with
    | zero =>
      intro l h _
      rw [List.length_eq_zero_iff.1 h]
      have : ∀ k, cnt (named []) k = 0 := by
        intro k
        induction k with
        | zero => rfl
        | succ k ih => unfold cnt; rw [ih]; simp [named]
      rw [this]; rfl
    | succ n ih =>
      intro l h hl
      have hne : l ≠ [] := by rintro rfl; simp at h
      obtain ⟨a, x, rfl⟩ : ∃ a x, l = a ++ [x] := ⟨l.dropLast, l.getLast hne, (List.dropLast_concat_getLast hne).symm⟩
      have i1 := ih a (by simpa using h) (fun y hy => hl y (by simp [hy]))
      have hx := hl x (by simp)
      obtain ⟨k, rfl⟩ := Int.eq_ofNat_of_zero_le hx.1
      have e : ∀ i, i < N → named (a ++ [(k : Int)]) i = (if i = k then true else named a i) := by
        intro i _
        unfold named
        rw [List.any_append]
        by_cases hi : i = k
        · subst hi; simp
        · have : ((k : Int) == (i : Int)) = false := by rw [beq_eq_false_iff_ne]; omega
          simp [hi, this]
      rw [cnt_congr e, met_snoc]
      by_cases hm : (k : Int) ∈ met a
      · rw [if_pos hm, ← i1]
        refine cnt_congr (fun i _ => ?_)
        by_cases hi : i = k
        · subst hi
          rw [if_pos rfl]
          have := (mem_met a _).1 hm
          unfold named
          exact (List.any_eq_true.2 ⟨_, this, by simp⟩).symm
        · rw [if_neg hi]
      · rw [if_neg hm, cnt_more (by omega) ?_, i1]
        · simp
        · rw [Bool.eq_false_iff]
          intro e1
          unfold named at e1
          obtain ⟨y, hy, hyk⟩ := List.any_eq_true.1 e1
          rw [beq_iff_eq] at hyk
          subst hyk
          exact hm ((mem_met a _).2 hy)
  exact key _ l rfl h'
theorem span_ofL {l : List Int} (h : lineOk l = true) : span (ofL l) = ((met l).length : Int) := by
  unfold ofL; rw [if_pos h, span_setOf, cnt_met (lineOk_get h)]

theorem ofL_congr {a b : List Int} (h : ∀ x, x ∈ a ↔ x ∈ b) : ofL a = ofL b ∧ ofE a = ofE b := by
  have e1 : lineOk a = lineOk b := by
    rw [Bool.eq_iff_iff]
    exact ⟨fun h1 => lineOk_yes fun x hx => lineOk_get h1 x ((h x).2 hx), fun h1 => lineOk_yes fun x hx => lineOk_get h1 x ((h x).1 hx)⟩
  have e2 : ∀ i, named a i = named b i := by
    intro i
    unfold named
    rw [Bool.eq_iff_iff, List.any_eq_true, List.any_eq_true]
    exact ⟨fun ⟨x, hx, hi⟩ => ⟨x, (h x).1 hx, hi⟩, fun ⟨x, hx, hi⟩ => ⟨x, (h x).2 hx, hi⟩⟩
  unfold ofL ofE
  rw [e1, Sp.setOf_congr (fun i _ => e2 i)]
  exact ⟨rfl, rfl⟩
/-- What the law names the other way round, each twice. -/
def twice (l : List Int) (k : Nat) : List Int := (l.reverse.take k).flatMap fun x => [x, x]
theorem twice_len (l : List Int) {k : Nat} (h : k ≤ l.length) : (twice l k).length = 2 * k := by
  unfold twice
  have : ∀ m : List Int, (m.flatMap fun x => [x, x]).length = 2 * m.length := by
    intro m
    induction m with
    | nil => rfl
    | cons a t ih => rw [List.flatMap_cons, List.length_append, ih, List.length_cons]; simp only [List.length_cons, List.length_nil]; omega
  rw [this, List.length_take, List.length_reverse, Nat.min_eq_left h]
theorem twice_succ (l : List Int) {k : Nat} (h : k < l.length) : twice l (k + 1) = twice l k ++ [l[l.length - 1 - k], l[l.length - 1 - k]] := by
  unfold twice
  rw [List.take_succ_eq_append_getElem (by simpa using h), List.flatMap_append]
  simp [List.getElem_reverse]
theorem twice_all (l : List Int) (x : Int) : x ∈ twice l l.length ↔ x ∈ l := by
  unfold twice
  rw [List.take_of_length_le (by simp), List.mem_flatMap]
  constructor
  · rintro ⟨y, hy, hx⟩
    simp at hy hx
    subst hx; exact hy
  · intro h
    exact ⟨x, by simpa using h, by simp⟩
theorem hasB_ofL {l : List Int} (h : lineOk l = true) (n : Int) : hasB (ofL l) n = l.any (fun x => x == n) := by
  have hs : ofL l = Sp.setOf (named l) 65536 := by unfold ofL; rw [if_pos h]
  have hok : Sp.ok (ofL l) = true := by rw [hs]; exact Sp.setOf_ok _ (Nat.le_refl _)
  unfold hasB
  rw [hok, Bool.true_and, hs, Sp.has_setOf _ (Nat.le_refl _)]
  by_cases h0 : 0 ≤ n ∧ n < 65536
  · obtain ⟨k, rfl⟩ := Int.eq_ofNat_of_zero_le h0.1
    rw [decide_eq_true h0.1, decide_eq_true (show (k : Int) < ((65536 : Nat) : Int) by omega), Int.toNat_natCast]
    rfl
  · have e : l.any (fun x => x == n) = false := by
      rw [Bool.eq_false_iff]
      intro e
      obtain ⟨x, hx, hn⟩ := List.any_eq_true.1 e
      rw [beq_iff_eq] at hn
      subst hn
      exact h0 (lineOk_get h x hx)
    rw [e]
    have : (decide (0 ≤ n) && decide (n < ((65536 : Nat) : Int))) = false := by
      rw [Bool.and_eq_false_iff]; simp only [decide_eq_false_iff_not]; omega
    rw [this]; rfl

end Go.Proofs.YtccpjjhaeocfhaaDoor
