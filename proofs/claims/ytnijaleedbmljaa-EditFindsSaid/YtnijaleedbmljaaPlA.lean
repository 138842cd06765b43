/- The plain law of texts and their lines (no program in sight): what lines are, that they are together the text, and how they go with an append behind a byte 10. -/
import Derived.PlainAid
namespace Go.Proofs.Ytnijaleedbmljaa.Pl

abbrev T := List UInt8

/-- A text's lines. -/
def lines : T → List T
  | [] => []
  | c :: s => if c = 10 then [10] :: lines s else
    match lines s with
    | [] => [[c]]
    | x :: xs => (c :: x) :: xs

theorem lines_flat (s : T) : (lines s).flatten = s := by
  induction s with
  | nil => rfl
  | cons c s ih =>
    unfold lines
    split
    · next h => simp [ih, h]
    · split
      · next h => rw [h] at ih; simp at ih; simp [← ih]
      · next x xs h => rw [h] at ih; simp at ih; simp [ih]

theorem lines_nil_iff (s : T) : lines s = [] ↔ s = [] := by
  constructor
  · intro h; have := lines_flat s; rw [h] at this; simpa using this.symm
  · rintro rfl; rfl

theorem lines_cons {c : UInt8} (hc : c ≠ 10) (s : T) : lines (c :: s) = match lines s with
    | [] => [[c]]
    | x :: xs => (c :: x) :: xs := by
  conv => lhs; unfold lines
  rw [if_neg hc]

/-- A text is empty or ends with a byte 10. -/
def ended (u : T) : Prop := u = [] ∨ u.getLast? = some 10

theorem ended_nil : ended [] := .inl rfl
theorem ended_tail {c : UInt8} {u : T} (h : ended (c :: u)) : ended u := by
  rcases h with h | h
  · cases h
  · cases u with
    | nil => exact .inl rfl
    | cons d u => right; simpa [List.getLast?_cons_cons] using h
theorem ended_append {u v : T} (hu : ended u) (hv : ended v) : ended (u ++ v) := by
  rcases hv with rfl | hv
  · simpa using hu
  · right; rw [List.getLast?_append, hv]; rfl
theorem ended_append_right {u v : T} (hv : v.getLast? = some 10) : ended (u ++ v) := by
  right; rw [List.getLast?_append, hv]; rfl

theorem lines_append {u v : T} (h : ended u) : lines (u ++ v) = lines u ++ lines v := by
  induction u with
  | nil => rfl
  | cons c u ih =>
    have ih := ih (ended_tail h)
    by_cases hc : c = 10
    · subst hc; simp [lines, ih]
    · cases u with
      | nil =>
        rcases h with h | h
        · cases h
        · simp at h; exact absurd h hc
      | cons d u =>
        have hne : lines (d :: u) ≠ [] := fun e => by cases (lines_nil_iff _).1 e
        simp only [List.cons_append] at ih ⊢
        rw [lines_cons hc, ih, lines_cons hc]
        cases hx : lines (d :: u) with
        | nil => exact absurd hx hne
        | cons x xs => rfl

/-- A line: not empty, a byte 10 at most at its end. -/
def isLine (x : T) : Prop := x ≠ [] ∧ 10 ∉ x.dropLast

theorem lines_single {x : T} (h : isLine x) : lines x = [x] := by
  induction x with
  | nil => exact absurd rfl h.1
  | cons c x ih =>
    cases x with
    | nil => by_cases hc : c = 10 <;> simp [lines, hc]
    | cons d x =>
      have hd : (c :: d :: x).dropLast = c :: (d :: x).dropLast := rfl
      have h2 := h.2
      rw [hd] at h2
      simp only [List.mem_cons, not_or] at h2
      have := ih ⟨by simp, h2.2⟩
      rw [lines_cons (fun e => h2.1 e.symm), this]

/-- Lines one behind the other: each is a line, all but the last end with a byte 10. -/
def Good : List T → Prop
  | [] => True
  | [x] => isLine x
  | x :: y :: r => isLine x ∧ x.getLast? = some 10 ∧ Good (y :: r)

theorem Good.tail {x : T} {r : List T} (h : Good (x :: r)) : Good r := by
  cases r with
  | nil => trivial
  | cons y r => exact h.2.2
theorem Good.head {x : T} {r : List T} (h : Good (x :: r)) : isLine x := by
  cases r with
  | nil => exact h
  | cons y r => exact h.1
theorem Good.mem {l : List T} (h : Good l) : ∀ x ∈ l, isLine x := by
  induction l with
  | nil => simp
  | cons x r ih =>
    intro y hy
    rcases List.mem_cons.1 hy with rfl | hy
    · exact h.head
    · exact ih h.tail y hy
theorem Good.cons {x : T} {r : List T} (h1 : isLine x) (h2 : r ≠ [] → x.getLast? = some 10) (h3 : Good r) : Good (x :: r) := by
  cases r with
  | nil => exact h1
  | cons y r => exact ⟨h1, h2 (by simp), h3⟩
theorem Good.ended {x : T} {r : List T} (h : Good (x :: r)) (hr : r ≠ []) : x.getLast? = some 10 := by
  cases r with
  | nil => exact absurd rfl hr
  | cons y r => exact h.2.1

theorem Good.drop {l : List T} (h : Good l) (k : Nat) : Good (l.drop k) := by
  induction k generalizing l with
  | zero => simpa using h
  | succ k ih =>
    cases l with
    | nil => simpa using h
    | cons x r => simpa using ih h.tail
theorem Good.take {l : List T} (h : Good l) (k : Nat) : Good (l.take k) := by
  induction k generalizing l with
  | zero => simp [Good]
  | succ k ih =>
    cases l with
    | nil => simpa using h
    | cons x r =>
      rw [List.take_succ_cons]
      refine Good.cons h.head (fun hr => h.ended ?_) (ih h.tail)
      rintro rfl; simp at hr
/-- All but the last end: so does what stands ahead of some line. -/
theorem Good.ended_take {l : List T} (h : Good l) {k : Nat} (hk : k < l.length) : Pl.ended (l.take k).flatten := by
  induction k generalizing l with
  | zero => exact .inl (by simp)
  | succ k ih =>
    cases l with
    | nil => simp at hk
    | cons x r =>
      simp only [List.length_cons] at hk
      rw [List.take_succ_cons, List.flatten_cons]
      have hr : r ≠ [] := by rintro rfl; simp at hk
      exact ended_append (.inr (h.ended hr)) (ih h.tail (by omega))

theorem lines_of_good {l : List T} (h : Good l) : lines l.flatten = l := by
  induction l with
  | nil => rfl
  | cons x r ih =>
    cases r with
    | nil => simpa using lines_single h
    | cons y r =>
      rw [List.flatten_cons, lines_append (.inr h.2.1), ih h.tail, lines_single h.1]; rfl

theorem good_lines (s : T) : Good (lines s) := by
  induction s with
  | nil => trivial
  | cons c s ih =>
    unfold lines
    split
    · exact Good.cons ⟨by simp, by simp⟩ (fun _ => by simp) ih
    · next hc =>
      split
      · exact ⟨by simp, by simp⟩
      · next x xs hx =>
        rw [hx] at ih
        have hh := ih.head
        cases x with
        | nil => exact absurd rfl hh.1
        | cons d x =>
          refine Good.cons ⟨by simp, ?_⟩ (fun hr => ?_) ih.tail
          · show 10 ∉ c :: (d :: x).dropLast
            simp only [List.mem_cons, not_or]
            exact ⟨fun e => hc e.symm, hh.2⟩
          · rw [List.getLast?_cons_cons]; exact ih.ended hr

theorem good_append {u v : List T} (hu : Good u) (hv : Good v) (h : v ≠ [] → ended u.flatten) : Good (u ++ v) := by
  induction u with
  | nil => exact hv
  | cons x r ih =>
    cases r with
    | nil =>
      refine Good.cons hu (fun hv' => ?_) hv
      rcases h hv' with h | h
      · simp at h; exact absurd h hu.1
      · simpa using h
    | cons y r =>
      refine Good.cons hu.1 (fun _ => hu.2.1) (ih hu.tail (fun hv' => ?_))
      rcases h hv' with h | h
      · simp at h; exact absurd h.2.1 hu.tail.head.1
      · right
        rw [List.flatten_cons, List.getLast?_append] at h
        cases hz : (y :: r).flatten.getLast? with
        | none =>
          rw [List.getLast?_eq_none_iff] at hz
          simp at hz; exact absurd hz.1 hu.tail.head.1
        | some z => rw [hz] at h; simpa using h

/-- How many bytes 10, and one more where the text does not end with one. -/
def count (s : T) : Nat := s.count 10 + if s = [] ∨ s.getLast? = some 10 then 0 else 1

theorem lines_length (s : T) : (lines s).length = count s := by
  induction s with
  | nil => rfl
  | cons c s ih =>
    unfold lines
    split
    · next h =>
      subst h
      simp only [List.length_cons, ih, count, List.count_cons_self]
      cases s with
      | nil => simp
      | cons d s => simp [List.getLast?_cons_cons]; omega
    · next h =>
      split
      · next hx =>
        have := (lines_nil_iff s).1 hx
        subst this
        simp [count, h]
      · next x xs hx =>
        rw [hx] at ih
        have hs : s ≠ [] := by rintro rfl; simp [lines] at hx
        simp only [List.length_cons] at ih ⊢
        rw [ih]
        unfold count
        rw [List.count_cons_of_ne (by simpa using h)]
        cases s with
        | nil => exact absurd rfl hs
        | cons d s => simp [List.getLast?_cons_cons]

end Go.Proofs.Ytnijaleedbmljaa.Pl
