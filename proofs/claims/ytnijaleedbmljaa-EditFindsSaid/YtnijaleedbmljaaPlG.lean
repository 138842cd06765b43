/- The plain law: the program's test whether edits fit is the document's. -/
import Derived.Test.YtnijaleedbmljaaW2
import Derived.Test.YtnijaleedbmljaaW3
namespace Go.Proofs.Ytnijaleedbmljaa
set_option linter.unusedVariables false
open Go Go.RowKit

theorem endB_iff {x : Pl.T} (h : x ≠ []) : endB x = true ↔ Pl.ended x := by
  unfold endB Pl.ended
  rw [decide_eq_true_eq]
  exact ⟨.inr, fun h' => h'.resolve_left h⟩

theorem fitB_iff (n : Nat) (es : Bool) : ∀ (l : List Pl.Ed) (last : Int), fitB n es last l = true ↔ Pl.Fits n (es = true) last l := by
  intro l
  induction l with
  | nil => intro last; simp [fitB, Pl.Fits]
  | cons e r ih =>
    intro last
    by_cases h : e.f ≤ last ∨ e.f < 0 ∨ e.t < e.f ∨ (n : Int) < e.t
    · rw [fitB_bad h]
      constructor
      · intro h'; cases h'
      · rintro ⟨h1, h2, h3, h4, _⟩; omega
    · by_cases hx : e.x = []
      · by_cases hf : e.f = e.t
        · rw [fitB_none h hx hf]
          constructor
          · intro h'; cases h'
          · rintro ⟨h1, h2, h3, h4, h5, _⟩; exact absurd hf (h5 hx)
        · rw [fitB_cut h hx hf, ih]
          constructor
          · intro h'; exact ⟨by omega, by omega, by omega, by omega, fun _ => hf, fun h'' => absurd hx h'', h'⟩
          · intro h'; exact h'.tail
      · by_cases hq : (e.t < n ∧ endB e.x = false) ∨ (e.f = n ∧ 0 < n ∧ es = false)
        · rw [fitB_no h hx hq]
          constructor
          · intro h'; cases h'
          · rintro ⟨h1, h2, h3, h4, h5, h6, _⟩
            obtain ⟨a, b⟩ := h6 hx
            rcases hq with ⟨q1, q2⟩ | ⟨q1, q2, q3⟩
            · have := (endB_iff hx).2 (a q1); rw [q2] at this; cases this
            · have := b q1 q2; rw [q3] at this; cases this
        · rw [fitB_go h hx hq, ih]
          constructor
          · intro h'
            refine ⟨by omega, by omega, by omega, by omega, fun h'' => absurd h'' hx, fun _ => ⟨fun ht => ?_, fun hf h0 => ?_⟩, h'⟩
            · rw [← endB_iff hx]
              cases hb : endB e.x
              · exact absurd (.inl ⟨ht, hb⟩) hq
              · rfl
            · cases hb : es
              · exact absurd (.inr ⟨hf, h0, hb⟩) hq
              · rfl
          · intro h'; exact h'.tail

theorem fitB_zero (es es' : Bool) : ∀ (l : List Pl.Ed) (last : Int), fitB 0 es last l = fitB 0 es' last l := by
  intro l
  induction l with
  | nil => intro last; rfl
  | cons e r ih => intro last; simp only [fitB, ih e.t]; simp

/-- Whether edits fit a text. -/
def fitS (s : Pl.T) (l : List Pl.Ed) : Bool := fitB (Pl.lines s).length (endB s) (-1) l

theorem fitS_ref (s : Pl.T) (l : List Pl.Ed) : fitB (Pl.lines s).length (lastEndB (Pl.lines s)) (-1) l = fitS s l := by
  unfold fitS
  by_cases h : s = []
  · subst h; exact fitB_zero _ _ _ _
  · congr 1
    have hne : Pl.lines s ≠ [] := fun e => h ((Pl.lines_nil_iff s).1 e)
    unfold lastEndB
    rw [List.getLast?_eq_some_getLast hne]
    have hz : (Pl.lines s).getLast hne ≠ [] := ((Pl.good_lines s).mem _ (List.getLast_mem hne)).1
    show wholeB _ = _
    rw [wholeB_ne hz]
    unfold endB
    have e : s = (Pl.lines s).dropLast.flatten ++ (Pl.lines s).getLast hne := by
      conv => lhs; rw [← Pl.lines_flat s, ← List.dropLast_concat_getLast hne]
      rw [List.flatten_append]; simp
    congr 1
    conv => rhs; rw [e, List.getLast?_append]
    cases hq : ((Pl.lines s).getLast hne).getLast? with
    | none => rw [List.getLast?_eq_none_iff] at hq; exact absurd hq hz
    | some c => rfl

theorem fitS_iff (s : Pl.T) (l : List Pl.Ed) : fitS s l = true ↔ Pl.Fits (Pl.lines s).length (endB s = true) (-1) l := fitB_iff _ _ _ _

theorem endB_ended {s : Pl.T} (h : endB s = true) : Pl.ended (Pl.lines s).flatten := by
  rw [Pl.lines_flat]; right; simpa [endB] using h

theorem Fits_mem {n : Nat} {es : Prop} : ∀ {l : List Pl.Ed} {last : Int}, Pl.Fits n es last l → ∀ e ∈ l, 0 ≤ e.f ∧ e.f ≤ e.t ∧ e.t ≤ n := by
  intro l
  induction l with
  | nil => simp
  | cons e r ih =>
    intro last h e' he
    rcases List.mem_cons.1 he with rfl | he
    · exact ⟨h.2.1, h.2.2.1, h.2.2.2.1⟩
    · exact ih h.tail e' he

theorem Fits_drop {n : Nat} {es : Prop} : ∀ {l : List Pl.Ed} {last : Int}, Pl.Fits n es last l → ∀ k, k ≤ l.length → Pl.Fits n es (if k = 0 then last else lastOf l k) (l.drop k) := by
  intro l
  induction l with
  | nil => intro last h k hk; simp at hk; subst hk; simpa using h
  | cons e r ih =>
    intro last h k hk
    cases k with
    | zero => simpa using h
    | succ k =>
      have := ih h.tail k (by simpa using hk)
      rw [if_neg (by omega)]
      simp only [List.drop_succ_cons]
      cases k with
      | zero => simpa [lastOf] using this
      | succ k => rw [if_neg (by omega)] at this; simpa [lastOf] using this

end Go.Proofs.Ytnijaleedbmljaa
