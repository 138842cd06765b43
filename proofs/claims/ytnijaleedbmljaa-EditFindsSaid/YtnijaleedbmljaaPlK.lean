/- The plain law of the statements on edits: what makes one text of another one, what takes edits back. -/
import Derived.Test.YtnijaleedbmljaaW9
import Derived.Test.YtnijaleedbmljaaPlH
set_option linter.unusedVariables false
set_option linter.unusedSimpArgs false
namespace Go.Proofs.Ytnijaleedbmljaa
open Go Go.RowKit

theorem Fits_es {n : Nat} {es es' : Prop} (h : 0 < n → es → es') : ∀ {l : List Pl.Ed} {last : Int}, Pl.Fits n es last l → Pl.Fits n es' last l := by
  intro l
  induction l with
  | nil => intro _ _; trivial
  | cons e r ih =>
    intro last g
    obtain ⟨h1, h2, h3, h4, h5, h6, h7⟩ := g
    exact ⟨h1, h2, h3, h4, h5, fun hx => ⟨(h6 hx).1, fun a b => h b ((h6 hx).2 a b)⟩, ih h7⟩

theorem ended_endB {s : Pl.T} (h0 : 0 < (Pl.lines s).length) (h : Pl.ended s) : endB s = true := by
  unfold endB
  rcases h with h | h
  · subst h; exact absurd h0 (by simp [Pl.lines])
  · simpa using h

theorem fit_bet (a b : Pl.T) : fitS a (Pl.between (Pl.lines a) (Pl.lines b)) = true := by
  rw [fitS_iff]
  exact Fits_es (fun h0 h => ended_endB h0 (by rwa [Pl.lines_flat] at h)) (Pl.between_fits (Pl.good_lines b))
theorem app_bet (a b : Pl.T) : Pl.app (Pl.lines a) 0 (Pl.between (Pl.lines a) (Pl.lines b)) = b := by rw [Pl.between_app, Pl.lines_flat]

theorem fit_back {s : Pl.T} {l : List Pl.Ed} (h : fitS s l = true) : fitS (Pl.app (Pl.lines s) 0 l) (Pl.backs (Pl.lines s) 0 l) = true ∧ Pl.app (Pl.lines (Pl.app (Pl.lines s) 0 l)) 0 (Pl.backs (Pl.lines s) 0 l) = s ∧
    Pl.backs (Pl.lines (Pl.app (Pl.lines s) 0 l)) 0 (Pl.backs (Pl.lines s) 0 l) = l := by
  have hf := (fitS_iff s l).1 h
  have hes : endB s = true → Pl.ended (Pl.lines s).flatten := endB_ended
  have hl := Pl.lines_app (Pl.good_lines s) hes hf (a := 0)
  have key := Pl.back_all (Pl.good_lines s) hes (es' := Pl.ended (Pl.app (Pl.lines s) 0 l)) l 0 (-1) [] 0 hf (.inl ⟨rfl, rfl, rfl⟩) (by simp) (by rw [List.nil_append, ← hl]; exact Pl.good_lines _) (by rw [List.nil_append, ← Pl.app_flat]; exact id) (Nat.zero_le _)
  rw [List.nil_append, ← hl] at key
  obtain ⟨k1, k2, k3⟩ := key
  refine ⟨?_, ?_, ?_⟩
  · rw [fitS_iff]
    exact Fits_es (fun h0 h => ended_endB h0 h) k2
  · rw [Pl.app_flat]
    have : (([] : List Pl.T).length) = 0 := rfl
    rw [this] at k1
    rw [k1]; simp [Pl.lines_flat]
  · simpa using k3

theorem app_size (L : List Pl.T) (N M : Nat) (hfl : L.flatten.length ≤ N) : ∀ (l : List Pl.Ed) (a : Nat), (∀ e ∈ l, e.x.length ≤ M) → (Pl.app L a l).length ≤ N + l.length * (N + M) := by
  intro l
  induction l with
  | nil =>
    intro a _
    have : (L.take a).flatten ++ (L.drop a).flatten = L.flatten := by rw [← List.flatten_append, List.take_append_drop]
    have := congrArg List.length this
    simp only [List.length_append] at this
    simp only [Pl.app, List.length_nil, Nat.zero_mul]
    omega
  | cons e r ih =>
    intro a h
    have h1 := ih e.t.toNat (fun e' he => h e' (by simp [he]))
    have h2 := h e (by simp)
    have h3 := cut_small hfl a e.f.toNat
    simp only [Pl.app, List.length_append, List.length_cons]
    have : (r.length + 1) * (N + M) = r.length * (N + M) + (N + M) := by rw [Nat.add_mul, Nat.one_mul]
    omega

theorem backs_txt {L : List Pl.T} {N : Nat} (h : L.flatten.length ≤ N) : ∀ (l : List Pl.Ed) (m : Int), ∀ e ∈ Pl.backs L m l, e.x.length ≤ N := by
  intro l
  induction l with
  | nil => intro m e he; cases he
  | cons e r ih =>
    intro m e' he
    rw [backs_step] at he
    rcases List.mem_cons.1 he with rfl | he
    · exact cut_small h _ _
    · exact ih _ _ he

theorem bet_small {x y : List Pl.T} (hx : x.length ≤ 1000) (hy : y.length ≤ 1000) : betBig x y = false := by
  unfold betBig
  rcases Nat.eq_zero_or_pos x.length with h | h
  · rw [h]; rfl
  · rw [Bool.and_eq_false_iff]
    right
    rw [decide_eq_false_iff_not]
    have := (Nat.le_div_iff_mul_le h (x := 1000) (y := 1048576)).2 (by have := Nat.mul_le_mul_left 1000 hx; omega)
    omega

theorem bet_len {x y : List Pl.T} : ∀ (ps : List (Nat × Nat)) (i j : Nat), (Pl.bet y i j ps).length ≤ ps.length ∧ ∀ e ∈ Pl.bet y i j ps, e.x.length ≤ y.flatten.length := by
  intro ps
  induction ps with
  | nil => intro i j; exact ⟨Nat.le_refl _, fun e he => by cases he⟩
  | cons p r ih =>
    intro i j
    obtain ⟨h1, h2⟩ := ih (p.1 + 1) (p.2 + 1)
    simp only [Pl.bet]
    split
    · refine ⟨by simp; exact h1, fun e he => ?_⟩
      rcases List.mem_cons.1 he with rfl | he
      · exact cut_small (Nat.le_refl _) _ _
      · exact h2 e he
    · exact ⟨by simp; omega, h2⟩
theorem between_sm {x y : List Pl.T} (hx : x.length ≤ 1000000) (hy : y.flatten.length ≤ 1000000) : Sm (Pl.between x y) := by
  obtain ⟨h1, h2⟩ := bet_len (x := x) (y := y) (Pl.pairs 0 0 x y ++ [(x.length, y.length)]) 0 0
  refine ⟨?_, fun e he => ?_⟩
  · have := Pl.pairs_length _ 0 0 x y (Nat.le_refl _)
    have := Pl.lcs_le_left x y
    simp only [List.length_append, List.length_cons, List.length_nil] at h1
    unfold Pl.between
    omega
  · have := h2 e he; omega

end Go.Proofs.Ytnijaleedbmljaa
