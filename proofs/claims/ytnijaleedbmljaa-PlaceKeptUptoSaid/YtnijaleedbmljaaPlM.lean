/- The plain law of places behind edits: bounds, and how the loops over spots go on (no program in sight). -/
import Derived.Test.YtnijaleedbmljaaPlI
namespace Go.Proofs.Ytnijaleedbmljaa.Pl
set_option linter.unusedVariables false

theorem spots_length (x : List T) : ∀ (l : List Ed) (m : Int), (spots x m l).length = l.length := by
  intro l
  induction l with
  | nil => intro m; rfl
  | cons e r ih => intro m; simp [spots, ih]
/-- How great the numbers of a spot are. -/
structure Small (p : Spot) : Prop where
  b0 : 0 ≤ p.b
  be : p.b ≤ p.e
  e1 : p.e ≤ 4000000
  x1 : p.x.length ≤ 4000000
  t0 : -20000000000000 ≤ p.to
  t1 : p.to ≤ 20000000000000
theorem beg_mono {x : List T} {a b : Nat} (h : a ≤ b) : beg x a ≤ beg x b := by rw [beg_cut h]; omega
theorem beg_max (x : List T) (n : Nat) : beg x n ≤ x.flatten.length := by
  unfold beg
  have := congrArg List.length (show (x.take n).flatten ++ (x.drop n).flatten = x.flatten by rw [← List.flatten_append, List.take_append_drop])
  simp only [List.length_append] at this; omega
theorem spots_small {x : List T} (hx : x.flatten.length ≤ 4000000) : ∀ (l : List Ed) (m : Int), (∀ e ∈ l, 0 ≤ e.f ∧ e.f ≤ e.t) → (∀ e ∈ l, e.x.length ≤ 4000000) → l.length ≤ 4000000 →
    -16000000000000 + (l.length : Int) * 4000000 ≤ m → m ≤ 16000000000000 - (l.length : Int) * 4000000 → ∀ p ∈ spots x m l, Small p := by
  intro l
  induction l with
  | nil => intro m _ _ _ _ _ p hp; cases hp
  | cons e r ih =>
    intro m h1 h2 h3 h4 h5 p hp
    have k1 := h1 e (by simp)
    have k2 := h2 e (by simp)
    have k3 := beg_max x e.f.toNat
    have k4 := beg_max x e.t.toNat
    have k5 := beg_mono (x := x) (show e.f.toNat ≤ e.t.toNat by omega)
    simp only [List.length_cons] at h3 h4 h5
    rcases List.mem_cons.1 hp with rfl | hp
    · exact ⟨by simp only; omega, by simp only; omega, by simp only; omega, k2, by simp only; omega, by simp only; omega⟩
    · exact ih _ (fun e he => h1 e (by simp [he])) (fun e he => h2 e (by simp [he])) (by omega) (by omega) (by omega) p hp

theorem drop_pre {α : Type} {pre s : List α} {x : α} (h : pre ++ [x] <+: s) : s.drop pre.length = x :: s.drop (pre ++ [x]).length := by
  obtain ⟨t, rfl⟩ := h
  rw [List.append_assoc, List.drop_left, ← List.append_assoc, List.drop_left]
  rfl
theorem pre_len {α : Type} {pre s : List α} {x : α} (h : pre ++ [x] <+: s) : pre.length + 1 ≤ s.length := by
  have := h.length_le
  simpa using this
theorem pre_mem {α : Type} {pre s : List α} {x : α} (h : pre ++ [x] <+: s) : x ∈ s := by
  obtain ⟨t, rfl⟩ := h; simp

theorem mv_far {n m : Int} {p : Spot} {r : List Spot} (h : n < p.b) : mv n m (p :: r) = n + m := by simp only [mv]; rw [if_pos h]
theorem mv_in {n m : Int} {p : Spot} {r : List Spot} (h : ¬ n < p.b) (h2 : n < p.e) : mv n m (p :: r) = p.to + min (n - p.b) p.x.length := by simp only [mv]; rw [if_neg h, if_pos h2]
theorem mv_on {n m : Int} {p : Spot} {r : List Spot} (h : ¬ n < p.b) (h2 : ¬ n < p.e) : mv n m (p :: r) = mv n (m + ((p.x.length : Int) - (p.e - p.b))) r := by simp only [mv]; rw [if_neg h, if_neg h2]
theorem fm_far {n m : Int} {p : Spot} {r : List Spot} (h : n < p.to) : fm n m (p :: r) = (n - m, true) := by simp only [fm]; rw [if_pos h]
theorem fm_in {n m : Int} {p : Spot} {r : List Spot} (h : ¬ n < p.to) (h2 : n < p.to + p.x.length) : fm n m (p :: r) = (p.b, false) := by simp only [fm]; rw [if_neg h, if_pos h2]
theorem fm_on {n m : Int} {p : Spot} {r : List Spot} (h : ¬ n < p.to) (h2 : ¬ n < p.to + p.x.length) : fm n m (p :: r) = fm n (m + ((p.x.length : Int) - (p.e - p.b))) r := by simp only [fm]; rw [if_neg h, if_neg h2]

end Go.Proofs.Ytnijaleedbmljaa.Pl
