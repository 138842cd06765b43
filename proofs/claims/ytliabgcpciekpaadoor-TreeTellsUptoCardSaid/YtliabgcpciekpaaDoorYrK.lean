/- Styles, in plain Lean: what the lines of a text come to. -/
import Derived.Test.YtliabgcpciekpaaDoorYrI
import Derived.Test.YtliabgcpciekpaaDoorYrF
set_option linter.unusedVariables false
set_option linter.unusedSimpArgs false
namespace Go.Proofs.YtliabgcpciekpaaDoor
namespace St
open Go

theorem trimR_lt {t : T} {c : UInt8} (h : blk c = true) : (trimR (t ++ [c])).length < (t ++ [c]).length := by
  rw [trimR_yes h]
  have := trimR_len t
  simp; omega
theorem trimR_suffix {p u : T} (h : trimR (p ++ u) = p ++ u) : trimR u = u := by
  rcases List.eq_nil_or_concat u with rfl | ⟨r, c, rfl⟩
  · rfl
  · rw [List.concat_eq_append] at *
    cases hb : blk c
    · exact trimR_no hb
    · have := trimR_lt (t := p ++ r) hb
      rw [List.append_assoc, h] at this
      omega
theorem trimR_idem (t : T) : trimR (trimR t) = trimR t := by
  suffices h : ∀ n (t : T), t.length = n → trimR (trimR t) = trimR t from h _ t rfl
  intro n
  induction n with
  | zero => intro t h; rw [List.eq_nil_of_length_eq_zero h]; rfl
  | succ n ih =>
    intro t h
    rcases List.eq_nil_or_concat t with rfl | ⟨r, c, rfl⟩
    · rfl
    · rw [List.concat_eq_append] at *
      cases hb : blk c
      · rw [trimR_no hb, trimR_no hb]
      · rw [trimR_yes hb]; exact ih r (by simpa using h)
theorem trimL_drop (t : T) : ∃ k, trimL t = t.drop k := by
  induction t with
  | nil => exact ⟨0, rfl⟩
  | cons c r ih =>
    cases hb : blk c
    · exact ⟨0, by rw [trimL_no hb]; rfl⟩
    · obtain ⟨k, hk⟩ := ih
      exact ⟨k + 1, by rw [trimL_yes hb, hk]; rfl⟩
theorem trimR_drop {t : T} (h : trimR t = t) (k : Nat) : trimR (t.drop k) = t.drop k := by
  apply trimR_suffix (p := t.take k)
  rw [List.take_append_drop]
  exact h
theorem trimR_trimL {t : T} (h : trimR t = t) : trimR (trimL t) = trimL t := by
  obtain ⟨k, hk⟩ := trimL_drop t
  rw [hk]; exact trimR_drop h k
theorem trimL_head (t : T) : trimL t = [] ∨ ∃ c r, trimL t = c :: r ∧ blk c = false := by
  induction t with
  | nil => exact .inl rfl
  | cons c r ih =>
    cases hb : blk c
    · exact .inr ⟨c, r, trimL_no hb, hb⟩
    · rw [trimL_yes hb]; exact ih
theorem trimR_cons {c : UInt8} (h : blk c = false) (r : T) : trimR (c :: r) = c :: trimR r := by
  suffices h2 : ∀ n (r : T), r.length = n → trimR (c :: r) = c :: trimR r from h2 _ r rfl
  intro n
  induction n with
  | zero => intro r e; rw [List.eq_nil_of_length_eq_zero e]; exact trimR_no (t := []) h
  | succ n ih =>
    intro r e
    rcases List.eq_nil_or_concat r with rfl | ⟨q, d, rfl⟩
    · exact trimR_no (t := []) h
    · rw [List.concat_eq_append] at *
      cases hb : blk d
      · rw [trimR_no hb, ← List.cons_append, trimR_no hb]
      · rw [trimR_yes hb, ← List.cons_append, trimR_yes hb]; exact ih q (by simpa using e)

/-- A line without white space around. -/
def line (t : T) : T := trimR (trimL t)
theorem line_head (t : T) : line t = [] ∨ ∃ c r, line t = c :: r ∧ blk c = false := by
  unfold line
  rcases trimL_head t with h | ⟨c, r, h, hb⟩
  · rw [h]; exact .inl rfl
  · rw [h, trimR_cons hb]; exact .inr ⟨c, _, rfl, hb⟩
theorem line_right (t : T) : trimR (line t) = line t := trimR_idem _
theorem line_len (t : T) : (line t).length ≤ t.length := Nat.le_trans (trimR_len _) (trimL_len _)

/-- What the program takes a line to say. -/
def sdP (t : T) : Option (Nat × Int) :=
  if cutT t = true then (if isNum (trimL (cutB t)) = true then fnd (trimR (cutA t)) (worth (trimL (cutB t))) else none) else none
theorem cutA_eq (t : T) : ∃ k, cutA t = t.take k := by
  unfold cutA
  split
  · exact ⟨t.length, by simp⟩
  · exact ⟨_, rfl⟩
theorem cutB_eq (t : T) : ∃ k, cutB t = t.drop k := by
  unfold cutB
  split
  · exact ⟨t.length, by simp⟩
  · exact ⟨_, rfl⟩
theorem sdP_eq (t : T) : sdP (line t) = sd (line t) := by
  have hA : trimL (cutA (line t)) = cutA (line t) := by
    obtain ⟨k, hk⟩ := cutA_eq (line t)
    rw [hk]
    rcases line_head t with h | ⟨c, r, h, hb⟩
    · rw [h]; simp [trimL]
    · rw [h]
      cases k with
      | zero => rfl
      | succ k => rw [List.take_succ_cons, trimL_no hb]
  have hB : trimR (trimL (cutB (line t))) = trimL (cutB (line t)) := by
    obtain ⟨k, hk⟩ := cutB_eq (line t)
    rw [hk]
    exact trimR_trimL (trimR_drop (line_right t) k)
  unfold sdP sd
  rw [hA, hB]

theorem nm_inj {i j : Nat} (hi : i < 18) (hj : j < 18) (h : nm i = nm j) : i = j :=
  below18 (p := fun i => ∀ j, j < 18 → nm i = nm j → i = j) (fun i hi => below18 ((by decide : ∀ i ∈ List.range 18, ∀ j ∈ List.range 18, nm i = nm j → i = j) i hi)) i hi j hj h
theorem pick_iff (N : T) (x : Int) (i : Nat) : pick N x i = true ↔ nm i = N ∧ low i ≤ x ∧ x ≤ high i := by
  unfold pick; rw [Bool.and_eq_true, Bool.and_eq_true, decide_eq_true_eq, decide_eq_true_eq, decide_eq_true_eq]
theorem pick_no {N : T} {x : Int} {i : Nat} (h : nm i ≠ N) : pick N x i = false := by
  rw [Bool.eq_false_iff]; intro e; exact h ((pick_iff N x i).1 e).1
theorem fnd_name {N : T} {x : Int} {k : Nat} (hk : k < 18) (hn : nm k = N) (h1 : low k ≤ x) (h2 : x ≤ high k) : fnd N x = some (k, x) :=
  fnd_some hk (fun i hi => pick_no (fun e => by have := nm_inj (by omega) hk (e.trans hn.symm); omega)) ((pick_iff N x k).2 ⟨hn, h1, h2⟩)
theorem fnd_out {N : T} {x : Int} {k : Nat} (hk : k < 18) (hn : nm k = N) (h : x < low k ∨ high k < x) : fnd N x = none :=
  fnd_none (fun i hi => by
    rw [Bool.eq_false_iff]
    intro e
    obtain ⟨e1, e2, e3⟩ := (pick_iff N x i).1 e
    have := nm_inj hi hk (e1.trans hn.symm)
    subst this
    omega)
theorem fnd_far {N : T} {x : Int} (h : ∀ i, i < 18 → nm i ≠ N) : fnd N x = none := fnd_none (fun i hi => pick_no (h i hi))
theorem fnd_spec {N : T} {x : Int} {k : Nat} {y : Int} (h : fnd N x = some (k, y)) : k < 18 ∧ y = x ∧ nm k = N ∧ low k ≤ x ∧ x ≤ high k := by
  unfold fnd at h
  cases hf : (List.range 18).find? (pick N x) with
  | none => rw [hf] at h; cases h
  | some i =>
    rw [hf] at h
    simp only [Option.map_some, Option.some.injEq, Prod.mk.injEq] at h
    obtain ⟨rfl, rfl⟩ := h
    have h1 := List.find?_some hf
    have h2 := List.mem_of_find?_eq_some hf
    exact ⟨List.mem_range.1 h2, rfl, (pick_iff N x i).1 h1⟩
theorem sd_spec {t : T} {k : Nat} {y : Int} (h : sd t = some (k, y)) : k < 18 ∧ low k ≤ y ∧ y ≤ high k := by
  unfold sd at h
  split at h
  · split at h
    · obtain ⟨h1, h2, h3, h4, h5⟩ := fnd_spec h
      subst h2
      exact ⟨h1, h4, h5⟩
    · cases h
  · cases h

/-- Does a line say nothing, being empty or a remark? -/
def dull (t : T) : Bool := match line t with
  | [] => true
  | c :: _ => decide (c = 35)
/-- What is known between two lines: the numbers, and which entries have been named. -/
abbrev S := (Nat → Int) × (Nat → Bool)
def place (x : Nat × T) : Nat := x.1 + (x.2.length - (trimL x.2).length)
def had (h : Nat → Bool) (i : Nat) : Nat → Bool := fun j => if j = i then true else h j
def step (s : S) (x : Nat × T) : Except Nat S :=
  if dull x.2 = true then .ok s else match sd (line x.2) with
    | none => .error (place x)
    | some (i, n) => if s.2 i = true then .error (place x) else .ok (sput s.1 i n, had s.2 i)
def run : S → List (Nat × T) → Except Nat S
  | s, [] => .ok s
  | s, x :: r => match step s x with
    | .error p => .error p
    | .ok s' => run s' r
theorem run_append (a b : List (Nat × T)) : ∀ s, run s (a ++ b) = match run s a with
    | .error p => .error p
    | .ok s' => run s' b := by
  induction a with
  | nil => intro s; rfl
  | cons x r ih =>
    intro s
    rw [List.cons_append, run, run]
    cases step s x with
    | error p => rfl
    | ok s' => exact ih s'
theorem run_snoc {a : List (Nat × T)} {x : Nat × T} {s s' : S} (h : run s a = .ok s') : run s (a ++ [x]) = step s' x := by
  rw [run_append, h]
  simp only [run]
  cases step s' x <;> rfl
theorem run_stop {a b : List (Nat × T)} {s : S} {p : Nat} (h : run s a = .error p) : run s (a ++ b) = .error p := by rw [run_append, h]
def s0 : S := (fv 18, fun _ => false)
theorem step_dull {s : S} {x : Nat × T} (h : dull x.2 = true) : step s x = .ok s := by unfold step; rw [if_pos h]
theorem step_none {s : S} {x : Nat × T} (h : dull x.2 = false) (h2 : sd (line x.2) = none) : step s x = .error (place x) := by unfold step; rw [if_neg (by rw [h]; simp), h2]
theorem step_twice {s : S} {x : Nat × T} {i : Nat} {n : Int} (h : dull x.2 = false) (h2 : sd (line x.2) = some (i, n)) (h3 : s.2 i = true) : step s x = .error (place x) := by
  unfold step; rw [if_neg (by rw [h]; simp), h2]; simp only [h3, if_true]
theorem step_set {s : S} {x : Nat × T} {i : Nat} {n : Int} (h : dull x.2 = false) (h2 : sd (line x.2) = some (i, n)) (h3 : s.2 i = false) : step s x = .ok (sput s.1 i n, had s.2 i) := by
  unfold step; rw [if_neg (by rw [h]; simp), h2]; simp only [h3]; rfl

/-- The style of a text, the place where it is none, and the error. -/
def psV (t : T) : Nat → Int := if 65536 < t.length then fv 0 else match run s0 (lns 0 t) with
  | .error _ => fv 0
  | .ok s => s.1
def psP (t : T) : Int := if 65536 < t.length then 0 else match run s0 (lns 0 t) with
  | .error p => (p : Int)
  | .ok _ => 0
def psE (t : T) : Int := if 65536 < t.length then 3 else match run s0 (lns 0 t) with
  | .error _ => 90
  | .ok _ => 0
theorem ps_long {t : T} (h : 65536 < t.length) : psV t = fv 0 ∧ psP t = 0 ∧ psE t = 3 := by
  unfold psV psP psE; rw [if_pos h, if_pos h, if_pos h]; exact ⟨rfl, rfl, rfl⟩
theorem ps_bad {t : T} {p : Nat} (h : ¬ 65536 < t.length) (h2 : run s0 (lns 0 t) = .error p) : psV t = fv 0 ∧ psP t = p ∧ psE t = 90 := by
  unfold psV psP psE; rw [if_neg h, if_neg h, if_neg h, h2]; exact ⟨rfl, rfl, rfl⟩
theorem ps_good {t : T} {s : S} (h : ¬ 65536 < t.length) (h2 : run s0 (lns 0 t) = .ok s) : psV t = s.1 ∧ psP t = 0 ∧ psE t = 0 := by
  unfold psV psP psE; rw [if_neg h, if_neg h, if_neg h, h2]; exact ⟨rfl, rfl, rfl⟩

theorem step_fl {s s' : S} {x : Nat × T} (h : step s x = .ok s') (hf : Fl s.1) : Fl s'.1 := by
  unfold step at h
  split at h
  · cases h; exact hf
  · cases hs : sd (line x.2) with
    | none => rw [hs] at h; cases h
    | some q =>
      obtain ⟨i, n⟩ := q
      rw [hs] at h
      simp only at h
      split at h
      · cases h
      · cases h
        obtain ⟨h1, h2, h3⟩ := sd_spec hs
        exact hf.put (fun hfl => by
          have := fl_high i h1 hfl
          omega)
theorem run_fl {l : List (Nat × T)} : ∀ {s s' : S}, run s l = .ok s' → Fl s.1 → Fl s'.1 := by
  induction l with
  | nil => intro s s' h hf; cases h; exact hf
  | cons x r ih =>
    intro s s' h hf
    rw [run] at h
    cases hs : step s x with
    | error p => rw [hs] at h; cases h
    | ok q => rw [hs] at h; exact ih h (step_fl hs hf)

end St
end Go.Proofs.YtliabgcpciekpaaDoor
