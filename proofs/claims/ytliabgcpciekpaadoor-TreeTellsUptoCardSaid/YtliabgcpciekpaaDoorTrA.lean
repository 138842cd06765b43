/- Trees, in plain Lean: a path's names, its folders, the nearest style's file. -/
import Derived.Test.YtliabgcpciekpaaDoorYrE
set_option linter.unusedVariables false
set_option linter.unusedSimpArgs false
namespace Go.Proofs.YtliabgcpciekpaaDoor
namespace Tr
open Go
abbrev T := List UInt8

/-- The pieces of a text between the bytes c. -/
def spl (c : UInt8) : T → List T
  | [] => [[]]
  | x :: r => if x = c then [] :: spl c r else match spl c r with
    | [] => [[x]]
    | p :: q => (x :: p) :: q
theorem spl_ne (c : UInt8) (t : T) : spl c t ≠ [] := by
  cases t with
  | nil => simp [spl]
  | cons x r =>
    simp only [spl]
    split
    · simp
    · split <;> simp
theorem spl_no {c : UInt8} {t : T} (h : c ∉ t) : spl c t = [t] := by
  induction t with
  | nil => rfl
  | cons x r ih =>
    simp only [List.mem_cons, not_or] at h
    simp only [spl]
    rw [if_neg (fun e => h.1 e.symm), ih h.2]
theorem spl_at {c : UInt8} : ∀ {t : T} {j : Nat}, j < t.length → c ∉ t.take j → t[j]? = some c → spl c t = t.take j :: spl c (t.drop (j + 1)) := by
  intro t
  induction t with
  | nil => intro j h; simp at h
  | cons x r ih =>
    intro j h1 h2 h3
    cases j with
    | zero => simp at h3; subst h3; simp [spl]
    | succ j =>
      simp only [List.take_succ_cons, List.mem_cons, not_or] at h2
      simp only [List.length_cons] at h1
      simp only [List.getElem?_cons_succ] at h3
      have := ih (j := j) (by omega) h2.2 h3
      simp only [spl]
      rw [if_neg (fun e => h2.1 e.symm), this]
      simp
theorem spl_none {c : UInt8} {t : T} (h : Lib.indexByte t c = -1) : spl c t = [t] := spl_no (St.idx_none h)
theorem spl_some {c : UInt8} {t : T} {j : Nat} (h : Lib.indexByte t c = j) : spl c t = t.take j :: spl c (t.drop (j + 1)) := by
  obtain ⟨a, b, d⟩ := St.idx_some h
  exact spl_at a b d
theorem spl_length (c : UInt8) (t : T) : (spl c t).length ≤ t.length + 1 := by
  induction t with
  | nil => simp [spl]
  | cons x r ih =>
    simp only [spl]
    split
    · simp; omega
    · split
      · simp
      · next p q h => rw [h] at ih; simp at ih ⊢; omega
theorem spl_mem {c : UInt8} {t : T} : ∀ {x : T}, x ∈ spl c t → x.length ≤ t.length := by
  induction t with
  | nil => intro x h; simp [spl] at h; subst h; simp
  | cons y r ih =>
    intro x h
    simp only [spl] at h
    split at h
    · rcases List.mem_cons.1 h with rfl | h
      · simp
      · have := ih h; simp; omega
    · split at h
      · simp at h; subst h; simp
      · next p q hs =>
        rcases List.mem_cons.1 h with rfl | h
        · have := ih (x := p) (by rw [hs]; simp); simp; omega
        · have := ih (x := x) (by rw [hs]; simp [h]); simp; omega

theorem spl_app {a : T} {c : UInt8} (h : c ∉ a) (r : T) : spl c (a ++ c :: r) = a :: spl c r := by
  have := spl_at (t := a ++ c :: r) (j := a.length) (by simp) (by rw [List.take_left' rfl]; exact h) (by simp)
  rw [this, List.take_left' rfl, ← List.drop_drop, List.drop_left' rfl]
  rfl
theorem spl_free (c : UInt8) (t : T) : ∀ x ∈ spl c t, c ∉ x := by
  induction t with
  | nil => intro x h; simp [spl] at h; subst h; simp
  | cons y r ih =>
    intro x h
    simp only [spl] at h
    split at h
    · rcases List.mem_cons.1 h with rfl | h
      · simp
      · exact ih x h
    · next hy =>
      split at h
      · simp at h; subst h; simp; exact fun e => hy e.symm
      · next p q hs =>
        rcases List.mem_cons.1 h with rfl | h
        · have := ih p (by rw [hs]; simp)
          simp only [List.mem_cons, not_or]
          exact ⟨fun e => hy e.symm, this⟩
        · exact ih x (by rw [hs]; simp [h])

/-! ### Names, joined -/
def jn : List T → T
  | [] => []
  | [a] => a
  | a :: b :: r => a ++ 47 :: jn (b :: r)
theorem jn_cons (a : T) {r : List T} (h : r ≠ []) : jn (a :: r) = a ++ 47 :: jn r := by
  cases r with
  | nil => exact absurd rfl h
  | cons b r => rfl
theorem jn_snoc {l : List T} (h : l ≠ []) (b : T) : jn (l ++ [b]) = jn l ++ 47 :: b := by
  induction l with
  | nil => exact absurd rfl h
  | cons a r ih =>
    cases r with
    | nil => rfl
    | cons c r =>
      rw [List.cons_append, jn_cons a (by simp), ih (by simp), jn_cons a (by simp), List.append_assoc]
      rfl
theorem jn_spl (t : T) : jn (spl 47 t) = t := by
  induction t with
  | nil => rfl
  | cons x r ih =>
    simp only [spl]
    split
    · next hx =>
      subst hx
      rw [jn_cons _ (spl_ne 47 r), ih]
      rfl
    · split
      · next h => exact absurd h (spl_ne 47 r)
      · next p q h =>
        rw [h] at ih
        cases q with
        | nil => rw [← ih]; rfl
        | cons b q => rw [← ih]; rfl
theorem spl_jn : ∀ {l : List T}, l ≠ [] → (∀ x ∈ l, 47 ∉ x) → spl 47 (jn l) = l := by
  intro l
  induction l with
  | nil => intro h; exact absurd rfl h
  | cons a r ih =>
    intro _ h
    cases r with
    | nil => exact spl_no (h a (by simp))
    | cons b r =>
      rw [jn_cons a (by simp), spl_app (h a (by simp)), ih (by simp) (fun x hx => h x (by simp [hx]))]

/-! ### A path's folder -/
def fol : T → T
  | [] => []
  | x :: r => if 47 ∈ r then x :: fol r else []
theorem fol_no {t : T} (h : 47 ∉ t) : fol t = [] := by
  cases t with
  | nil => rfl
  | cons x r => rw [fol, if_neg (fun e => h (by simp [e]))]
theorem fol_app {b : T} (h : 47 ∉ b) (a : T) : fol (a ++ 47 :: b) = a := by
  induction a with
  | nil => rw [List.nil_append, fol, if_neg h]
  | cons x a ih => rw [List.cons_append, fol, if_pos (by simp), ih]
theorem fol_lt {t : T} (h : t ≠ []) : (fol t).length < t.length := by
  induction t with
  | nil => exact absurd rfl h
  | cons x r ih =>
    rw [fol]
    split
    · next hr =>
      have := ih (by rintro rfl; simp at hr)
      simp only [List.length_cons]; omega
    · simp
theorem fol_at {t : T} {i : Nat} (h : t[i]? = some 47) (h2 : 47 ∉ t.drop (i + 1)) : fol t = t.take i := by
  have hi : i < t.length := (List.getElem?_eq_some_iff.1 h).1
  have e : t = t.take i ++ 47 :: t.drop (i + 1) := by
    have h3 := List.drop_eq_getElem_cons hi
    rw [(List.getElem?_eq_some_iff.1 h).2] at h3
    rw [← h3, List.take_append_drop]
  have := fol_app h2 (t.take i)
  rw [← e] at this
  exact this
theorem fol_len (t : T) : (fol t).length ≤ t.length := by
  by_cases h : t = []
  · subst h; exact Nat.le_refl _
  · exact Nat.le_of_lt (fol_lt h)
/-- A path's folders, from its own one up to the root. -/
def fols (t : T) : List T := if h : t = [] then [] else fol t :: fols (fol t)
termination_by t.length
decreasing_by exact fol_lt h
theorem fols_nil : fols [] = [] := by rw [fols, dif_pos rfl]
theorem fols_cons {t : T} (h : t ≠ []) : fols t = fol t :: fols (fol t) := by rw [fols, dif_neg h]
theorem fols_len : ∀ (n : Nat) (t : T), t.length ≤ n → (fols t).length ≤ n := by
  intro n
  induction n with
  | zero => intro t h; rw [List.eq_nil_of_length_eq_zero (Nat.le_zero.1 h), fols_nil]; simp
  | succ n ih =>
    intro t h
    by_cases ht : t = []
    · subst ht; rw [fols_nil]; simp
    · rw [fols_cons ht, List.length_cons]
      have := ih (fol t) (by have := fol_lt ht; omega)
      omega
/-- Names that may stand in a path: not empty, without a slash. -/
def Good (l : List T) : Prop := ∀ x ∈ l, x ≠ [] ∧ 47 ∉ x
theorem jn_ne {l : List T} (h : Good l) (hl : l ≠ []) : jn l ≠ [] := by
  cases l with
  | nil => exact absurd rfl hl
  | cons a r =>
    have := (h a (by simp)).1
    cases r with
    | nil => exact this
    | cons b r => rw [jn_cons a (by simp)]; simp
theorem fol_jn {l : List T} {b : T} (hb : 47 ∉ b) : fol (jn (l ++ [b])) = jn l := by
  by_cases h : l = []
  · subst h; exact fol_no hb
  · rw [jn_snoc h, fol_app hb]
theorem fols_jn : ∀ (n : Nat) (l : List T), l.length = n → Good l → fols (jn l) = (List.range n).reverse.map fun i => jn (l.take i) := by
  intro n
  induction n with
  | zero => intro l h _; rw [List.eq_nil_of_length_eq_zero h]; exact fols_nil
  | succ n ih =>
    intro l h hg
    rcases List.eq_nil_or_concat l with rfl | ⟨r, b, rfl⟩
    · simp at h
    · rw [List.concat_eq_append] at *
      have hr : r.length = n := by simpa using h
      rw [fols_cons (jn_ne hg (by simp)), fol_jn (hg b (by simp)).2, ih r hr (fun x hx => hg x (by simp [hx])), List.range_succ, List.reverse_append]
      simp only [List.reverse_cons, List.reverse_nil, List.nil_append, List.singleton_append, List.map_cons]
      congr 1
      · rw [← hr, List.take_left' rfl]
      · apply List.map_congr_left
        intro i hi
        have hi : i < n := by simpa using hi
        rw [List.take_append_of_le_length (by omega)]

/-! ### Paths -/
def okc (c : UInt8) : Bool := decide (33 ≤ c.toNat) && (decide (c.toNat ≤ 126) && decide (c ≠ 47))
def isName (s : T) : Bool := decide (s ≠ []) && (decide (s.length ≤ 32) && (decide (s ≠ [46]) && (decide (s ≠ [46, 46]) && s.all okc)))
def isPath (s : T) : Bool := decide ((spl 47 s).length ≤ 20) && (spl 47 s).all isName
theorem isName_good {x : T} (h : isName x = true) : x ≠ [] ∧ 47 ∉ x := by
  unfold isName at h
  simp only [Bool.and_eq_true, decide_eq_true_eq] at h
  refine ⟨h.1, fun hc => ?_⟩
  have := List.all_eq_true.1 h.2.2.2.2 47 hc
  simp [okc] at this
theorem isPath_iff (s : T) : isPath s = true ↔ (spl 47 s).length ≤ 20 ∧ ∀ x ∈ spl 47 s, isName x = true := by
  unfold isPath; rw [Bool.and_eq_true, decide_eq_true_eq, List.all_eq_true]
theorem isPath_good {s : T} (h : isPath s = true) : Good (spl 47 s) := fun x hx => isName_good (((isPath_iff s).1 h).2 x hx)
theorem isPath_ne {s : T} (h : isPath s = true) : s ≠ [] := by
  rintro rfl
  revert h; decide
def dot : T := [46, 99, 102, 109, 116]
theorem dot_name : isName dot = true := by decide
theorem dot_free : 47 ∉ dot := by decide
/-- The path of a name in a folder. -/
def ins (f n : T) : T := if f = [] then n else f ++ 47 :: n
def isSt (p : T) : Bool := decide (ins (fol p) dot = p)
/-- The style's file in the folder of the first i names. -/
def at_ (ns : List T) (i : Nat) : T := jn (ns.take i ++ [dot])
theorem ins_jn {l : List T} (h : Good l) (n : T) : ins (jn l) n = jn (l ++ [n]) := by
  unfold ins
  by_cases hl : l = []
  · subst hl; rfl
  · rw [if_neg (jn_ne h hl), jn_snoc hl]
theorem Good.take {l : List T} (h : Good l) (i : Nat) : Good (l.take i) := fun x hx => h x (List.mem_of_mem_take hx)
theorem ins_at {l : List T} (h : Good l) (i : Nat) : ins (jn (l.take i)) dot = at_ l i := ins_jn (h.take i) dot
theorem spl_at_ {l : List T} (h : Good l) (i : Nat) : spl 47 (at_ l i) = l.take i ++ [dot] := spl_jn (by simp) (fun x hx => by
  rcases List.mem_append.1 hx with hx | hx
  · exact (h.take i x hx).2
  · rw [List.mem_singleton.1 hx]; exact dot_free)
theorem at_path {p : T} (h : isPath p = true) {i : Nat} (hi : i < (spl 47 p).length) : isPath (at_ (spl 47 p) i) = true := by
  rw [isPath_iff, spl_at_ (isPath_good h)]
  have h1 := (isPath_iff p).1 h
  refine ⟨by simp; omega, fun x hx => ?_⟩
  rcases List.mem_append.1 hx with hx | hx
  · exact h1.2 x (List.mem_of_mem_take hx)
  · rw [List.mem_singleton.1 hx]; exact dot_name
theorem at_inj {l : List T} (h : Good l) {i j : Nat} (hi : i ≤ l.length) (hj : j ≤ l.length) (e : at_ l i = at_ l j) : i = j := by
  have := congrArg (spl 47) e
  rw [spl_at_ h, spl_at_ h] at this
  have := congrArg List.length this
  simp at this
  omega
theorem fols_path {p : T} (h : isPath p = true) : fols p = (List.range (spl 47 p).length).reverse.map fun i => jn ((spl 47 p).take i) := by
  have := fols_jn _ (spl 47 p) rfl (isPath_good h)
  rwa [jn_spl] at this

/-! ### The nearest style's file -/
/-- How many names the folder of a path's style's file has, if there is one. -/
def nr (ms : List T) (p : T) : Option Nat := (List.range (spl 47 p).length).reverse.find? fun i => decide (at_ (spl 47 p) i ∈ ms)
def known (ms : List T) (x : T) : Bool := decide (x ∈ ms) && isPath x
theorem find_rev {n : Nat} {q : Nat → Bool} {i : Nat} : (List.range n).reverse.find? q = some i ↔ i < n ∧ q i = true ∧ ∀ j, i < j → j < n → q j = false := by
  induction n with
  | zero => simp
  | succ n ih =>
    rw [List.range_succ, List.reverse_append, List.reverse_singleton, List.singleton_append, List.find?_cons]
    cases hq : q n
    · simp only
      rw [ih]
      constructor
      · rintro ⟨h1, h2, h3⟩
        refine ⟨by omega, h2, fun j h4 h5 => ?_⟩
        by_cases e : j = n
        · subst e; exact hq
        · exact h3 j h4 (by omega)
      · rintro ⟨h1, h2, h3⟩
        have : i ≠ n := by rintro rfl; rw [hq] at h2; cases h2
        exact ⟨by omega, h2, fun j h4 h5 => h3 j h4 (by omega)⟩
    · simp only [Option.some.injEq]
      constructor
      · rintro rfl; exact ⟨by omega, hq, fun j h4 h5 => by omega⟩
      · rintro ⟨h1, h2, h3⟩
        by_cases e : i = n
        · exact e.symm
        · have := h3 n (by omega) (by omega); rw [hq] at this; cases this
theorem find_rev_none {n : Nat} {q : Nat → Bool} : (List.range n).reverse.find? q = none ↔ ∀ j, j < n → q j = false := by
  rw [List.find?_eq_none]
  constructor
  · intro h j hj; simpa using h j (by simpa using hj)
  · intro h j hj; rw [h j (by simpa using hj)]; simp
theorem nr_some {ms : List T} {p : T} {i : Nat} : nr ms p = some i ↔ i < (spl 47 p).length ∧ at_ (spl 47 p) i ∈ ms ∧ ∀ j, i < j → j < (spl 47 p).length → at_ (spl 47 p) j ∉ ms := by
  unfold nr
  rw [find_rev]
  simp only [decide_eq_true_eq, decide_eq_false_iff_not]
theorem nr_none {ms : List T} {p : T} : nr ms p = none ↔ ∀ j, j < (spl 47 p).length → at_ (spl 47 p) j ∉ ms := by
  unfold nr
  rw [find_rev_none]
  simp only [decide_eq_false_iff_not]
/-- What the program's search through the folders comes to. -/
theorem nr_fols {ms : List T} {p : T} (h : isPath p = true) : (fols p).find? (fun f => known ms (ins f dot)) = (nr ms p).map fun i => jn ((spl 47 p).take i) := by
  rw [fols_path h, List.find?_map]
  unfold nr
  congr 1
  have hg := isPath_good h
  suffices hs : ∀ n, n ≤ (spl 47 p).length → (List.range n).reverse.find? ((fun f => known ms (ins f dot)) ∘ fun i => jn ((spl 47 p).take i)) = (List.range n).reverse.find? fun i => decide (at_ (spl 47 p) i ∈ ms) from hs _ (Nat.le_refl _)
  intro n
  induction n with
  | zero => intro _; rfl
  | succ n ih =>
    intro hn
    rw [List.range_succ, List.reverse_append, List.reverse_singleton, List.singleton_append, List.find?_cons, List.find?_cons, ih (by omega)]
    have : ((fun f => known ms (ins f dot)) ∘ fun i => jn ((spl 47 p).take i)) n = decide (at_ (spl 47 p) n ∈ ms) := by
      simp only [Function.comp, known, ins_at hg, at_path h (by omega : n < _), Bool.and_true]
    rw [this]
/-- The name of the nearest style's file. -/
def near (ms : List T) (p : T) : T := match nr ms p with
  | none => []
  | some i => at_ (spl 47 p) i
def has (ms : List T) (p : T) : Bool := (nr ms p).isSome

end Tr
end Go.Proofs.YtliabgcpciekpaaDoor
