/- Trees, in plain Lean: what the laws ask. -/
import Derived.Test.YtliabgcpciekpaaDoorTrC
set_option linter.unusedVariables false
set_option linter.unusedSimpArgs false
namespace Go.Proofs.YtliabgcpciekpaaDoor
open Go Go.Maps
namespace Tr

/-! ### A style's file by its bytes -/
def dotB (x : T) : Bool := dot.isSuffixOf x && (decide (x.length = 5) || decide (x[x.length - 6]? = some 47))
theorem dotB_iff (x : T) : dotB x = true ↔ x = dot ∨ ∃ q, x = q ++ 47 :: dot := by
  unfold dotB
  rw [Bool.and_eq_true, List.isSuffixOf_iff_suffix, Bool.or_eq_true, decide_eq_true_eq, decide_eq_true_eq]
  have hd : dot.length = 5 := rfl
  constructor
  · rintro ⟨⟨q, rfl⟩, h⟩
    rcases List.eq_nil_or_concat q with rfl | ⟨r, b, rfl⟩
    · exact .inl rfl
    · right
      rw [List.concat_eq_append] at h ⊢
      rcases h with h | h
      · simp [hd] at h
      · refine ⟨r, ?_⟩
        have e1 : (r ++ [b] ++ dot).length - 6 = r.length := by simp [hd]
        rw [e1, List.append_assoc, List.getElem?_append_right (Nat.le_refl _)] at h
        simp at h
        rw [h]; simp
  · rintro (rfl | ⟨q, rfl⟩)
    · exact ⟨List.suffix_refl _, .inl rfl⟩
    · refine ⟨⟨q ++ [47], by simp⟩, .inr ?_⟩
      have e1 : (q ++ 47 :: dot).length - 6 = q.length := by simp [hd]
      rw [e1, List.getElem?_append_right (Nat.le_refl _)]
      simp
theorem at_form {l : List T} (h : Good l) (i : Nat) : at_ l i = dot ∧ l.take i = [] ∨ l.take i ≠ [] ∧ at_ l i = jn (l.take i) ++ 47 :: dot := by
  unfold at_
  by_cases e : l.take i = []
  · rw [e]; exact .inl ⟨rfl, rfl⟩
  · exact .inr ⟨e, jn_snoc e dot⟩
theorem at_dotB {l : List T} (h : Good l) (i : Nat) : dotB (at_ l i) = true := by
  rw [dotB_iff]
  rcases at_form h i with ⟨e, _⟩ | ⟨_, e⟩
  · exact .inl e
  · exact .inr ⟨_, e⟩
theorem jn_take_len {l : List T} (h : Good l) {i j : Nat} (hij : i < j) (hj : j ≤ l.length) : (at_ l i).length < (at_ l j).length := by
  have hs : l.take j = l.take i ++ (l.drop i).take (j - i) := by
    rw [← List.take_add]; congr 1; omega
  have hm : (l.drop i).take (j - i) ≠ [] := by
    intro e; have := congrArg List.length e; simp at this; omega
  rcases at_form h i with ⟨e, e0⟩ | ⟨e0, e⟩
  · rcases at_form h j with ⟨f, f0⟩ | ⟨f0, f⟩
    · rw [hs, e0, List.nil_append] at f0; exact absurd f0 hm
    · rw [e, f]; simp [dot]
  · rcases at_form h j with ⟨f, f0⟩ | ⟨f0, f⟩
    · rw [hs] at f0; exact absurd (List.append_eq_nil_iff.1 f0).2 hm
    · rw [e, f, hs, jn_app e0 hm]; simp; omega

def cand (p x : T) : Bool := dotB x && (x.take (x.length - 5)).isPrefixOf p
theorem cand_iff {p x : T} (hp : isPath p = true) : cand p x = true ↔ ∃ i, i < (spl 47 p).length ∧ x = at_ (spl 47 p) i := by
  have hg := isPath_good hp
  unfold cand
  rw [Bool.and_eq_true, dotB_iff, List.isPrefixOf_iff_prefix]
  constructor
  · rintro ⟨(rfl | ⟨q, rfl⟩), h⟩
    · exact ⟨0, List.length_pos_iff.2 (spl_ne 47 p), by simp [at_, jn]⟩
    · have e1 : (q ++ 47 :: dot).take ((q ++ 47 :: dot).length - 5) = q ++ [47] := by
        rw [show (q ++ 47 :: dot).length - 5 = (q ++ [47]).length by simp [dot], show q ++ 47 :: dot = (q ++ [47]) ++ dot by simp, List.take_left' rfl]
      rw [e1] at h
      obtain ⟨r, rfl⟩ := h
      rw [List.append_assoc, List.singleton_append, spl_cat] at *
      refine ⟨(spl 47 q).length, by have := List.length_pos_iff.2 (spl_ne 47 r); simp; omega, ?_⟩
      unfold at_
      rw [List.take_left' rfl, jn_snoc (spl_ne 47 q), jn_spl]
  · rintro ⟨i, hi, rfl⟩
    have hd := at_dotB hg i
    rw [dotB_iff] at hd
    refine ⟨hd, ?_⟩
    rcases at_form hg i with ⟨e, _⟩ | ⟨e0, e⟩
    · rw [e]; exact ⟨p, rfl⟩
    · rw [e]
      have e1 : (jn ((spl 47 p).take i) ++ 47 :: dot).take ((jn ((spl 47 p).take i) ++ 47 :: dot).length - 5) = jn ((spl 47 p).take i) ++ [47] := by
        rw [show (jn ((spl 47 p).take i) ++ 47 :: dot).length - 5 = (jn ((spl 47 p).take i) ++ [47]).length by simp [dot], show jn ((spl 47 p).take i) ++ 47 :: dot = (jn ((spl 47 p).take i) ++ [47]) ++ dot by simp, List.take_left' rfl]
      rw [e1]
      have h3 := congrArg jn (List.take_append_drop i (spl 47 p))
      rw [jn_app e0 (by intro e2; have := congrArg List.length e2; simp at this; omega), jn_spl] at h3
      exact ⟨jn ((spl 47 p).drop i), by rw [List.append_assoc]; exact h3⟩

def bstS (p : T) (s : T × Bool) (x : T) : T × Bool := if (cand p x && (!s.2 || decide (s.1.length < x.length))) = true then (x, true) else s
def bst (p : T) (l : List T) : T × Bool := l.foldl (bstS p) ([], false)
theorem bst_snoc (p : T) (l : List T) (x : T) : bst p (l ++ [x]) = bstS p (bst p l) x := by unfold bst; rw [List.foldl_append]; rfl
theorem bst_inv (p : T) (l : List T) : ((bst p l).2 = false ∧ (bst p l).1 = [] ∧ ∀ x ∈ l, cand p x = false) ∨ ((bst p l).2 = true ∧ (bst p l).1 ∈ l ∧ cand p (bst p l).1 = true ∧ ∀ x ∈ l, cand p x = true → x.length ≤ (bst p l).1.length) := by
  induction l using rev_ind with
  | h0 => exact .inl ⟨rfl, rfl, by simp⟩
  | h1 l x ih =>
    rw [bst_snoc]
    unfold bstS
    cases hc : cand p x
    · simp only [Bool.false_and, Bool.false_eq_true, if_false]
      rcases ih with ⟨h1, h2, h3⟩ | ⟨h1, h2, h3, h4⟩
      · refine .inl ⟨h1, h2, fun y hy => ?_⟩
        rcases List.mem_append.1 hy with hy | hy
        · exact h3 y hy
        · rw [List.mem_singleton.1 hy]; exact hc
      · refine .inr ⟨h1, List.mem_append_left _ h2, h3, fun y hy hcy => ?_⟩
        rcases List.mem_append.1 hy with hy | hy
        · exact h4 y hy hcy
        · rw [List.mem_singleton.1 hy, hc] at hcy; cases hcy
    · rcases ih with ⟨h1, h2, h3⟩ | ⟨h1, h2, h3, h4⟩
      · rw [h1]
        simp only [Bool.not_false, Bool.true_or, Bool.and_self, if_true]
        refine .inr ⟨by trivial, by simp, hc, fun y hy hcy => ?_⟩
        rcases List.mem_append.1 hy with hy | hy
        · rw [h3 y hy] at hcy; cases hcy
        · rw [List.mem_singleton.1 hy]; exact Nat.le_refl _
      · rw [h1]
        simp only [Bool.not_true, Bool.false_or, Bool.true_and, decide_eq_true_eq]
        split
        · next hlt =>
          refine .inr ⟨rfl, by simp, hc, fun y hy hcy => ?_⟩
          rcases List.mem_append.1 hy with hy | hy
          · exact Nat.le_trans (h4 y hy hcy) (Nat.le_of_lt hlt)
          · rw [List.mem_singleton.1 hy]; exact Nat.le_refl _
        · next hlt =>
          refine .inr ⟨h1, List.mem_append_left _ h2, h3, fun y hy hcy => ?_⟩
          rcases List.mem_append.1 hy with hy | hy
          · exact h4 y hy hcy
          · rw [List.mem_singleton.1 hy]; omega
theorem bst_near {ms : List T} {p : T} (hp : isPath p = true) : bst p (und ms fun _ => true) = (near ms p, has ms p) := by
  have hg := isPath_good hp
  have hmem : ∀ i, i < (spl 47 p).length → (at_ (spl 47 p) i ∈ ms ↔ at_ (spl 47 p) i ∈ und ms fun _ => true) := by
    intro i hi
    rw [und_mem, known_iff]
    exact ⟨fun h => ⟨⟨h, at_path hp hi⟩, rfl⟩, fun h => h.1.1⟩
  rcases bst_inv p (und ms fun _ => true) with ⟨h1, h2, h3⟩ | ⟨h1, h2, h3, h4⟩
  · have hn : nr ms p = none := nr_none.2 fun j hj hm => by
      have := h3 _ ((hmem j hj).1 hm)
      rw [(cand_iff hp).2 ⟨j, hj, rfl⟩] at this; cases this
    obtain ⟨_, e1, e2⟩ := nrI_none hn
    rw [e1, e2]; exact Prod.ext h2 h1
  · obtain ⟨j, hj, ej⟩ := (cand_iff hp).1 h3
    have hjm : at_ (spl 47 p) j ∈ ms := (hmem j hj).2 (ej ▸ h2)
    have hn : nr ms p = some j := nr_some.2 ⟨hj, hjm, fun k hk hkl hm => by
      have := h4 _ ((hmem k hkl).1 hm) ((cand_iff hp).2 ⟨k, hkl, rfl⟩)
      rw [ej] at this
      have := jn_take_len hg hk (Nat.le_of_lt hkl)
      omega⟩
    have e1 : near ms p = at_ (spl 47 p) j := by unfold near; rw [hn]
    have e2 : has ms p = true := by unfold has; rw [hn]; rfl
    rw [e1, e2, ← ej]
    exact Prod.ext rfl h1

/-! ### A file more -/
theorem nr_more {ms : List T} {p m : T} (hp : isPath p = true) (hm : dotB m = false) : nr (m :: ms) p = nr ms p := by
  have hg := isPath_good hp
  have hne : ∀ i, at_ (spl 47 p) i ≠ m := fun i e => by rw [← e, at_dotB hg] at hm; cases hm
  rcases h : nr ms p with _ | i
  · rw [nr_none] at h ⊢
    intro j hj hmm
    rcases List.mem_cons.1 hmm with e | e
    · exact hne j e
    · exact h j hj e
  · rw [nr_some] at h ⊢
    refine ⟨h.1, List.mem_cons_of_mem _ h.2.1, fun j h1 h2 hmm => ?_⟩
    rcases List.mem_cons.1 hmm with e | e
    · exact hne j e
    · exact h.2.2 j h1 h2 e
theorem near_more {ms : List T} {p m : T} (hp : isPath p = true) (hm : dotB m = false) : near (m :: ms) p = near ms p ∧ has (m :: ms) p = has ms p := by
  unfold near has; rw [nr_more hp hm]; exact ⟨rfl, rfl⟩
/-- A path's own style's file. -/
def own (p : T) : T := at_ (spl 47 p) ((spl 47 p).length - 1)
theorem own_no {p : T} (h : 47 ∉ p) : own p = dot := by unfold own; rw [spl_no h]; rfl
theorem own_at {p : T} {i : Nat} (h : p[i]? = some 47) (h2 : 47 ∉ p.drop (i + 1)) : own p = p.take (i + 1) ++ dot := by
  have hi : i < p.length := (List.getElem?_eq_some_iff.1 h).1
  have e : p = p.take i ++ 47 :: p.drop (i + 1) := by
    have h3 := List.drop_eq_getElem_cons hi
    rw [(List.getElem?_eq_some_iff.1 h).2] at h3
    rw [← h3, List.take_append_drop]
  have e2 : spl 47 p = spl 47 (p.take i) ++ [p.drop (i + 1)] := by
    have := spl_cat 47 (p.take i) (p.drop (i + 1))
    rw [← e] at this
    rw [this, spl_no h2]
  unfold own
  rw [e2]
  unfold at_
  rw [List.take_left' (by simp), jn_snoc (spl_ne _ _), jn_spl, List.take_add_one, h]
  simp
theorem own_near {ms : List T} {p : T} : nr (own p :: ms) p = some ((spl 47 p).length - 1) := by
  have := List.length_pos_iff.2 (spl_ne 47 p)
  rw [nr_some]
  exact ⟨by omega, List.mem_cons_self, fun j h1 h2 => by omega⟩
theorem near_own {ms : List T} {p : T} : near (own p :: ms) p = own p ∧ has (own p :: ms) p = true ∧ nrI (own p :: ms) p = 0 := by
  unfold near has nrI
  rw [own_near]
  refine ⟨rfl, rfl, ?_⟩
  show (((own p :: ms).idxOf (own p) : Nat) : Int) = 0
  simp

/-! ### The files in a folder, each once, rising -/
theorem und_at_lt {ms : List T} {q : T → Bool} {i : Nat} {x y : T} (h1 : (und ms q)[i]? = some x) (h2 : (und ms q)[i + 1]? = some y) : x < y := by
  have h := und_sorted ms q
  obtain ⟨a1, a2⟩ := List.getElem?_eq_some_iff.1 h1
  obtain ⟨b1, b2⟩ := List.getElem?_eq_some_iff.1 h2
  have := List.pairwise_iff_getElem.1 h i (i + 1) a1 b1 (by omega)
  rwa [a2, b2] at this
theorem filter_step {α : Type} {q : α → Bool} {l : List α} {i : Nat} {x : α} (h : l[i]? = some x) : (l.take (i + 1)).filter q = (l.take i).filter q ++ if q x = true then [x] else [] := by
  rw [List.take_add_one, h, List.filter_append]
  congr 1
  cases hq : q x <;> simp [hq]
theorem filter_at {α : Type} {q : α → Bool} {l : List α} {i : Nat} {x : α} (h : l[i]? = some x) (hq : q x = true) : (l.filter q)[((l.take i).filter q).length]? = some x := by
  have e : l = l.take (i + 1) ++ l.drop (i + 1) := (List.take_append_drop _ _).symm
  have e2 : l.filter q = (l.take i).filter q ++ (x :: (l.drop (i + 1)).filter q) := by
    conv => lhs; rw [e]
    rw [List.filter_append, filter_step h, hq, if_pos rfl, List.append_assoc]
    rfl
  rw [e2, List.getElem?_append_right (Nat.le_refl _)]
  simp

end Tr
end Go.Proofs.YtliabgcpciekpaaDoor
