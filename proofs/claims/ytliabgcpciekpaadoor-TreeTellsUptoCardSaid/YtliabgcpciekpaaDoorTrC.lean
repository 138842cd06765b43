/- Trees, in plain Lean: what a list of files comes to. -/
import Derived.Test.YtliabgcpciekpaaDoorTrA
import Derived.Sort.KeysCollected
import Derived.Maps.OwnSet
import Derived.Maps.Views
import Derived.StringKeys
set_option linter.unusedVariables false
set_option linter.unusedSimpArgs false
namespace Go.Proofs.YtliabgcpciekpaaDoor
open Go Go.Maps
namespace Tr

/-! ### The order of texts -/
theorem bytesLess_eq : ∀ (x y : List UInt8), Op.bytesLess x y = decide (x < y)
  | [], [] => by simp [Op.bytesLess]
  | _ :: _, [] => by simp [Op.bytesLess]
  | [], _ :: _ => by simp [Op.bytesLess]
  | a :: x, b :: y => by
    rw [Op.bytesLess, bytesLess_eq x y]
    simp only [List.cons_lt_cons_iff]
    by_cases h1 : a < b <;> by_cases h2 : a = b <;> by_cases h3 : x < y <;> simp [h1, h2, h3]
theorem lt_irr (a : T) : ¬ a < a := List.lt_irrefl a
theorem lt_tr {a b c : T} (h : a < b) (g : b < c) : a < c := List.lt_trans h g
theorem lt_tri {a b : T} (h : ¬ a < b) (g : a ≠ b) : b < a := by
  by_cases e : b < a
  · exact e
  · exact absurd (List.le_antisymm (List.not_lt.1 e) (List.not_lt.1 h)) g
theorem lt_of_le {a b : T} (h : a ≤ b) (g : a ≠ b) : a < b := lt_tri (fun e => g (List.le_antisymm h (List.not_lt.1 fun e2 => lt_irr _ (lt_tr e e2)))) (fun e => g e.symm)

/-- A text in its place, once. -/
def add : List T → T → List T
  | [], x => [x]
  | y :: r, x => if y < x then y :: add r x else if y = x then y :: r else x :: y :: r
theorem add_mem {l : List T} {x z : T} : z ∈ add l x ↔ z = x ∨ z ∈ l := by
  induction l with
  | nil => simp [add]
  | cons y r ih =>
    rw [add]
    split
    · rw [List.mem_cons, ih, List.mem_cons]
      constructor
      · rintro (h | h | h)
        · exact .inr (.inl h)
        · exact .inl h
        · exact .inr (.inr h)
      · rintro (h | h | h)
        · exact .inr (.inl h)
        · exact .inl h
        · exact .inr (.inr h)
    · split
      · next e =>
        subst e
        constructor
        · exact fun h => .inr h
        · rintro (h | h)
          · rw [h]; simp
          · exact h
      · rw [List.mem_cons]
theorem add_sorted {l : List T} {x : T} (h : l.Pairwise (· < ·)) : (add l x).Pairwise (· < ·) := by
  induction l with
  | nil => simp [add]
  | cons y r ih =>
    rw [List.pairwise_cons] at h
    rw [add]
    split
    · next hy =>
      rw [List.pairwise_cons]
      refine ⟨fun z hz => ?_, ih h.2⟩
      rcases add_mem.1 hz with rfl | hz
      · exact hy
      · exact h.1 z hz
    · next hy =>
      split
      · exact List.pairwise_cons.2 h
      · next hn =>
        have hx : x < y := lt_tri hy hn
        rw [List.pairwise_cons]
        refine ⟨fun z hz => ?_, List.pairwise_cons.2 h⟩
        rcases List.mem_cons.1 hz with rfl | hz
        · exact hx
        · exact lt_tr hx (h.1 z hz)
theorem sorted_ext : ∀ {l m : List T}, l.Pairwise (· < ·) → m.Pairwise (· < ·) → (∀ z, z ∈ l ↔ z ∈ m) → l = m := by
  intro l
  induction l with
  | nil => intro m _ _ h; exact (List.eq_nil_iff_forall_not_mem.2 fun z hz => by have := (h z).2 hz; simp at this).symm
  | cons a r ih =>
    intro m hl hm h
    cases m with
    | nil => have := (h a).1 (by simp); simp at this
    | cons b s =>
      rw [List.pairwise_cons] at hl hm
      have hab : a = b := by
        rcases List.mem_cons.1 ((h a).1 (by simp)) with e | e
        · exact e
        · rcases List.mem_cons.1 ((h b).2 (by simp)) with e2 | e2
          · exact e2.symm
          · exact absurd (lt_tr (hl.1 b e2) (hm.1 a e)) (lt_irr a)
      subst hab
      rw [ih hl.2 hm.2 fun z => ?_]
      have := h z
      simp only [List.mem_cons] at this
      constructor
      · intro hz
        rcases this.1 (.inr hz) with rfl | h2
        · exact absurd (hl.1 z hz) (lt_irr z)
        · exact h2
      · intro hz
        rcases this.2 (.inr hz) with rfl | h2
        · exact absurd (hm.1 z hz) (lt_irr z)
        · exact h2
theorem add_snoc {l : List T} {x : T} (h : ∀ z ∈ l, z < x) : add l x = l ++ [x] := by
  induction l with
  | nil => rfl
  | cons y r ih => rw [add, if_pos (h y (by simp)), ih (fun z hz => h z (by simp [hz]))]; rfl

/-! ### The names that count -/
def und (ms : List T) (q : T → Bool) : List T := ms.foldl (fun l x => if (isPath x && q x) = true then add l x else l) []
theorem und_nil (q : T → Bool) : und [] q = [] := rfl
theorem und_snoc (ms : List T) (x : T) (q : T → Bool) : und (ms ++ [x]) q = if (isPath x && q x) = true then add (und ms q) x else und ms q := by
  unfold und; rw [List.foldl_append]; rfl
theorem rev_ind {α : Type} {p : List α → Prop} (h0 : p []) (h1 : ∀ l x, p l → p (l ++ [x])) (l : List α) : p l := by
  have : ∀ r : List α, p r.reverse := by
    intro r
    induction r with
    | nil => exact h0
    | cons x r ih => rw [List.reverse_cons]; exact h1 _ _ ih
  have := this l.reverse
  rwa [List.reverse_reverse] at this
theorem known_iff {ms : List T} {x : T} : known ms x = true ↔ x ∈ ms ∧ isPath x = true := by unfold known; rw [Bool.and_eq_true, decide_eq_true_eq]
theorem und_mem {ms : List T} {q : T → Bool} {z : T} : z ∈ und ms q ↔ known ms z = true ∧ q z = true := by
  rw [known_iff]
  induction ms using rev_ind with
  | h0 => simp [und_nil]
  | h1 l x ih =>
    rw [und_snoc]
    simp only [List.mem_append, List.mem_singleton]
    by_cases h : (isPath x && q x) = true
    · rw [if_pos h, add_mem, ih]
      rw [Bool.and_eq_true] at h
      constructor
      · rintro (rfl | ⟨⟨a, b⟩, c⟩)
        · exact ⟨⟨.inr rfl, h.1⟩, h.2⟩
        · exact ⟨⟨.inl a, b⟩, c⟩
      · rintro ⟨⟨a | rfl, b⟩, c⟩
        · exact .inr ⟨⟨a, b⟩, c⟩
        · exact .inl rfl
    · rw [if_neg h, ih]
      rw [Bool.and_eq_true] at h
      constructor
      · rintro ⟨⟨a, b⟩, c⟩; exact ⟨⟨.inl a, b⟩, c⟩
      · rintro ⟨⟨a | rfl, b⟩, c⟩
        · exact ⟨⟨a, b⟩, c⟩
        · exact absurd ⟨b, c⟩ h
theorem und_sorted (ms : List T) (q : T → Bool) : (und ms q).Pairwise (· < ·) := by
  induction ms using rev_ind with
  | h0 => exact List.Pairwise.nil
  | h1 l x ih =>
    rw [und_snoc]
    split
    · exact add_sorted ih
    · exact ih
theorem und_filter (ms : List T) (q : T → Bool) : und ms q = (und ms fun _ => true).filter q := by
  refine sorted_ext (und_sorted _ _) ((und_sorted ms _).filter _) fun z => ?_
  rw [List.mem_filter, und_mem, und_mem]
  simp
theorem und_length (ms : List T) (q : T → Bool) : (und ms q).length ≤ ms.length := by
  have hadd : ∀ (l : List T) (x : T), (add l x).length ≤ l.length + 1 := by
    intro l x
    induction l with
    | nil => simp [add]
    | cons y r ih =>
      rw [add]
      split
      · simpa using ih
      · split <;> simp
  induction ms using rev_ind with
  | h0 => simp [und_nil]
  | h1 l x ih =>
    rw [und_snoc]
    split
    · have := hadd (und l q) x; simp; omega
    · simp; omega
/-- What was collected in whatever order, sorted. -/
theorem sort_und {ss : List T} {ms : List T} {q : T → Bool} (hn : ss.Nodup) (hm : ∀ x, x ∈ ss ↔ known ms x = true) : (ss.filter q).mergeSort leB = und ms q := by
  have tr : ∀ a b c : List UInt8, leB a b = true → leB b c = true → leB a c = true := fun a b c h1 h2 => by simp only [leB, decide_eq_true_eq] at *; exact List.le_trans h1 h2
  have to : ∀ a b : List UInt8, (leB a b || leB b a) = true := fun a b => by simp only [leB, Bool.or_eq_true, decide_eq_true_eq]; exact List.le_total a b
  have hp := List.mergeSort_perm (ss.filter q) leB
  have hnd : ((ss.filter q).mergeSort leB).Nodup := hp.nodup_iff.2 (hn.filter _)
  refine sorted_ext ?_ (und_sorted _ _) fun z => ?_
  · refine ((List.pairwise_mergeSort tr to (ss.filter q)).and hnd).imp ?_
    rintro a b ⟨h1, h2⟩
    simp only [leB, decide_eq_true_eq] at h1
    exact lt_of_le h1 h2
  · rw [hp.mem_iff, List.mem_filter, hm, und_mem]

/-! ### The map of what counts -/
theorem known_snoc (ms : List T) (x y : T) : known (ms ++ [x]) y = (known ms y || (decide (y = x) && isPath y)) := by
  unfold known
  by_cases h1 : y ∈ ms <;> by_cases h2 : y = x <;> cases h3 : isPath y <;> simp [h1, h2, h3]
structure CntOf (D : DataW Unit) (ms : List T) : Prop where
  tidy : Tidy D
  has : ∀ x, Maps.has D (.string x) = known ms x
  one : ∀ x, known ms x = true → ∀ z, D.atKey (.string x) z = .lit (.int .i64 ((ms.idxOf x : Nat) : Int))
theorem CntOf.empty : CntOf (.map []) [] := ⟨tidy_empty, fun x => by simp [has_eq, known], fun x h => by simp [known] at h⟩
theorem CntOf.put {D : DataW Unit} {ms : List T} (s : CntOf D ms) {x : T} (hx : known ms x = false) (hp : isPath x = true) : CntOf (D.put (.string x) (.lit (.int .i64 (ms.length : Int)))) (ms ++ [x]) := by
  have hxm : x ∉ ms := fun h => by rw [known_iff.2 ⟨h, hp⟩] at hx; cases hx
  have hk : WideAt.IsKeyLit (.string x) := trivial
  refine ⟨s.tidy.put hk _, fun y => ?_, fun y hy z => ?_⟩
  · rw [known_snoc]
    by_cases e : y = x
    · subst e; rw [has_put_same s.tidy.isMap hk]; simp [hp]
    · rw [has_put_other (by intro e2; injection e2 with e2; exact e e2), s.has y]; simp [e]
  · by_cases e : y = x
    · subst e
      rw [atKey_put_same s.tidy.isMap hk, List.idxOf_append, if_neg hxm]
      simp
    · rw [known_snoc] at hy
      simp only [e, decide_false, Bool.false_and, Bool.or_false] at hy
      rw [atKey_put_other (by intro e2; injection e2 with e2; exact e e2), s.one y hy, List.idxOf_append, if_pos (known_iff.1 hy).1]
theorem CntOf.old {D : DataW Unit} {ms : List T} (s : CntOf D ms) {x : T} (hx : known ms x = true ∨ isPath x = false) : CntOf D (ms ++ [x]) := by
  have h : ∀ y, known (ms ++ [x]) y = known ms y := by
    intro y
    rw [known_snoc]
    by_cases e : y = x
    · subst e
      rcases hx with h | h
      · rw [h]; rfl
      · rw [h]; simp
    · simp [e]
  refine ⟨s.tidy, fun y => by rw [h, s.has], fun y hy z => ?_⟩
  rw [h] at hy
  rw [s.one y hy, List.idxOf_append, if_pos (known_iff.1 hy).1]

/-! ### Files -/
def nms (fs : List (T × T)) : List T := fs.map (·.1)
theorem nms_length (fs : List (T × T)) : (nms fs).length = fs.length := by simp [nms]
/-- The text of the first file of that name. -/
def txt (fs : List (T × T)) (x : T) : T := (fs.getD ((nms fs).idxOf x) ([], [])).2
/-- Where the nearest style's file stands. -/
def nrI (ms : List T) (p : T) : Int := match nr ms p with
  | none => -1
  | some i => ((ms.idxOf (at_ (spl 47 p) i) : Nat) : Int)
theorem nrI_none {ms : List T} {p : T} (h : nr ms p = none) : nrI ms p = -1 ∧ near ms p = [] ∧ has ms p = false := by
  unfold nrI near has; rw [h]; exact ⟨rfl, rfl, rfl⟩
theorem nrI_some {ms : List T} {p : T} {i : Nat} (h : nr ms p = some i) : ∃ k : Nat, nrI ms p = (k : Int) ∧ k < ms.length ∧ ms[k]? = some (near ms p) ∧ k = ms.idxOf (near ms p) ∧ has ms p = true := by
  have hm := (nr_some.1 h).2.1
  have h1 : nrI ms p = ((ms.idxOf (at_ (spl 47 p) i) : Nat) : Int) := by unfold nrI; rw [h]
  have h2 : near ms p = at_ (spl 47 p) i := by unfold near; rw [h]
  have h3 : has ms p = true := by unfold has; rw [h]; rfl
  have hlt := List.idxOf_lt_length_of_mem hm
  refine ⟨_, h1, hlt, ?_, by rw [h2], h3⟩
  rw [h2, List.getElem?_eq_getElem hlt, List.getElem_idxOf]
/-- The style's text of a path. -/
def ftx (fs : List (T × T)) (p : T) : T := match nr (nms fs) p with
  | none => []
  | some _ => txt fs (near (nms fs) p)
theorem ftx_none {fs : List (T × T)} {p : T} (h : nr (nms fs) p = none) : ftx fs p = [] := by unfold ftx; rw [h]
theorem ftx_some {fs : List (T × T)} {p : T} {i : Nat} (h : nr (nms fs) p = some i) : ftx fs p = txt fs (near (nms fs) p) := by unfold ftx; rw [h]
theorem txt_at {fs : List (T × T)} {x : T} {k : Nat} {f : T × T} (hk : k = (nms fs).idxOf x) (h : fs[k]? = some f) : txt fs x = f.2 := by
  unfold txt; rw [← hk, List.getD_eq_getElem?_getD, h]; rfl

/-! ### A name is a style's file's: its last name is '.cfmt' -/
theorem spl_cat (c : UInt8) : ∀ (a r : T), spl c (a ++ c :: r) = spl c a ++ spl c r := by
  intro a
  induction a with
  | nil => intro r; simp [spl]
  | cons x a ih =>
    intro r
    rw [List.cons_append, spl, spl, ih]
    split
    · rfl
    · cases h : spl c a with
      | nil => exact absurd h (spl_ne c a)
      | cons p q => rfl
theorem jn_app {l m : List T} (hl : l ≠ []) (hm : m ≠ []) : jn (l ++ m) = jn l ++ 47 :: jn m := by
  induction l with
  | nil => exact absurd rfl hl
  | cons a r ih =>
    cases r with
    | nil => rw [List.singleton_append, jn_cons a hm]; rfl
    | cons b r => rw [List.cons_append, jn_cons a (by simp), ih (by simp), jn_cons a (by simp), List.append_assoc]; rfl
theorem isSt_iff {x : T} (h : isPath x = true) : isSt x = true ↔ (spl 47 x).getLast? = some dot := by
  have hg := isPath_good h
  have hne := spl_ne 47 x
  rcases List.eq_nil_or_concat (spl 47 x) with h0 | ⟨l, b, h0⟩
  · exact absurd h0 hne
  · rw [List.concat_eq_append] at h0
    have hb : 47 ∉ b := (hg b (by rw [h0]; simp)).2
    have hl : Good l := fun y hy => hg y (by rw [h0]; simp [hy])
    have hf : fol x = jn l := by rw [← jn_spl x, h0, fol_jn hb]
    unfold isSt
    rw [decide_eq_true_eq, hf, ins_jn hl, h0]
    simp only [List.getLast?_append, List.getLast?_singleton, Option.some_or, Option.some.injEq]
    constructor
    · intro e
      have h2 := congrArg (spl 47) e
      rw [h0, spl_jn (by simp) (fun y hy => ?_)] at h2
      · have := List.append_cancel_left h2
        simpa using this.symm
      · rcases List.mem_append.1 hy with hy | hy
        · exact (hl y hy).2
        · rw [List.mem_singleton.1 hy]; exact dot_free
    · rintro rfl
      rw [← h0, jn_spl]

/-! ### What lies in a folder -/
def inF (f x : T) : Bool := decide (f = []) || (f ++ [47]).isPrefixOf x
theorem inF_iff {f x : T} (hf : f ≠ []) : inF f x = true ↔ ∃ r, x = f ++ 47 :: r := by
  unfold inF
  simp only [hf, decide_false, Bool.false_or, List.isPrefixOf_iff_prefix]
  constructor
  · rintro ⟨r, e⟩; exact ⟨r, by rw [← e]; simp⟩
  · rintro ⟨r, e⟩; exact ⟨r, by rw [e]; simp⟩
theorem inF_spl {f x : T} (hf : f ≠ []) : inF f x = true ↔ (spl 47 f).length < (spl 47 x).length ∧ (spl 47 x).take (spl 47 f).length = spl 47 f := by
  rw [inF_iff hf]
  constructor
  · rintro ⟨r, rfl⟩
    rw [spl_cat, List.length_append, List.take_left' rfl]
    have := List.length_pos_iff.2 (spl_ne 47 r)
    exact ⟨by omega, rfl⟩
  · rintro ⟨h1, h2⟩
    have h3 := List.take_append_drop (spl 47 f).length (spl 47 x)
    rw [h2] at h3
    have h4 := congrArg jn h3
    rw [jn_app (spl_ne 47 f) (by intro e; have := congrArg List.length e; simp at this; omega), jn_spl, jn_spl] at h4
    exact ⟨_, h4.symm⟩

end Tr
end Go.Proofs.YtliabgcpciekpaaDoor
