/- The plain law of what makes one text of another one (no program in sight): it fits, it makes it, and no edits take and put fewer lines. -/
import Derived.Test.YtnijaleedbmljaaPlC
namespace Go.Proofs.Ytnijaleedbmljaa.Pl
set_option linter.unusedVariables false

/-- The edits between pairs (the last pair: behind both lists). -/
def bet (q : List T) (i j : Nat) : List (Nat × Nat) → List Ed
  | [] => []
  | p :: r => if i < p.1 ∨ j < p.2 then ⟨i, p.1, (cut q j p.2).flatten⟩ :: bet q (p.1 + 1) (p.2 + 1) r else bet q (p.1 + 1) (p.2 + 1) r

def between (x y : List T) : List Ed := bet y 0 0 (pairs 0 0 x y ++ [(x.length, y.length)])

theorem aligned_lt {x y : List T} {i j : Nat} {p : Nat × Nat} {r : List (Nat × Nat)} (h : Aligned x y i j (p :: r)) : p.1 < x.length ∧ p.2 < y.length := by
  obtain ⟨_, _, ⟨z, h1, h2⟩, _⟩ := h
  exact ⟨(List.getElem?_eq_some_iff.1 h1).1, (List.getElem?_eq_some_iff.1 h2).1⟩

/-- What stands ahead of (i, j): nothing, or a line of both. -/
def Met (x y : List T) (i j : Nat) : Prop := (i = 0 ∧ j = 0) ∨ (∃ i' j' z, i = i' + 1 ∧ j = j' + 1 ∧ x[i']? = some z ∧ y[j']? = some z)

theorem ended_at {y : List T} (hy : Good y) {j : Nat} {z : T} (h : y[j]? = some z) (hj : j + 1 < y.length) : z.getLast? = some 10 := by
  have := hy.drop j
  have hl : j < y.length := by omega
  rw [List.drop_eq_getElem_cons hl] at this
  have hz : y[j] = z := (List.getElem?_eq_some_iff.1 h).2
  rw [hz] at this
  refine this.ended ?_
  intro e
  have := congrArg List.length e
  simp at this; omega

theorem last_ended {x : List T} {i : Nat} {z : T} (h : x[i]? = some z) (hi : i + 1 = x.length) (hz : z.getLast? = some 10) : ended x.flatten := by
  have hl : i < x.length := by omega
  have e : x = x.take i ++ [z] := by
    rw [← (List.getElem?_eq_some_iff.1 h).2, ← List.take_succ_eq_append_getElem hl]
    exact (List.take_of_length_le (by omega)).symm
  rw [e, List.flatten_append]
  refine ended_append_right ?_
  simpa using hz

theorem bet_fits {x y : List T} (hy : Good y) : ∀ (ps : List (Nat × Nat)) (i j : Nat) (last : Int), Aligned x y i j ps → Met x y i j → last < i → i ≤ x.length → j ≤ y.length →
    Fits x.length (ended x.flatten) last (bet y i j (ps ++ [(x.length, y.length)])) := by
  intro ps
  induction ps with
  | nil =>
    intro i j last _ hm hl hi hj
    simp only [List.nil_append, bet]
    split
    · next h =>
      refine ⟨hl, by simp, by simp; omega, by simp, ?_, ?_, trivial⟩
      · intro e0 e1
        simp only at e0 e1
        have hij : i = x.length := by omega
        have := (flatten_nil_iff (good_cut hy j y.length)).1 e0
        have := congrArg List.length this
        rw [cut_length hj (Nat.le_refl _)] at this
        simp at this; omega
      · intro hx0
        refine ⟨fun hlt => by simp at hlt, fun hfe h0 => ?_⟩
        simp only at hfe
        rcases hm with ⟨rfl, rfl⟩ | ⟨i', j', z, rfl, rfl, hz1, hz2⟩
        · omega
        · refine last_ended hz1 (by omega) (ended_at hy hz2 ?_)
          have : j' + 1 ≠ y.length := by
            intro e
            simp only [e, cut_self] at hx0
            exact hx0 rfl
          omega
    · trivial
  | cons p ps ih =>
    intro i j last ha hm hl hi hj
    obtain ⟨hp1, hp2⟩ := aligned_lt ha
    obtain ⟨a1, a2, ⟨z, hz1, hz2⟩, a4⟩ := ha
    have hrec := fun l hl => ih (p.1 + 1) (p.2 + 1) l a4 (.inr ⟨p.1, p.2, z, rfl, rfl, hz1, hz2⟩) hl (by omega) (by omega)
    simp only [List.cons_append, bet]
    split
    · next h =>
      refine ⟨hl, by simp, by simp; omega, by simp; omega, ?_, ?_, hrec _ (by simp; omega)⟩
      · intro e0 e1
        simp only at e0 e1
        have := (flatten_nil_iff (good_cut hy j p.2)).1 e0
        have := congrArg List.length this
        rw [cut_length a2 (by omega)] at this
        simp at this; omega
      · intro hx0
        exact ⟨fun _ => ended_cut' hy hp2, fun hfe _ => by simp at hfe; omega⟩
    · exact hrec _ (by omega)

theorem bet_app {x y : List T} : ∀ (ps : List (Nat × Nat)) (i j a : Nat), Aligned x y i j ps → a ≤ i → i ≤ x.length → j ≤ y.length →
    app x a (bet y i j (ps ++ [(x.length, y.length)])) = (cut x a i).flatten ++ (y.drop j).flatten := by
  intro ps
  induction ps with
  | nil =>
    intro i j a _ ha hi hj
    simp only [List.nil_append, bet]
    split
    · simp only [app, Int.toNat_natCast, List.drop_length]
      rw [cut_all y (Nat.le_refl _)]; simp
    · next h =>
      have hi' : i = x.length := by omega
      have hj' : j = y.length := by omega
      subst hi' hj'
      simp only [app]
      rw [cut_all x (Nat.le_refl _)]; simp
  | cons p ps ih =>
    intro i j a hal ha hi hj
    obtain ⟨hp1, hp2⟩ := aligned_lt hal
    obtain ⟨a1, a2, ⟨z, hz1, hz2⟩, a4⟩ := hal
    have hd : cut y j p.2 ++ (z :: y.drop (p.2 + 1)) = y.drop j := by
      rw [← cut_drop a2, List.drop_eq_getElem_cons hp2, (List.getElem?_eq_some_iff.1 hz2).2]
    have hc : ∀ b, b ≤ p.1 → cut x b (p.1 + 1) = cut x b p.1 ++ [z] := fun b hb => by
      rw [← cut_cut hb (Nat.le_succ _), cut_succ hz1]
    simp only [List.cons_append, bet]
    split
    · simp only [app, Int.toNat_natCast]
      rw [ih _ _ p.1 a4 (by omega) (by omega) (by omega), hc p.1 (Nat.le_refl _), cut_self, ← hd]
      simp [List.append_assoc]
    · have h1 : p.1 = i := by omega
      have h2 : p.2 = j := by omega
      rw [ih _ _ a a4 (by omega) (by omega) (by omega), hc a (by omega), ← hd, h1, h2, cut_self]
      simp [List.append_assoc]

theorem bet_outs {x y : List T} (hy : Good y) : ∀ (ps : List (Nat × Nat)) (i j : Nat), Aligned x y i j ps → i ≤ x.length → j ≤ y.length →
    outs (bet y i j (ps ++ [(x.length, y.length)])) = (x.length : Int) - i - ps.length ∧ ins (bet y i j (ps ++ [(x.length, y.length)])) = (y.length : Int) - j - ps.length := by
  intro ps
  induction ps with
  | nil =>
    intro i j _ hi hj
    simp only [List.nil_append, bet]
    split
    · simp only [outs, ins, lines_cut hy, cut_length hj (Nat.le_refl _), List.length_nil]; omega
    · simp only [outs, ins, List.length_nil]; omega
  | cons p ps ih =>
    intro i j hal hi hj
    obtain ⟨hp1, hp2⟩ := aligned_lt hal
    obtain ⟨a1, a2, _, a4⟩ := hal
    obtain ⟨k1, k2⟩ := ih (p.1 + 1) (p.2 + 1) a4 (by omega) (by omega)
    simp only [List.cons_append, bet]
    split
    · simp only [outs, ins, k1, k2, lines_cut hy, cut_length a2 (by omega : p.2 ≤ y.length), List.length_cons]; omega
    · simp only [k1, k2, List.length_cons]; omega

theorem between_fits {x y : List T} (hy : Good y) : Fits x.length (ended x.flatten) (-1) (between x y) :=
  bet_fits hy _ 0 0 (-1) (pairs_aligned x y _ 0 0 x y (Nat.le_refl _) rfl rfl) (.inl ⟨rfl, rfl⟩) (by simp) (Nat.zero_le _) (Nat.zero_le _)
theorem between_app {x y : List T} : app x 0 (between x y) = y.flatten := by
  unfold between
  rw [bet_app _ 0 0 0 (pairs_aligned x y _ 0 0 x y (Nat.le_refl _) rfl rfl) (Nat.le_refl _) (Nat.zero_le _) (Nat.zero_le _)]
  simp [cut_self]
theorem between_outs {x y : List T} (hy : Good y) : outs (between x y) = (x.length : Int) - lcs x y ∧ ins (between x y) = (y.length : Int) - lcs x y := by
  have := bet_outs hy _ 0 0 (pairs_aligned x y _ 0 0 x y (Nat.le_refl _) rfl rfl) (Nat.zero_le _) (Nat.zero_le _)
  rw [pairs_length _ 0 0 x y (Nat.le_refl _)] at this
  unfold between
  exact ⟨by rw [this.1]; omega, by rw [this.2]; omega⟩

/-- The lines that edits keep are in both texts. -/
def kept (x : List T) (a : Nat) : List Ed → List T
  | [] => x.drop a
  | e :: r => cut x a e.f.toNat ++ kept x e.t.toNat r

theorem kept_left {x : List T} {es : Prop} : ∀ (l : List Ed) (a : Nat) (last : Int), Fits x.length es last l → (last = -1 ∧ a = 0 ∨ last = a) → (kept x a l).Sublist (x.drop a) ∧ ((kept x a l).length : Int) = x.length - a - outs l ∨ x.length < a := by
  intro l
  induction l with
  | nil =>
    intro a last _ _
    rcases Nat.lt_or_ge x.length a with h | h
    · exact .inr h
    · exact .inl ⟨List.Sublist.refl _, by simp [kept, outs]; omega⟩
  | cons e r ih =>
    intro a last hf ha
    obtain ⟨h1, h2, h3, h4, _⟩ := id hf
    have hk := ih e.t.toNat e.t hf.tail (.inr (by omega))
    rcases hk with ⟨k1, k2⟩ | h
    · left
      have haf : a ≤ e.f.toNat := by rcases ha with ⟨_, h⟩ | h <;> omega
      refine ⟨?_, ?_⟩
      · simp only [kept]
        rw [← cut_drop haf]
        refine List.Sublist.append (List.Sublist.refl _) (k1.trans ?_)
        rw [← cut_drop (show e.f.toNat ≤ e.t.toNat by omega) (x := x)]
        exact List.sublist_append_right _ _
      · simp only [kept, List.length_append, outs, cut_length haf (by omega : e.f.toNat ≤ x.length)]; omega
    · omega
theorem kept_right {x : List T} : ∀ (l : List Ed) (a : Nat), (kept x a l).Sublist (appL x a l) := by
  intro l
  induction l with
  | nil => intro a; exact List.Sublist.refl _
  | cons e r ih =>
    intro a
    simp only [kept, appL]
    rw [List.append_assoc]
    exact List.Sublist.append (List.Sublist.refl _) ((ih _).trans (List.sublist_append_right _ _))
theorem appL_length {x : List T} {es : Prop} : ∀ (l : List Ed) (a : Nat) (last : Int), Fits x.length es last l → (last = -1 ∧ a = 0 ∨ last = a) → a ≤ x.length → ((appL x a l).length : Int) = x.length - a - outs l + ins l := by
  intro l
  induction l with
  | nil => intro a _ _ _ h; simp [appL, outs, ins]; omega
  | cons e r ih =>
    intro a last hf ha hal
    obtain ⟨h1, h2, h3, h4, _⟩ := id hf
    have haf : a ≤ e.f.toNat := by rcases ha with ⟨_, h⟩ | h <;> omega
    have := ih e.t.toNat e.t hf.tail (.inr (by omega)) (by omega)
    simp only [appL, outs, ins, List.length_append, cut_length haf (by omega : e.f.toNat ≤ x.length)]
    omega

/-- No edits that make y of x take and put fewer lines. -/
theorem between_least {x y : List T} (hx : Good x) (hy : Good y) {es : Prop} (hes : es → ended x.flatten) {l : List Ed} (h : Fits x.length es (-1) l) (ha : app x 0 l = y.flatten) :
    outs (between x y) + ins (between x y) ≤ outs l + ins l := by
  have hL : appL x 0 l = y := by
    have := lines_app hx hes h (a := 0)
    rw [ha, lines_of_good hy] at this
    exact this.symm
  obtain ⟨b1, b2⟩ := between_outs (x := x) hy
  have hk := kept_left l 0 (-1) h (.inl ⟨rfl, rfl⟩)
  have hr := kept_right (x := x) l 0
  have hl := appL_length l 0 (-1) h (.inl ⟨rfl, rfl⟩) (Nat.zero_le _)
  rw [hL] at hr hl
  rcases hk with ⟨k1, k2⟩ | h
  · have := lcs_common x y _ (by simpa using k1) hr
    omega
  · omega

theorem bet_self {x : List T} : ∀ (n i : Nat), n + i = x.length → bet x i i (pairs i i (x.drop i) (x.drop i) ++ [(x.length, x.length)]) = [] := by
  intro n
  induction n with
  | zero =>
    intro i h
    rw [List.drop_of_length_le (by omega), pairs_nil_left]
    simp only [List.nil_append, bet]
    rw [if_neg (by omega)]
  | succ n ih =>
    intro i h
    have hl : i < x.length := by omega
    rw [List.drop_eq_getElem_cons hl, pairs_cons, if_pos rfl]
    simp only [List.cons_append, bet]
    rw [if_neg (by omega)]
    exact ih (i + 1) (by omega)
theorem between_self (x : List T) : between x x = [] := by
  have := bet_self (x := x) x.length 0 (by omega)
  simpa [between] using this

end Go.Proofs.Ytnijaleedbmljaa.Pl
