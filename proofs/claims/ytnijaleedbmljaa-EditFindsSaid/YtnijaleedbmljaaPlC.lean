/- The plain law of edits (no program in sight): when they fit, what they make, what takes them back, how many lines go out and in, what makes one text of another one. -/
import Derived.Test.YtnijaleedbmljaaPlA
import Derived.Test.YtnijaleedbmljaaPlB
namespace Go.Proofs.Ytnijaleedbmljaa.Pl
set_option linter.unusedVariables false

structure Ed where
  f : Int
  t : Int
  x : T
  deriving DecidableEq

/-- Do edits fit a text of n lines? es: it is empty or ends with a byte 10. -/
def Fits (n : Nat) (es : Prop) (last : Int) : List Ed → Prop
  | [] => True
  | e :: r => last < e.f ∧ 0 ≤ e.f ∧ e.f ≤ e.t ∧ e.t ≤ n ∧ (e.x = [] → e.f ≠ e.t) ∧ (e.x ≠ [] → (e.t < n → ended e.x) ∧ (e.f = n → 0 < n → es)) ∧ Fits n es e.t r

theorem Fits.tail {n : Nat} {es : Prop} {last : Int} {e : Ed} {r : List Ed} (h : Fits n es last (e :: r)) : Fits n es e.t r := h.2.2.2.2.2.2

/-- The lines of x from one on, ahead of another one. -/
def cut (x : List T) (a b : Nat) : List T := (x.drop a).take (b - a)

theorem cut_length {x : List T} {a b : Nat} (h : a ≤ b) (hb : b ≤ x.length) : (cut x a b).length = b - a := by
  simp [cut]; omega
theorem cut_self (x : List T) (a : Nat) : cut x a a = [] := by simp [cut]
theorem cut_all (x : List T) {a b : Nat} (hb : x.length ≤ b) : cut x a b = x.drop a := by
  unfold cut; exact List.take_of_length_le (by simp; omega)
theorem cut_drop {x : List T} {a b : Nat} (h : a ≤ b) : cut x a b ++ x.drop b = x.drop a := by
  unfold cut
  have := List.take_append_drop (b - a) (x.drop a)
  rw [List.drop_drop] at this
  rw [show a + (b - a) = b by omega] at this
  exact this
theorem cut_cut {x : List T} {a b c : Nat} (h : a ≤ b) (hc : b ≤ c) : cut x a b ++ cut x b c = cut x a c := by
  unfold cut
  have h1 : x.drop b = (x.drop a).drop (b - a) := by rw [List.drop_drop]; congr 1; omega
  rw [h1, show c - a = (b - a) + (c - b) by omega, List.take_add]
theorem cut_succ {x : List T} {a : Nat} {y : T} (h : x[a]? = some y) : cut x a (a + 1) = [y] := by
  unfold cut
  have hl : a < x.length := (List.getElem?_eq_some_iff.1 h).1
  have hv : x[a] = y := (List.getElem?_eq_some_iff.1 h).2
  rw [List.drop_eq_getElem_cons hl, show a + 1 - a = 1 by omega, hv]; rfl
theorem cut_mid {u v w : List T} {a b : Nat} (ha : a = u.length) (hb : b = u.length + v.length) : cut (u ++ v ++ w) a b = v := by
  subst ha hb
  unfold cut
  rw [List.append_assoc, List.drop_left, show u.length + v.length - u.length = v.length by omega, List.take_left]
theorem good_cut {x : List T} (h : Good x) (a b : Nat) : Good (cut x a b) := (h.drop a).take _
theorem ended_cut {x : List T} (h : Good x) {a b : Nat} (hb : b < x.length) (hab : a ≤ b) : ended (cut x a b).flatten :=
  (h.drop a).ended_take (by simp; omega)
theorem ended_cut' {x : List T} (h : Good x) {a b : Nat} (hb : b < x.length) : ended (cut x a b).flatten := by
  rcases Nat.le_total a b with hab | hab
  · exact ended_cut h hb hab
  · have : cut x a b = [] := by unfold cut; rw [show b - a = 0 by omega]; simp
    rw [this]; exact .inl rfl

theorem flatten_ne {x : List T} (h : Good x) (hne : x ≠ []) : x.flatten ≠ [] := by
  intro e
  have := lines_of_good h
  rw [e] at this
  exact hne this.symm

theorem flatten_nil_iff {x : List T} (h : Good x) : x.flatten = [] ↔ x = [] :=
  ⟨fun e => Classical.byContradiction fun hne => flatten_ne h hne e, fun e => by rw [e]; rfl⟩

theorem ended_drop {x : List T} (h : ended x.flatten) (k : Nat) : ended (x.drop k).flatten := by
  have e : (x.take k).flatten ++ (x.drop k).flatten = x.flatten := by rw [← List.flatten_append, List.take_append_drop]
  rcases h with h | h
  · rw [h] at e; left; exact (List.append_eq_nil_iff.1 e).2
  · by_cases hd : (x.drop k).flatten = []
    · exact .inl hd
    · right
      rw [← e, List.getLast?_append] at h
      cases hz : (x.drop k).flatten.getLast? with
      | none => rw [List.getLast?_eq_none_iff] at hz; exact absurd hz hd
      | some z => rw [hz] at h; simpa using h

/-- What edits make, from line a on. -/
def app (x : List T) (a : Nat) : List Ed → T
  | [] => (x.drop a).flatten
  | e :: r => (cut x a e.f.toNat).flatten ++ e.x ++ app x e.t.toNat r

/-- The same by lines. -/
def appL (x : List T) (a : Nat) : List Ed → List T
  | [] => x.drop a
  | e :: r => cut x a e.f.toNat ++ lines e.x ++ appL x e.t.toNat r

theorem app_flat (x : List T) (l : List Ed) : ∀ a, app x a l = (appL x a l).flatten := by
  induction l with
  | nil => intro a; rfl
  | cons e r ih => intro a; simp [app, appL, ih, lines_flat]

theorem appL_nil {x : List T} {es : Prop} : ∀ {l : List Ed} {a : Nat}, Fits x.length es (a : Int) l → appL x a l = [] → l = [] ∧ x.length ≤ a := by
  intro l
  cases l with
  | nil => intro a _ h; exact ⟨rfl, by simpa [appL] using h⟩
  | cons e r =>
    intro a hf h
    obtain ⟨h1, h2, h3, h4, _⟩ := hf
    simp only [appL, List.append_eq_nil_iff] at h
    have := congrArg List.length h.1.1
    rw [cut_length (by omega) (by omega)] at this
    simp at this
    omega

theorem good_appL {x : List T} (hx : Good x) {es : Prop} (hes : es → ended x.flatten) : ∀ (l : List Ed) (a : Nat) (last : Int), Fits x.length es last l → Good (appL x a l) := by
  intro l
  induction l with
  | nil => intro a last _; exact hx.drop a
  | cons e r ih =>
    intro a last hf
    have hR := ih e.t.toNat e.t hf.tail
    obtain ⟨h1, h2, h3, h4, h5, h6, h7⟩ := hf
    have h7' : Fits x.length es ((e.t.toNat : Nat) : Int) r := by rw [show ((e.t.toNat : Nat) : Int) = e.t by omega]; exact h7
    have hLR : Good (lines e.x ++ appL x e.t.toNat r) := by
      refine good_append (good_lines _) hR (fun hne => ?_)
      rw [lines_flat]
      by_cases hx0 : e.x = []
      · exact .inl hx0
      · by_cases ht : e.t < x.length
        · exact (h6 hx0).1 ht
        · exfalso
          have he : e.t.toNat = x.length := by omega
          cases r with
          | nil => rw [appL, he] at hne; simp at hne
          | cons e2 r2 => obtain ⟨g1, g2, g3, g4, _⟩ := h7; omega
    rw [appL, List.append_assoc]
    refine good_append (good_cut hx _ _) hLR (fun hne => ?_)
    by_cases hf : e.f.toNat < x.length
    · exact ended_cut' hx hf
    · have hfn : e.f = x.length := by omega
      rw [cut_all x (by omega)]
      by_cases h0 : x.length = 0
      · have : x = [] := List.eq_nil_of_length_eq_zero h0
        subst this; simp [ended_nil]
      · have hx0 : e.x ≠ [] := fun e0 => (h5 e0) (by omega)
        exact ended_drop (hes ((h6 hx0).2 hfn (by omega))) a

theorem lines_app {x : List T} (hx : Good x) {es : Prop} (hes : es → ended x.flatten) {l : List Ed} {a : Nat} {last : Int} (h : Fits x.length es last l) : lines (app x a l) = appL x a l := by
  rw [app_flat]; exact lines_of_good (good_appL hx hes l a last h)

/-- What takes edits back. -/
def backs (x : List T) (more : Int) : List Ed → List Ed
  | [] => []
  | e :: r => ⟨e.f + more, e.f + more + (lines e.x).length, (cut x e.f.toNat e.t.toNat).flatten⟩ :: backs x (more + ((lines e.x).length - (e.t - e.f))) r

def outs : List Ed → Int
  | [] => 0
  | e :: r => (e.t - e.f) + outs r
def ins : List Ed → Int
  | [] => 0
  | e :: r => (lines e.x).length + ins r

theorem lines_cut {x : List T} (hx : Good x) (a b : Nat) : lines (cut x a b).flatten = cut x a b := lines_of_good (good_cut hx a b)

theorem outs_backs {x : List T} : ∀ (l : List Ed) (more : Int), outs (backs x more l) = ins l := by
  intro l
  induction l with
  | nil => intro _; rfl
  | cons e r ih => intro more; simp only [backs, outs, ins, ih]; omega
theorem ins_backs {x : List T} (hx : Good x) {es : Prop} : ∀ (l : List Ed) (last more : Int), Fits x.length es last l → ins (backs x more l) = outs l := by
  intro l
  induction l with
  | nil => intro _ _ _; rfl
  | cons e r ih =>
    intro last more h
    obtain ⟨h1, h2, h3, h4, _⟩ := id h
    simp only [backs, outs, ins, ih _ _ h.tail]
    rw [lines_cut hx, cut_length (by omega) (by omega)]
    omega

/-- What stands ahead of the first edit's place: nothing yet, or the lines behind the last one. -/
def Ahead (a : Nat) (last : Int) (pre : List T) : Prop := (last = -1 ∧ a = 0 ∧ pre = []) ∨ (last = a)

theorem back_all {x : List T} (hx : Good x) {es : Prop} (hes : es → ended x.flatten) {es' : Prop} : ∀ (l : List Ed) (a : Nat) (last : Int) (pre : List T) (more : Int),
    Fits x.length es last l → Ahead a last pre → (pre.length : Int) = a + more → (Good (pre ++ appL x a l)) → (ended (pre ++ appL x a l).flatten → es') → a ≤ x.length →
    appL (pre ++ appL x a l) pre.length (backs x more l) = x.drop a ∧ Fits (pre ++ appL x a l).length es' (if last = -1 then -1 else last + more) (backs x more l) ∧
    backs (pre ++ appL x a l) (-more) (backs x more l) = l := by
  intro l
  induction l with
  | nil =>
    intro a last pre more _ _ hp _ _ _
    simp [backs, appL, Fits]
  | cons e r ih =>
    intro a last pre more hf ha hp hg hes' hal
    obtain ⟨h1, h2, h3, h4, h5, h6, h7⟩ := id hf
    obtain ⟨f, hfe⟩ : ∃ f : Nat, e.f = f := ⟨e.f.toNat, by omega⟩
    obtain ⟨t, hte⟩ : ∃ t : Nat, e.t = t := ⟨e.t.toNat, by omega⟩
    have hft : e.f.toNat = f := by omega
    have htt : e.t.toNat = t := by omega
    have haf : a ≤ f := by rcases ha with ⟨_, h, _⟩ | h <;> omega
    have hfl : f ≤ t := by omega
    have htl : t ≤ x.length := by omega
    have hPl : (cut x a f).length = f - a := cut_length haf (by omega)
    -- the new 'pre'
    have hassoc : pre ++ appL x a (e :: r) = (pre ++ cut x a f ++ lines e.x) ++ appL x t r := by
      simp [appL, hft, htt, List.append_assoc]
    have hpl : ((pre ++ cut x a f ++ lines e.x).length : Int) = (t : Int) + (more + ((lines e.x).length - (e.t - e.f))) := by
      simp only [List.length_append, hPl]; omega
    have h7' : Fits x.length es (t : Int) r := by rw [← hte]; exact h7
    have key := ih t (t : Int) (pre ++ cut x a f ++ lines e.x) (more + ((lines e.x).length - (e.t - e.f))) h7' (.inr rfl) hpl (by rw [← hassoc]; exact hg) (by rw [← hassoc]; exact hes') htl
    rw [← hassoc] at key
    obtain ⟨k1, k2, k3⟩ := key
    rw [if_neg (by omega)] at k2
    have hY : pre ++ appL x a (e :: r) = pre ++ appL x a (e :: r) := rfl
    obtain ⟨y, hy⟩ : ∃ y, pre ++ appL x a (e :: r) = y := ⟨_, rfl⟩
    rw [hy] at k1 k2 k3 hg hes' ⊢
    have hyl : y.length = pre.length + (f - a) + (lines e.x).length + (appL x t r).length := by
      rw [← hy, hassoc]; simp only [List.length_append, hPl]
    have hfm : (e.f + more) = ((pre.length + (f - a) : Nat) : Int) := by omega
    have htm : (e.f + more + (lines e.x).length) = ((pre.length + (f - a) + (lines e.x).length : Nat) : Int) := by omega
    have hcut1 : cut y pre.length (pre.length + (f - a)) = cut x a f := by
      rw [← hy, hassoc, List.append_assoc]
      exact cut_mid rfl (by rw [hPl])
    have hcut2 : cut y (pre.length + (f - a)) (pre.length + (f - a) + (lines e.x).length) = lines e.x := by
      rw [← hy, hassoc]
      exact cut_mid (by simp [hPl]) (by simp [hPl])
    have hxx : (cut x f t).flatten = [] ↔ f = t := by
      rw [flatten_nil_iff (good_cut hx f t)]
      constructor
      · intro h
        have := congrArg List.length h
        rw [cut_length hfl htl] at this
        simp at this; omega
      · rintro rfl; exact cut_self x f
    refine ⟨?_, ?_, ?_⟩
    · -- what comes
      simp only [backs, appL, hft, htt]
      rw [htm, hfm]
      simp only [Int.toNat_natCast]
      rw [hcut1, lines_cut hx]
      have : pre.length + (f - a) + (lines e.x).length = (pre ++ cut x a f ++ lines e.x).length := by simp only [List.length_append, hPl]
      rw [this, k1, List.append_assoc, cut_drop hfl, cut_drop haf]
    · -- they fit
      simp only [backs, Fits, hft, htt]
      refine ⟨?_, by omega, by omega, by omega, ?_, ?_, ?_⟩
      · split <;> omega
      · intro hx0
        have : f = t := hxx.1 hx0
        have hne : e.x ≠ [] := fun e0 => h5 e0 (by omega)
        have : (lines e.x).length ≠ 0 := fun h0 => hne ((lines_nil_iff _).1 (List.eq_nil_of_length_eq_zero h0))
        omega
      · intro hx0
        have hne : f ≠ t := fun e0 => hx0 (hxx.2 e0)
        refine ⟨fun hlt => ?_, fun hfe' hy0 => ?_⟩
        · by_cases ht : t < x.length
          · exact ended_cut' hx ht
          · exfalso
            have : appL x t r = [] := by
              cases r with
              | nil => simp [appL]; omega
              | cons e2 r2 => obtain ⟨g1, g2, g3, g4, _⟩ := h7; omega
            rw [this] at hyl
            simp at hyl; omega
        · have hR : appL x t r = [] ∧ lines e.x = [] := by
            constructor
            · apply List.eq_nil_of_length_eq_zero; omega
            · apply List.eq_nil_of_length_eq_zero; omega
          have hfx : f < x.length := by omega
          apply hes'
          rw [← hy, hassoc, hR.1, hR.2, List.append_nil, List.append_nil, List.flatten_append]
          rcases ha with ⟨_, ha0, hpre⟩ | ha
          · subst hpre
            simp only [List.flatten_nil, List.nil_append]
            exact ended_cut' hx hfx
          · have hfa : a < f := by omega
            have hc := ended_cut' hx (a := a) hfx
            rcases hc with hc | hc
            · exfalso
              have := (flatten_nil_iff (good_cut hx a f)).1 hc
              rw [this] at hPl
              simp at hPl; omega
            · exact ended_append_right hc
      · rw [show e.f + more + ((lines e.x).length : Int) = (t : Int) + (more + ((lines e.x).length - (e.t - e.f))) by omega]
        exact k2
    · -- and back again
      simp only [backs, hft, htt]
      rw [lines_cut hx, cut_length hfl htl]
      have e1 : e.f + more + -more = e.f := by omega
      have e2 : -more + (((t - f : Nat) : Int) - (e.f + more + ((lines e.x).length : Int) - (e.f + more))) = -(more + ((lines e.x).length - (e.t - e.f))) := by omega
      rw [e1, e2, k3, htm, hfm]
      simp only [Int.toNat_natCast]
      rw [hcut2, lines_flat]
      have e3 : e.f + ((t - f : Nat) : Int) = e.t := by omega
      rw [e3]

end Go.Proofs.Ytnijaleedbmljaa.Pl
