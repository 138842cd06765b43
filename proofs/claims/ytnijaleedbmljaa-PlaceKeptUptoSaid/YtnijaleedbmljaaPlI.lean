/- The plain law of places behind edits (no program in sight). -/
import Derived.Test.YtnijaleedbmljaaPlD
namespace Go.Proofs.Ytnijaleedbmljaa.Pl
set_option linter.unusedVariables false

/-- Where a line begins. -/
def beg (x : List T) (n : Nat) : Nat := (x.take n).flatten.length

/-- An edit in bytes. -/
structure Spot where
  b : Int
  e : Int
  to : Int
  x : T

def spots (x : List T) (more : Int) : List Ed → List Spot
  | [] => []
  | e :: r => ⟨beg x e.f.toNat, beg x e.t.toNat, beg x e.f.toNat + more, e.x⟩ :: spots x (more + ((e.x.length : Int) - ((beg x e.t.toNat : Int) - beg x e.f.toNat))) r

/-- Where a place stands behind edits. -/
def mv (n more : Int) : List Spot → Int
  | [] => n + more
  | p :: r => if n < p.b then n + more else if n < p.e then p.to + min (n - p.b) p.x.length else mv n (more + ((p.x.length : Int) - (p.e - p.b))) r
/-- How much longer edits make a text. -/
def grow : List Spot → Int
  | [] => 0
  | p :: r => ((p.x.length : Int) - (p.e - p.b)) + grow r
/-- Where a place came from. -/
def fm (n more : Int) : List Spot → Int × Bool
  | [] => (n - more, true)
  | p :: r => if n < p.to then (n - more, true) else if n < p.to + p.x.length then (p.b, false) else fm n (more + ((p.x.length : Int) - (p.e - p.b))) r
/-- What is kept. -/
def kp (from' n : Int) : List Spot → List (Int × Int)
  | [] => if from' < n then [(from', n)] else []
  | p :: r => if p.b = p.e then kp from' n r else (if from' < p.b then [(from', p.b)] else []) ++ kp p.e n r

/-- The document's move. -/
def rmv (n out : Int) : List Spot → Int
  | [] => out
  | p :: r => if n < p.b then rmv n out r else if n < p.e then rmv n (out - (n - p.b) + min (n - p.b) p.x.length) r else rmv n (out + p.x.length - (p.e - p.b)) r

def Ord (o : Int) : List Spot → Prop
  | [] => True
  | p :: r => o ≤ p.b ∧ p.b ≤ p.e ∧ Ord p.e r
def Lnk (more : Int) : List Spot → Prop
  | [] => True
  | p :: r => p.to = p.b + more ∧ Lnk (more + ((p.x.length : Int) - (p.e - p.b))) r

theorem rmv_far {n out : Int} : ∀ (l : List Spot) (o : Int), Ord o l → n < o → rmv n out l = out := by
  intro l
  induction l with
  | nil => intro o _ _; rfl
  | cons p r ih =>
    intro o h hn
    obtain ⟨h1, h2, h3⟩ := h
    simp only [rmv]
    rw [if_pos (by omega)]
    exact ih _ h3 (by omega)
theorem rmv_mv {n : Int} : ∀ (l : List Spot) (o more : Int), Ord o l → Lnk more l → rmv n (n + more) l = mv n more l := by
  intro l
  induction l with
  | nil => intro o more _ _; rfl
  | cons p r ih =>
    intro o more h g
    obtain ⟨h1, h2, h3⟩ := h
    obtain ⟨g1, g2⟩ := g
    simp only [rmv, mv]
    by_cases c1 : n < p.b
    · rw [if_pos c1, if_pos c1]
      exact rmv_far r _ h3 (by omega)
    · rw [if_neg c1, if_neg c1]
      by_cases c2 : n < p.e
      · rw [if_pos c2, if_pos c2, rmv_far r _ h3 c2]; omega
      · rw [if_neg c2, if_neg c2, ← ih _ _ h3 g2]
        congr 1; omega

/-- Runs of places that are not marked. -/
def runs (f : Nat → Bool) : Nat → List (Int × Int)
  | 0 => []
  | k + 1 => if f k = true then runs f k else match (runs f k).getLast? with
    | some q => if q.2 = k then (runs f k).dropLast ++ [(q.1, (k : Int) + 1)] else runs f k ++ [((k : Int), (k : Int) + 1)]
    | none => runs f k ++ [((k : Int), (k : Int) + 1)]

theorem runs_free {f : Nat → Bool} {a : Nat} {acc : List (Int × Int)} (h : runs f a = acc) (hs : ∀ q, acc.getLast? = some q → q.2 < a) : ∀ d, (∀ k, a ≤ k → k < a + d → f k = false) →
    runs f (a + d) = if 0 < d then acc ++ [((a : Int), ((a + d : Nat) : Int))] else acc := by
  intro d
  induction d with
  | zero => intro _; simpa using h
  | succ d ih =>
    intro hf
    have := ih (fun k h1 h2 => hf k h1 (by omega))
    rw [← Nat.add_assoc, runs, if_neg (by rw [hf _ (by omega) (by omega)]; simp), this]
    by_cases hd : 0 < d
    · rw [if_pos hd, if_pos (by omega)]
      simp only [List.getLast?_append, List.getLast?_singleton, Option.some_or, List.dropLast_append_of_ne_nil (show [((a : Int), ((a + d : Nat) : Int))] ≠ [] by simp), List.dropLast_singleton, List.append_nil]
      simp
    · have : d = 0 := by omega
      subst this
      rw [if_neg (by omega), if_pos (by omega)]
      cases hq : acc.getLast? with
      | none => simp
      | some q => have := hs q hq; simp; omega
theorem runs_mark {f : Nat → Bool} {a : Nat} : ∀ d, (∀ k, a ≤ k → k < a + d → f k = true) → runs f (a + d) = runs f a := by
  intro d
  induction d with
  | zero => intro _; rfl
  | succ d ih =>
    intro hf
    rw [← Nat.add_assoc, runs, if_pos (hf _ (by omega) (by omega))]
    exact ih (fun k h1 h2 => hf k h1 (by omega))

/-- Does an edit take a byte out? -/
def marked (l : List Spot) (k : Nat) : Bool := l.any fun p => decide (p.b ≤ k) && decide ((k : Int) < p.e)

theorem marked_far {k : Nat} : ∀ (l : List Spot) (o : Int), Ord o l → (k : Int) < o → marked l k = false := by
  intro l
  induction l with
  | nil => intro _ _ _; rfl
  | cons p r ih =>
    intro o h hk
    obtain ⟨h1, h2, h3⟩ := h
    have := ih _ h3 (by omega)
    unfold marked at this ⊢
    rw [List.any_cons, this]
    have : decide (p.b ≤ (k : Int)) = false := by rw [decide_eq_false_iff_not]; omega
    rw [this]; rfl

theorem runs_kp {f : Nat → Bool} {n : Nat} : ∀ (l : List Spot) (a : Nat) (acc : List (Int × Int)), Ord a l → (∀ p ∈ l, p.e ≤ n) → a ≤ n → runs f a = acc → (∀ q, acc.getLast? = some q → q.2 < a) →
    (∀ k, a ≤ k → k < n → f k = marked l k) → runs f n = acc ++ kp a n l := by
  intro l
  induction l with
  | nil =>
    intro a acc _ _ han h hs hf
    obtain ⟨d, rfl⟩ : ∃ d, n = a + d := ⟨n - a, by omega⟩
    rw [runs_free h hs d (fun k h1 h2 => hf k h1 h2)]
    simp only [kp]
    by_cases hd : 0 < d
    · rw [if_pos hd, if_pos (by omega)]
    · rw [if_neg hd, if_neg (by omega), List.append_nil]
  | cons p r ih =>
    intro a acc ho hn han h hs hf
    obtain ⟨h1, h2, h3⟩ := id ho
    obtain ⟨b, hb⟩ : ∃ b : Nat, p.b = b := ⟨p.b.toNat, by omega⟩
    obtain ⟨e, he⟩ : ∃ e : Nat, p.e = e := ⟨p.e.toNat, by omega⟩
    have hen := hn p (by simp)
    simp only [kp]
    by_cases hbe : p.b = p.e
    · rw [if_pos hbe]
      refine ih a acc ?_ (fun q hq => hn q (by simp [hq])) han h hs (fun k k1 k2 => ?_)
      · cases r with
        | nil => trivial
        | cons p2 r2 => exact ⟨by have := h3.1; omega, h3.2.1, h3.2.2⟩
      · rw [hf k k1 k2]
        unfold marked
        rw [List.any_cons]
        by_cases hk : p.b ≤ (k : Int)
        · have : decide ((k : Int) < p.e) = false := by rw [decide_eq_false_iff_not]; omega
          rw [this]; simp
        · rw [decide_eq_false hk]; simp
    · rw [if_neg hbe]
      obtain ⟨d, rfl⟩ : ∃ d, b = a + d := ⟨b - a, by omega⟩
      obtain ⟨d2, rfl⟩ : ∃ d2, e = a + d + d2 := ⟨e - (a + d), by omega⟩
      have q1 := runs_free h hs d (fun k k1 k2 => by
        rw [hf k k1 (by omega)]
        exact marked_far (p :: r) p.b ⟨Int.le_refl _, h2, h3⟩ (by omega))
      have q2 := runs_mark (f := f) (a := a + d) d2 (fun k k1 k2 => by
        rw [hf k (by omega) (by omega)]
        unfold marked
        rw [List.any_cons, decide_eq_true (by omega), decide_eq_true (by omega)]; rfl)
      rw [q1] at q2
      have := ih (a + d + d2) _ (by rw [he] at h3; exact h3) (fun q hq => hn q (by simp [hq])) (by omega) q2 (fun q hq => by
        by_cases hd : 0 < d
        · rw [if_pos hd] at hq
          simp only [List.getLast?_append, List.getLast?_singleton, Option.some_or, Option.some.injEq] at hq
          subst hq; simp only; omega
        · rw [if_neg hd] at hq
          have := hs q hq; omega) (fun k k1 k2 => by
        rw [hf k (by omega) k2]
        unfold marked
        rw [List.any_cons]
        have : decide ((k : Int) < p.e) = false := by rw [decide_eq_false_iff_not]; omega
        rw [this]; simp)
      rw [this, he]
      rw [← List.append_assoc]
      congr 1
      rw [hb]
      by_cases hd : 0 < d
      · rw [if_pos hd, if_pos (by omega)]
      · rw [if_neg hd, if_neg (by omega), List.append_nil]

theorem runs_all {l : List Spot} {n : Nat} (ho : Ord 0 l) (hn : ∀ p ∈ l, p.e ≤ n) : runs (marked l) n = kp 0 n l := by
  have := runs_kp (f := marked l) (n := n) l 0 [] ho hn (Nat.zero_le _) rfl (by simp) (fun _ _ _ => rfl)
  simpa using this

/-! ### The parts of a text -/
/-- What is kept, what goes out, what comes in: by edits; and what is kept behind them. -/
def segs (x : List T) (a : Nat) : List Ed → List (T × T × T)
  | [] => []
  | e :: r => ((cut x a e.f.toNat).flatten, (cut x e.f.toNat e.t.toNat).flatten, e.x) :: segs x e.t.toNat r
def rest (x : List T) (a : Nat) : List Ed → T
  | [] => (x.drop a).flatten
  | e :: r => rest x e.t.toNat r
def old (z : T) : List (T × T × T) → T
  | [] => z
  | g :: r => g.1 ++ g.2.1 ++ old z r
def new (z : T) : List (T × T × T) → T
  | [] => z
  | g :: r => g.1 ++ g.2.2 ++ new z r
def sw (l : List (T × T × T)) : List (T × T × T) := l.map fun g => (g.1, g.2.2, g.2.1)
def sp (o o' : Nat) : List (T × T × T) → List Spot
  | [] => []
  | g :: r => ⟨((o + g.1.length : Nat) : Int), ((o + g.1.length + g.2.1.length : Nat) : Int), ((o' + g.1.length : Nat) : Int), g.2.2⟩ :: sp (o + g.1.length + g.2.1.length) (o' + g.1.length + g.2.2.length) r

theorem new_app (x : List T) : ∀ (l : List Ed) (a : Nat), new (rest x a l) (segs x a l) = app x a l := by
  intro l
  induction l with
  | nil => intro a; rfl
  | cons e r ih => intro a; simp only [rest, segs, new, app, ih]
theorem old_all {x : List T} {es : Prop} : ∀ (l : List Ed) (a : Nat) (last : Int), Fits x.length es last l → (last = -1 ∧ a = 0 ∨ last = a) → old (rest x a l) (segs x a l) = (x.drop a).flatten := by
  intro l
  induction l with
  | nil => intro a last _ _; rfl
  | cons e r ih =>
    intro a last hf ha
    obtain ⟨h1, h2, h3, h4, _⟩ := id hf
    simp only [rest, segs, old]
    rw [ih e.t.toNat e.t hf.tail (.inr (by omega)), List.append_assoc, ← List.flatten_append, cut_drop (by omega), ← List.flatten_append, cut_drop (by omega)]
theorem beg_cut {x : List T} {a b : Nat} (h : a ≤ b) : beg x b = beg x a + (cut x a b).flatten.length := by
  unfold beg
  rw [← List.length_append, ← List.flatten_append]
  congr 2
  unfold cut
  have : b = a + (b - a) := by omega
  conv => lhs; rw [this]
  rw [List.take_add]
theorem spots_sp {x : List T} {es : Prop} : ∀ (l : List Ed) (a : Nat) (last : Int) (o' : Nat), Fits x.length es last l → (last = -1 ∧ a = 0 ∨ last = a) → spots x ((o' : Int) - beg x a) l = sp (beg x a) o' (segs x a l) := by
  intro l
  induction l with
  | nil => intro a last o' _ _; rfl
  | cons e r ih =>
    intro a last o' hf ha
    obtain ⟨h1, h2, h3, h4, _⟩ := id hf
    have e1 := beg_cut (x := x) (show a ≤ e.f.toNat by omega)
    have e2 := beg_cut (x := x) (show e.f.toNat ≤ e.t.toNat by omega)
    simp only [spots, segs, sp]
    rw [List.cons.injEq]
    refine ⟨?_, ?_⟩
    · rw [Spot.mk.injEq]
      refine ⟨by rw [e1], by rw [e2, e1], by rw [e1]; omega, rfl⟩
    · rw [← e1, ← e2, ← ih e.t.toNat e.t _ hf.tail (.inr (by omega))]
      congr 1
      rw [e2, e1]; simp only [Int.natCast_add]; omega
theorem spots_segs {x : List T} {es : Prop} {l : List Ed} (h : Fits x.length es (-1) l) : spots x 0 l = sp 0 0 (segs x 0 l) := by
  have := spots_sp l 0 (-1) 0 h (.inl ⟨rfl, rfl⟩)
  simpa [beg] using this

theorem sp_ord : ∀ (g : List (T × T × T)) (o o' : Nat) (z : Nat), z ≤ o → Ord z (sp o o' g) := by
  intro g
  induction g with
  | nil => intro _ _ _ _; trivial
  | cons g r ih => intro o o' z hz; exact ⟨by simp only; omega, by simp only; omega, ih _ _ _ (Nat.le_refl _)⟩
theorem sp_lnk : ∀ (g : List (T × T × T)) (o o' : Nat), Lnk ((o' : Int) - o) (sp o o' g) := by
  intro g
  induction g with
  | nil => intro _ _; trivial
  | cons g r ih =>
    intro o o'
    refine ⟨by simp only [Int.natCast_add]; omega, ?_⟩
    have := ih (o + g.1.length + g.2.1.length) (o' + g.1.length + g.2.2.length)
    have e : ((o' + g.1.length + g.2.2.length : Nat) : Int) - ((o + g.1.length + g.2.1.length : Nat) : Int) = (o' : Int) - o + ((g.2.2.length : Int) - (((o + g.1.length + g.2.1.length : Nat) : Int) - ((o + g.1.length : Nat) : Int))) := by simp only [Int.natCast_add]; omega
    rw [e] at this
    exact this
theorem sp_end : ∀ (g : List (T × T × T)) (z : T) (o o' : Nat), ∀ p ∈ sp o o' g, p.e ≤ ((o + (old z g).length : Nat) : Int) := by
  intro g
  induction g with
  | nil => intro _ _ _ p hp; cases hp
  | cons g r ih =>
    intro z o o' p hp
    simp only [old, List.length_append]
    rcases List.mem_cons.1 hp with rfl | hp
    · simp only [Int.natCast_add]; omega
    · have := ih z _ _ p hp
      simp only [Int.natCast_add] at this ⊢; omega
theorem grow_sp : ∀ (g : List (T × T × T)) (z : T) (o o' : Nat), grow (sp o o' g) = ((new z g).length : Int) - (old z g).length := by
  intro g
  induction g with
  | nil => intro z _ _; simp [grow, sp, new, old]
  | cons g r ih =>
    intro z o o'
    simp only [sp, grow, ih z, new, old, List.length_append, Int.natCast_add]; omega

/-- A byte that is kept. -/
def Kept (z : T) (o n : Nat) : List (T × T × T) → Prop
  | [] => o ≤ n ∧ n < o + z.length
  | g :: r => (o ≤ n ∧ n < o + g.1.length) ∨ Kept z (o + g.1.length + g.2.1.length) n r

theorem Kept.ge {z : T} {n : Nat} : ∀ {l : List (T × T × T)} {o : Nat}, Kept z o n l → o ≤ n := by
  intro l
  induction l with
  | nil => intro o h; exact h.1
  | cons g r ih => intro o h; rcases h with h | h; exact h.1; have := ih h; omega

theorem get_app_left {u v : T} {i : Nat} (h : i < u.length) : (u ++ v)[i]? = u[i]? := List.getElem?_append_left h

/-- A byte that is kept stands where its place moves to; from there it comes back, by what takes the edits back too. -/
theorem kept_moves (z : T) (n : Nat) : ∀ (l : List (T × T × T)) (o o' : Nat), Kept z o n l → ∃ m : Nat, mv n ((o' : Int) - o) (sp o o' l) = m ∧ o' ≤ m ∧ m < o' + (new z l).length ∧ (new z l)[m - o']? = (old z l)[n - o]? ∧ n < o + (old z l).length ∧
    fm m ((o' : Int) - o) (sp o o' l) = ((n : Int), true) ∧ mv m ((o : Int) - o') (sp o' o (sw l)) = n := by
  intro l
  induction l with
  | nil =>
    intro o o' h
    obtain ⟨h1, h2⟩ := h
    refine ⟨o' + (n - o), ?_, by omega, by simp [new]; omega, by simp only [new, old]; congr 1; omega, by simp [old]; omega, ?_, ?_⟩
    · simp only [sp, mv]; omega
    · simp only [sp, fm, Prod.mk.injEq, and_true]; omega
    · simp only [sw, List.map_nil, sp, mv]; omega
  | cons g r ih =>
    intro o o' h
    by_cases hk : n < o + g.1.length
    · have hon : o ≤ n := Kept.ge h
      refine ⟨o' + (n - o), ?_, by omega, by simp only [new, List.length_append]; omega, ?_, by simp only [old, List.length_append]; omega, ?_, ?_⟩
      · simp only [sp, mv]
        rw [if_pos (by omega)]; omega
      · simp only [new, old, List.append_assoc]
        rw [get_app_left (by omega), get_app_left (by omega)]; congr 1; omega
      · simp only [sp, fm]
        rw [if_pos (by omega)]
        simp only [Prod.mk.injEq, and_true]; omega
      · simp only [sw, List.map_cons, sp, mv]
        rw [if_pos (by omega)]; omega
    · have h' : Kept z (o + g.1.length + g.2.1.length) n r := by
        rcases h with h | h
        · omega
        · exact h
      have hge := h'.ge
      obtain ⟨m, a1, a2, a3, a4, a5, a6, a7⟩ := ih (o + g.1.length + g.2.1.length) (o' + g.1.length + g.2.2.length) h'
      refine ⟨m, ?_, by omega, by simp only [new, List.length_append]; omega, ?_, by simp only [old, List.length_append]; omega, ?_, ?_⟩
      · simp only [sp, mv]
        rw [if_neg (by omega), if_neg (by omega), ← a1]
        congr 1; simp only [Int.natCast_add]; omega
      · simp only [new, old]
        rw [List.getElem?_append_right (by simp; omega), List.getElem?_append_right (by simp; omega)]
        have e1 : m - o' - (g.1 ++ g.2.2).length = m - (o' + g.1.length + g.2.2.length) := by simp; omega
        have e2 : n - o - (g.1 ++ g.2.1).length = n - (o + g.1.length + g.2.1.length) := by simp; omega
        rw [e1, e2]; exact a4
      · simp only [sp, fm]
        rw [if_neg (by omega), if_neg (by omega), ← a6]
        congr 1; simp only [Int.natCast_add]; omega
      · simp only [sw, List.map_cons, sp, mv]
        rw [if_neg (by omega), if_neg (by omega)]
        rw [show (((o : Int) - o') + ((g.2.1.length : Int) - (((o' + g.1.length + g.2.2.length : Nat) : Int) - ((o' + g.1.length : Nat) : Int)))) = ((o + g.1.length + g.2.1.length : Nat) : Int) - ((o' + g.1.length + g.2.2.length : Nat) : Int) by simp only [Int.natCast_add]; omega]
        exact a7

theorem mv_bound (z : T) : ∀ (l : List (T × T × T)) (o o' : Nat) (n : Nat), o ≤ n → n ≤ o + (old z l).length → (o' : Int) ≤ mv n ((o' : Int) - o) (sp o o' l) ∧ mv n ((o' : Int) - o) (sp o o' l) ≤ ((o' + (new z l).length : Nat) : Int) := by
  intro l
  induction l with
  | nil => intro o o' n h1 h2; simp only [sp, mv, new, old] at h2 ⊢; omega
  | cons g r ih =>
    intro o o' n h1 h2
    simp only [sp, mv, new, old, List.length_append] at h2 ⊢
    split
    · omega
    · split
      · omega
      · have := ih (o + g.1.length + g.2.1.length) (o' + g.1.length + g.2.2.length) n (by omega) (by omega)
        rw [show (((o' + g.1.length + g.2.2.length : Nat) : Int) - ((o + g.1.length + g.2.1.length : Nat) : Int)) = ((o' : Int) - o) + ((g.2.2.length : Int) - (((o + g.1.length + g.2.1.length : Nat) : Int) - ((o + g.1.length : Nat) : Int))) by simp only [Int.natCast_add]; omega] at this
        omega

theorem mv_mono (z : T) : ∀ (l : List (T × T × T)) (o o' : Nat) (a b : Nat), o ≤ a → a ≤ b → b ≤ o + (old z l).length → mv a ((o' : Int) - o) (sp o o' l) ≤ mv b ((o' : Int) - o) (sp o o' l) := by
  intro l
  induction l with
  | nil => intro o o' a b h1 h2 h3; simp only [sp, mv]; omega
  | cons g r ih =>
    intro o o' a b h1 h2 h3
    have e : ((o' : Int) - o) + ((g.2.2.length : Int) - (((o + g.1.length + g.2.1.length : Nat) : Int) - ((o + g.1.length : Nat) : Int))) = (((o' + g.1.length + g.2.2.length : Nat) : Int) - ((o + g.1.length + g.2.1.length : Nat) : Int)) := by simp only [Int.natCast_add]; omega
    simp only [sp, mv, old, List.length_append] at h3 ⊢
    rw [e]
    by_cases c : b < o + g.1.length + g.2.1.length
    · by_cases c2 : b < o + g.1.length
      · rw [if_pos (by omega), if_pos (by omega)]; omega
      · rw [if_neg (show ¬ (b : Int) < ((o + g.1.length : Nat) : Int) by omega), if_pos (show (b : Int) < ((o + g.1.length + g.2.1.length : Nat) : Int) by omega)]
        split
        · omega
        · rw [if_pos (by omega)]; omega
    · rw [if_neg (show ¬ (b : Int) < ((o + g.1.length : Nat) : Int) by omega), if_neg (show ¬ (b : Int) < ((o + g.1.length + g.2.1.length : Nat) : Int) by omega)]
      have hb := mv_bound z r (o + g.1.length + g.2.1.length) (o' + g.1.length + g.2.2.length) b (by omega) (by omega)
      split
      · omega
      · split
        · omega
        · exact ih _ _ a b (by omega) h2 (by omega)

/-- Each place of a range that is kept is a byte that is kept. -/
theorem kp_kept (z : T) : ∀ (l : List (T × T × T)) (o o' : Nat) (a : Nat), a ≤ o → ∀ q ∈ kp a ((o + (old z l).length : Nat) : Int) (sp o o' l), ∃ u v : Nat, q.1 = u ∧ q.2 = v ∧ v ≤ o + (old z l).length ∧ ∀ i : Nat, u ≤ i → i < v → (a ≤ i ∧ i < o) ∨ Kept z o i l := by
  intro l
  induction l with
  | nil =>
    intro o o' a ha q hq
    simp only [sp, kp, old] at hq
    split at hq
    · simp only [List.mem_singleton] at hq
      subst hq
      refine ⟨a, o + z.length, rfl, rfl, Nat.le_refl _, fun i h1 h2 => ?_⟩
      by_cases h : i < o
      · exact .inl ⟨h1, h⟩
      · exact .inr ⟨by omega, h2⟩
    · cases hq
  | cons g r ih =>
    intro o o' a ha q hq
    have hl : o + (old z (g :: r)).length = (o + g.1.length + g.2.1.length) + (old z r).length := by simp only [old, List.length_append]; omega
    rw [hl] at hq ⊢
    simp only [sp, kp] at hq
    split at hq
    · next hc =>
      obtain ⟨u, v, e1, e2, e3, e4⟩ := ih _ _ a (by omega) q hq
      refine ⟨u, v, e1, e2, e3, fun i h1 h2 => ?_⟩
      rcases e4 i h1 h2 with h | h
      · by_cases h' : i < o
        · exact .inl ⟨h.1, h'⟩
        · exact .inr (.inl ⟨by omega, by omega⟩)
      · exact .inr (.inr h)
    · next hc =>
      rcases List.mem_append.1 hq with hq | hq
      · split at hq
        · simp only [List.mem_singleton] at hq
          subst hq
          refine ⟨a, o + g.1.length, rfl, rfl, by omega, fun i h1 h2 => ?_⟩
          by_cases h : i < o
          · exact .inl ⟨h1, h⟩
          · exact .inr (.inl ⟨by omega, h2⟩)
        · cases hq
      · obtain ⟨u, v, e1, e2, e3, e4⟩ := ih _ _ (o + g.1.length + g.2.1.length) (Nat.le_refl _) q hq
        refine ⟨u, v, e1, e2, e3, fun i h1 h2 => ?_⟩
        rcases e4 i h1 h2 with h | h
        · omega
        · exact .inr (.inr h)

/-- Ranges that rise, behind last, up to n. -/
def Rises (last n : Int) : List (Int × Int) → Prop
  | [] => True
  | q :: r => last < q.1 ∧ q.1 < q.2 ∧ q.2 ≤ n ∧ Rises q.2 n r
def many : List (Int × Int) → Int
  | [] => 0
  | q :: r => (q.2 - q.1) + many r
theorem many_append (a b : List (Int × Int)) : many (a ++ b) = many a + many b := by
  induction a with
  | nil => simp [many]
  | cons q r ih => simp only [List.cons_append, many, ih]; omega
theorem kp_rises (z : T) : ∀ (l : List (T × T × T)) (o o' : Nat) (a : Nat) (last : Int), last < a → a ≤ o → Rises last ((o + (old z l).length : Nat) : Int) (kp a ((o + (old z l).length : Nat) : Int) (sp o o' l)) := by
  intro l
  induction l with
  | nil =>
    intro o o' a last h1 h2
    simp only [sp, kp, old]
    split
    · exact ⟨h1, by omega, by simp, trivial⟩
    · trivial
  | cons g r ih =>
    intro o o' a last h1 h2
    have hl : o + (old z (g :: r)).length = (o + g.1.length + g.2.1.length) + (old z r).length := by simp only [old, List.length_append]; omega
    rw [hl]
    simp only [sp, kp]
    split
    · exact ih _ _ a last h1 (by omega)
    · split
      · exact ⟨h1, by omega, by simp only; omega, ih _ _ _ _ (by simp only; omega) (Nat.le_refl _)⟩
      · exact ih _ _ _ _ (by omega) (Nat.le_refl _)
def keeps (z : T) : List (T × T × T) → Nat
  | [] => z.length
  | g :: r => g.1.length + keeps z r
def cuts : List (T × T × T) → Nat
  | [] => 0
  | g :: r => g.2.1.length + cuts r
def puts : List (T × T × T) → Nat
  | [] => 0
  | g :: r => g.2.2.length + puts r
theorem kp_many (z : T) : ∀ (l : List (T × T × T)) (o o' : Nat) (a : Nat), a ≤ o → many (kp a ((o + (old z l).length : Nat) : Int) (sp o o' l)) = ((o - a + keeps z l : Nat) : Int) := by
  intro l
  induction l with
  | nil =>
    intro o o' a h
    simp only [sp, kp, old, keeps]
    split
    · simp only [many]; omega
    · simp only [many]; omega
  | cons g r ih =>
    intro o o' a h
    have hl : o + (old z (g :: r)).length = (o + g.1.length + g.2.1.length) + (old z r).length := by simp only [old, List.length_append]; omega
    rw [hl]
    simp only [sp, kp, keeps]
    split
    · rw [ih _ _ a (by omega)]; omega
    · rw [many_append, ih _ _ _ (Nat.le_refl _)]
      split
      · simp only [many]; omega
      · simp only [many]; omega
theorem old_length (z : T) : ∀ (l : List (T × T × T)), (old z l).length = keeps z l + cuts l := by
  intro l
  induction l with
  | nil => simp [old, keeps, cuts]
  | cons g r ih => simp only [old, keeps, cuts, List.length_append, ih]; omega
theorem new_length (z : T) : ∀ (l : List (T × T × T)), (new z l).length = keeps z l + puts l := by
  intro l
  induction l with
  | nil => simp [new, keeps, puts]
  | cons g r ih => simp only [new, keeps, puts, List.length_append, ih]; omega

/-- What takes edits back has the same parts, what goes out and what comes in the other way about. -/
theorem segs_back {x : List T} (hx : Good x) {es : Prop} : ∀ (l : List Ed) (a : Nat) (last : Int) (pre : List T) (more : Int),
    Fits x.length es last l → Ahead a last pre → (pre.length : Int) = a + more → a ≤ x.length →
    segs (pre ++ appL x a l) pre.length (backs x more l) = sw (segs x a l) ∧ rest (pre ++ appL x a l) pre.length (backs x more l) = rest x a l := by
  intro l
  induction l with
  | nil =>
    intro a last pre more _ _ _ _
    simp [backs, appL, segs, rest, sw]
  | cons e r ih =>
    intro a last pre more hf ha hp hal
    obtain ⟨h1, h2, h3, h4, h5, h6, h7⟩ := id hf
    obtain ⟨f, hfe⟩ : ∃ f : Nat, e.f = f := ⟨e.f.toNat, by omega⟩
    obtain ⟨t, hte⟩ : ∃ t : Nat, e.t = t := ⟨e.t.toNat, by omega⟩
    have hft : e.f.toNat = f := by omega
    have htt : e.t.toNat = t := by omega
    have haf : a ≤ f := by rcases ha with ⟨_, h, _⟩ | h <;> omega
    have hfl : f ≤ t := by omega
    have htl : t ≤ x.length := by omega
    have hPl : (cut x a f).length = f - a := cut_length haf (by omega)
    have hassoc : pre ++ appL x a (e :: r) = (pre ++ cut x a f ++ lines e.x) ++ appL x t r := by
      simp [appL, hft, htt, List.append_assoc]
    have hpl : ((pre ++ cut x a f ++ lines e.x).length : Int) = (t : Int) + (more + ((lines e.x).length - (e.t - e.f))) := by
      simp only [List.length_append, hPl]; omega
    have h7' : Fits x.length es (t : Int) r := by rw [← hte]; exact h7
    have key := ih t (t : Int) (pre ++ cut x a f ++ lines e.x) (more + ((lines e.x).length - (e.t - e.f))) h7' (.inr rfl) hpl htl
    rw [← hassoc] at key
    obtain ⟨k1, k2⟩ := key
    obtain ⟨y, hy⟩ : ∃ y, pre ++ appL x a (e :: r) = y := ⟨_, rfl⟩
    rw [hy] at k1 k2 ⊢
    have hfm : (e.f + more) = ((pre.length + (f - a) : Nat) : Int) := by omega
    have htm : (e.f + more + (lines e.x).length) = ((pre.length + (f - a) + (lines e.x).length : Nat) : Int) := by omega
    have hcut1 : cut y pre.length (pre.length + (f - a)) = cut x a f := by
      rw [← hy, hassoc, List.append_assoc]
      exact cut_mid rfl (by rw [hPl])
    have hcut2 : cut y (pre.length + (f - a)) (pre.length + (f - a) + (lines e.x).length) = lines e.x := by
      rw [← hy, hassoc]
      exact cut_mid (by simp [hPl]) (by simp [hPl])
    have hlen : pre.length + (f - a) + (lines e.x).length = (pre ++ cut x a f ++ lines e.x).length := by simp only [List.length_append, hPl]
    simp only [backs, segs, rest, sw, List.map_cons, hft, htt]
    rw [htm, hfm]
    simp only [Int.toNat_natCast]
    rw [hcut1, hcut2, lines_flat, hlen, k1, k2]
    exact ⟨rfl, rfl⟩

end Go.Proofs.Ytnijaleedbmljaa.Pl
