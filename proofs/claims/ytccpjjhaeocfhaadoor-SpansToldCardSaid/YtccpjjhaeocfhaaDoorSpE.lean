/- Sets of lines, in plain Lean: the text of a set says it. -/
import Derived.Test.YtccpjjhaeocfhaaDoorSpansOrders
set_option linter.unusedVariables false
set_option linter.unusedSimpArgs false
namespace Go.Proofs.YtccpjjhaeocfhaaDoor
open Go
namespace Sp

theorem dd_small {u : Nat} (h : u < 10) : Lib.decDigits u = [UInt8.ofNat (48 + u)] := by unfold Lib.decDigits; rw [dif_pos h]
theorem dd_big {u : Nat} (h : ¬ u < 10) : Lib.decDigits u = Lib.decDigits (u / 10) ++ [UInt8.ofNat (48 + u % 10)] := by
  conv => lhs; unfold Lib.decDigits
  rw [dif_neg h]
theorem dig_nat {d : Nat} (h : d < 10) : (UInt8.ofNat (48 + d)).toNat = 48 + d := by
  rw [UInt8.toNat_ofNat']; omega
theorem dig_is {d : Nat} (h : d < 10) : isDig (UInt8.ofNat (48 + d)) = true := by
  unfold isDig; rw [dig_nat h]; simp; omega
theorem dd_all (u : Nat) : (Lib.decDigits u).all isDig = true := by
  induction u using Nat.strongRecOn with
  | ind u ih =>
    by_cases h : u < 10
    · rw [dd_small h, List.all_cons, dig_is h]; rfl
    · rw [dd_big h, List.all_append, ih (u / 10) (by omega), List.all_cons, dig_is (show u % 10 < 10 by omega)]; rfl
theorem dd_worth (u : Nat) : worth (Lib.decDigits u) = u := by
  induction u using Nat.strongRecOn with
  | ind u ih =>
    by_cases h : u < 10
    · rw [dd_small h]
      simp only [worth, List.foldl_cons, List.foldl_nil]
      rw [dig_nat h]; omega
    · rw [dd_big h, worth_snoc, ih (u / 10) (by omega), dig_nat (show u % 10 < 10 by omega)]
      omega
theorem dd_ne (u : Nat) : Lib.decDigits u ≠ [] := by
  by_cases h : u < 10
  · rw [dd_small h]; simp
  · rw [dd_big h]; simp
theorem dd_len : ∀ (k u : Nat), u < 10 ^ (k + 1) → (Lib.decDigits u).length ≤ k + 1 := by
  intro k
  induction k with
  | zero => intro u h; rw [dd_small (by simpa using h)]; simp
  | succ k ih =>
    intro u h
    by_cases h2 : u < 10
    · rw [dd_small h2]; simp
    · rw [dd_big h2, List.length_append]
      have := ih (u / 10) (by have : 10 ^ (k + 1 + 1) = 10 ^ (k + 1) * 10 := Nat.pow_succ ..; omega)
      simp; omega
theorem dd_head {u : Nat} (h : 1 ≤ u) : (Lib.decDigits u)[0]? ≠ some 48 := by
  induction u using Nat.strongRecOn with
  | ind u ih =>
    by_cases h2 : u < 10
    · rw [dd_small h2]
      simp only [List.getElem?_cons_zero, ne_eq, Option.some.injEq]
      intro e
      have := congrArg UInt8.toNat e
      rw [dig_nat h2] at this
      have h3 : (48 : UInt8).toNat = 48 := rfl
      omega
    · rw [dd_big h2, List.getElem?_append_left (List.length_pos_iff.2 (dd_ne _))]
      exact ih (u / 10) (by omega) (by omega)
theorem itoa_nat {n : Int} (h : 0 ≤ n) : Lib.itoa n = Lib.decDigits n.toNat := by unfold Lib.itoa; rw [if_neg (by omega)]
theorem num_itoa {n : Int} (h : 1 ≤ n) (h2 : n ≤ 65536) : num (Lib.itoa n) = n := by
  rw [itoa_nat (by omega)]
  unfold num
  have h3 := dd_len 4 n.toNat (by omega)
  rw [if_neg (by
    rintro (e | e | e)
    · exact dd_ne _ e
    · omega
    · exact dd_head (by omega) e), if_pos (dd_all _), dd_worth, if_neg (by omega)]
  omega
theorem notin_dd {c : UInt8} (hc : isDig c = false) (u : Nat) : c ∉ Lib.decDigits u := by
  intro h
  have := List.all_eq_true.1 (dd_all u) c h
  rw [hc] at this; cases this
theorem notin_itoa {c : UInt8} (hc : isDig c = false) {n : Int} (h : 0 ≤ n) : c ∉ Lib.itoa n := by rw [itoa_nat h]; exact notin_dd hc _

theorem idx_no {c : UInt8} {t : T} (h : c ∉ t) : Lib.indexByte t c = -1 := by
  by_cases e : Lib.indexByte t c = -1
  · exact e
  · obtain ⟨j, hj⟩ : ∃ j : Nat, Lib.indexByte t c = j := ⟨(Lib.indexByte t c).toNat, by have := Lib.indexByte_ge t c; omega⟩
    exact absurd (List.mem_of_getElem? (idx_some hj).2.2) h
theorem idx_at {c : UInt8} {p q : T} (h : c ∉ p) : Lib.indexByte (p ++ c :: q) c = (p.length : Int) := by
  have hm : ¬ Lib.indexByte (p ++ c :: q) c = -1 := fun e => idx_none e (by simp)
  obtain ⟨j, hj⟩ : ∃ j : Nat, Lib.indexByte (p ++ c :: q) c = j := ⟨(Lib.indexByte (p ++ c :: q) c).toNat, by have := Lib.indexByte_ge (p ++ c :: q) c; omega⟩
  obtain ⟨h1, h2, h3⟩ := idx_some hj
  rw [hj]
  by_cases h4 : j < p.length
  · rw [List.getElem?_append_left h4] at h3
    exact absurd (List.mem_of_getElem? h3) h
  · by_cases h5 : p.length < j
    · exfalso
      apply h2
      rw [List.take_append, List.mem_append]
      right
      obtain ⟨d, hd⟩ : ∃ d, j - p.length = d + 1 := ⟨j - p.length - 1, by omega⟩
      rw [hd]; simp
    · omega
theorem spl_cons {c : UInt8} {p q : T} (h : c ∉ p) : spl c (p ++ c :: q) = p :: spl c q := by
  have := spl_some (idx_at (q := q) h)
  rw [this]
  congr 1
  · simp
  · congr 1
    rw [show p ++ c :: q = (p ++ [c]) ++ q by simp]
    rw [List.drop_append]; simp

theorem piece_44 {r : R} (h0 : 0 ≤ r.1) (h1 : r.1 < r.2) : (44 : UInt8) ∉ piece r := by
  unfold piece
  have e : isDig 44 = false := rfl
  rw [List.mem_append]
  rintro (h | h)
  · exact notin_itoa e (by omega) h
  · split at h
    · rcases List.mem_cons.1 h with h | h
      · cases h
      · exact notin_itoa e (by omega) h
    · simp at h
theorem piece_ne (r : R) (h0 : 0 ≤ r.1) : piece r ≠ [] := by
  unfold piece
  rw [itoa_nat (by omega)]
  intro e
  exact dd_ne _ (List.append_eq_nil_iff.1 e).1
theorem piece_says {r : R} (h0 : 0 ≤ r.1) (h1 : r.1 < r.2) (h2 : r.2 ≤ 65536) : pR (piece r) = r ∧ pOk (piece r) = true := by
  have e45 : isDig 45 = false := rfl
  have n45 : (45 : UInt8) ∉ Lib.itoa (r.1 + 1) := notin_itoa e45 (by omega)
  have hlo : lo (piece r) = r.1 + 1 ∧ hi (piece r) = r.2 := by
    unfold piece
    by_cases hd : 1 < r.2 - r.1
    · rw [if_pos hd]
      have hi' := idx_at (q := Lib.itoa r.2) n45
      have hne : ¬ Lib.indexByte (Lib.itoa (r.1 + 1) ++ 45 :: Lib.itoa r.2) 45 = -1 := by rw [hi']; omega
      have hA : cutA (Lib.itoa (r.1 + 1) ++ 45 :: Lib.itoa r.2) = Lib.itoa (r.1 + 1) := by unfold cutA; rw [if_neg hne, hi']; simp
      have hB : cutB (Lib.itoa (r.1 + 1) ++ 45 :: Lib.itoa r.2) = Lib.itoa r.2 := by
        unfold cutB; rw [if_neg hne, hi', Int.toNat_natCast, show Lib.itoa (r.1 + 1) ++ 45 :: Lib.itoa r.2 = (Lib.itoa (r.1 + 1) ++ [45]) ++ Lib.itoa r.2 by simp, List.drop_append]
        simp
      have hT : cutT (Lib.itoa (r.1 + 1) ++ 45 :: Lib.itoa r.2) = true := by unfold cutT; simp [hne]
      unfold lo hi
      rw [if_pos hT, hA, hB, num_itoa (by omega) (by omega), num_itoa (by omega) (by omega)]
      exact ⟨rfl, rfl⟩
    · rw [if_neg hd, List.append_nil]
      have hi' := idx_no n45
      have hA : cutA (Lib.itoa (r.1 + 1)) = Lib.itoa (r.1 + 1) := by unfold cutA; rw [if_pos hi']
      have hT : ¬ cutT (Lib.itoa (r.1 + 1)) = true := by unfold cutT; rw [hi']; simp
      unfold lo hi
      rw [if_neg hT, hA, num_itoa (by omega) (by omega)]
      exact ⟨rfl, by omega⟩
  refine ⟨?_, (pOk_iff _).2 (by rw [hlo.1, hlo.2]; omega)⟩
  unfold pR
  rw [hlo.1, hlo.2]
  obtain ⟨a, b⟩ := r
  simp only [Prod.mk.injEq, and_true]
  omega
theorem spl_text {r : R} {l : List R} (h : ∀ q ∈ r :: l, 0 ≤ q.1 ∧ q.1 < q.2 ∧ q.2 ≤ 65536) : spl 44 (textL (r :: l)) = (r :: l).map piece := by
  induction l generalizing r with
  | nil =>
    have hr := h r (by simp)
    simp only [textL, List.flatMap_nil, List.append_nil, List.map_cons, List.map_nil]
    exact spl_no (piece_44 hr.1 hr.2.1)
  | cons q t ih =>
    have hr := h r (by simp)
    have e : textL (r :: q :: t) = piece r ++ 44 :: textL (q :: t) := by simp [textL]
    rw [e, spl_cons (piece_44 hr.1 hr.2.1), ih (fun x hx => h x (by simp [hx]))]
    rfl
theorem text_parse {a : List R} (ha : ok a = true) : parseL (textL a) = a ∧ parseE (textL a) = 0 := by
  cases a with
  | nil => exact ⟨rfl, rfl⟩
  | cons r l =>
    have hin : ∀ q ∈ r :: l, 0 ≤ q.1 ∧ q.1 < q.2 ∧ q.2 ≤ 65536 := fun q hq => by have := okFrom_mem ha q hq; exact ⟨this.2.1, this.2.2.1, this.2.2.2⟩
    have hs := spl_text hin
    have hne : textL (r :: l) ≠ [] := by
      have := piece_ne r (hin r (by simp)).1
      intro e
      exact this (List.append_eq_nil_iff.1 (show piece r ++ l.flatMap (fun q => 44 :: piece q) = [] from e)).1
    have hright : rightT (textL (r :: l)) = true := by
      rw [rightT_iff, hs]
      intro x hx
      obtain ⟨q, hq, rfl⟩ := List.mem_map.1 hx
      have := hin q hq
      exact (piece_says this.1 this.2.1 this.2.2).2
    have hmap : ((r :: l).map piece).map pR = r :: l := by
      rw [List.map_map]
      conv => rhs; rw [← List.map_id (r :: l)]
      exact List.map_congr_left (fun q hq => by have := hin q hq; exact (piece_says this.1 this.2.1 this.2.2).1)
    unfold parseL parseE
    rw [if_neg hne, if_pos hright, if_neg hne, if_pos hright, hs, hmap]
    exact ⟨setOf_has ha, rfl⟩
theorem textL_len (a : List R) (h : ok a = true) : (textL a).length ≤ a.length * 140000 := by
  have hp : ∀ r ∈ a, (piece r).length ≤ 139999 := fun r hr => by
    have := okFrom_mem h r hr
    unfold piece
    have s1 := itoa_le (n := r.1 + 1) (by omega) (by omega)
    have s2 := itoa_le (n := r.2) (by omega) (by omega)
    rw [List.length_append]
    split <;> simp <;> omega
  cases a with
  | nil => simp [textL]
  | cons r l =>
    have hf : ∀ l : List R, (∀ q ∈ l, (piece q).length ≤ 139999) → (l.flatMap fun q => 44 :: piece q).length ≤ l.length * 140000 := by
      intro l
      induction l with
      | nil => simp
      | cons q t ih =>
        intro hq
        have h1 := hq q (by simp)
        have h2 := ih (fun x hx => hq x (by simp [hx]))
        rw [List.flatMap_cons, List.length_append]
        simp only [List.length_cons]
        omega
    have h1 := hp r (by simp)
    have h2 := hf l (fun q hq => hp q (by simp [hq]))
    simp only [textL, List.length_append, List.length_cons]
    omega

end Sp
theorem notL_ok {a : List Sp.R} {n : Int} (h : notOk a n) : Sp.ok (notL a n) = true := by rw [notL_yes h]; exact Sp.setOf_ok _ (by have := h.2; omega)
theorem notL_has {a : List Sp.R} {n : Int} (h : notOk a n) (i : Int) : Sp.has (notL a n) i = (decide (0 ≤ i) && decide (i < n) && !(Sp.has a i)) := by
  rw [notL_yes h, Sp.has_setOf _ (by have := h.2; omega)]
  have e : ((n.toNat : Nat) : Int) = n := Int.toNat_of_nonneg h.2.1
  rw [e]
  by_cases h0 : 0 ≤ i
  · rw [Int.toNat_of_nonneg h0]
  · rw [decide_eq_false h0]; simp
theorem not_not {a : List Sp.R} {n : Int} (h : notOk a n) (hn : 1 ≤ n) : notL (notL a n) n = bothL true a [(0, n)] := by
  have h1 : notOk (notL a n) n := ⟨notL_ok h, h.2⟩
  have h2 : Sp.ok [((0 : Int), n)] = true := ok_one (by omega) (by omega) h.2.2
  refine set_ext (notL_ok h1) (both_ok h.1 h2) (fun i => ?_)
  rw [notL_has h1, notL_has h, both_has h.1 h2]
  simp only [Sp.has, List.any_cons, List.any_nil, Bool.or_false, cmb, if_true]
  cases a.any (fun r => decide (r.1 ≤ i) && decide (i < r.2)) <;> cases decide (0 ≤ i) <;> cases decide (i < n) <;> rfl
theorem not_not0 {a : List Sp.R} (h : notOk a 0) : notL (notL a 0) 0 = [] := by
  have h1 : notOk (notL a 0) 0 := ⟨notL_ok h, h.2⟩
  rw [notL_yes h1]; rfl
theorem morgan {a b : List Sp.R} {n : Int} (h : notOk a n) (g : notOk b n) : notL (bothL false (notL a n) (notL b n)) n = bothL true (notL (notL a n) n) b := by
  have h1 : notOk (notL a n) n := ⟨notL_ok h, h.2⟩
  have k : Sp.ok (bothL false (notL a n) (notL b n)) = true := both_ok (notL_ok h) (notL_ok g)
  refine set_ext (notL_ok ⟨k, h.2⟩) (both_ok (notL_ok h1) g.1) (fun i => ?_)
  rw [notL_has ⟨k, h.2⟩, both_has (notL_ok h) (notL_ok g), notL_has h, notL_has g, both_has (notL_ok h1) g.1, notL_has h1, notL_has h]
  simp only [cmb, if_true]
  cases Sp.has a i <;> cases Sp.has b i <;> cases decide (0 ≤ i) <;> cases decide (i < n) <;> rfl

end Go.Proofs.YtccpjjhaeocfhaaDoor
