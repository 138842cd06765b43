/- The plain law of places of lines and columns (no program in sight). -/
import Derived.Test.YtnijaleedbmljaaPlE
import Derived.Test.YtnijaleedbmljaaPlF
namespace Go.Proofs.Ytnijaleedbmljaa.Pl
set_option linter.unusedVariables false
open Go

/-- The place of a line and column. -/
def atP (t : T) : Nat → Nat → Option Nat
  | 0, c => if (if Lib.indexByte t 10 < 0 then t.length else (Lib.indexByte t 10).toNat) < c then none else some c
  | l + 1, c => if Lib.indexByte t 10 < 0 then none else (atP (t.drop ((Lib.indexByte t 10).toNat + 1)) l c).map (· + ((Lib.indexByte t 10).toNat + 1))

theorem fold_lc (k : Nat) : ∀ (v : T) (p : Nat × Nat), v.foldl lcStep (k + p.1, p.2) = (k + (v.foldl lcStep p).1, (v.foldl lcStep p).2) := by
  intro v
  induction v with
  | nil => intro p; rfl
  | cons c v ih =>
    intro p
    simp only [List.foldl_cons]
    by_cases hc : c = 10
    · have e1 : lcStep (k + p.1, p.2) c = (k + (lcStep p c).1, (lcStep p c).2) := by simp [lcStep, hc]; omega
      rw [e1, ih]
    · have e1 : lcStep (k + p.1, p.2) c = (k + (lcStep p c).1, (lcStep p c).2) := by simp [lcStep, hc]
      rw [e1, ih]
theorem lc_append {u v : T} {k : Nat} (h : lc u = (k, 0)) : lc (u ++ v) = (k + (lc v).1, (lc v).2) := by
  unfold lc at h ⊢
  rw [List.foldl_append, h]
  exact fold_lc k v (0, 0)
theorem lc_flat {u : T} (h : (10 : UInt8) ∉ u) : lc u = (0, u.length) := by
  revert h
  refine rev_ind (P := fun u => (10 : UInt8) ∉ u → lc u = (0, u.length)) (fun _ => rfl) ?_ u
  intro s c ih h
  simp only [List.mem_append, List.mem_singleton, not_or] at h
  rw [lc_snoc, ih h.1]
  have : c ≠ 10 := fun e => h.2 e.symm
  simp [lcStep, this]
theorem not_mem_take {t : T} {a n : Nat} (h : (10 : UInt8) ∉ t.take n) (ha : a ≤ n) : (10 : UInt8) ∉ t.take a := fun hm => h (by
  rw [← Nat.min_eq_left ha, ← List.take_take] at hm
  exact List.mem_of_mem_take hm)
theorem take_cut {t : T} {a n : Nat} (h : n < a) (hl : t[n]? = some 10) : t.take a = (t.take n ++ [10]) ++ (t.drop (n + 1)).take (a - (n + 1)) := by
  have h1 : n < t.length := (List.getElem?_eq_some_iff.1 hl).1
  have h2 : t.take n ++ [10] = t.take (n + 1) := by
    rw [List.take_succ_eq_append_getElem h1]
    rw [List.getElem?_eq_getElem h1] at hl
    simp only [Option.some.injEq] at hl
    rw [hl]
  rw [h2]
  have : a = (n + 1) + (a - (n + 1)) := by omega
  conv => lhs; rw [this]
  rw [List.take_add]
theorem lc_line {t : T} {n a : Nat} (h : (10 : UInt8) ∉ t.take n) (hl : t[n]? = some 10) (ha : n < a) : lc (t.take a) = (1 + (lc ((t.drop (n + 1)).take (a - (n + 1)))).1, (lc ((t.drop (n + 1)).take (a - (n + 1)))).2) := by
  have hn := (List.getElem?_eq_some_iff.1 hl).1
  rw [take_cut ha hl]
  refine lc_append ?_
  rw [lc_snoc, lc_flat h]
  simp [lcStep]

theorem atP_iff : ∀ (l : Nat) (t : T) (c a : Nat), atP t l c = some a ↔ a ≤ t.length ∧ lc (t.take a) = (l, c) := by
  intro l
  induction l with
  | zero =>
    intro t c a
    unfold atP
    by_cases hi : Lib.indexByte t 10 < 0
    · have hno : (10 : UInt8) ∉ t := idx_none (by have := Lib.indexByte_ge t 10; omega)
      rw [if_pos hi]
      have hlc : ∀ a, lc (t.take a) = (0, (t.take a).length) := fun a => lc_flat (fun hm => hno (List.mem_of_mem_take hm))
      rw [hlc, List.length_take]
      split
      · constructor
        · intro h; cases h
        · rintro ⟨h1, h2⟩; simp only [Prod.mk.injEq, true_and] at h2; omega
      · simp only [Option.some.injEq, Prod.mk.injEq, true_and]; omega
    · obtain ⟨n, hn⟩ : ∃ n : Nat, Lib.indexByte t 10 = n := ⟨(Lib.indexByte t 10).toNat, by omega⟩
      obtain ⟨h1, h2, h3⟩ := idx_some hn
      rw [if_neg hi, hn, Int.toNat_natCast]
      by_cases ha : a ≤ n
      · rw [lc_flat (not_mem_take h2 ha), List.length_take]
        split
        · constructor
          · intro h; cases h
          · rintro ⟨_, h⟩; simp only [Prod.mk.injEq, true_and] at h; omega
        · simp only [Option.some.injEq, Prod.mk.injEq, true_and]; omega
      · rw [lc_line h2 h3 (by omega)]
        split
        · constructor
          · intro h; cases h
          · rintro ⟨_, h⟩; simp only [Prod.mk.injEq] at h; omega
        · simp only [Option.some.injEq, Prod.mk.injEq]; omega
  | succ l ih =>
    intro t c a
    unfold atP
    by_cases hi : Lib.indexByte t 10 < 0
    · have hno : (10 : UInt8) ∉ t := idx_none (by have := Lib.indexByte_ge t 10; omega)
      rw [if_pos hi, lc_flat (fun hm => hno (List.mem_of_mem_take hm))]
      simp
    · obtain ⟨n, hn⟩ : ∃ n : Nat, Lib.indexByte t 10 = n := ⟨(Lib.indexByte t 10).toNat, by omega⟩
      obtain ⟨h1, h2, h3⟩ := idx_some hn
      rw [if_neg hi, hn, Int.toNat_natCast]
      by_cases ha : a ≤ n
      · rw [lc_flat (not_mem_take h2 ha)]
        constructor
        · intro h
          rw [Option.map_eq_some_iff] at h
          obtain ⟨b, _, hb⟩ := h
          omega
        · rintro ⟨_, h⟩; simp at h
      · rw [lc_line h2 h3 (by omega)]
        have key := ih (t.drop (n + 1)) c (a - (n + 1))
        rw [List.length_drop] at key
        constructor
        · intro h
          rw [Option.map_eq_some_iff] at h
          obtain ⟨b, hb1, hb2⟩ := h
          have hb3 : b = a - (n + 1) := by omega
          subst hb3
          obtain ⟨k1, k2⟩ := key.1 hb1
          refine ⟨by omega, ?_⟩
          rw [k2]; simp only [Prod.mk.injEq, and_true]; omega
        · rintro ⟨k1, k2⟩
          simp only [Prod.mk.injEq] at k2
          rw [key.2 ⟨by omega, by rw [Prod.ext_iff]; exact ⟨by simp only; omega, k2.2⟩⟩]
          simp only [Option.map_some, Option.some.injEq]; omega

theorem lc_take_succ {t : T} {a : Nat} {c : UInt8} (h : t[a]? = some c) : lc (t.take (a + 1)) = lcStep (lc (t.take a)) c := by
  have h1 := (List.getElem?_eq_some_iff.1 h).1
  rw [List.take_succ_eq_append_getElem h1, lc_snoc, (List.getElem?_eq_some_iff.1 h).2]
/-- A greater place has a greater line, or a greater column in the same one. -/
theorem lc_mono {t : T} {a : Nat} : ∀ {d : Nat}, a + d + 1 ≤ t.length → (lc (t.take a)).1 < (lc (t.take (a + d + 1))).1 ∨ ((lc (t.take a)).1 = (lc (t.take (a + d + 1))).1 ∧ (lc (t.take a)).2 < (lc (t.take (a + d + 1))).2) := by
  intro d
  induction d with
  | zero =>
    intro h
    rw [Nat.add_zero, lc_take_succ (List.getElem?_eq_getElem (show a < t.length by omega))]
    unfold lcStep
    split
    · left; simp
    · right; simp
  | succ d ih =>
    intro h
    have := ih (by omega)
    rw [show a + (d + 1) + 1 = (a + d + 1) + 1 by omega, lc_take_succ (List.getElem?_eq_getElem (show a + d + 1 < t.length by omega))]
    unfold lcStep
    split
    · left; simp only; omega
    · simp only; omega
/-- There is no column behind a line's end. -/
theorem atP_past {t : T} {a : Nat} (ha : a ≤ t.length) (h : a = t.length ∨ t[a]? = some 10) : atP t (lc (t.take a)).1 ((lc (t.take a)).2 + 1) = none := by
  cases hq : atP t (lc (t.take a)).1 ((lc (t.take a)).2 + 1) with
  | none => rfl
  | some b =>
    exfalso
    obtain ⟨h1, h2⟩ := (atP_iff _ _ _ _).1 hq
    have e1 : (lc (t.take b)).1 = (lc (t.take a)).1 := by rw [h2]
    have e2 : (lc (t.take b)).2 = (lc (t.take a)).2 + 1 := by rw [h2]
    rcases Nat.lt_trichotomy b a with hb | rfl | hb
    · have := lc_mono (t := t) (a := b) (d := a - b - 1) (by omega)
      rw [show b + (a - b - 1) + 1 = a by omega] at this
      omega
    · omega
    · rcases h with h | h
      · omega
      · have hs := lc_take_succ h
        have hs1 : (lc (t.take (a + 1))).1 = (lc (t.take a)).1 + 1 := by rw [hs]; simp [lcStep]
        by_cases hb1 : b = a + 1
        · rw [hb1] at e1; omega
        · have := lc_mono (t := t) (a := a + 1) (d := b - (a + 1) - 1) (by omega)
          rw [show a + 1 + (b - (a + 1) - 1) + 1 = b by omega] at this
          omega
theorem atP_of {t : T} {a : Nat} (ha : a ≤ t.length) : atP t (lc (t.take a)).1 (lc (t.take a)).2 = some a := (atP_iff _ _ _ _).2 ⟨ha, rfl⟩

end Go.Proofs.Ytnijaleedbmljaa.Pl
