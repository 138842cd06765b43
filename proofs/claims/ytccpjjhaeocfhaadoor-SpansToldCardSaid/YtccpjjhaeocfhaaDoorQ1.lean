/- Plain laws of sets that meet lines; what the laws keep of their calls. -/
import Derived.Test.YtccpjjhaeocfhaaDoorP5
import Derived.Test.YtccpjjhaeocfhaaDoorS11
set_option linter.unusedVariables false
set_option linter.unusedSimpArgs false
namespace Go.Proofs.YtccpjjhaeocfhaaDoor
open Go Go.RowKit

theorem wf64 {n : Int} (h : (Lit.int .i64 n).wf = true) : -9223372036854775808 ≤ n ∧ n ≤ 9223372036854775807 := by
  simpa [Lit.wf, IntKind.min, IntKind.max, IntKind.signed, IntKind.bits] using h

theorem same_eq (A B : Option Addr) (c d : Nat) (l : List Sp.R) (w : World) (h : Rd w 2 A l.length (rgcs l)) (g : Rd w 2 B l.length (rgcs l)) (hl : l.length ≤ 1000000000) :
    Calls Tryd.prog 13 #[.slice A l.length c, .slice B l.length d] w fun e w' => e = .returned (.bool true) ∧ Below w.heap.size w w' := by
  have := same19_any A B c d l l w h g hl hl
  simpa using this

theorem bothL_len (z : Bool) (a b : List Sp.R) : (bothL z a b).length ≤ 65536 := by
  unfold bothL; split
  · exact Sp.setOf_length _ _
  · simp
theorem notL_len (a : List Sp.R) (n : Int) : (notL a n).length ≤ 65536 := by
  unfold notL; split
  · rename_i h; have := Sp.setOf_length (fun i => !(Sp.has a (i : Int))) n.toNat; have := h.2; omega
  · simp
theorem ofL_len (l : List Int) : (ofL l).length ≤ 65536 := by
  unfold ofL; split
  · exact Sp.setOf_length _ _
  · simp

/-- A set meets the lines from n on, below n + j, just if it has one of them. -/
theorem meets_any (a : List Sp.R) (n : Int) (j : Nat) (h : j ≠ 0) : meetsB a n (n + j) = Sp.anyOf (hasB a) n j := by
  unfold meetsB
  rw [if_neg (by omega), Bool.eq_iff_iff, Bool.and_eq_true, Sp.anyOf_iff]
  constructor
  · rintro ⟨h1, h2⟩
    obtain ⟨v, a1, a2, a3⟩ := (Sp.meets_iff h1 _ _).1 h2
    exact ⟨v, a1, a2, by unfold hasB; rw [h1, a3]; rfl⟩
  · rintro ⟨v, a1, a2, a3⟩
    unfold hasB at a3
    rw [Bool.and_eq_true] at a3
    exact ⟨a3.1, (Sp.meets_iff a3.1 _ _).2 ⟨v, a1, a2, a3.2⟩⟩
theorem meets_none (a : List Sp.R) (n m : Int) (h : m < n) : meetsB a n m = false := by
  unfold meetsB
  rw [if_neg (by omega), Bool.and_eq_false_iff]
  by_cases hok : Sp.ok a = true
  · right
    rw [Bool.eq_false_iff]
    intro e
    obtain ⟨v, a1, a2, _⟩ := (Sp.meets_iff hok _ _).1 e
    omega
  · left; simpa using hok

theorem lineOk_succ {l : List Int} {k : Nat} {x : Int} (h : k < l.length) (e : l[k] = x) : lineOk (l.take (k + 1)) = (lineOk (l.take k) && (decide (0 ≤ x) && decide (x < 65536))) := by
  unfold lineOk
  rw [List.take_succ_eq_append_getElem h, List.all_append, e]
  simp
theorem meets_self (a : List Sp.R) (n : Int) : meetsB a n n = (hasB a n || (decide (0 < n) && hasB a (n - 1))) := by unfold meetsB; rw [if_pos rfl]

/-- What a call that hands back a list leaves, as the law keeps it. -/
theorem RgIs.get {L : List Sp.R} {w w' : World} {v : Value} (h : RgIs L w w' v) : ∃ A c, v = .slice A L.length c ∧ Rd w' 2 A L.length (rgcs L) ∧ Below w.heap.size w w' := by
  obtain ⟨A, c, e, _, hr, hb⟩ := h
  exact ⟨A, c, e, hr, hb⟩


theorem ok_one {f t : Int} (h1 : 0 ≤ f) (h2 : f < t) (h3 : t ≤ 65536) : Sp.ok [(f, t)] = true := by
  unfold Sp.ok
  rw [okFrom_good (by omega) h1 h2 h3]; rfl
theorem setOf_ne {g : Nat → Bool} : 0 < (Sp.setOf g 65536).length ↔ ∃ i : Nat, i < 65536 ∧ g i = true := by
  constructor
  · intro h
    have hok := Sp.setOf_ok g (Nat.le_refl 65536)
    cases e : Sp.setOf g 65536 with
    | nil => rw [e] at h; simp at h
    | cons r l =>
      rw [e] at hok
      obtain ⟨h1, h2, h3, h4, _⟩ := Sp.okFrom_cons hok
      have hh : Sp.has (Sp.setOf g 65536) r.1 = true := by rw [e, Sp.has_cons]; simp; left; omega
      rw [Sp.has_setOf g (Nat.le_refl 65536)] at hh
      simp only [Bool.and_eq_true, decide_eq_true_eq] at hh
      exact ⟨r.1.toNat, by omega, hh.2⟩
  · rintro ⟨i, hi, hg⟩
    rcases Nat.eq_zero_or_pos (Sp.setOf g 65536).length with h0 | h0
    · have hh := Sp.has_setOf g (Nat.le_refl 65536) (i : Int)
      rw [List.eq_nil_of_length_eq_zero h0] at hh
      simp only [Sp.has, List.any_nil, Int.toNat_natCast, hg, Bool.and_true] at hh
      have := hh.symm
      rw [Bool.and_eq_false_iff] at this
      simp only [decide_eq_false_iff_not] at this
      omega
    · exact h0
theorem meet_law {a : List Sp.R} {f t : Int} (ha : Sp.ok a = true) (h1 : 0 ≤ f) (h2 : f < t) (h3 : t ≤ 65536) : decide ((0 : Int) < ((bothL true a [(f, t)]).length : Int)) = meetsB a f t := by
  rw [bothL_yes ⟨ha, ok_one h1 h2 h3⟩, Bool.eq_iff_iff, decide_eq_true_eq]
  unfold meetsB
  rw [if_neg (by omega), ha, Bool.true_and, Sp.meets_iff ha]
  have e := setOf_ne (g := fun i => cmb true (Sp.has a (i : Int)) (Sp.has [(f, t)] (i : Int)))
  constructor
  · intro h
    obtain ⟨i, hi, hg⟩ := e.1 (by omega)
    simp only [cmb, if_true, Bool.and_eq_true, Sp.has, List.any_cons, List.any_nil, Bool.or_false, decide_eq_true_eq] at hg
    exact ⟨i, hg.2.1, hg.2.2, hg.1⟩
  · rintro ⟨v, g1, g2, g3⟩
    have := e.2 ⟨v.toNat, by omega, by
      rw [Int.toNat_of_nonneg (by omega)]
      simp only [cmb, if_true, Bool.and_eq_true, Sp.has, List.any_cons, List.any_nil, Bool.or_false, decide_eq_true_eq]
      exact ⟨g3, g1, g2⟩⟩
    omega
theorem has_meets (a : List Sp.R) (f : Int) : meetsB a f (f + 1) = hasB a f := by
  have := meets_any a f 1 (by omega)
  simp only [Sp.anyOf, Bool.false_or, Int.natCast_one, Int.natCast_zero, Int.add_zero] at this
  exact this
theorem meetsB_no {a : List Sp.R} (ha : Sp.ok a = false) (f t : Int) : meetsB a f t = false := by
  unfold meetsB hasB
  rw [ha]
  split <;> simp
theorem hasB_no {a : List Sp.R} (ha : Sp.ok a = false) (f : Int) : hasB a f = false := by unfold hasB; rw [ha]; rfl
theorem rgcs_one (f t : Int) : rgcs [(f, t)] = [.int .i64 f, .int .i64 t] := rfl
/-- A list of one range that the call itself has laid. -/
theorem rd_new (w : World) (f t : Int) : Rd (w.alloc (.cells #[.int .i64 f, .int .i64 t] 38)) 2 (some ⟨w.heap.size, 0, none⟩) 1 (rgcs [(f, t)]) :=
  ⟨rfl, fun _ => ⟨_, _, rfl, by simp, fun j u hu => by
    have := two_at w (.int .i64 f) (.int .i64 t) 38 j u (by rw [← rgcs_one]; exact hu)
    by_cases hj : j = 0
    · subst hj; simpa [Addr.add] using this
    · simpa [Addr.add, hj] using this⟩⟩

end Go.Proofs.YtccpjjhaeocfhaaDoor
