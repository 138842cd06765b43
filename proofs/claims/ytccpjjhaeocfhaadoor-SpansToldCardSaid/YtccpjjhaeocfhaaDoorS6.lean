/- Walks: what two sets have in one or together, and what a set has not (the document's). -/
import Derived.Test.YtccpjjhaeocfhaaDoorS5
set_option linter.unusedVariables false
set_option linter.unusedSimpArgs false
namespace Go.Proofs.YtccpjjhaeocfhaaDoor
open Go Go.RowKit

/-- A list of ranges and a number that a call hands back. -/
def RgRes2 (L : List Sp.R) (er : Int) (w : World) (e : Ending) (w' : World) : Prop := ∃ v, e = .returned (.tuple #[v, .int .i64 er]) ∧ RgIs L w w' v
theorem RgIs.nil {w w' : World} (h : Below w.heap.size w w') : RgIs [] w w' (.slice none 0 0) := ⟨none, 0, rfl, Nat.le_refl _, Rd.nil _ _ _, h⟩
theorem RgIs.trans {L : List Sp.R} {w w1 w' : World} {v : Value} (h : RgIs L w1 w' v) (hb : Below w.heap.size w w1) : RgIs L w w' v := by
  obtain ⟨A, c, e, hc, hr, hb'⟩ := h
  exact ⟨A, c, e, hc, hr, hb.trans (hb'.mono hb.size)⟩

def cmb (z : Bool) (x y : Bool) : Bool := if z = true then x && y else x || y
/-- The lines of two sets, put together; the number of the error. -/
def bothL (z : Bool) (a b : List Sp.R) : List Sp.R := if Sp.ok a = true ∧ Sp.ok b = true then Sp.setOf (fun i => cmb z (Sp.has a (i : Int)) (Sp.has b (i : Int))) 65536 else []
def bothE (a b : List Sp.R) : Int := if Sp.ok a = true ∧ Sp.ok b = true then 0 else 2
theorem bothL_no {z : Bool} {a b : List Sp.R} (h : ¬ (Sp.ok a = true ∧ Sp.ok b = true)) : bothL z a b = [] := by unfold bothL; rw [if_neg h]
theorem bothE_no {a b : List Sp.R} (h : ¬ (Sp.ok a = true ∧ Sp.ok b = true)) : bothE a b = 2 := by unfold bothE; rw [if_neg h]
theorem bothL_yes {z : Bool} {a b : List Sp.R} (h : Sp.ok a = true ∧ Sp.ok b = true) : bothL z a b = Sp.setOf (fun i => cmb z (Sp.has a (i : Int)) (Sp.has b (i : Int))) 65536 := by unfold bothL; rw [if_pos h]
theorem bothE_yes {a b : List Sp.R} (h : Sp.ok a = true ∧ Sp.ok b = true) : bothE a b = 0 := by unfold bothE; rw [if_pos h]

/-- What has been put in, up to j. -/
def upTo (g f : Nat → Bool) (j i : Nat) : Bool := if i < j then g i else f i
theorem upTo_start (g f : Nat → Bool) (n : Nat) : bls (fl f n) = bls (fl (upTo g f 0) n) := bls_fl_congr (fun i _ => by simp [upTo])
theorem upTo_step (g f : Nat → Bool) (j n : Nat) : bls (fl (fun i => if i = j then g j else upTo g f j i) n) = bls (fl (upTo g f (j + 1)) n) :=
  bls_fl_congr (fun i _ => by
    unfold upTo
    by_cases e : i = j
    · subst e; simp
    · rw [if_neg e]
      by_cases h : i < j
      · rw [if_pos h, if_pos (by omega)]
      · rw [if_neg h, if_neg (by omega)])
theorem upTo_end (g f : Nat → Bool) (n : Nat) : bls (fl (upTo g f n) n) = bls (fl g n) := bls_fl_congr (fun i h => by simp [upTo, h])
theorem upTo_at (g f : Nat → Bool) (j : Nat) : upTo g f j j = f j := by simp [upTo]


/-- The lines below n that a set has not; the number of the error. -/
def notOk (a : List Sp.R) (n : Int) : Prop := Sp.ok a = true ∧ 0 ≤ n ∧ n ≤ 65536
instance (a : List Sp.R) (n : Int) : Decidable (notOk a n) := by unfold notOk; infer_instance
def notL (a : List Sp.R) (n : Int) : List Sp.R := if notOk a n then Sp.setOf (fun i => !(Sp.has a (i : Int))) n.toNat else []
def notE (a : List Sp.R) (n : Int) : Int := if notOk a n then 0 else 2
theorem notL_no {a : List Sp.R} {n : Int} (h : ¬ notOk a n) : notL a n = [] := by unfold notL; rw [if_neg h]
theorem notE_no {a : List Sp.R} {n : Int} (h : ¬ notOk a n) : notE a n = 2 := by unfold notE; rw [if_neg h]
theorem notL_yes {a : List Sp.R} {n : Int} (h : notOk a n) : notL a n = Sp.setOf (fun i => !(Sp.has a (i : Int))) n.toNat := by unfold notL; rw [if_pos h]
theorem notE_yes {a : List Sp.R} {n : Int} (h : notOk a n) : notE a n = 0 := by unfold notE; rw [if_pos h]
theorem notL_ref {a : List Sp.R} {n : Nat} (h : n ≤ 65536) : Sp.setOf (fun i => decide (i < n) && !(Sp.has a (i : Int))) 65536 = Sp.setOf (fun i => !(Sp.has a (i : Int))) n := by
  rw [Sp.setOf_tail (n := n) h (fun i h1 _ => by have : decide (i < n) = false := decide_eq_false (by omega)
                                                 simp only [this, Bool.false_and])]
  exact Sp.setOf_congr (fun i hi => by simp [hi])


end Go.Proofs.YtccpjjhaeocfhaaDoor
