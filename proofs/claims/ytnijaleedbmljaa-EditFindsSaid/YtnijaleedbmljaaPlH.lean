/- What makes one text of another one: its answer, its limit; numbers for lines. -/
import Derived.Test.YtnijaleedbmljaaW14
import Derived.Test.YtnijaleedbmljaaPlD
set_option linter.unusedVariables false
set_option linter.unusedSimpArgs false
namespace Go.Proofs.Ytnijaleedbmljaa
open Go Go.RowKit

def betBig (x y : List Pl.T) : Bool := decide (0 < x.length) && decide (1048576 / x.length < y.length)
def betOut (x y : List Pl.T) : List Pl.Ed := if betBig x y = true then [] else Pl.between x y
def betErr (x y : List Pl.T) : Int := if betBig x y = true then 4 else 0
/-- What a call of either Between leaves. -/
def BetPost (x y : List Pl.T) (w : World) (e : Ending) (w' : World) : Prop :=
  ∃ B cb, e = .returned (.tuple #[.slice B (betOut x y).length cb, .int .i64 (betErr x y)]) ∧ Rd w' 3 B (betOut x y).length (edcs (betOut x y)) ∧ Below w.heap.size w w'

theorem BetPost.no {x y : List Pl.T} {w w' : World} (h : betBig x y = true) (hb : Below w.heap.size w w') : BetPost x y w (.returned (.tuple #[.slice none 0 0, .int .i64 4])) w' := by
  unfold BetPost betOut betErr
  rw [if_pos h, if_pos h]
  exact ⟨none, 0, rfl, Rd.nil _ _ _, hb⟩
theorem BetPost.yes {x y : List Pl.T} {w w' : World} (h : betBig x y = false) {B : Option Addr} {cb : Nat} (hr : Rd w' 3 B (Pl.between x y).length (edcs (Pl.between x y))) (hb : Below w.heap.size w w') : BetPost x y w (.returned (.tuple #[.slice B (Pl.between x y).length cb, .int .i64 0])) w' := by
  unfold BetPost betOut betErr
  rw [h, if_neg (by simp), if_neg (by simp)]
  exact ⟨B, cb, rfl, hr, hb⟩

theorem table_small {x y : List Pl.T} (h : betBig x y = false) (hx : x.length ≤ 4000000) (hy : y.length ≤ 4000000) : (x.length + 1) * (y.length + 1) ≤ 1000000000 := by
  have e : (x.length + 1) * (y.length + 1) = x.length * y.length + x.length + y.length + 1 := by
    rw [Nat.add_mul, Nat.mul_add, Nat.one_mul, Nat.mul_one]; omega
  have : x.length * y.length ≤ 1048576 := by
    rcases Nat.eq_zero_or_pos x.length with h0 | h0
    · rw [h0]; simp
    · unfold betBig at h
      rw [decide_eq_true h0, Bool.true_and, decide_eq_false_iff_not] at h
      have h1 : y.length ≤ 1048576 / x.length := by omega
      have := (Nat.le_div_iff_mul_le h0).1 h1
      rw [Nat.mul_comm]; exact this
  omega

theorem pairs_ids (xs ys : List Pl.T) : Pl.pairs 0 0 (xs.map (keysOf xs ys).idxOf) (ys.map (keysOf xs ys).idxOf) = Pl.pairs 0 0 xs ys :=
  Pl.pairs_map _ _ 0 0 xs ys (Nat.le_refl _) (fun x hx y hy e => idx_inj ((addAll_mem _ _ _).2 (.inl (keysOf_left hx))) ((addAll_mem _ _ _).2 (.inr hy)) e)

end Go.Proofs.Ytnijaleedbmljaa
