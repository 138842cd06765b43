/- How many keys a map has that counts numbers. -/
import Derived.Test.YtccpjjhaeocfhaaDoorSpF
import Derived.Maps.OwnSet
set_option linter.unusedVariables false
set_option linter.unusedSimpArgs false
namespace Go.Proofs.YtccpjjhaeocfhaaDoor
open Go Go.RowKit

/-- The datum has each number met for a key, and no other. -/
def Cnts {H : Type} (l : List Int) (D : DataW H) : Prop := Maps.Tidy D ∧ Maps.size D = (met l).length ∧ ∀ x : Int, Maps.has D (.int .i64 x) = decide (x ∈ met l)
theorem Cnts.nil {H : Type} : Cnts (H := H) [] (.map []) := ⟨Maps.tidy_empty, rfl, fun x => by simp [met]; rfl⟩
theorem Cnts.put {H : Type} {l : List Int} {D : DataW H} (h : Cnts l D) (x : Int) (d : DataW H) : Cnts (l ++ [x]) (D.put (.int .i64 x) d) := by
  obtain ⟨h1, h2, h3⟩ := h
  have hk : WideAt.IsKeyLit (Lit.int .i64 x) := by first | trivial | simp [WideAt.IsKeyLit]
  refine ⟨h1.put hk d, ?_, fun y => ?_⟩
  · rw [Maps.size_put h1, h3, h2, met_snoc]
    by_cases hm : x ∈ met l
    · simp [hm]
    · simp [hm]
  · by_cases hy : y = x
    · subst hy
      rw [Maps.has_put_same h1.isMap hk, eq_comm, decide_eq_true_eq, mem_met]
      simp
    · rw [Maps.has_put_other (by simpa using hy), h3]
      simp only [decide_eq_decide, mem_met, List.mem_append, List.mem_singleton]
      constructor
      · exact Or.inl
      · rintro (h | h)
        · exact h
        · exact absurd h hy

theorem ownsMap_below {H : Type} {P : Program} {k : TypeId} {R : Value → Option (DataW H × List MemPlace)} {w w' : World} {b n B : Nat} {D : DataW H} (h : w.ownsMap P k R b n D) (hb : Below B w w') (hB : b < B) : w'.ownsMap P k R b n D := by
  obtain ⟨es, clock, h1, r⟩ := h
  exact ⟨es, clock, (hb.block b hB).trans h1, r⟩

end Go.Proofs.YtccpjjhaeocfhaaDoor
