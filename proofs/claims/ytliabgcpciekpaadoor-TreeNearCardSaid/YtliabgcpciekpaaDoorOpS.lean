/- Texts that came in, opened to cells. -/
import Derived.Test.YtliabgcpciekpaaDoorYsB
import Derived.Deep.Strs
import Derived.Deep.Slices
import Derived.Deep.Fields
import Derived.ChangeSame
import Derived.SizedLaws
set_option linter.unusedVariables false
set_option linter.unusedSimpArgs false
set_option maxRecDepth 10000
namespace Go.Proofs.YtliabgcpciekpaaDoor
open Go Go.RowKit Go.ChangeShapes Go.WideShapes Go.Deep

theorem add_eqS {a : Addr} (h : a.spot = none) (n : Nat) : a.add n = ⟨a.block, a.off + n, none⟩ := by
  obtain ⟨b, o, s⟩ := a
  simp only at h
  subst h
  unfold Addr.add
  split
  · next h => subst h; rfl
  · rfl
theorem spot_noneS {w : World} {a : Addr} {v : Value} (h : w.cell? a = some v) : a.spot = none := by
  unfold World.cell? at h
  split at h
  · split at h
    · cases h
    · next h2 => cases hs : a.spot with
      | none => rfl
      | some x => rw [hs] at h2; simp at h2
  · cases h
theorem add_spotS (a : Addr) (n : Nat) : (a.add n).spot = a.spot ∨ a.spot ≠ none := by
  cases hs : a.spot with
  | none => left; rw [add_eqS hs]
  | some x => right; simp
theorem cell_block_lt {w : World} {a : Addr} {v : Value} (h : w.cell? a = some v) : a.block < w.heap.size := by
  unfold World.cell? at h
  split at h
  · next h2 => exact (Array.getElem?_eq_some_iff.1 h2).1
  · cases h
theorem weightsAll_memS {H : Type} {P : Program} {e : TypeId} {l : List (DataW H)} {d : DataW H} (hd : d ∈ l) : ∀ n ∈ d.weights P e, n ∈ DataW.weightsAll P e l := by
  induction l with
  | nil => simp at hd
  | cons x r ih =>
    intro n hn
    simp only [DataW.weightsAll, List.mem_append]
    rcases List.mem_cons.1 hd with rfl | h
    · exact Or.inl hn
    · exact Or.inr (ih h n hn)
theorem cellsS : Tryd.prog.cellsOf 9 = 1 := by kernel_rfl
theorem bytesS : Tryd.prog.bytesOf 9 = 16 := by kernel_rfl

theorem open_texts {H : Type} {enc : TypeId × Value → H} {w : World} {base : Nat} {spare : Nat → Bool} {held : Bool} {fuel : Nat} {A : Option Addr} {len cap : Nat} {x : DataW H × List MemPlace}
    (h : DataW.trod enc Tryd.prog w base spare held fuel 38 [.slice A len cap] = some x) :
    ∃ l : List (List UInt8), l.length = len ∧ Rd w 1 A len (sts l) ∧ len ≤ maxLen ∧ (0 < len → ∃ n ∈ x.1.weights Tryd.prog 38, len ≤ n) ∧ ∀ t ∈ l, t.length ∈ x.1.weights Tryd.prog 38 := by
  rcases open_strs Tryd.underlying38 Tryd.underlying9 cellsS h with ⟨hcs, _⟩ | ⟨a, len', cap', m, Sx, hcs, hb, hl, hm, hmm, hx, hi⟩
  · simp only [List.cons.injEq, Value.slice.injEq, and_true] at hcs
    obtain ⟨rfl, rfl, rfl⟩ := hcs
    exact ⟨[], rfl, Rd.nil _ _ _, by unfold maxLen; omega, fun h => absurd h (by omega), by simp⟩
  · simp only [List.cons.injEq, Value.slice.injEq, and_true] at hcs
    obtain ⟨rfl, rfl, rfl⟩ := hcs
    have lenm : len ≤ m := by rw [hmm]; split <;> omega
    have hu := Tryd.underlying38
    refine ⟨(List.range len).map fun i => (Sx i).data.toList, by simp, ⟨by simp [sts], fun hn => ?_⟩, by omega, fun h0 => ?_, fun t ht => ?_⟩
    · have h0 := (hi 0 (by omega)).1
      have hs0 : (a.add 0).spot = none := spot_noneS h0
      have hsp : a.spot = none := by
        have : a.add 0 = a := by unfold Addr.add; simp
        rwa [this] at hs0
      refine ⟨a.block, a.off, by obtain ⟨b, o, s⟩ := a; simp only at hsp; subst hsp; rfl, ?_, fun j u hj => ?_⟩
      · have := cell_block_lt h0
        rwa [add_eqS hsp] at this
      · have hjl : j < len := by have := (List.getElem?_eq_some_iff.1 hj).1; simpa [sts] using this
        have hc := (hi j (by omega)).1
        rw [add_eqS hsp] at hc
        rw [hc, ← hj]
        simp [sts, hjl, bs_of]
    · refine ⟨(((List.range len).map fun i => (.lit (.string (Sx i).data.toList) : DataW H)).length + ((List.range (m - len)).map fun j => (.lit (.string (Sx (len + j)).data.toList) : DataW H)).length) * Tryd.prog.bytesOf 9, ?_, ?_⟩
      · rw [hx]; simp [DataW.weights, hu]
      · rw [bytesS]; simp; omega
    · obtain ⟨i, hil, rfl⟩ := List.mem_map.1 ht
      rw [hx]
      simp only [DataW.weights, hu, List.mem_cons, List.mem_append]
      exact Or.inr (Or.inl (weightsAll_memS (List.mem_map.2 ⟨i, hil, rfl⟩) _ (by simp [DataW.weights])))

theorem len_reach {n : Nat} {ws : List Nat} (h : 0 < n → ∃ k ∈ ws, n ≤ k) (hw : ∀ k ∈ ws, k ≤ reachBytes) : n ≤ 140737488355328 := by
  rcases Nat.eq_zero_or_pos n with h0 | h0
  · omega
  · obtain ⟨k, h1, h2⟩ := h h0
    exact Nat.le_trans h2 (Nat.le_trans (hw k h1) (by decide))
theorem one_reach {n : Nat} {ws : List Nat} (h : n ∈ ws) (hw : ∀ k ∈ ws, k ≤ reachBytes) : n ≤ 140737488355328 := Nat.le_trans (hw n h) (by decide)
theorem i64_bd {a : Int} (h : (Lit.int .i64 a).wf = true) : -9223372036854775808 ≤ a ∧ a ≤ 9223372036854775807 := by
  unfold Lit.wf at h
  rw [Bool.and_eq_true, decide_eq_true_eq, decide_eq_true_eq] at h
  exact h

end Go.Proofs.YtliabgcpciekpaaDoor
