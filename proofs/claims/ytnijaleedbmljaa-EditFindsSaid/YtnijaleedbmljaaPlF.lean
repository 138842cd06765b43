/- The plain law of a text's first line (no program in sight). -/
import Derived.Test.YtnijaleedbmljaaPlC
import Derived.Lib.Bytealg
namespace Go.Proofs.Ytnijaleedbmljaa.Pl
set_option linter.unusedVariables false
open Go

theorem lines_le (s : T) : (lines s).length ≤ s.length := by
  induction s with
  | nil => exact Nat.le_refl _
  | cons c s ih =>
    unfold lines
    split
    · simp; exact ih
    · split
      · simp
      · next x xs h => rw [h] at ih; simp at ih ⊢; omega

theorem len_flat {L : List T} {x : T} (h : x ∈ L) : x.length ≤ L.flatten.length := by
  induction L with
  | nil => cases h
  | cons y r ih =>
    rw [List.flatten_cons, List.length_append]
    rcases List.mem_cons.1 h with rfl | h
    · omega
    · have := ih h; omega
theorem mem_le {s x : T} (h : x ∈ lines s) : x.length ≤ s.length := by
  have := len_flat h
  rwa [lines_flat] at this

theorem idx_none {t : T} (h : Lib.indexByte t 10 = -1) : (10 : UInt8) ∉ t := by
  induction t with
  | nil => simp
  | cons c t ih =>
    unfold Lib.indexByte at h
    split at h
    · omega
    · next hc =>
      have := Lib.indexByte_ge t 10
      split at h
      · next h2 =>
        simp only [List.mem_cons, not_or]
        exact ⟨fun e => hc (by rw [e]; simp), ih (by simpa using h2)⟩
      · next h2 => simp at h2; omega

theorem idx_some {t : T} : ∀ {j : Nat}, Lib.indexByte t 10 = j → j < t.length ∧ (10 : UInt8) ∉ t.take j ∧ t[j]? = some 10 := by
  induction t with
  | nil => intro j h; simp [Lib.indexByte] at h
  | cons c t ih =>
    intro j h
    unfold Lib.indexByte at h
    split at h
    · next hc =>
      have : j = 0 := by omega
      subst this
      exact ⟨by simp, by simp, by simpa using hc⟩
    · next hc =>
      split at h
      · omega
      · next h2 =>
        have h3 : Lib.indexByte t 10 ≠ -1 := by simpa using h2
        cases j with
        | zero => have := Lib.indexByte_ge t 10; omega
        | succ j =>
          have := ih (j := j) (by omega)
          refine ⟨by simp; exact this.1, ?_, by simpa using this.2.2⟩
          rw [List.take_succ_cons]
          simp only [List.mem_cons, not_or]
          exact ⟨fun e => hc (by rw [e]; simp), this.2.1⟩

theorem lines_none' {t : T} (h : (10 : UInt8) ∉ t) (hne : t ≠ []) : lines t = [t] := by
  refine lines_single ⟨hne, fun hm => h ?_⟩
  exact List.dropLast_subset _ hm
theorem lines_none {t : T} (h : Lib.indexByte t 10 = -1) (hne : t ≠ []) : lines t = [t] := lines_none' (idx_none h) hne

theorem lines_at {t : T} {j : Nat} (h2 : (10 : UInt8) ∉ t.take j) (h3 : t[j]? = some 10) : lines t = t.take (j + 1) :: lines (t.drop (j + 1)) := by
  have h1 : j < t.length := (List.getElem?_eq_some_iff.1 h3).1
  have hs : t.take (j + 1) = t.take j ++ [10] := by
    rw [List.take_succ_eq_append_getElem h1]
    rw [List.getElem?_eq_getElem h1] at h3
    simp only [Option.some.injEq] at h3
    rw [h3]
  have he : ended (t.take (j + 1)) := by rw [hs]; exact .inr (by simp)
  conv => lhs; rw [← List.take_append_drop (j + 1) t]
  rw [lines_append he, lines_single]
  · rfl
  · rw [hs]; exact ⟨by simp, by simpa using h2⟩
theorem lines_some {t : T} {j : Nat} (h : Lib.indexByte t 10 = j) : lines t = t.take (j + 1) :: lines (t.drop (j + 1)) := by
  obtain ⟨h1, h2, h3⟩ := idx_some h
  exact lines_at h2 h3

end Go.Proofs.Ytnijaleedbmljaa.Pl
