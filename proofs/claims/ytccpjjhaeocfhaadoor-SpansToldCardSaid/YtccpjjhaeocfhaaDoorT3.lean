/- Plain Lean: how the document goes through a text, piece by piece. -/
import Derived.Test.YtccpjjhaeocfhaaDoorSpD
set_option linter.unusedVariables false
set_option linter.unusedSimpArgs false
namespace Go.Proofs.YtccpjjhaeocfhaaDoor
namespace Sp
open Go

/-- Up to k a text has been gone through: the pieces P are done; the next one begins at fr. -/
def PIn (t : T) (P : List T) (fr k : Nat) : Prop :=
  (∀ x ∈ P, pOk x = true) ∧ P.length ≤ k ∧ ((k ≤ t.length ∧ fr ≤ k ∧ spl 44 t = P ++ spl 44 (t.drop fr) ∧ 44 ∉ (t.drop fr).take (k - fr)) ∨ (k = t.length + 1 ∧ spl 44 t = P))
def part (t : T) (fr k : Nat) : T := (t.drop fr).take (k - fr)

theorem PIn.start (t : T) : PIn t [] 0 0 := ⟨by simp, by simp, .inl ⟨by omega, by omega, by simp, by simp⟩⟩
theorem PIn.le {t : T} {P : List T} {fr k : Nat} (h : PIn t P fr k) (hk : k ≤ t.length) : fr ≤ k := by
  rcases h.2.2 with h | h
  · exact h.2.1
  · omega
theorem PIn.next {t : T} {P : List T} {fr k : Nat} (h : PIn t P fr k) (hk : k < t.length) (hc : t[k]? ≠ some 44) : PIn t P fr (k + 1) := by
  have hl := h.2.1
  refine ⟨h.1, by omega, .inl ?_⟩
  rcases h.2.2 with ⟨h1, h2, h3, h4⟩ | ⟨h1, _⟩
  · refine ⟨by omega, by omega, h3, ?_⟩
    have e : (t.drop fr)[k - fr]? = t[k]? := by rw [List.getElem?_drop, show fr + (k - fr) = k by omega]
    have hlt : k - fr < (t.drop fr).length := by simp; omega
    rw [show k + 1 - fr = (k - fr) + 1 by omega, List.take_succ_eq_append_getElem hlt, List.mem_append, not_or]
    refine ⟨h4, ?_⟩
    rw [List.mem_singleton]
    intro h5
    apply hc
    rw [← e, List.getElem?_eq_getElem hlt, h5]
  · omega
theorem PIn.piece {t : T} {P : List T} {fr k : Nat} (h : PIn t P fr k) (hk : k ≤ t.length) (hc : k = t.length ∨ t[k]? = some 44) :
    part t fr k ∈ spl 44 t ∧ (pOk (part t fr k) = true → PIn t (P ++ [part t fr k]) (k + 1) (k + 1)) := by
  have hl := h.2.1
  rcases h.2.2 with ⟨h1, h2, h3, h4⟩ | ⟨h1, _⟩
  · by_cases hkl : k < t.length
    · have hc2 : t[k]? = some 44 := by
        rcases hc with h | h
        · omega
        · exact h
      have e : (t.drop fr)[k - fr]? = some 44 := by rw [List.getElem?_drop, show fr + (k - fr) = k by omega]; exact hc2
      have hlt : k - fr < (t.drop fr).length := by simp; omega
      have hs := spl_at hlt h4 e
      rw [List.drop_drop, show fr + (k - fr + 1) = k + 1 by omega] at hs
      rw [hs] at h3
      refine ⟨by rw [h3]; simp [part], fun hp => ⟨?_, by simp; omega, .inl ⟨by omega, by omega, by rw [h3]; simp [part], by simp⟩⟩⟩
      intro x hx
      rcases List.mem_append.1 hx with hx | hx
      · exact h.1 x hx
      · rw [List.mem_singleton.1 hx]; exact hp
    · have hke : k = t.length := by omega
      have ht : (t.drop fr).take (k - fr) = t.drop fr := List.take_of_length_le (by simp; omega)
      have hs : spl 44 (t.drop fr) = [t.drop fr] := spl_no (by rw [ht] at h4; exact h4)
      rw [hs] at h3
      refine ⟨by rw [h3]; simp [part, ht], fun hp => ⟨?_, by simp; omega, .inr ⟨by omega, by rw [h3]; simp [part, ht]⟩⟩⟩
      intro x hx
      rcases List.mem_append.1 hx with hx | hx
      · exact h.1 x hx
      · rw [List.mem_singleton.1 hx]; exact hp
  · omega
theorem PIn.bad {t : T} {P : List T} {fr k : Nat} (h : PIn t P fr k) (hk : k ≤ t.length) (hc : k = t.length ∨ t[k]? = some 44) (hne : t ≠ []) (hp : pOk (part t fr k) = false) : parseL t = [] ∧ parseE t = 190 := by
  have hr := rightT_no (h.piece hk hc).1 hp
  unfold parseL parseE
  rw [if_neg hne, if_neg hne, hr]
  exact ⟨rfl, rfl⟩
theorem PIn.done {t : T} {P : List T} {fr k : Nat} (h : PIn t P fr k) (hk : t.length < k) (hne : t ≠ []) : parseL t = setOf (fun i => has (P.map pR) (i : Int)) 65536 ∧ parseE t = 0 := by
  rcases h.2.2 with ⟨h1, _⟩ | ⟨h1, h2⟩
  · omega
  · have hr : rightT t = true := by rw [rightT_iff, h2]; exact h.1
    unfold parseL parseE
    rw [if_neg hne, if_neg hne, if_pos hr, if_pos hr, h2]
    exact ⟨rfl, rfl⟩
theorem part_len {t : T} {fr k : Nat} (h1 : fr ≤ k) (h2 : k ≤ t.length) : (part t fr k).length = k - fr := by simp [part]; omega

/-- A piece's cut. -/
theorem idx_of {c : UInt8} {t : T} : ∀ {j : Nat}, c ∉ t.take j → t[j]? = some c → Lib.indexByte t c = j := by
  induction t with
  | nil => intro j _ h; simp at h
  | cons x t ih =>
    intro j h1 h2
    cases j with
    | zero => simp at h2; subst h2; simp [Lib.indexByte]
    | succ j =>
      simp only [List.take_succ_cons, List.mem_cons, not_or] at h1
      simp only [List.getElem?_cons_succ] at h2
      have := ih h1.2 h2
      unfold Lib.indexByte
      rw [if_neg (by simp; exact fun e => h1.1 e.symm), if_neg (by rw [this]; simp), this]
      omega
theorem idx_no {c : UInt8} {t : T} (h : c ∉ t) : Lib.indexByte t c = -1 := by
  induction t with
  | nil => rfl
  | cons x t ih =>
    simp only [List.mem_cons, not_or] at h
    unfold Lib.indexByte
    rw [if_neg (by simp; exact fun e => h.1 e.symm), if_pos (by rw [ih h.2]; rfl)]
theorem cut_at {p : T} {j : Nat} (h1 : 45 ∉ p.take j) (h2 : p[j]? = some 45) : lo p = num (p.take j) ∧ hi p = num (p.drop (j + 1)) := by
  have h := idx_of h1 h2
  have hj : ¬ ((j : Int) = -1) := by omega
  unfold lo hi cutT cutA cutB
  simp [h, hj]
theorem cut_no {p : T} (h : 45 ∉ p) : lo p = num p ∧ hi p = num p := by
  have h := idx_no h
  unfold lo hi cutT cutA cutB
  rw [h]
  simp

theorem pOk_in {P : List T} (h : ∀ x ∈ P, pOk x = true) : ∀ r ∈ P.map pR, 0 ≤ r.1 ∧ r.1 < r.2 ∧ r.2 ≤ 65536 := by
  intro r hr
  obtain ⟨x, hx, rfl⟩ := List.mem_map.1 hr
  have h1 := (pOk_iff x).1 (h x hx)
  have h2 := hi_bd x
  show 0 ≤ lo x - 1 ∧ lo x - 1 < hi x ∧ hi x ≤ 65536
  omega

end Sp
end Go.Proofs.YtccpjjhaeocfhaaDoor
