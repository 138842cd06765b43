/- Sets of lines, in plain Lean: the pieces of a text between commas; what a piece says; what a text says. -/
import Derived.Test.YtccpjjhaeocfhaaDoorSpB
import Derived.Lib.Bytealg
set_option linter.unusedVariables false
set_option linter.unusedSimpArgs false
namespace Go.Proofs.YtccpjjhaeocfhaaDoor
namespace Sp
open Go
abbrev T := List UInt8

/-- The pieces of a text between the bytes c. -/
def spl (c : UInt8) : T → List T
  | [] => [[]]
  | x :: r => if x = c then [] :: spl c r else match spl c r with
    | [] => [[x]]
    | p :: q => (x :: p) :: q
theorem spl_ne (c : UInt8) (t : T) : spl c t ≠ [] := by
  cases t with
  | nil => simp [spl]
  | cons x r =>
    simp only [spl]
    split
    · simp
    · split <;> simp
theorem idx_none {c : UInt8} {t : T} (h : Lib.indexByte t c = -1) : c ∉ t := by
  induction t with
  | nil => simp
  | cons x t ih =>
    unfold Lib.indexByte at h
    split at h
    · omega
    · next hc =>
      have := Lib.indexByte_ge t c
      split at h
      · next h2 =>
        simp only [List.mem_cons, not_or]
        exact ⟨fun e => hc (by rw [e]; simp), ih (by simpa using h2)⟩
      · next h2 => simp at h2; omega
theorem idx_some {c : UInt8} {t : T} : ∀ {j : Nat}, Lib.indexByte t c = j → j < t.length ∧ c ∉ t.take j ∧ t[j]? = some c := by
  induction t with
  | nil => intro j h; simp [Lib.indexByte] at h
  | cons x t ih =>
    intro j h
    unfold Lib.indexByte at h
    split at h
    · next hc =>
      have : j = 0 := by omega
      subst this
      exact ⟨by simp, by simp, by simpa using hc⟩
    · next hc =>
      split at h
      · omega
      · next h2 =>
        have := Lib.indexByte_ge t c
        obtain ⟨k, rfl⟩ : ∃ k, j = k + 1 := ⟨j - 1, by simp at h2; omega⟩
        obtain ⟨a, b, d⟩ := ih (j := k) (by omega)
        exact ⟨by simp; omega, by simp only [List.take_succ_cons, List.mem_cons, not_or]; exact ⟨fun e => hc (by rw [e]; simp), b⟩, by simpa using d⟩
theorem spl_no {c : UInt8} {t : T} (h : c ∉ t) : spl c t = [t] := by
  induction t with
  | nil => rfl
  | cons x r ih =>
    simp only [List.mem_cons, not_or] at h
    simp only [spl]
    rw [if_neg (fun e => h.1 e.symm), ih h.2]
theorem spl_at {c : UInt8} : ∀ {t : T} {j : Nat}, j < t.length → c ∉ t.take j → t[j]? = some c → spl c t = t.take j :: spl c (t.drop (j + 1)) := by
  intro t
  induction t with
  | nil => intro j h; simp at h
  | cons x r ih =>
    intro j h1 h2 h3
    cases j with
    | zero => simp at h3; subst h3; simp [spl]
    | succ j =>
      simp only [List.take_succ_cons, List.mem_cons, not_or] at h2
      simp only [List.length_cons] at h1
      simp only [List.getElem?_cons_succ] at h3
      have := ih (j := j) (by omega) h2.2 h3
      simp only [spl]
      rw [if_neg (fun e => h2.1 e.symm), this]
      simp
theorem spl_none {c : UInt8} {t : T} (h : Lib.indexByte t c = -1) : spl c t = [t] := spl_no (idx_none h)
theorem spl_some {c : UInt8} {t : T} {j : Nat} (h : Lib.indexByte t c = j) : spl c t = t.take j :: spl c (t.drop (j + 1)) := by
  obtain ⟨a, b, d⟩ := idx_some h
  exact spl_at a b d
theorem spl_length (c : UInt8) (t : T) : (spl c t).length ≤ t.length + 1 := by
  induction t with
  | nil => simp [spl]
  | cons x r ih =>
    simp only [spl]
    split
    · simp; omega
    · split
      · simp
      · next p q h => rw [h] at ih; simp at ih ⊢; omega
theorem spl_mem {c : UInt8} {t : T} : ∀ {x : T}, x ∈ spl c t → x.length ≤ t.length := by
  induction t with
  | nil => intro x h; simp [spl] at h; subst h; simp
  | cons y r ih =>
    intro x h
    simp only [spl] at h
    split at h
    · rcases List.mem_cons.1 h with rfl | h
      · simp
      · have := ih h; simp; omega
    · split at h
      · simp at h; subst h; simp
      · next p q hs =>
        rcases List.mem_cons.1 h with rfl | h
        · have := ih (x := p) (by rw [hs]; simp); simp; omega
        · have := ih (x := x) (by rw [hs]; simp [h]); simp; omega

/-- What a text is worth that is digits. -/
def worth (t : T) : Int := t.foldl (fun (n : Int) c => 10 * n + ((c.toNat : Int) - 48)) 0
theorem worth_snoc (t : T) (c : UInt8) : worth (t ++ [c]) = 10 * worth t + ((c.toNat : Int) - 48) := by simp [worth]
def isDig (c : UInt8) : Bool := decide (48 ≤ c.toNat) && decide (c.toNat ≤ 57)
/-- What a text is worth that is a number from 1 to 65536 without leading zeros; else 0. -/
def num (t : T) : Int :=
  if t = [] ∨ 5 < t.length ∨ t[0]? = some 48 then 0
  else if t.all isDig = true then (if 65536 < worth t then 0 else worth t) else 0
theorem worth_bd : ∀ (k : Nat) (t : T), t.length = k → t.all isDig = true → 0 ≤ worth t ∧ worth t ≤ 10 ^ k - 1 := by
  intro k
  induction k with
  | zero => intro t h _; rw [List.eq_nil_of_length_eq_zero h]; simp [worth]
  | succ k ih =>
    intro t h hd
    rcases List.eq_nil_or_concat t with rfl | ⟨r, c, rfl⟩
    · simp at h
    · rw [List.concat_eq_append] at *
      simp only [List.length_append, List.length_cons, List.length_nil] at h
      rw [List.all_append, Bool.and_eq_true] at hd
      obtain ⟨h1, h2⟩ := ih r (by omega) hd.1
      rw [worth_snoc]
      have h3 : 48 ≤ c.toNat ∧ c.toNat ≤ 57 := by have := hd.2; simp [isDig] at this; exact this
      have h4 : (10 : Int) ^ (k + 1) = 10 * 10 ^ k := by rw [Int.pow_succ]; omega
      omega
theorem num_bd (t : T) : 0 ≤ num t ∧ num t ≤ 65536 := by
  unfold num
  split
  · omega
  · split
    · next h => have := worth_bd t.length t rfl h; split <;> omega
    · omega

/-- A piece, cut at its first '-'. -/
def cutA (t : T) : T := if Lib.indexByte t 45 = -1 then t else t.take (Lib.indexByte t 45).toNat
def cutB (t : T) : T := if Lib.indexByte t 45 = -1 then [] else t.drop ((Lib.indexByte t 45).toNat + 1)
def cutT (t : T) : Bool := !(Lib.indexByte t 45 == -1)
def lo (t : T) : Int := num (cutA t)
def hi (t : T) : Int := if cutT t = true then num (cutB t) else num (cutA t)
/-- Is a piece right? Its range. -/
def pOk (t : T) : Bool := !(decide (lo t = 0)) && decide (lo t ≤ hi t)
def pR (t : T) : R := (lo t - 1, hi t)
theorem lo_bd (t : T) : 0 ≤ lo t ∧ lo t ≤ 65536 := num_bd _
theorem hi_bd (t : T) : 0 ≤ hi t ∧ hi t ≤ 65536 := by unfold hi; split <;> exact num_bd _
theorem pOk_iff (t : T) : pOk t = true ↔ 1 ≤ lo t ∧ lo t ≤ hi t := by
  have := lo_bd t
  simp [pOk]; omega
/-- What a text says: are all its pieces right; the set. -/
def rightT (t : T) : Bool := (spl 44 t).all pOk
def parseL (t : T) : List R := if t = [] then [] else if rightT t = true then setOf (fun i => has ((spl 44 t).map pR) (i : Int)) 65536 else []
def parseE (t : T) : Int := if t = [] then 0 else if rightT t = true then 0 else 190

end Sp
end Go.Proofs.YtccpjjhaeocfhaaDoor
