/- Styles, in plain Lean: white space around a text; digits; lines. -/
import Derived.Test.YtliabgcpciekpaaDoorYlA
set_option linter.unusedVariables false
set_option linter.unusedSimpArgs false
namespace Go.Proofs.YtliabgcpciekpaaDoor
namespace St
open Go

def blk (c : UInt8) : Bool := decide (c = 32) || decide (c = 9) || decide (c = 13)
def trimL (t : T) : T := t.dropWhile blk
def trimR (t : T) : T := (t.reverse.dropWhile blk).reverse
theorem trimL_nil : trimL [] = [] := rfl
theorem trimL_yes {c : UInt8} {t : T} (h : blk c = true) : trimL (c :: t) = trimL t := by simp [trimL, List.dropWhile, h]
theorem trimL_no {c : UInt8} {t : T} (h : blk c = false) : trimL (c :: t) = c :: t := by simp [trimL, List.dropWhile, h]
theorem trimR_nil : trimR [] = [] := rfl
theorem trimR_yes {c : UInt8} {t : T} (h : blk c = true) : trimR (t ++ [c]) = trimR t := by simp [trimR, List.dropWhile, h]
theorem trimR_no {c : UInt8} {t : T} (h : blk c = false) : trimR (t ++ [c]) = t ++ [c] := by simp [trimR, List.dropWhile, h]
theorem trimL_len (t : T) : (trimL t).length ≤ t.length := by
  unfold trimL
  exact (List.dropWhile_sublist _).length_le
theorem trimR_len (t : T) : (trimR t).length ≤ t.length := by
  unfold trimR
  rw [List.length_reverse]
  have := (List.dropWhile_sublist (p := blk) (l := t.reverse)).length_le
  simpa using this

/-- What a text is worth that is digits. -/
def worth (t : T) : Int := t.foldl (fun (n : Int) c => 10 * n + ((c.toNat : Int) - 48)) 0
theorem worth_snoc (t : T) (c : UInt8) : worth (t ++ [c]) = 10 * worth t + ((c.toNat : Int) - 48) := by simp [worth]
def isDig (c : UInt8) : Bool := decide (48 ≤ c.toNat) && decide (c.toNat ≤ 57)
theorem worth_bd : ∀ (k : Nat) (t : T), t.length = k → t.all isDig = true → 0 ≤ worth t ∧ worth t ≤ 10 ^ k - 1 := by
  intro k
  induction k with
  | zero => intro t h _; rw [List.eq_nil_of_length_eq_zero h]; simp [worth]
  | succ k ih =>
    intro t h hd
    rcases List.eq_nil_or_concat t with rfl | ⟨r, c, rfl⟩
    · simp at h
    · rw [List.concat_eq_append] at *
      simp only [List.length_append, List.length_cons, List.length_nil] at h
      rw [List.all_append, Bool.and_eq_true] at hd
      obtain ⟨h1, h2⟩ := ih r (by omega) hd.1
      rw [worth_snoc]
      have h3 : 48 ≤ c.toNat ∧ c.toNat ≤ 57 := by have := hd.2; simp [isDig] at this; exact this
      have h4 : (10 : Int) ^ (k + 1) = 10 * 10 ^ k := by rw [Int.pow_succ]; omega
      omega
/-- Is a text a number of one to seven digits? -/
def isNum (t : T) : Bool := decide (1 ≤ t.length) && decide (t.length ≤ 7) && t.all isDig
theorem isNum_bd {t : T} (h : isNum t = true) : 0 ≤ worth t ∧ worth t ≤ 9999999 := by
  unfold isNum at h
  rw [Bool.and_eq_true, Bool.and_eq_true, decide_eq_true_eq, decide_eq_true_eq] at h
  obtain ⟨⟨h1, h2⟩, h3⟩ := h
  have h4 := worth_bd t.length t rfl h3
  have : t.length = 1 ∨ t.length = 2 ∨ t.length = 3 ∨ t.length = 4 ∨ t.length = 5 ∨ t.length = 6 ∨ t.length = 7 := by omega
  rcases this with e | e | e | e | e | e | e <;> rw [e] at h4 <;> omega

end St
end Go.Proofs.YtliabgcpciekpaaDoor
