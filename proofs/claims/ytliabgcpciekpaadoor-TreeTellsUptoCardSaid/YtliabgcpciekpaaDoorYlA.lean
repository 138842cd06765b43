/- Styles, in plain Lean: the table of entries; what a style's text is. -/
import Derived.Test.YtliabgcpciekpaaDoorYb
import Derived.Lib.ItoaNum
set_option linter.unusedVariables false
set_option linter.unusedSimpArgs false
namespace Go.Proofs.YtliabgcpciekpaaDoor
namespace St
open Go
abbrev T := List UInt8
/-- An entry's name, least, greatest and first number; is it a flag? -/
def nm : Nat → T
  | 0 => [99, 111, 108, 117, 109, 110, 115]
  | 1 => [105, 110, 100, 101, 110, 116]
  | 2 => [104, 97, 110, 103]
  | 3 => [98, 108, 97, 110, 107, 115]
  | 4 => [107, 101, 101, 112]
  | 5 => [97, 108, 105, 103, 110]
  | 6 => [114, 101, 102, 108, 111, 119]
  | 7 => [101, 120, 99, 101, 115, 115]
  | 8 => [111, 112, 101, 110]
  | 9 => [99, 111, 109, 109, 97]
  | 10 => [97, 115, 115, 105, 103, 110]
  | 11 => [99, 104, 111, 105, 99, 101]
  | 12 => [108, 111, 103, 105, 99]
  | 13 => [99, 111, 109, 112, 97, 114, 101]
  | 14 => [115, 117, 109]
  | 15 => [112, 114, 111, 100, 117, 99, 116]
  | 16 => [109, 101, 109, 98, 101, 114]
  | 17 => [101, 108, 115, 101]
  | _ => []
def low (i : Nat) : Int := if i = 0 then 1 else 0
def high : Nat → Int
  | 0 => 4096
  | 1 => 16
  | 2 => 16
  | 3 => 8
  | 4 => 1
  | 5 => 1
  | 6 => 1
  | _ => 1000000
def first : Nat → Int
  | 0 => 80
  | 1 => 4
  | 2 => 8
  | 3 => 1
  | 4 => 0
  | 5 => 1
  | 6 => 1
  | 7 => 1000
  | 8 => 10
  | 9 => 1
  | 10 => 5
  | 11 => 3
  | 12 => 4
  | 13 => 6
  | 14 => 7
  | 15 => 8
  | 16 => 9
  | 17 => 20
  | _ => 0
def isFl (i : Nat) : Bool := decide (i = 4) || decide (i = 5) || decide (i = 6)

theorem below18 {p : Nat → Prop} (h : ∀ i ∈ List.range 18, p i) : ∀ i, i < 18 → p i := fun i hi => h i (List.mem_range.2 hi)
theorem nm_len : ∀ i, i < 18 → (nm i).length ≤ 7 := below18 (by decide)
theorem low_bd (i : Nat) : 0 ≤ low i ∧ low i ≤ 1 := by unfold low; split <;> omega
theorem high_bd : ∀ i, i < 18 → 1 ≤ high i ∧ high i ≤ 1000000 := below18 (by decide)
theorem first_in : ∀ i, i < 18 → low i ≤ first i ∧ first i ≤ high i := below18 (by decide)
theorem fl_high : ∀ i, i < 18 → isFl i = true → low i = 0 ∧ high i = 1 := below18 (by decide)

/-- A cell of a style: the number x at the entry i. -/
def cellN (i : Nat) (x : Int) : Value := if isFl i = true then .bool (x == 1) else .int .i64 x
/-- A style's cells. -/
def stv (v : Nat → Int) : List Value := (List.range 18).map fun i => cellN i (v i)
theorem stv_len (v : Nat → Int) : (stv v).length = 18 := by simp [stv]
theorem stv_at (v : Nat → Int) {i : Nat} (h : i < 18) : (stv v)[i]? = some (cellN i (v i)) := by simp [stv, h]
/-- Flags are 0 or 1. -/
def Fl (v : Nat → Int) : Prop := ∀ i, i < 18 → isFl i = true → v i = 0 ∨ v i = 1
def sput (v : Nat → Int) (i : Nat) (x : Int) : Nat → Int := fun j => if j = i then x else v j
theorem stv_upd (v : Nat → Int) {i : Nat} (h : i < 18) (x : Int) : (stv v).set i (cellN i x) = stv (sput v i x) := by
  apply List.ext_getElem?
  intro j
  rw [List.getElem?_set]
  by_cases hj : j < 18
  · rw [stv_at (sput v i x) hj]
    by_cases e : i = j
    · subst e; rw [if_pos rfl, if_pos (by rw [stv_len]; exact h)]; show _ = some (cellN i (if i = i then x else v i)); rw [if_pos rfl]
    · rw [if_neg e, stv_at v hj]; show _ = some (cellN j (if j = i then x else v j)); rw [if_neg (Ne.symm e)]
  · have h1 : i ≠ j := by omega
    rw [if_neg h1, List.getElem?_eq_none (by rw [stv_len]; omega), List.getElem?_eq_none (by rw [stv_len]; omega)]
theorem Fl.put {v : Nat → Int} (h : Fl v) {i : Nat} {x : Int} (hx : isFl i = true → x = 0 ∨ x = 1) : Fl (sput v i x) := by
  intro j hj hf
  unfold sput
  by_cases e : j = i
  · rw [if_pos e]; exact hx (e ▸ hf)
  · rw [if_neg e]; exact h j hj hf

/-- May a style be? -/
def inR (v : Nat → Int) (i : Nat) : Bool := decide (low i ≤ v i) && decide (v i ≤ high i)
def chk (v : Nat → Int) : Bool := (List.range 18).all fun i => inR v i
theorem inR_iff (v : Nat → Int) (i : Nat) : inR v i = true ↔ low i ≤ v i ∧ v i ≤ high i := by unfold inR; rw [Bool.and_eq_true, decide_eq_true_eq, decide_eq_true_eq]
theorem chk_iff (v : Nat → Int) : chk v = true ↔ ∀ i, i < 18 → low i ≤ v i ∧ v i ≤ high i := by
  unfold chk
  rw [List.all_eq_true]
  exact ⟨fun h i hi => (inR_iff v i).1 (h i (List.mem_range.2 hi)), fun h i hi => (inR_iff v i).2 (h i (List.mem_range.1 hi))⟩
theorem chk_no {v : Nat → Int} {i : Nat} (h : i < 18) (hi : inR v i = false) : chk v = false := by
  rw [Bool.eq_false_iff]
  intro e
  have := (inR_iff v i).2 ((chk_iff v).1 e i h)
  rw [hi] at this
  cases this

/-- A line of a style's text; the text. -/
def ln (v : Nat → Int) (i : Nat) : T := nm i ++ [32, 61, 32] ++ Lib.itoa (v i) ++ [10]
def txt (v : Nat → Int) (n : Nat) : T := (List.range n).flatMap (ln v)
theorem txt_succ (v : Nat → Int) (n : Nat) : txt v (n + 1) = txt v n ++ ln v n := by simp [txt, List.range_succ, List.flatMap_append]
theorem decDigits_le (u : Nat) : (Lib.decDigits u).length ≤ u + 1 := by
  induction u using Nat.strongRecOn with
  | ind u ih =>
    unfold Lib.decDigits
    split
    · simp
    · have := ih (u / 10) (by omega)
      simp only [List.length_append, List.length_cons, List.length_nil]
      omega
theorem itoa_le {n : Int} (h : 0 ≤ n) (h2 : n ≤ 1000000) : (Lib.itoa n).length ≤ 1000001 := by
  unfold Lib.itoa
  rw [if_neg (by omega)]
  have := decDigits_le n.toNat
  omega
theorem ln_len {v : Nat → Int} {i : Nat} (hi : i < 18) (h : low i ≤ v i ∧ v i ≤ high i) : (ln v i).length ≤ 2000000 := by
  have h1 := nm_len i hi
  have h2 := low_bd i
  have h3 := high_bd i hi
  have h4 := itoa_le (n := v i) (by omega) (by omega)
  simp only [ln, List.length_append, List.length_cons, List.length_nil]
  omega

end St
end Go.Proofs.YtliabgcpciekpaaDoor
