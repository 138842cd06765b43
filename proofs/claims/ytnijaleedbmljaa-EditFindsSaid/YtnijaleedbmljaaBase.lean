/- Words for memory: a slice that reads as some cells; strings, edits and ranges as cells; small helpers of the walks. -/
import Derived.Test.YtnijaleedbmljaaProg
import Derived.Test.YtnijaleedbmljaaSeq
import Derived.Test.YtnijaleedbmljaaPlC
import Derived.Lib.Strings
import Derived.WalkKit
import Derived.WalkSpells
import Derived.WalkLawsBesides
import Derived.Deep.QuietTactic
import Derived.BigQuiet
import Derived.Lib.Hide
import Derived.Outline
namespace Go.Proofs.Ytnijaleedbmljaa
open Go Go.RowKit

/-- The slice at A of n elements of sz cells each reads, in w, as the cells xs. -/
def Rd (w : World) (sz : Nat) (A : Option Addr) (n : Nat) (xs : List Value) : Prop :=
  xs.length = n * sz ∧ (0 < n → ∃ b o, A = some ⟨b, o, none⟩ ∧ b < w.heap.size ∧ ∀ j u, xs[j]? = some u → w.cell? ⟨b, o + j, none⟩ = some u)

section
variable {w w' : World} {sz n : Nat} {A : Option Addr} {xs : List Value}
theorem Rd.below (h : Rd w sz A n xs) {B : Nat} (hB : w.heap.size ≤ B) (hb : Below B w w') : Rd w' sz A n xs :=
  ⟨h.1, fun hn => by
    obtain ⟨b, o, e, hlt, hc⟩ := h.2 hn
    exact ⟨b, o, e, Nat.lt_of_lt_of_le hlt hb.size, fun j u hu => (hb.cell (p := ⟨b, o + j, none⟩) (Nat.lt_of_lt_of_le hlt hB)).trans (hc j u hu)⟩⟩
theorem Rd.later (h : Rd w sz A n xs) (hb : Below w.heap.size w w') : Rd w' sz A n xs := h.below (Nat.le_refl _) hb
/-- Whatever lies below the bound B stays. -/
theorem Rd.nil (w : World) (sz : Nat) (A : Option Addr) : Rd w sz A 0 [] := ⟨by simp, fun h => absurd h (by omega)⟩
theorem Rd.of_own {base : Nat} {e : TypeId} {c : Nat} (h : w.ownsRow base e sz (.slice A n c) n xs) : Rd w sz A n xs := by
  refine ⟨h.1, fun hn => ?_⟩
  rcases h.2 with ⟨hv, hx⟩ | ⟨g, cap, cur, hv, hg, hh, r⟩
  · omega
  · injection hv with h1 h2 h3
    refine ⟨g, 0, h1, (Array.getElem?_eq_some_iff.1 hh).1, fun j u hu => ?_⟩
    have := h.cells (g := g) (by rw [h1]; rfl) j u hu
    by_cases hj : j = 0
    · subst hj; simpa [Addr.add] using this
    · simpa [Addr.add, hj] using this
end

/-- A slice value that reads as some cells. -/
def Sl (w : World) (sz : Nat) (v : Value) (n : Nat) (xs : List Value) : Prop := ∃ A c, v = .slice A n c ∧ n ≤ c ∧ Rd w sz A n xs
theorem Sl.later {w w' : World} {sz n : Nat} {v : Value} {xs : List Value} (h : Sl w sz v n xs) (hb : Below w.heap.size w w') : Sl w' sz v n xs := by
  obtain ⟨A, c, e, hc, hr⟩ := h
  exact ⟨A, c, e, hc, hr.later hb⟩
theorem Sl.below {w w' : World} {sz n : Nat} {v : Value} {xs : List Value} (h : Sl w sz v n xs) {B : Nat} (hB : w.heap.size ≤ B) (hb : Below B w w') : Sl w' sz v n xs := by
  obtain ⟨A, c, e, hc, hr⟩ := h
  exact ⟨A, c, e, hc, hr.below hB hb⟩

/-- The string of some bytes. -/
def bs (x : List UInt8) : ByteArray := ⟨x.toArray⟩
theorem bs_data (x : List UInt8) : (bs x).data.toList = x := by simp [bs]
theorem bs_toList (x : List UInt8) : (bs x).toList = x := by rw [Lib.toList_data, bs_data]
theorem bs_of (s : ByteArray) : bs s.data.toList = s := Lib.mk_data s
theorem bs_size (x : List UInt8) : (bs x).size = x.length := by rw [Lib.size_eq, bs_data]
theorem bs_inj {x y : List UInt8} (h : bs x = bs y) : x = y := by rw [← bs_data x, h, bs_data]

/-- An edit's cells; a range's. -/
def edc (e : Pl.Ed) : List Value := [.int .i64 e.f, .int .i64 e.t, .string (bs e.x)]
def edcs (l : List Pl.Ed) : List Value := l.flatMap edc
def rgc (r : Int × Int) : List Value := [.int .i64 r.1, .int .i64 r.2]
def rgcs (l : List (Int × Int)) : List Value := l.flatMap rgc
def strs (l : List Pl.T) : List Value := l.map fun x => .string (bs x)

theorem edcs_length (l : List Pl.Ed) : (edcs l).length = l.length * 3 := by
  induction l with
  | nil => rfl
  | cons e r ih => simp only [edcs, List.flatMap_cons, List.length_append, List.length_cons] at ih ⊢; simp only [edc, List.length_cons, List.length_nil]; omega
theorem rgcs_length (l : List (Int × Int)) : (rgcs l).length = l.length * 2 := by
  induction l with
  | nil => rfl
  | cons e r ih => simp only [rgcs, List.flatMap_cons, List.length_append, List.length_cons] at ih ⊢; simp only [rgc, List.length_cons, List.length_nil]; omega
theorem strs_length (l : List Pl.T) : (strs l).length = l.length := by simp [strs]
theorem edcs_at {l : List Pl.Ed} : ∀ {k : Nat} {e : Pl.Ed}, l[k]? = some e → (edcs l)[k * 3]? = some (.int .i64 e.f) ∧ (edcs l)[k * 3 + 1]? = some (.int .i64 e.t) ∧ (edcs l)[k * 3 + 2]? = some (.string (bs e.x)) := by
  induction l with
  | nil => intro k e h; simp at h
  | cons x r ih =>
    intro k e h
    cases k with
    | zero => simp only [List.getElem?_cons_zero, Option.some.injEq] at h; subst h; exact ⟨rfl, rfl, rfl⟩
    | succ k =>
      simp only [List.getElem?_cons_succ] at h
      have := ih h
      have e1 : edcs (x :: r) = edc x ++ edcs r := rfl
      have e2 : (edc x).length = 3 := rfl
      rw [e1]
      refine ⟨?_, ?_, ?_⟩
      · rw [List.getElem?_append_right (by omega), e2, ← this.1]; congr 1; omega
      · rw [List.getElem?_append_right (by omega), e2, ← this.2.1]; congr 1; omega
      · rw [List.getElem?_append_right (by omega), e2, ← this.2.2]; congr 1; omega
theorem rgcs_at {l : List (Int × Int)} : ∀ {k : Nat} {e : Int × Int}, l[k]? = some e → (rgcs l)[k * 2]? = some (.int .i64 e.1) ∧ (rgcs l)[k * 2 + 1]? = some (.int .i64 e.2) := by
  induction l with
  | nil => intro k e h; simp at h
  | cons x r ih =>
    intro k e h
    cases k with
    | zero => simp only [List.getElem?_cons_zero, Option.some.injEq] at h; subst h; exact ⟨rfl, rfl⟩
    | succ k =>
      simp only [List.getElem?_cons_succ] at h
      have := ih h
      have e1 : rgcs (x :: r) = rgc x ++ rgcs r := rfl
      have e2 : (rgc x).length = 2 := rfl
      rw [e1]
      refine ⟨?_, ?_⟩
      · rw [List.getElem?_append_right (by omega), e2, ← this.1]; congr 1; omega
      · rw [List.getElem?_append_right (by omega), e2, ← this.2]; congr 1; omega
theorem strs_at {l : List Pl.T} {k : Nat} {e : Pl.T} (h : l[k]? = some e) : (strs l)[k]? = some (.string (bs e)) := by simp [strs, h]

theorem Rd.ed {w : World} {A : Option Addr} {l : List Pl.Ed} {n : Nat} (h : Rd w 3 A n (edcs l)) {k : Nat} {e : Pl.Ed} (hk : l[k]? = some e) :
    ∃ b o, A = some ⟨b, o, none⟩ ∧ b < w.heap.size ∧ w.cell? ⟨b, o + k * 3, none⟩ = some (.int .i64 e.f) ∧ w.cell? ⟨b, o + k * 3 + 1, none⟩ = some (.int .i64 e.t) ∧ w.cell? ⟨b, o + k * 3 + 2, none⟩ = some (.string (bs e.x)) := by
  have hl : k < l.length := (List.getElem?_eq_some_iff.1 hk).1
  have h1 := h.1
  rw [edcs_length] at h1
  obtain ⟨b, o, e, hlt, hc⟩ := h.2 (by omega)
  obtain ⟨a1, a2, a3⟩ := edcs_at hk
  exact ⟨b, o, e, hlt, hc _ _ a1, by have := hc _ _ a2; rwa [← Nat.add_assoc] at this, by have := hc _ _ a3; rwa [← Nat.add_assoc] at this⟩

theorem Rd.rg {w : World} {A : Option Addr} {l : List (Int × Int)} {n : Nat} (h : Rd w 2 A n (rgcs l)) {k : Nat} {e : Int × Int} (hk : l[k]? = some e) :
    ∃ b o, A = some ⟨b, o, none⟩ ∧ b < w.heap.size ∧ w.cell? ⟨b, o + k * 2, none⟩ = some (.int .i64 e.1) ∧ w.cell? ⟨b, o + k * 2 + 1, none⟩ = some (.int .i64 e.2) := by
  have hl : k < l.length := (List.getElem?_eq_some_iff.1 hk).1
  have h1 := h.1
  rw [rgcs_length] at h1
  obtain ⟨b, o, e, hlt, hc⟩ := h.2 (by omega)
  obtain ⟨a1, a2⟩ := rgcs_at hk
  exact ⟨b, o, e, hlt, hc _ _ a1, by have := hc _ _ a2; rwa [← Nat.add_assoc] at this⟩
theorem Rd.st {w : World} {A : Option Addr} {l : List Pl.T} {n : Nat} (h : Rd w 1 A n (strs l)) {k : Nat} {e : Pl.T} (hk : l[k]? = some e) :
    ∃ b o, A = some ⟨b, o, none⟩ ∧ b < w.heap.size ∧ w.cell? ⟨b, o + k, none⟩ = some (.string (bs e)) := by
  have hl : k < l.length := (List.getElem?_eq_some_iff.1 hk).1
  have h1 := h.1
  rw [strs_length] at h1
  obtain ⟨b, o, e, hlt, hc⟩ := h.2 (by omega)
  exact ⟨b, o, e, hlt, hc _ _ (strs_at hk)⟩

theorem neq_ed (e f : Pl.Ed) (w : World) : (binOp .neq 41 (.agg #[.int .i64 e.f, .int .i64 e.t, .string (bs e.x)]) (.agg #[.int .i64 f.f, .int .i64 f.t, .string (bs f.x)])).run Try.prog w = .ok (.bool (decide (e ≠ f))) w := by
  rw [run_neq_struct]
  simp [go_sem, bs_toList]
  obtain ⟨a, b, x⟩ := e
  obtain ⟨c, d, y⟩ := f
  simp only [Pl.Ed.mk.injEq]
  by_cases h1 : a = c <;> by_cases h2 : b = d <;> by_cases h3 : x = y <;> simp [h1, h2, h3]
theorem neq_rg (e f : Int × Int) (w : World) : (binOp .neq 70 (.agg #[.int .i64 e.1, .int .i64 e.2]) (.agg #[.int .i64 f.1, .int .i64 f.2])).run Try.prog w = .ok (.bool (decide (e ≠ f))) w := by
  rw [run_neq_struct]
  simp [go_sem]
  obtain ⟨a, b⟩ := e
  obtain ⟨c, d⟩ := f
  simp only [Prod.mk.injEq]
  by_cases h1 : a = c <;> by_cases h2 : b = d <;> simp [h1, h2]

theorem below_drewN {B : Nat} {a w : World} (h : Below B a w) (n : Nat) : Below B a (w.drewN n) := ⟨h.os, h.tape, h.output, h.size, h.block⟩
theorem ret_int {k : IntKind} {a b : Int} (h : a = b) : Ending.returned (.int k a) = .returned (.int k b) := by rw [h]
theorem ret_bool {a b : Bool} (h : a = b) : Ending.returned (.bool a) = .returned (.bool b) := by rw [h]

end Go.Proofs.Ytnijaleedbmljaa
