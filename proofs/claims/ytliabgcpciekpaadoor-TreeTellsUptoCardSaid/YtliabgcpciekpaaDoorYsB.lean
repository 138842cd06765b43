/- Words for memory: texts and files as cells. -/
import Derived.Test.YtliabgcpciekpaaDoorYb
set_option linter.unusedVariables false
set_option linter.unusedSimpArgs false
namespace Go.Proofs.YtliabgcpciekpaaDoor
open Go Go.RowKit

/-- Texts' cells; files'. -/
def sts (l : List (List UInt8)) : List Value := l.map fun t => .string (bs t)
def fls (l : List (List UInt8 × List UInt8)) : List Value := l.flatMap fun f => [.string (bs f.1), .string (bs f.2)]
theorem sts_length (l : List (List UInt8)) : (sts l).length = l.length := by simp [sts]
theorem sts_at {l : List (List UInt8)} {k : Nat} {t : List UInt8} (h : l[k]? = some t) : (sts l)[k]? = some (.string (bs t)) := by simp [sts, h]
theorem sts_snoc (l : List (List UInt8)) (t : List UInt8) : sts (l ++ [t]) = sts l ++ [.string (bs t)] := by simp [sts]
theorem sts_cat (l m : List (List UInt8)) : sts (l ++ m) = sts l ++ sts m := by simp [sts]
theorem fls_length (l : List (List UInt8 × List UInt8)) : (fls l).length = l.length * 2 := by
  induction l with
  | nil => rfl
  | cons e r ih => simp only [fls, List.flatMap_cons, List.length_append, List.length_cons, List.length_nil] at ih ⊢; omega
theorem fls_cat (l m : List (List UInt8 × List UInt8)) : fls (l ++ m) = fls l ++ fls m := by simp [fls]
theorem fls_at {l : List (List UInt8 × List UInt8)} : ∀ {k : Nat} {e : List UInt8 × List UInt8}, l[k]? = some e → (fls l)[k * 2]? = some (.string (bs e.1)) ∧ (fls l)[k * 2 + 1]? = some (.string (bs e.2)) := by
  induction l with
  | nil => intro k e h; simp at h
  | cons x r ih =>
    intro k e h
    cases k with
    | zero => simp only [List.getElem?_cons_zero, Option.some.injEq] at h; subst h; exact ⟨rfl, rfl⟩
    | succ k =>
      simp only [List.getElem?_cons_succ] at h
      have := ih h
      have e1 : fls (x :: r) = [.string (bs x.1), .string (bs x.2)] ++ fls r := rfl
      rw [e1]
      refine ⟨?_, ?_⟩
      · rw [List.getElem?_append_right (by simp; omega), ← this.1]; congr 1; simp; omega
      · rw [List.getElem?_append_right (by simp; omega), ← this.2]; congr 1; simp; omega
theorem Rd.st {w : World} {A : Option Addr} {l : List (List UInt8)} {n : Nat} (h : Rd w 1 A n (sts l)) {k : Nat} {e : List UInt8} (hk : l[k]? = some e) :
    ∃ b o, A = some ⟨b, o, none⟩ ∧ b < w.heap.size ∧ w.cell? ⟨b, o + k, none⟩ = some (.string (bs e)) := by
  have hl : k < l.length := (List.getElem?_eq_some_iff.1 hk).1
  have h1 := h.1
  rw [sts_length, Nat.mul_one] at h1
  obtain ⟨b, o, e', hlt, hc⟩ := h.2 (by omega)
  exact ⟨b, o, e', hlt, hc _ _ (sts_at hk)⟩
theorem Rd.fi {w : World} {A : Option Addr} {l : List (List UInt8 × List UInt8)} {n : Nat} (h : Rd w 2 A n (fls l)) {k : Nat} {e : List UInt8 × List UInt8} (hk : l[k]? = some e) :
    ∃ b o, A = some ⟨b, o, none⟩ ∧ b < w.heap.size ∧ w.cell? ⟨b, o + k * 2, none⟩ = some (.string (bs e.1)) ∧ w.cell? ⟨b, o + k * 2 + 1, none⟩ = some (.string (bs e.2)) := by
  have hl : k < l.length := (List.getElem?_eq_some_iff.1 hk).1
  have h1 := h.1
  rw [fls_length] at h1
  obtain ⟨b, o, e', hlt, hc⟩ := h.2 (by omega)
  obtain ⟨a1, a2⟩ := fls_at hk
  exact ⟨b, o, e', hlt, hc _ _ a1, by have := hc _ _ a2; rwa [← Nat.add_assoc] at this⟩

end Go.Proofs.YtliabgcpciekpaaDoor
