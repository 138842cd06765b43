/- Edits that came in, opened to cells. -/
import Derived.Test.YtnijaleedbmljaaBase
import Derived.Deep.Slices
import Derived.Deep.Fields
import Derived.ChangeSame
set_option linter.unusedVariables false
set_option linter.unusedSimpArgs false
set_option maxRecDepth 10000
namespace Go.Proofs.Ytnijaleedbmljaa
open Go Go.RowKit Go.ChangeShapes Go.WideShapes Go.Deep

theorem add_eq {a : Addr} (h : a.spot = none) (n : Nat) : a.add n = ⟨a.block, a.off + n, none⟩ := by
  obtain ⟨b, o, s⟩ := a
  simp only at h
  subst h
  unfold Addr.add
  split
  · next h => subst h; rfl
  · rfl

theorem spot_none {w : World} {a : Addr} {v : Value} (h : w.cell? a = some v) : a.spot = none := by
  unfold World.cell? at h
  split at h
  · split at h
    · cases h
    · next h2 => cases hs : a.spot with
      | none => rfl
      | some x => rw [hs] at h2; simp at h2
  · cases h

theorem three_of {α : Type} {l : List α} (h : l.length = 3) : ∃ a b c, l = [a, b, c] := by
  match l, h with
  | [a, b, c], _ => exact ⟨a, b, c, rfl⟩

theorem cellsEd : Try.prog.cellsOf 41 = 3 := by kernel_rfl
theorem cellsI : Try.prog.cellsOf 3 = 1 := by kernel_rfl
theorem cellsS : Try.prog.cellsOf 9 = 1 := by kernel_rfl

def EdAt (w : World) (a : Addr) (i : Nat) (e : Pl.Ed) : Prop :=
  w.cell? (a.add (i * 3)) = some (.int .i64 e.f) ∧ w.cell? (a.add (i * 3 + 1)) = some (.int .i64 e.t) ∧ w.cell? (a.add (i * 3 + 2)) = some (.string (bs e.x)) ∧ e.x.length ≤ maxLen ∧ (Lit.int .i64 e.f).wf = true ∧ (Lit.int .i64 e.t).wf = true

theorem open_edits {H : Type} {enc : TypeId × Value → H} {w : World} {base : Nat} {spare : Nat → Bool} {held : Bool} {fuel : Nat} {A : Option Addr} {len cap : Nat} {x : DataW H × List MemPlace}
    (h : DataW.trod enc Try.prog w base spare held fuel 22 [.slice A len cap] = some x) :
    ∃ l : List Pl.Ed, l.length = len ∧ Rd w 3 A len (edcs l) ∧ len ≤ maxLen ∧ ∀ e ∈ l, e.x.length ≤ maxLen ∧ (Lit.int .i64 e.f).wf = true ∧ (Lit.int .i64 e.t).wf = true := by
  rcases open_slice Try.underlying22 h with ⟨hcs, _⟩ | ⟨a, len', cap', m, n, D, PP, hcs, hb, hl, hm, hmm, hx, hi⟩
  · simp only [List.cons.injEq, Value.slice.injEq, and_true] at hcs
    obtain ⟨rfl, rfl, rfl⟩ := hcs
    exact ⟨[], rfl, Rd.nil _ _ _, by unfold maxLen; omega, by simp⟩
  · simp only [List.cons.injEq, Value.slice.injEq, and_true] at hcs
    obtain ⟨rfl, rfl, rfl⟩ := hcs
    have lenm : len ≤ m := by split at hmm <;> omega
    have key : ∀ i, i < len → ∃ e : Pl.Ed, EdAt w a i e := by
      intro i hil
      obtain ⟨cs', hc, ht'⟩ := hi i (by omega)
      rw [cellsEd] at hc
      obtain ⟨_, hcl, hat⟩ := World.cells?_some hc
      obtain ⟨ys, n', _, _, _, hyl, hf⟩ := DataW.trod_struct Try.underlying41 ht'
      obtain ⟨u0, u1, u2, rfl⟩ := three_of hcl
      obtain ⟨y0, y1, y2, rfl⟩ := three_of (show ys.length = 3 from hyl)
      have h0 : DataW.trod enc Try.prog w base spare held n' 3 (([u0, u1, u2].drop 0).take (Try.prog.cellsOf 3)) = some y0 := hf 0 _ rfl
      have h1 : DataW.trod enc Try.prog w base spare held n' 3 (([u0, u1, u2].drop 1).take (Try.prog.cellsOf 3)) = some y1 := hf 1 _ rfl
      have h2 : DataW.trod enc Try.prog w base spare held n' 9 (([u0, u1, u2].drop 2).take (Try.prog.cellsOf 9)) = some y2 := hf 2 _ rfl
      rw [cellsI] at h0 h1
      rw [cellsS] at h2
      obtain ⟨n0, e0, _, w0⟩ := DataW.trod_int Try.underlying3 (cs := [u0]) (x := y0) h0
      obtain ⟨n1, e1, _, w1⟩ := DataW.trod_int Try.underlying3 (cs := [u1]) (x := y1) h1
      obtain ⟨s2, e2, _, w2⟩ := DataW.trod_string Try.underlying9 (cs := [u2]) (x := y2) h2
      simp only [List.cons.injEq, and_true] at e0 e1 e2
      subst e0 e1 e2
      have a0 := hat 0 (by omega)
      have a1 := hat 1 (by omega)
      have a2 := hat 2 (by omega)
      rw [Go.Deep.add_add] at a0 a1 a2
      refine ⟨⟨n0, n1, s2.data.toList⟩, a0, a1, ?_, ?_, w0, w1⟩
      · rw [bs_of]; exact a2
      · rw [← Lib.size_eq]; exact w2
    have build : ∀ k, k ≤ len → ∃ l : List Pl.Ed, l.length = k ∧ ∀ i e, l[i]? = some e → EdAt w a i e := by
      intro k
      induction k with
      | zero => intro _; exact ⟨[], rfl, by simp⟩
      | succ k ih =>
        intro hk
        obtain ⟨l, hl, hle⟩ := ih (by omega)
        obtain ⟨e, he⟩ := key k (by omega)
        refine ⟨l ++ [e], by simp [hl], fun i e' hi => ?_⟩
        by_cases hil : i < l.length
        · rw [List.getElem?_append_left hil] at hi; exact hle i e' hi
        · have := (List.getElem?_eq_some_iff.1 hi).1
          simp at this
          have hik : i = l.length := by omega
          subst hik
          simp at hi
          subst hi
          rw [hl]; exact he
    obtain ⟨l, hll, hle⟩ := build len (Nat.le_refl _)
    refine ⟨l, hll, ⟨by rw [edcs_length, hll], fun hn => ?_⟩, by omega, fun e he => ?_⟩
    · obtain ⟨k0, _⟩ := hle 0 l[0] (List.getElem?_eq_getElem (by omega))
      have hsp : a.spot = none := by
        have := spot_none k0
        simpa [Addr.add] using this
      have hlt := World.block_lt_of_cell? _ _ k0
      rw [add_eq hsp] at hlt
      refine ⟨a.block, a.off, by rw [← hsp], hlt, fun j u hu => ?_⟩
      have hj := (List.getElem?_eq_some_iff.1 hu).1
      rw [edcs_length, hll] at hj
      have hq : j / 3 < l.length := by omega
      obtain ⟨c0, c1, c2⟩ := edcs_at (List.getElem?_eq_getElem hq)
      obtain ⟨k0, k1, k2, _⟩ := hle _ _ (List.getElem?_eq_getElem hq)
      rw [add_eq hsp] at k0 k1 k2
      have hr : j = j / 3 * 3 ∨ j = j / 3 * 3 + 1 ∨ j = j / 3 * 3 + 2 := by omega
      rcases hr with hr | hr | hr
      · rw [hr] at hu ⊢; rw [c0] at hu; injection hu with hu; subst hu; exact k0
      · rw [hr] at hu ⊢; rw [c1] at hu; injection hu with hu; subst hu; exact k1
      · rw [hr] at hu ⊢; rw [c2] at hu; injection hu with hu; subst hu; exact k2
    · obtain ⟨i, hi, rfl⟩ := List.getElem_of_mem he
      obtain ⟨_, _, _, h1, h2, h3⟩ := hle i _ (List.getElem?_eq_getElem hi)
      exact ⟨h1, h2, h3⟩

end Go.Proofs.Ytnijaleedbmljaa
