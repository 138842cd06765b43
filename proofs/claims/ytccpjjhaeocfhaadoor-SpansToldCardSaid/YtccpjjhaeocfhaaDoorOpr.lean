/- Ranges and numbers that came in, opened to cells. -/
import Derived.Test.YtccpjjhaeocfhaaDoorSb
import Derived.Deep.Slices
import Derived.Deep.Fields
import Derived.ChangeSame
set_option linter.unusedVariables false
set_option linter.unusedSimpArgs false
set_option maxRecDepth 10000
namespace Go.Proofs.YtccpjjhaeocfhaaDoor
open Go Go.RowKit Go.ChangeShapes Go.WideShapes Go.Deep

theorem add_eq {a : Addr} (h : a.spot = none) (n : Nat) : a.add n = ⟨a.block, a.off + n, none⟩ := by
  obtain ⟨b, o, s⟩ := a
  simp only at h
  subst h
  unfold Addr.add
  split
  · next h => subst h; rfl
  · rfl

theorem spot_none {w : World} {a : Addr} {v : Value} (h : w.cell? a = some v) : a.spot = none := by
  unfold World.cell? at h
  split at h
  · split at h
    · cases h
    · next h2 => cases hs : a.spot with
      | none => rfl
      | some x => rw [hs] at h2; simp at h2
  · cases h

theorem two_of {α : Type} {l : List α} (h : l.length = 2) : ∃ a b, l = [a, b] := by
  match l, h with
  | [a, b], _ => exact ⟨a, b, rfl⟩
theorem one_of {α : Type} {l : List α} (h : l.length = 1) : ∃ a, l = [a] := by
  match l, h with
  | [a], _ => exact ⟨a, rfl⟩

theorem cellsRg : Tryd.prog.cellsOf 38 = 2 := by kernel_rfl
theorem cellsI : Tryd.prog.cellsOf 3 = 1 := by kernel_rfl

/-- Element by element, the list of what is read. -/
theorem build {α : Type} (P : Nat → α → Prop) (len : Nat) (key : ∀ i, i < len → ∃ e : α, P i e) : ∃ l : List α, l.length = len ∧ ∀ i e, l[i]? = some e → P i e := by
  have : ∀ k, k ≤ len → ∃ l : List α, l.length = k ∧ ∀ i e, l[i]? = some e → P i e := by
    intro k
    induction k with
    | zero => intro _; exact ⟨[], rfl, by simp⟩
    | succ k ih =>
      intro hk
      obtain ⟨l, hl, hle⟩ := ih (by omega)
      obtain ⟨e, he⟩ := key k (by omega)
      refine ⟨l ++ [e], by simp [hl], fun i e' hi => ?_⟩
      by_cases hil : i < l.length
      · rw [List.getElem?_append_left hil] at hi; exact hle i e' hi
      · have := (List.getElem?_eq_some_iff.1 hi).1
        simp at this
        have hik : i = l.length := by omega
        subst hik
        rw [List.getElem?_append_right (Nat.le_refl _)] at hi
        simp at hi
        subst hi
        rw [hl]; exact he
  exact this len (Nat.le_refl _)

def RgAt (w : World) (a : Addr) (i : Nat) (e : Sp.R) : Prop :=
  w.cell? (a.add (i * 2)) = some (.int .i64 e.1) ∧ w.cell? (a.add (i * 2 + 1)) = some (.int .i64 e.2) ∧ (Lit.int .i64 e.1).wf = true ∧ (Lit.int .i64 e.2).wf = true
def NuAt (w : World) (a : Addr) (i : Nat) (e : Int) : Prop := w.cell? (a.add i) = some (.int .i64 e) ∧ (Lit.int .i64 e).wf = true

theorem open_ranges {H : Type} {enc : TypeId × Value → H} {w : World} {base : Nat} {spare : Nat → Bool} {held : Bool} {fuel : Nat} {A : Option Addr} {len cap : Nat} {x : DataW H × List MemPlace}
    (h : DataW.trod enc Tryd.prog w base spare held fuel 22 [.slice A len cap] = some x) :
    ∃ l : List Sp.R, l.length = len ∧ Rd w 2 A len (rgcs l) ∧ len ≤ maxLen ∧ ∀ e ∈ l, (Lit.int .i64 e.1).wf = true ∧ (Lit.int .i64 e.2).wf = true := by
  rcases open_slice Tryd.underlying22 h with ⟨hcs, _⟩ | ⟨a, len', cap', m, n, D, PP, hcs, hb, hl, hm, hmm, hx, hi⟩
  · simp only [List.cons.injEq, Value.slice.injEq, and_true] at hcs
    obtain ⟨rfl, rfl, rfl⟩ := hcs
    exact ⟨[], rfl, Rd.nil _ _ _, by unfold maxLen; omega, by simp⟩
  · simp only [List.cons.injEq, Value.slice.injEq, and_true] at hcs
    obtain ⟨rfl, rfl, rfl⟩ := hcs
    have lenm : len ≤ m := by split at hmm <;> omega
    have key : ∀ i, i < len → ∃ e : Sp.R, RgAt w a i e := by
      intro i hil
      obtain ⟨cs', hc, ht'⟩ := hi i (by omega)
      rw [cellsRg] at hc
      obtain ⟨_, hcl, hat⟩ := World.cells?_some hc
      obtain ⟨ys, n', _, _, _, hyl, hf⟩ := DataW.trod_struct Tryd.underlying38 ht'
      obtain ⟨u0, u1, rfl⟩ := two_of hcl
      obtain ⟨y0, y1, rfl⟩ := two_of (show ys.length = 2 from hyl)
      have h0 : DataW.trod enc Tryd.prog w base spare held n' 3 (([u0, u1].drop 0).take (Tryd.prog.cellsOf 3)) = some y0 := hf 0 _ rfl
      have h1 : DataW.trod enc Tryd.prog w base spare held n' 3 (([u0, u1].drop 1).take (Tryd.prog.cellsOf 3)) = some y1 := hf 1 _ rfl
      rw [cellsI] at h0 h1
      obtain ⟨n0, e0, _, w0⟩ := DataW.trod_int Tryd.underlying3 (cs := [u0]) (x := y0) h0
      obtain ⟨n1, e1, _, w1⟩ := DataW.trod_int Tryd.underlying3 (cs := [u1]) (x := y1) h1
      simp only [List.cons.injEq, and_true] at e0 e1
      subst e0 e1
      have a0 := hat 0 (by omega)
      have a1 := hat 1 (by omega)
      rw [Go.Deep.add_add] at a0 a1
      exact ⟨(n0, n1), a0, a1, w0, w1⟩
    obtain ⟨l, hll, hle⟩ := build (RgAt w a) len key
    refine ⟨l, hll, ⟨by rw [rgcs_length, hll], fun hn => ?_⟩, by omega, fun e he => ?_⟩
    · obtain ⟨k0, _⟩ := hle 0 l[0] (List.getElem?_eq_getElem (by omega))
      have hsp : a.spot = none := by
        have := spot_none k0
        simpa [Addr.add] using this
      have hlt := World.block_lt_of_cell? _ _ k0
      rw [add_eq hsp] at hlt
      refine ⟨a.block, a.off, by rw [← hsp], hlt, fun j u hu => ?_⟩
      have hj := (List.getElem?_eq_some_iff.1 hu).1
      rw [rgcs_length, hll] at hj
      have hq : j / 2 < l.length := by omega
      obtain ⟨c0, c1⟩ := rgcs_at (List.getElem?_eq_getElem hq)
      obtain ⟨k0, k1, _⟩ := hle _ _ (List.getElem?_eq_getElem hq)
      rw [add_eq hsp] at k0 k1
      have hr : j = j / 2 * 2 ∨ j = j / 2 * 2 + 1 := by omega
      rcases hr with hr | hr
      · rw [hr] at hu ⊢; rw [c0] at hu; injection hu with hu; subst hu; exact k0
      · rw [hr] at hu ⊢; rw [c1] at hu; injection hu with hu; subst hu; exact k1
    · obtain ⟨i, hi, rfl⟩ := List.getElem_of_mem he
      obtain ⟨_, _, h1, h2⟩ := hle i _ (List.getElem?_eq_getElem hi)
      exact ⟨h1, h2⟩

theorem open_nums {H : Type} {enc : TypeId × Value → H} {w : World} {base : Nat} {spare : Nat → Bool} {held : Bool} {fuel : Nat} {A : Option Addr} {len cap : Nat} {x : DataW H × List MemPlace}
    (h : DataW.trod enc Tryd.prog w base spare held fuel 34 [.slice A len cap] = some x) :
    ∃ l : List Int, l.length = len ∧ Rd w 1 A len (ins l) ∧ len ≤ maxLen ∧ ∀ e ∈ l, (Lit.int .i64 e).wf = true := by
  rcases open_slice Tryd.underlying34 h with ⟨hcs, _⟩ | ⟨a, len', cap', m, n, D, PP, hcs, hb, hl, hm, hmm, hx, hi⟩
  · simp only [List.cons.injEq, Value.slice.injEq, and_true] at hcs
    obtain ⟨rfl, rfl, rfl⟩ := hcs
    exact ⟨[], rfl, Rd.nil _ _ _, by unfold maxLen; omega, by simp⟩
  · simp only [List.cons.injEq, Value.slice.injEq, and_true] at hcs
    obtain ⟨rfl, rfl, rfl⟩ := hcs
    have lenm : len ≤ m := by split at hmm <;> omega
    have key : ∀ i, i < len → ∃ e : Int, NuAt w a i e := by
      intro i hil
      obtain ⟨cs', hc, ht'⟩ := hi i (by omega)
      rw [cellsI] at hc
      obtain ⟨_, hcl, hat⟩ := World.cells?_some hc
      obtain ⟨u0, rfl⟩ := one_of hcl
      obtain ⟨n0, e0, _, w0⟩ := DataW.trod_int Tryd.underlying3 ht'
      simp only [List.cons.injEq, and_true] at e0
      subst e0
      have a0 := hat 0 (by omega)
      rw [Go.Deep.add_add] at a0
      exact ⟨n0, by simpa using a0, w0⟩
    obtain ⟨l, hll, hle⟩ := build (NuAt w a) len key
    refine ⟨l, hll, ⟨by simp [ins, hll], fun hn => ?_⟩, by omega, fun e he => ?_⟩
    · obtain ⟨k0, _⟩ := hle 0 l[0] (List.getElem?_eq_getElem (by omega))
      have hsp : a.spot = none := by
        have := spot_none k0
        simpa [Addr.add] using this
      have hlt := World.block_lt_of_cell? _ _ k0
      rw [add_eq hsp] at hlt
      refine ⟨a.block, a.off, by rw [← hsp], hlt, fun j u hu => ?_⟩
      have hj := (List.getElem?_eq_some_iff.1 hu).1
      have hjl : j < l.length := by simpa [ins] using hj
      obtain ⟨k0, _⟩ := hle _ _ (List.getElem?_eq_getElem hjl)
      rw [add_eq hsp] at k0
      have : u = .int .i64 l[j] := by simp [ins, hjl] at hu; exact hu.symm
      rw [this]; exact k0
    · obtain ⟨i, hi, rfl⟩ := List.getElem_of_mem he
      exact (hle i _ (List.getElem?_eq_getElem hi)).2

end Go.Proofs.YtccpjjhaeocfhaaDoor
