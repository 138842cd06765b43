/- Files that came in, opened to cells. -/
import Derived.Test.YtliabgcpciekpaaDoorOpS
set_option linter.unusedVariables false
set_option linter.unusedSimpArgs false
set_option maxRecDepth 10000
namespace Go.Proofs.YtliabgcpciekpaaDoor
open Go Go.RowKit Go.ChangeShapes Go.WideShapes Go.Deep

theorem cellsF : Tryd.prog.cellsOf 43 = 2 := by kernel_rfl
theorem bytesF : Tryd.prog.bytesOf 43 = 32 := by kernel_rfl
theorem two_ofF {α : Type} {l : List α} (h : l.length = 2) : ∃ a b, l = [a, b] := by
  match l, h with
  | [a, b], _ => exact ⟨a, b, rfl⟩
theorem buildF {α : Type} (P : Nat → α → Prop) (len : Nat) (key : ∀ i, i < len → ∃ e : α, P i e) : ∃ l : List α, l.length = len ∧ ∀ i e, l[i]? = some e → P i e := by
  have : ∀ k, k ≤ len → ∃ l : List α, l.length = k ∧ ∀ i e, l[i]? = some e → P i e := by
    intro k
    induction k with
    | zero => intro _; exact ⟨[], rfl, by simp⟩
    | succ k ih =>
      intro hk
      obtain ⟨l, hl, hle⟩ := ih (by omega)
      obtain ⟨e, he⟩ := key k (by omega)
      refine ⟨l ++ [e], by simp [hl], fun i e' hi => ?_⟩
      by_cases hil : i < l.length
      · rw [List.getElem?_append_left hil] at hi; exact hle i e' hi
      · have := (List.getElem?_eq_some_iff.1 hi).1
        simp at this
        have hik : i = l.length := by omega
        subst hik
        rw [List.getElem?_append_right (Nat.le_refl _)] at hi
        simp at hi
        subst hi
        rw [hl]; exact he
  exact this len (Nat.le_refl _)
def FiAt (w : World) (a : Addr) (ws : List Nat) (i : Nat) (e : List UInt8 × List UInt8) : Prop :=
  w.cell? (a.add (i * 2)) = some (.string (bs e.1)) ∧ w.cell? (a.add (i * 2 + 1)) = some (.string (bs e.2)) ∧ e.1.length ∈ ws ∧ e.2.length ∈ ws

theorem open_files {H : Type} {enc : TypeId × Value → H} {w : World} {base : Nat} {spare : Nat → Bool} {held : Bool} {fuel : Nat} {A : Option Addr} {len cap : Nat} {x : DataW H × List MemPlace}
    (h : DataW.trod enc Tryd.prog w base spare held fuel 41 [.slice A len cap] = some x) :
    ∃ l : List (List UInt8 × List UInt8), l.length = len ∧ Rd w 2 A len (fls l) ∧ len ≤ maxLen ∧ (0 < len → ∃ n ∈ x.1.weights Tryd.prog 41, len * 32 ≤ n) ∧
      ∀ e ∈ l, e.1.length ∈ x.1.weights Tryd.prog 41 ∧ e.2.length ∈ x.1.weights Tryd.prog 41 := by
  have hu := Tryd.underlying41
  rcases open_slice Tryd.underlying41 h with ⟨hcs, _⟩ | ⟨a, len', cap', m, n, D, PP, hcs, hb, hl, hm, hmm, hx, hi⟩
  · simp only [List.cons.injEq, Value.slice.injEq, and_true] at hcs
    obtain ⟨rfl, rfl, rfl⟩ := hcs
    exact ⟨[], rfl, Rd.nil _ _ _, by unfold maxLen; omega, fun h => absurd h (by omega), by simp⟩
  · simp only [List.cons.injEq, Value.slice.injEq, and_true] at hcs
    obtain ⟨rfl, rfl, rfl⟩ := hcs
    have lenm : len ≤ m := by split at hmm <;> omega
    have hwt : ∀ i, i < len → ∀ k ∈ (D i).weights Tryd.prog 43, k ∈ x.1.weights Tryd.prog 41 := by
      intro i hil k hk
      rw [hx]
      simp only [DataW.weights, hu, List.mem_cons, List.mem_append]
      exact Or.inr (Or.inl (weightsAll_memS (List.mem_map.2 ⟨i, List.mem_range.2 hil, rfl⟩) k hk))
    have key : ∀ i, i < len → ∃ e : List UInt8 × List UInt8, FiAt w a (x.1.weights Tryd.prog 41) i e := by
      intro i hil
      obtain ⟨cs', hc, ht'⟩ := hi i (by omega)
      rw [cellsF] at hc
      obtain ⟨_, hcl, hat⟩ := World.cells?_some hc
      obtain ⟨ys, n', _, hd, _, hyl, hf⟩ := DataW.trod_struct Tryd.underlying43 ht'
      obtain ⟨u0, u1, rfl⟩ := two_ofF hcl
      obtain ⟨y0, y1, rfl⟩ := two_ofF (show ys.length = 2 from hyl)
      have h0 : DataW.trod enc Tryd.prog w base spare held n' 9 (([u0, u1].drop 0).take (Tryd.prog.cellsOf 9)) = some y0 := hf 0 _ rfl
      have h1 : DataW.trod enc Tryd.prog w base spare held n' 9 (([u0, u1].drop 1).take (Tryd.prog.cellsOf 9)) = some y1 := hf 1 _ rfl
      rw [cellsS] at h0 h1
      obtain ⟨n0, e0, r0, w0⟩ := DataW.trod_string Tryd.underlying9 (cs := [u0]) (x := y0) h0
      obtain ⟨n1, e1, r1, w1⟩ := DataW.trod_string Tryd.underlying9 (cs := [u1]) (x := y1) h1
      simp only [List.cons.injEq, and_true] at e0 e1
      subst e0 e1
      have a0 := hat 0 (by omega)
      have a1 := hat 1 (by omega)
      rw [Go.Deep.add_add] at a0 a1
      have hdd := congrArg Prod.fst hd
      simp only [List.map_cons, List.map_nil, r0, r1] at hdd
      refine ⟨(n0.data.toList, n1.data.toList), ?_, ?_, hwt i hil _ ?_, hwt i hil _ ?_⟩
      · rw [bs_of]; exact a0
      · rw [bs_of]; exact a1
      · rw [hdd]; simp [DataW.weights, Tryd.underlying43, DataW.weightsEach]
      · rw [hdd]; simp [DataW.weights, Tryd.underlying43, DataW.weightsEach]
    obtain ⟨l, hll, hle⟩ := buildF (FiAt w a _) len key
    refine ⟨l, hll, ⟨by rw [fls_length, hll], fun hn => ?_⟩, by omega, fun h0 => ?_, fun e he => ?_⟩
    · obtain ⟨k0, _⟩ := hle 0 l[0] (List.getElem?_eq_getElem (by omega))
      have hsp : a.spot = none := by
        have := spot_noneS k0
        simpa [Addr.add] using this
      have hlt := cell_block_lt k0
      rw [add_eqS hsp] at hlt
      refine ⟨a.block, a.off, by rw [← hsp], hlt, fun j u hu => ?_⟩
      have hj := (List.getElem?_eq_some_iff.1 hu).1
      rw [fls_length, hll] at hj
      have hq : j / 2 < l.length := by omega
      obtain ⟨c0, c1⟩ := fls_at (List.getElem?_eq_getElem hq)
      obtain ⟨k0, k1, _⟩ := hle _ _ (List.getElem?_eq_getElem hq)
      rw [add_eqS hsp] at k0 k1
      have hr : j = j / 2 * 2 ∨ j = j / 2 * 2 + 1 := by omega
      rcases hr with hr | hr
      · rw [hr] at hu ⊢; rw [c0] at hu; injection hu with hu; subst hu; exact k0
      · rw [hr] at hu ⊢; rw [c1] at hu; injection hu with hu; subst hu; exact k1
    · refine ⟨(((List.range len).map D).length + ((List.range (m - len)).map fun j => D (len + j)).length) * Tryd.prog.bytesOf 43, ?_, ?_⟩
      · rw [hx]; simp [DataW.weights, hu]
      · rw [bytesF]; simp; omega
    · obtain ⟨i, hi, rfl⟩ := List.getElem_of_mem he
      obtain ⟨_, _, h1, h2⟩ := hle i _ (List.getElem?_eq_getElem hi)
      exact ⟨h1, h2⟩

theorem files_reach {n : Nat} {ws : List Nat} (h : 0 < n → ∃ k ∈ ws, n * 32 ≤ k) (hw : ∀ k ∈ ws, k ≤ reachBytes) : n ≤ 4398046511103 := by
  rcases Nat.eq_zero_or_pos n with h0 | h0
  · omega
  · obtain ⟨k, h1, h2⟩ := h h0
    have := hw k h1
    unfold reachBytes at this
    omega

end Go.Proofs.YtliabgcpciekpaaDoor
