/- Several texts in one. -/
import Derived.Test.YtliabgcpciekpaaDoorYsB
import Derived.Deep.Strs
import Derived.Deep.Slices
import Derived.Deep.Fields
import Derived.ChangeSame
import Derived.SizedLaws
import Derived.Test.YtliabgcpciekpaaDoorRows
/-! Texts that came in, opened to cells. -/
set_option linter.unusedVariables false
set_option linter.unusedSimpArgs false
set_option maxRecDepth 10000
namespace Go.Proofs.YtliabgcpciekpaaDoor
open Go Go.RowKit Go.ChangeShapes Go.WideShapes Go.Deep

theorem add_eqS {a : Addr} (h : a.spot = none) (n : Nat) : a.add n = ⟨a.block, a.off + n, none⟩ := by
  obtain ⟨b, o, s⟩ := a
  simp only at h
  subst h
  unfold Addr.add
  split
  · next h => subst h; rfl
  · rfl
theorem spot_noneS {w : World} {a : Addr} {v : Value} (h : w.cell? a = some v) : a.spot = none := by
  unfold World.cell? at h
  split at h
  · split at h
    · cases h
    · next h2 => cases hs : a.spot with
      | none => rfl
      | some x => rw [hs] at h2; simp at h2
  · cases h
theorem add_spotS (a : Addr) (n : Nat) : (a.add n).spot = a.spot ∨ a.spot ≠ none := by
  cases hs : a.spot with
  | none => left; rw [add_eqS hs]
  | some x => right; simp
theorem cell_block_lt {w : World} {a : Addr} {v : Value} (h : w.cell? a = some v) : a.block < w.heap.size := by
  unfold World.cell? at h
  split at h
  · next h2 => exact (Array.getElem?_eq_some_iff.1 h2).1
  · cases h
theorem weightsAll_memS {H : Type} {P : Program} {e : TypeId} {l : List (DataW H)} {d : DataW H} (hd : d ∈ l) : ∀ n ∈ d.weights P e, n ∈ DataW.weightsAll P e l := by
  induction l with
  | nil => simp at hd
  | cons x r ih =>
    intro n hn
    simp only [DataW.weightsAll, List.mem_append]
    rcases List.mem_cons.1 hd with rfl | h
    · exact Or.inl hn
    · exact Or.inr (ih h n hn)
theorem cellsS : Tryd.prog.cellsOf 9 = 1 := by kernel_rfl
theorem bytesS : Tryd.prog.bytesOf 9 = 16 := by kernel_rfl

theorem open_texts {H : Type} {enc : TypeId × Value → H} {w : World} {base : Nat} {spare : Nat → Bool} {held : Bool} {fuel : Nat} {A : Option Addr} {len cap : Nat} {x : DataW H × List MemPlace}
    (h : DataW.trod enc Tryd.prog w base spare held fuel 38 [.slice A len cap] = some x) :
    ∃ l : List (List UInt8), l.length = len ∧ Rd w 1 A len (sts l) ∧ len ≤ maxLen ∧ (0 < len → ∃ n ∈ x.1.weights Tryd.prog 38, len ≤ n) ∧ ∀ t ∈ l, t.length ∈ x.1.weights Tryd.prog 38 := by
  rcases open_strs Tryd.underlying38 Tryd.underlying9 cellsS h with ⟨hcs, _⟩ | ⟨a, len', cap', m, Sx, hcs, hb, hl, hm, hmm, hx, hi⟩
  · simp only [List.cons.injEq, Value.slice.injEq, and_true] at hcs
    obtain ⟨rfl, rfl, rfl⟩ := hcs
    exact ⟨[], rfl, Rd.nil _ _ _, by unfold maxLen; omega, fun h => absurd h (by omega), by simp⟩
  · simp only [List.cons.injEq, Value.slice.injEq, and_true] at hcs
    obtain ⟨rfl, rfl, rfl⟩ := hcs
    have lenm : len ≤ m := by rw [hmm]; split <;> omega
    have hu := Tryd.underlying38
    refine ⟨(List.range len).map fun i => (Sx i).data.toList, by simp, ⟨by simp [sts], fun hn => ?_⟩, by omega, fun h0 => ?_, fun t ht => ?_⟩
    · have h0 := (hi 0 (by omega)).1
      have hs0 : (a.add 0).spot = none := spot_noneS h0
      have hsp : a.spot = none := by
        have : a.add 0 = a := by unfold Addr.add; simp
        rwa [this] at hs0
      refine ⟨a.block, a.off, by obtain ⟨b, o, s⟩ := a; simp only at hsp; subst hsp; rfl, ?_, fun j u hj => ?_⟩
      · have := cell_block_lt h0
        rwa [add_eqS hsp] at this
      · have hjl : j < len := by have := (List.getElem?_eq_some_iff.1 hj).1; simpa [sts] using this
        have hc := (hi j (by omega)).1
        rw [add_eqS hsp] at hc
        rw [hc, ← hj]
        simp [sts, hjl, bs_of]
    · refine ⟨(((List.range len).map fun i => (.lit (.string (Sx i).data.toList) : DataW H)).length + ((List.range (m - len)).map fun j => (.lit (.string (Sx (len + j)).data.toList) : DataW H)).length) * Tryd.prog.bytesOf 9, ?_, ?_⟩
      · rw [hx]; simp [DataW.weights, hu]
      · rw [bytesS]; simp; omega
    · obtain ⟨i, hil, rfl⟩ := List.mem_map.1 ht
      rw [hx]
      simp only [DataW.weights, hu, List.mem_cons, List.mem_append]
      exact Or.inr (Or.inl (weightsAll_memS (List.mem_map.2 ⟨i, hil, rfl⟩) _ (by simp [DataW.weights])))

theorem len_reach {n : Nat} {ws : List Nat} (h : 0 < n → ∃ k ∈ ws, n ≤ k) (hw : ∀ k ∈ ws, k ≤ reachBytes) : n ≤ 140737488355328 := by
  rcases Nat.eq_zero_or_pos n with h0 | h0
  · omega
  · obtain ⟨k, h1, h2⟩ := h h0
    exact Nat.le_trans h2 (Nat.le_trans (hw k h1) (by decide))
theorem one_reach {n : Nat} {ws : List Nat} (h : n ∈ ws) (hw : ∀ k ∈ ws, k ≤ reachBytes) : n ≤ 140737488355328 := Nat.le_trans (hw n h) (by decide)
theorem i64_bd {a : Int} (h : (Lit.int .i64 a).wf = true) : -9223372036854775808 ≤ a ∧ a ≤ 9223372036854775807 := by
  unfold Lit.wf at h
  rw [Bool.and_eq_true, decide_eq_true_eq, decide_eq_true_eq] at h
  exact h

end Go.Proofs.YtliabgcpciekpaaDoor

/-! Files that came in, opened to cells. -/
set_option linter.unusedVariables false
set_option linter.unusedSimpArgs false
set_option maxRecDepth 10000
namespace Go.Proofs.YtliabgcpciekpaaDoor
open Go Go.RowKit Go.ChangeShapes Go.WideShapes Go.Deep

theorem cellsF : Tryd.prog.cellsOf 43 = 2 := by kernel_rfl
theorem bytesF : Tryd.prog.bytesOf 43 = 32 := by kernel_rfl
theorem two_ofF {α : Type} {l : List α} (h : l.length = 2) : ∃ a b, l = [a, b] := by
  match l, h with
  | [a, b], _ => exact ⟨a, b, rfl⟩
theorem buildF {α : Type} (P : Nat → α → Prop) (len : Nat) (key : ∀ i, i < len → ∃ e : α, P i e) : ∃ l : List α, l.length = len ∧ ∀ i e, l[i]? = some e → P i e := by
  have : ∀ k, k ≤ len → ∃ l : List α, l.length = k ∧ ∀ i e, l[i]? = some e → P i e := by
    intro k
    induction k with
    | zero => intro _; exact ⟨[], rfl, by simp⟩
    | succ k ih =>
      intro hk
      obtain ⟨l, hl, hle⟩ := ih (by omega)
      obtain ⟨e, he⟩ := key k (by omega)
      refine ⟨l ++ [e], by simp [hl], fun i e' hi => ?_⟩
      by_cases hil : i < l.length
      · rw [List.getElem?_append_left hil] at hi; exact hle i e' hi
      · have := (List.getElem?_eq_some_iff.1 hi).1
        simp at this
        have hik : i = l.length := by omega
        subst hik
        rw [List.getElem?_append_right (Nat.le_refl _)] at hi
        simp at hi
        subst hi
        rw [hl]; exact he
  exact this len (Nat.le_refl _)
def FiAt (w : World) (a : Addr) (ws : List Nat) (i : Nat) (e : List UInt8 × List UInt8) : Prop :=
  w.cell? (a.add (i * 2)) = some (.string (bs e.1)) ∧ w.cell? (a.add (i * 2 + 1)) = some (.string (bs e.2)) ∧ e.1.length ∈ ws ∧ e.2.length ∈ ws

theorem open_files {H : Type} {enc : TypeId × Value → H} {w : World} {base : Nat} {spare : Nat → Bool} {held : Bool} {fuel : Nat} {A : Option Addr} {len cap : Nat} {x : DataW H × List MemPlace}
    (h : DataW.trod enc Tryd.prog w base spare held fuel 41 [.slice A len cap] = some x) :
    ∃ l : List (List UInt8 × List UInt8), l.length = len ∧ Rd w 2 A len (fls l) ∧ len ≤ maxLen ∧ (0 < len → ∃ n ∈ x.1.weights Tryd.prog 41, len * 32 ≤ n) ∧
      ∀ e ∈ l, e.1.length ∈ x.1.weights Tryd.prog 41 ∧ e.2.length ∈ x.1.weights Tryd.prog 41 := by
  have hu := Tryd.underlying41
  rcases open_slice Tryd.underlying41 h with ⟨hcs, _⟩ | ⟨a, len', cap', m, n, D, PP, hcs, hb, hl, hm, hmm, hx, hi⟩
  · simp only [List.cons.injEq, Value.slice.injEq, and_true] at hcs
    obtain ⟨rfl, rfl, rfl⟩ := hcs
    exact ⟨[], rfl, Rd.nil _ _ _, by unfold maxLen; omega, fun h => absurd h (by omega), by simp⟩
  · simp only [List.cons.injEq, Value.slice.injEq, and_true] at hcs
    obtain ⟨rfl, rfl, rfl⟩ := hcs
    have lenm : len ≤ m := by split at hmm <;> omega
    have hwt : ∀ i, i < len → ∀ k ∈ (D i).weights Tryd.prog 43, k ∈ x.1.weights Tryd.prog 41 := by
      intro i hil k hk
      rw [hx]
      simp only [DataW.weights, hu, List.mem_cons, List.mem_append]
      exact Or.inr (Or.inl (weightsAll_memS (List.mem_map.2 ⟨i, List.mem_range.2 hil, rfl⟩) k hk))
    have key : ∀ i, i < len → ∃ e : List UInt8 × List UInt8, FiAt w a (x.1.weights Tryd.prog 41) i e := by
      intro i hil
      obtain ⟨cs', hc, ht'⟩ := hi i (by omega)
      rw [cellsF] at hc
      obtain ⟨_, hcl, hat⟩ := World.cells?_some hc
      obtain ⟨ys, n', _, hd, _, hyl, hf⟩ := DataW.trod_struct Tryd.underlying43 ht'
      obtain ⟨u0, u1, rfl⟩ := two_ofF hcl
      obtain ⟨y0, y1, rfl⟩ := two_ofF (show ys.length = 2 from hyl)
      have h0 : DataW.trod enc Tryd.prog w base spare held n' 9 (([u0, u1].drop 0).take (Tryd.prog.cellsOf 9)) = some y0 := hf 0 _ rfl
      have h1 : DataW.trod enc Tryd.prog w base spare held n' 9 (([u0, u1].drop 1).take (Tryd.prog.cellsOf 9)) = some y1 := hf 1 _ rfl
      rw [cellsS] at h0 h1
      obtain ⟨n0, e0, r0, w0⟩ := DataW.trod_string Tryd.underlying9 (cs := [u0]) (x := y0) h0
      obtain ⟨n1, e1, r1, w1⟩ := DataW.trod_string Tryd.underlying9 (cs := [u1]) (x := y1) h1
      simp only [List.cons.injEq, and_true] at e0 e1
      subst e0 e1
      have a0 := hat 0 (by omega)
      have a1 := hat 1 (by omega)
      rw [Go.Deep.add_add] at a0 a1
      have hdd := congrArg Prod.fst hd
      simp only [List.map_cons, List.map_nil, r0, r1] at hdd
      refine ⟨(n0.data.toList, n1.data.toList), ?_, ?_, hwt i hil _ ?_, hwt i hil _ ?_⟩
      · rw [bs_of]; exact a0
      · rw [bs_of]; exact a1
      · rw [hdd]; simp [DataW.weights, Tryd.underlying43, DataW.weightsEach]
      · rw [hdd]; simp [DataW.weights, Tryd.underlying43, DataW.weightsEach]
    obtain ⟨l, hll, hle⟩ := buildF (FiAt w a _) len key
    refine ⟨l, hll, ⟨by rw [fls_length, hll], fun hn => ?_⟩, by omega, fun h0 => ?_, fun e he => ?_⟩
    · obtain ⟨k0, _⟩ := hle 0 l[0] (List.getElem?_eq_getElem (by omega))
      have hsp : a.spot = none := by
        have := spot_noneS k0
        simpa [Addr.add] using this
      have hlt := cell_block_lt k0
      rw [add_eqS hsp] at hlt
      refine ⟨a.block, a.off, by rw [← hsp], hlt, fun j u hu => ?_⟩
      have hj := (List.getElem?_eq_some_iff.1 hu).1
      rw [fls_length, hll] at hj
      have hq : j / 2 < l.length := by omega
      obtain ⟨c0, c1⟩ := fls_at (List.getElem?_eq_getElem hq)
      obtain ⟨k0, k1, _⟩ := hle _ _ (List.getElem?_eq_getElem hq)
      rw [add_eqS hsp] at k0 k1
      have hr : j = j / 2 * 2 ∨ j = j / 2 * 2 + 1 := by omega
      rcases hr with hr | hr
      · rw [hr] at hu ⊢; rw [c0] at hu; injection hu with hu; subst hu; exact k0
      · rw [hr] at hu ⊢; rw [c1] at hu; injection hu with hu; subst hu; exact k1
    · refine ⟨(((List.range len).map D).length + ((List.range (m - len)).map fun j => D (len + j)).length) * Tryd.prog.bytesOf 43, ?_, ?_⟩
      · rw [hx]; simp [DataW.weights, hu]
      · rw [bytesF]; simp; omega
    · obtain ⟨i, hi, rfl⟩ := List.getElem_of_mem he
      obtain ⟨_, _, h1, h2⟩ := hle i _ (List.getElem?_eq_getElem hi)
      exact ⟨h1, h2⟩

theorem files_reach {n : Nat} {ws : List Nat} (h : 0 < n → ∃ k ∈ ws, n * 32 ≤ k) (hw : ∀ k ∈ ws, k ≤ reachBytes) : n ≤ 4398046511103 := by
  rcases Nat.eq_zero_or_pos n with h0 | h0
  · omega
  · obtain ⟨k, h1, h2⟩ := h h0
    have := hw k h1
    unfold reachBytes at this
    omega

end Go.Proofs.YtliabgcpciekpaaDoor

/-! Files that came in, and how much they are where what came in is of bounded bulk. -/
set_option linter.unusedVariables false
set_option linter.unusedSimpArgs false
set_option maxRecDepth 10000
namespace Go.Proofs.YtliabgcpciekpaaDoor
open Go Go.RowKit Go.ChangeShapes Go.WideShapes Go.Deep

theorem bulk_part {H : Type} {d : DataW H} {l : List (DataW H)} (h : d ∈ l) : Rows.uptoBulk d ≤ Rows.uptoBulkAll l := by
  induction l with
  | nil => cases h
  | cons x r ih =>
    simp only [Rows.uptoBulkAll]
    cases List.mem_cons.1 h with
    | inl e => subst e; omega
    | inr e => have := ih e; omega
theorem bulk_bound {H : Type} {l : List (DataW H)} (hk : Rows.uptoSmall H l = true) : Rows.uptoBulkAll l ≤ 1048576 := of_decide_eq_true hk
theorem bulk_one {H : Type} {d : DataW H} {l : List (DataW H)} (hk : Rows.uptoSmall H l = true) (h : d ∈ l) : Rows.uptoBulk d ≤ 1048576 := Nat.le_trans (bulk_part h) (bulk_bound hk)

theorem bulk_pos {H : Type} (d : DataW H) : 1 ≤ Rows.uptoBulk d := by
  cases d with
  | lit l => cases l <;> simp [Rows.uptoBulk]
  | nil => simp [Rows.uptoBulk]
  | ptr d => simp [Rows.uptoBulk]
  | slice elems spare => simp [Rows.uptoBulk]
  | agg parts => simp [Rows.uptoBulk]
  | iface t d => simp [Rows.uptoBulk]
  | map entries => simp [Rows.uptoBulk]
  | held h => simp [Rows.uptoBulk]
theorem bulk_len {H : Type} (l : List (DataW H)) : l.length ≤ Rows.uptoBulkAll l := by
  induction l with
  | nil => simp [Rows.uptoBulkAll]
  | cons x r ih => have := bulk_pos x; simp only [Rows.uptoBulkAll, List.length_cons]; omega
def FuAt (w : World) (a : Addr) (b : Nat → Nat) (i : Nat) (e : List UInt8 × List UInt8) : Prop :=
  w.cell? (a.add (i * 2)) = some (.string (bs e.1)) ∧ w.cell? (a.add (i * 2 + 1)) = some (.string (bs e.2)) ∧ e.1.length ≤ b i ∧ e.2.length ≤ b i

theorem open_files_upto {H : Type} {enc : TypeId × Value → H} {w : World} {base : Nat} {spare : Nat → Bool} {held : Bool} {fuel : Nat} {A : Option Addr} {len cap : Nat} {x : DataW H × List MemPlace}
    (h : DataW.trod enc Tryd.prog w base spare held fuel 41 [.slice A len cap] = some x) :
    ∃ l : List (List UInt8 × List UInt8), l.length = len ∧ Rd w 2 A len (fls l) ∧ len ≤ Rows.uptoBulk x.1 ∧ ∀ e ∈ l, e.1.length ≤ Rows.uptoBulk x.1 ∧ e.2.length ≤ Rows.uptoBulk x.1 := by
  have hu := Tryd.underlying41
  rcases open_slice Tryd.underlying41 h with ⟨hcs, _⟩ | ⟨a, len', cap', m, n, D, PP, hcs, hb, hl, hm, hmm, hx, hi⟩
  · simp only [List.cons.injEq, Value.slice.injEq, and_true] at hcs
    obtain ⟨rfl, rfl, rfl⟩ := hcs
    exact ⟨[], rfl, Rd.nil _ _ _, Nat.zero_le _, by simp⟩
  · simp only [List.cons.injEq, Value.slice.injEq, and_true] at hcs
    obtain ⟨rfl, rfl, rfl⟩ := hcs
    have lenm : len ≤ m := by split at hmm <;> omega
    have key : ∀ i, i < len → ∃ e : List UInt8 × List UInt8, FuAt w a (fun i => Rows.uptoBulk (D i)) i e := by
      intro i hil
      obtain ⟨cs', hc, ht'⟩ := hi i (by omega)
      rw [cellsF] at hc
      obtain ⟨_, hcl, hat⟩ := World.cells?_some hc
      obtain ⟨ys, n', _, hd, _, hyl, hf⟩ := DataW.trod_struct Tryd.underlying43 ht'
      obtain ⟨u0, u1, rfl⟩ := two_ofF hcl
      obtain ⟨y0, y1, rfl⟩ := two_ofF (show ys.length = 2 from hyl)
      have h0 : DataW.trod enc Tryd.prog w base spare held n' 9 (([u0, u1].drop 0).take (Tryd.prog.cellsOf 9)) = some y0 := hf 0 _ rfl
      have h1 : DataW.trod enc Tryd.prog w base spare held n' 9 (([u0, u1].drop 1).take (Tryd.prog.cellsOf 9)) = some y1 := hf 1 _ rfl
      rw [cellsS] at h0 h1
      obtain ⟨n0, e0, r0, w0⟩ := DataW.trod_string Tryd.underlying9 (cs := [u0]) (x := y0) h0
      obtain ⟨n1, e1, r1, w1⟩ := DataW.trod_string Tryd.underlying9 (cs := [u1]) (x := y1) h1
      simp only [List.cons.injEq, and_true] at e0 e1
      subst e0 e1
      have a0 := hat 0 (by omega)
      have a1 := hat 1 (by omega)
      rw [Go.Deep.add_add] at a0 a1
      have hdd := congrArg Prod.fst hd
      simp only [List.map_cons, List.map_nil, r0, r1] at hdd
      refine ⟨(n0.data.toList, n1.data.toList), ?_, ?_, ?_, ?_⟩
      · rw [bs_of]; exact a0
      · rw [bs_of]; exact a1
      · simp only; rw [hdd]; simp only [Rows.uptoBulk, Rows.uptoBulkAll]; omega
      · simp only; rw [hdd]; simp only [Rows.uptoBulk, Rows.uptoBulkAll]; omega
    obtain ⟨l, hll, hle⟩ := buildF (FuAt w a _) len key
    refine ⟨l, hll, ⟨by rw [fls_length, hll], fun hn => ?_⟩, ?_, fun e he => ?_⟩
    · obtain ⟨k0, _⟩ := hle 0 l[0] (List.getElem?_eq_getElem (by omega))
      have hsp : a.spot = none := by
        have := spot_noneS k0
        simpa [Addr.add] using this
      have hlt := cell_block_lt k0
      rw [add_eqS hsp] at hlt
      refine ⟨a.block, a.off, by rw [← hsp], hlt, fun j u hu => ?_⟩
      have hj := (List.getElem?_eq_some_iff.1 hu).1
      rw [fls_length, hll] at hj
      have hq : j / 2 < l.length := by omega
      obtain ⟨c0, c1⟩ := fls_at (List.getElem?_eq_getElem hq)
      obtain ⟨k0, k1, _⟩ := hle _ _ (List.getElem?_eq_getElem hq)
      rw [add_eqS hsp] at k0 k1
      have hr : j = j / 2 * 2 ∨ j = j / 2 * 2 + 1 := by omega
      rcases hr with hr | hr
      · rw [hr] at hu ⊢; rw [c0] at hu; injection hu with hu; subst hu; exact k0
      · rw [hr] at hu ⊢; rw [c1] at hu; injection hu with hu; subst hu; exact k1
    · rw [hx]
      have := bulk_len ((List.range len).map D)
      simp only [List.length_map, List.length_range] at this
      simp only [Rows.uptoBulk]
      omega
    · obtain ⟨i, hi2, rfl⟩ := List.getElem_of_mem he
      obtain ⟨_, _, h1, h2⟩ := hle i _ (List.getElem?_eq_getElem hi2)
      have hm : D i ∈ (List.range len).map D := List.mem_map.2 ⟨i, List.mem_range.2 (by omega), rfl⟩
      have h3 := bulk_part hm
      rw [hx]
      simp only [Rows.uptoBulk]
      simp only at h1 h2
      exact ⟨by omega, by omega⟩


end Go.Proofs.YtliabgcpciekpaaDoor
