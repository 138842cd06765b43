/- Several texts in one: Walks: stacks of tokens: settled, next, token; Walks: stacks of tokens: next, token; Walks: the macro that a token is expanded as, where there are none; Walks: what a list yields, where there are no macros; Places compared; Tokens and the names that they hide, as cells; the tokens from a place on; Walks: how a macro's body is filled, at X -> 1: has, spelt, items; Walks: how a macro's body is filled, at X -> 1: the items of the body. -/
import Derived.Test.YtffjblamfbmoeaaGreatDoorUh
import Derived.Deep.RegionHeld3
import Derived.StillTailTactics
import Derived.Sort.CutIn
import Derived.Maps.OwnIn
import Derived.Test.YtffjblamfbmoeaaGreatDoorUe
/-! Walks: stacks of tokens: settled, next, token. -/
set_option linter.unusedVariables false
set_option linter.unusedSimpArgs false
namespace Go.Proofs.YtffjblamfbmoeaaGreatDoor
open Go Go.RowKit
attribute [local go_sem] Oper.semAt_some

/-- A cell of a stack: its tokens, and the place behind them. -/
def CellAt (W : World) (C : Nat) (A : Option Addr) (n c : Nat) (q : Value) (j : Int) : Prop := W.heap[C]? = some (.cells #[.slice A n c, q, .int .i64 j] 181 (0, 0))
theorem CellAt.below {W W' : World} {C : Nat} {A : Option Addr} {n c : Nat} {q : Value} {j : Int} (h : CellAt W C A n c q j) (hb : Below W.heap.size W W') : CellAt W' C A n c q j := (hb.block C (Array.getElem?_eq_some_iff.1 h).1).trans h
theorem CellAt.lt {W : World} {C : Nat} {A : Option Addr} {n c : Nat} {q : Value} {j : Int} (h : CellAt W C A n c q j) : C < W.heap.size := (Array.getElem?_eq_some_iff.1 h).1
theorem CellAt.cells {W : World} {C : Nat} {A : Option Addr} {n c : Nat} {q : Value} {j : Int} (h : CellAt W C A n c q j) : W.cell? ⟨C, 0, none⟩ = some (.slice A n c) ∧ W.cell? ⟨C, 1, none⟩ = some q ∧ W.cell? ⟨C, 2, none⟩ = some (.int .i64 j) :=
  ⟨Lib.cell_of_heap h 0, Lib.cell_of_heap h 1, Lib.cell_of_heap h 2⟩

/-- A place: the end, or the place of a token. -/
inductive Pl where
  | done
  | at (C i : Nat)
def Pl.c : Pl → Value
  | .done => .pointer none
  | .at C _ => .pointer (some ⟨C, 0, none⟩)
def Pl.i : Pl → Int
  | .done => 0
  | .at _ i => i
/-- The place is the end, or a token stands there. -/
def Pl.ok (W : World) : Pl → Prop
  | .done => True
  | .at C i => ∃ A n c q j, CellAt W C A n c q j ∧ i < n
def plv (p : Pl) : Value := .agg #[p.c, .int .i64 p.i]

theorem Pl.ok.below {W W' : World} {p : Pl} (h : p.ok W) (hb : Below W.heap.size W W') : p.ok W' := by
  cases p with
  | done => trivial
  | «at» C i => obtain ⟨A, n, c, q, j, h1, h2⟩ := h; exact ⟨A, n, c, q, j, h1.below hb, h2⟩
/-- The start: the place itself, or behind the last token of a cell with the place behind it. -/
def Pl.from (w : World) (q0 : Value) (j0 : Int) (p : Pl) : Prop :=
  (q0 = p.c ∧ j0 = p.i) ∨ (∃ (C : Nat) (A : Option Addr) (n c : Nat), q0 = .pointer (some ⟨C, 0, none⟩) ∧ j0 = n ∧ CellAt w C A n c p.c p.i ∧ ¬ (q0 = p.c ∧ j0 = p.i))
noncomputable def atP (p : Pl) (b : Nat) (wr : World) : Nat := @ite Nat (wr.heap[b]? = some (.cells #[p.c, .int .i64 p.i] 179 (0, 0))) (Classical.propDecidable _) 0 1
theorem pl_cells {W : World} {b : Nat} {q u : Value} {T : TypeId} (h : W.heap[b]? = some (.cells #[q, u] T (0, 0))) : W.cell? ⟨b, 0, none⟩ = some q ∧ W.cell? ⟨b, 1, none⟩ = some u ∧ W.frozen? ⟨b, 0, none⟩ = false ∧ W.frozen? ⟨b, 1, none⟩ = false ∧ b < W.heap.size :=
  ⟨Lib.cell_of_heap h 0, Lib.cell_of_heap h 1, Lib.frozen_of_heap h 0, Lib.frozen_of_heap h 1, (Array.getElem?_eq_some_iff.1 h).1⟩

set_option maxRecDepth 100000 in
set_option maxHeartbeats 8000000 in
theorem settled_any (q0 : Value) (j0 : Int) (p : Pl) (w : World) (hp : p.ok w) (h0 : p.from w q0 j0) : Calls Tryz.prog 103 #[.agg #[q0, .int .i64 j0]] w fun e w' => e = .returned (plv p) ∧ Below w.heap.size w w' := by
  obtain ⟨ww, hww⟩ : ∃ ww, (w.alloc (.cells #[q0, .int .i64 j0] 179)).alloc (.cells #[.pointer none, .int .i64 0] 179) = ww := ⟨_, rfl⟩
  have hB : Below w.heap.size w ww := by rw [← hww]; exact ((Below.refl _ _).alloc (Nat.le_refl _) _).alloc (by simp) _
  have k0 : ww.heap[w.heap.size]? = some (.cells #[q0, .int .i64 j0] 179) := by rw [← hww]; exact (Below.heap_alloc _ _ _ (by simp)).trans (heap_alloc_new w _)
  have k1 : ww.heap[w.heap.size + 1]? = some (.cells #[.pointer none, .int .i64 0] 179) := by
    rw [← hww]
    have := heap_alloc_new (w.alloc (.cells #[q0, .int .i64 j0] 179)) (.cells #[.pointer none, .int .i64 0] 179)
    rwa [World.size_alloc] at this
  have HW := Lib.hid hww
  clear hww
  have HP := Lib.hid (show ∀ W, Below w.heap.size w W → p.ok W from fun W hb => hp.below hb)
  have H0 := Lib.hid h0
  clear hp h0
  go_enter Tryz.func103, Tryz.ntmps103
  go_wp2
  rw [HW.out]
  go_loopw [] (fun wr => Below w.heap.size w wr ∧ wr.heap[w.heap.size + 1]? = some (.cells #[.pointer none, .int .i64 0] 179) ∧ (wr.heap[w.heap.size]? = some (.cells #[p.c, .int .i64 p.i] 179) ∨ wr.heap[w.heap.size]? = some (.cells #[q0, .int .i64 j0] 179) ∧ ¬ (q0 = p.c ∧ j0 = p.i))) (fun wr => atP p w.heap.size wr)
  case atStart =>
    refine ⟨hB, k1, ?_⟩
    rcases H0.out with ⟨rfl, rfl⟩ | ⟨_, _, _, _, _, _, _, hne⟩
    · exact .inl k0
    · exact .inr ⟨k0, hne⟩
  case round =>
    obtain ⟨hb, hz, hst⟩ := hrel
    obtain ⟨wq, rfl⟩ : ∃ wq : World, wq = wr := ⟨_, rfl⟩
    obtain ⟨z0, z1, zf0, zf1, zl⟩ := pl_cells hz
    rcases hst with hk | ⟨hk, hne⟩
    · obtain ⟨c0, c1, f0, f1, hl⟩ := pl_cells hk
      have HOK := HP.out wq hb
      have HBW := Lib.hid hb
      have HZ := Lib.hid hz
      cases p with
      | done =>
        unfold Pl.c at c0
        unfold Pl.i at c1
        simp only at c0 c1
        clear hk hz hb H0
        go_wp2
        go_quiet (fail)
        go_wp2
        have r0 := heap_setCell_same (wq.drewN nq) _ 0 _ _ (.pointer none) HZ.out
        have r1 := heap_setCell_same _ _ 1 _ _ (.int .i64 0) r0
        have hB9 := ((below_drewN HBW.out nq).setCell (p := ⟨w.heap.size + 1, 0, none⟩) (by simp) (.pointer none)).setCell (p := ⟨w.heap.size + 1, 1, none⟩) (by simp) (.int .i64 0)
        have t0 := Lib.cell_of_heap r1 0
        have t1 := Lib.cell_of_heap r1 1
        simp only [List.setIfInBounds_toArray, List.set_cons_zero, List.set_cons_succ, List.getElem?_toArray, List.getElem?_cons_zero, List.getElem?_cons_succ] at t0 t1
        refine bodyPost_ret (show (results Tryz.f103 _).run Tryz.prog _ = .ok (.agg #[(.pointer none), (.int .i64 0)]) _ by simp [results, Tryz.results103, go_sem, t0, t1]) rfl ?_
        exact ⟨rfl, hB9⟩
      | «at» C i =>
        obtain ⟨A, n, c, q, j, h1, h2⟩ := HOK
        obtain ⟨e0, e1, e2⟩ := h1.cells
        unfold Pl.c at c0
        unfold Pl.i at c1
        simp only at c0 c1
        clear hk hz hb H0
        go_wp2
        go_quiet (fail)
        go_wp2
        have r0 := heap_setCell_same (wq.drewN nq) _ 0 _ _ (.pointer (some ⟨C, 0, none⟩)) HZ.out
        have r1 := heap_setCell_same _ _ 1 _ _ (.int .i64 i) r0
        have hB9 := ((below_drewN HBW.out nq).setCell (p := ⟨w.heap.size + 1, 0, none⟩) (by simp) (.pointer (some ⟨C, 0, none⟩))).setCell (p := ⟨w.heap.size + 1, 1, none⟩) (by simp) (.int .i64 i)
        have t0 := Lib.cell_of_heap r1 0
        have t1 := Lib.cell_of_heap r1 1
        simp only [List.setIfInBounds_toArray, List.set_cons_zero, List.set_cons_succ, List.getElem?_toArray, List.getElem?_cons_zero, List.getElem?_cons_succ] at t0 t1
        refine bodyPost_ret (show (results Tryz.f103 _).run Tryz.prog _ = .ok (.agg #[(.pointer (some ⟨C, 0, none⟩)), (.int .i64 i)]) _ by simp [results, Tryz.results103, go_sem, t0, t1]) rfl ?_
        exact ⟨rfl, hB9⟩
    · rcases H0.out with ⟨e1, e2⟩ | ⟨C, A, n, c, rfl, rfl, hC, _⟩
      · exact absurd ⟨e1, e2⟩ hne
      have hC' := hC.below hb
      obtain ⟨e0, e1, e2⟩ := hC'.cells
      obtain ⟨c0, c1, f0, f1, hl⟩ := pl_cells hk
      have hlt := hC'.lt
      have hCn : ¬ C = w.heap.size := by have := hC.lt; omega
      have hCn' : ¬ w.heap.size = C := fun e => hCn e.symm
      have HBW := Lib.hid hb
      have HZ := Lib.hid hz
      have HK := Lib.hid hk
      have HNE := Lib.hid hne
      clear hk hz hb H0 hC' hC hne
      obtain ⟨pc, hpc⟩ : ∃ v, p.c = v := ⟨_, rfl⟩
      obtain ⟨pi, hpi⟩ : ∃ v, p.i = v := ⟨_, rfl⟩
      have HPC := Lib.hid hpc
      have HPI := Lib.hid hpi
      rw [hpc] at e1
      rw [hpi] at e2
      have hpp : ∃ a, pc = .pointer a := by rw [← hpc]; cases p <;> exact ⟨_, rfl⟩
      clear hpc hpi
      obtain ⟨pa, rfl⟩ := hpp
      go_wp2
      go_quiet (fail)
      go_wp2
      have r0 := heap_setCell_same (wq.drewN nq) _ 0 _ _ (.pointer pa) HK.out
      have r1 : (((wq.drewN nq).setCell ⟨w.heap.size, 0, none⟩ (.pointer pa)).setCell ⟨w.heap.size, 1, none⟩ (.int .i64 pi)).heap[w.heap.size]? = some (.cells #[.pointer pa, .int .i64 pi] 179 (0, 0)) := heap_setCell_same _ _ 1 _ _ (.int .i64 pi) r0
      go_roundw
      case rel =>
        refine ⟨((below_drewN HBW.out nq).setCell (p := ⟨w.heap.size, 0, none⟩) (Nat.le_refl _) _).setCell (p := ⟨w.heap.size, 1, none⟩) (Nat.le_refl _) _, (Below.heap_setCell _ _ _ _ (by simp)).trans ((Below.heap_setCell _ _ _ _ (by simp)).trans HZ.out), .inl ?_⟩
        rw [HPC.out, HPI.out]; exact r1
      case measure =>
        unfold atP
        rw [HPC.out, HPI.out, if_pos r1, if_neg]
        · exact Nat.zero_lt_one
        · intro e
          rw [HK.out] at e
          simp only [Option.some.injEq, Obj.cells.injEq, Array.mk.injEq, List.cons.injEq, and_true, Value.int.injEq, true_and] at e
          exact HNE.out ⟨by rw [HPC.out]; exact e.1, by rw [HPI.out]; exact e.2⟩
end Go.Proofs.YtffjblamfbmoeaaGreatDoor

/-! Walks: stacks of tokens: next, token. -/
set_option linter.unusedVariables false
set_option linter.unusedSimpArgs false
namespace Go.Proofs.YtffjblamfbmoeaaGreatDoor
open Go Go.RowKit
attribute [local go_sem] Oper.semAt_some

theorem Pl.from.below {w W' : World} {q0 : Value} {j0 : Int} {p : Pl} (h : p.from w q0 j0) (hb : Below w.heap.size w W') : p.from W' q0 j0 := by
  rcases h with h | ⟨C, A, n, c, e1, e2, h1, h2⟩
  · exact .inl h
  · exact .inr ⟨C, A, n, c, e1, e2, h1.below hb, h2⟩

set_option maxRecDepth 100000 in
set_option maxHeartbeats 8000000 in
theorem next_any (C i : Nat) (p : Pl) (w : World) (hi : i ≤ 1000000) (hp : p.ok w) (h : p.from w (.pointer (some ⟨C, 0, none⟩)) ((i : Int) + 1)) :
    Calls Tryz.prog 117 #[.agg #[.pointer (some ⟨C, 0, none⟩), .int .i64 i]] w fun e w' => e = .returned (plv p) ∧ Below w.heap.size w w' := by
  obtain ⟨ww, hww⟩ : ∃ ww, (w.alloc (.cells #[.pointer (some ⟨C, 0, none⟩), .int .i64 i] 179)).alloc (.cells #[.pointer none, .int .i64 0] 179) = ww := ⟨_, rfl⟩
  have hB : Below w.heap.size w ww := by rw [← hww]; exact ((Below.refl _ _).alloc (Nat.le_refl _) _).alloc (by simp) _
  have sB : ww.heap.size = w.heap.size + 2 := by rw [← hww]; simp
  have k1 : ww.heap[w.heap.size + 1]? = some (.cells #[.pointer none, .int .i64 0] 179) := by
    rw [← hww]
    have := heap_alloc_new (w.alloc (.cells #[.pointer (some ⟨C, 0, none⟩), .int .i64 i] 179)) (.cells #[.pointer none, .int .i64 0] 179)
    rwa [World.size_alloc] at this
  have ST := Lib.hid (settled_any _ _ p ww (hp.below hB) (h.below hB))
  have HW := Lib.hid hww
  have HBW := Lib.hid hB
  clear hww hp h hB
  obtain ⟨pa, pi, hpp⟩ : ∃ a i, plv p = .agg #[.pointer a, .int .i64 i] := by cases p <;> exact ⟨_, _, rfl⟩
  rw [hpp] at ST
  have HPP := Lib.hid hpp
  clear hpp
  have b1 : -9223372036854775808 ≤ (i : Int) + 1 := by omega
  go_enter Tryz.func117, Tryz.ntmps117
  go_wp2_with (first
    | (go_at_call 103
       rw [HW.out]
       (with_reducible refine ST.out.mono ?_)
       rintro e w3 ⟨rfl, hb3⟩
       have k3 := (hb3.block (w.heap.size + 1) (by omega)).trans k1
       obtain ⟨z0, z1, zf0, zf1, zl⟩ := pl_cells k3
       have k3 := Lib.hid k3
       have hb3 := Lib.hid hb3))
  have r0 := heap_setCell_same w3 _ 0 _ _ (.pointer pa) k3.out
  have r1 := heap_setCell_same _ _ 1 _ _ (.int .i64 pi) r0
  have hB9 := ((HBW.out.trans (hb3.out.mono (by omega))).setCell (p := ⟨w.heap.size + 1, 0, none⟩) (by simp) (.pointer pa)).setCell (p := ⟨w.heap.size + 1, 1, none⟩) (by simp) (.int .i64 pi)
  have t0 := Lib.cell_of_heap r1 0
  have t1 := Lib.cell_of_heap r1 1
  simp only [List.setIfInBounds_toArray, List.set_cons_zero, List.set_cons_succ, List.getElem?_toArray, List.getElem?_cons_zero, List.getElem?_cons_succ] at t0 t1
  refine bodyPost_ret (show (results Tryz.f117 _).run Tryz.prog _ = .ok (.agg #[.pointer pa, .int .i64 pi]) _ by simp [results, Tryz.results117, go_sem, t0, t1]) rfl ?_
  exact ⟨by rw [HPP.out], hB9⟩

set_option maxRecDepth 100000 in
set_option maxHeartbeats 8000000 in
theorem token_any (C i g o n c : Nat) (q : Value) (j : Int) (w : World) (hi : i < n) (hn : n ≤ 1000000) (h : CellAt w C (some ⟨g, o, none⟩) n c q j) :
    Calls Tryz.prog 116 #[.agg #[.pointer (some ⟨C, 0, none⟩), .int .i64 i]] w fun e w' => e = .returned (.pointer (some ⟨g, o + i * 5, none⟩)) ∧ Below w.heap.size w w' := by
  obtain ⟨e0, e1, e2⟩ := h.cells
  have hl := h.lt
  clear h
  go_enter Tryz.func116, Tryz.ntmps116
  go_wp2
  go_quiet (fail)
  go_wp2
  go_ret
  exact ⟨rfl, below_drewN ((Below.refl _ _).alloc (Nat.le_refl _) _) _⟩
end Go.Proofs.YtffjblamfbmoeaaGreatDoor

/-! Walks: the macro that a token is expanded as, where there are none. -/
set_option linter.unusedVariables false
set_option linter.unusedSimpArgs false
namespace Go.Proofs.YtffjblamfbmoeaaGreatDoor
open Go Go.RowKit
attribute [local go_sem] Oper.semAt_some

theorem zeroMac (w : World) : (zeroValue 25).run Tryz.prog w = .ok (.agg #[.string ⟨#[]⟩, .bool false, .slice none 0 0, .bool false, .slice none 0 0]) w := by kernel_rfl
theorem zeroPlan (w : World) : (zeroValue 210).run Tryz.prog w = .ok (.pointer none) w := by kernel_rfl
/-- A token with what it hides. -/
def tkx (p : Tp.PTok) (hd : Value) : Value := .agg #[.int .i64 p.k, .string (bs p.x), .bool p.s, .slice none 0 0, hd]
/-- The expander, at a block. -/
def Xp (W : World) (E Mm Mp : Nat) (left : Int) : Prop := W.heap[E]? = some (.cells #[.map (some Mm), .map (some Mp), .int .i64 left] 187 (0, 0))
theorem Xp.below {W W' : World} {E Mm Mp : Nat} {left : Int} (h : Xp W E Mm Mp left) (hb : Below W.heap.size W W') : Xp W' E Mm Mp left := (hb.block E (Array.getElem?_eq_some_iff.1 h).1).trans h
theorem Xp.cells {W : World} {E Mm Mp : Nat} {left : Int} (h : Xp W E Mm Mp left) : W.cell? ⟨E, 0, none⟩ = some (.map (some Mm)) ∧ W.cell? ⟨E, 1, none⟩ = some (.map (some Mp)) ∧ W.cell? ⟨E, 2, none⟩ = some (.int .i64 left) ∧ W.frozen? ⟨E, 2, none⟩ = false ∧ E < W.heap.size :=
  ⟨Lib.cell_of_heap h 0, Lib.cell_of_heap h 1, Lib.cell_of_heap h 2, Lib.frozen_of_heap h 2, (Array.getElem?_eq_some_iff.1 h).1⟩

set_option maxRecDepth 100000 in
set_option maxHeartbeats 8000000 in
theorem called_no (E : Nat) (p : Tp.PTok) (hd : Value) (w : World) (hp : p.k ≠ 1) : Calls Tryz.prog 118 #[.pointer (some ⟨E, 0, none⟩), tkx p hd] w fun e w' => e = .returned (.pointer none) ∧ Below w.heap.size w w' := by
  obtain ⟨pk, px, ps, pp⟩ := p
  simp only at hp
  have hI : ¬ (pk : Int) = 1 := by omega
  have hB : ((pk : Int) != 1) = true := bne_iff_ne.2 hI
  unfold tkx
  simp only
  go_enter Tryz.func118, Tryz.ntmps118
  go_wp2
  go_ret
  exact ⟨rfl, (Below.refl _ _).alloc (Nat.le_refl _) _⟩

set_option maxRecDepth 100000 in
set_option maxHeartbeats 8000000 in
theorem called_none (E Mm Mp c1 c2 : Nat) (left : Int) (p : Tp.PTok) (hd : Value) (w : World) (hX : Xp w E Mm Mp left) (h1 : w.heap[Mm]? = some (.map #[] c1)) (h2 : w.heap[Mp]? = some (.map #[] c2)) :
    Calls Tryz.prog 118 #[.pointer (some ⟨E, 0, none⟩), tkx p hd] w fun e w' => e = .returned (.pointer none) ∧ Below w.heap.size w w' := by
  by_cases hp : p.k = 1
  case neg => exact called_no E p hd w hp
  obtain ⟨pk, px, ps, pp⟩ := p
  simp only at hp
  subst hp
  unfold tkx
  simp only
  obtain ⟨w0, hw0⟩ : ∃ w0, w.alloc (.cells #[.int .i64 1, .string (bs px), .bool ps, .slice none 0 0, hd] 184) = w0 := ⟨_, rfl⟩
  have hB : Below w.heap.size w w0 := by rw [← hw0]; exact (Below.refl _ _).alloc (Nat.le_refl _) _
  have hq : w0.heap[w.heap.size]? = some (.cells #[.int .i64 1, .string (bs px), .bool ps, .slice none 0 0, hd] 184) := by rw [← hw0]; exact heap_alloc_new w _
  have u0 := Lib.cell_of_heap hq 0
  have u1 := Lib.cell_of_heap hq 1
  simp only [List.getElem?_toArray, List.getElem?_cons_zero, List.getElem?_cons_succ] at u0 u1
  obtain ⟨x0, x1, x2, x3, x4⟩ := (hX.below hB).cells
  have m1 := (hB.block Mm (Array.getElem?_eq_some_iff.1 h1).1).trans h1
  have m2 := (hB.block Mp (Array.getElem?_eq_some_iff.1 h2).1).trans h2
  have L1 := fun n : Nat => map_none (x := bs px) Tryz.underlying62 Tryz.underlying9 (zeroMac (w0.drewN n)) (show (w0.drewN n).heap[Mm]? = _ from m1)
  have L2 := fun n : Nat => map_none (x := bs px) Tryz.underlying185 Tryz.underlying9 (zeroPlan (w0.drewN n)) (show (w0.drewN n).heap[Mp]? = _ from m2)
  have L20 := L2 0
  have HW := Lib.hid hw0
  have HB := Lib.hid hB
  have M1 := Lib.hid m1
  have HQ := Lib.hid hq
  clear hw0 hB hq m1 m2 hX h1 h2
  go_enter Tryz.func118, Tryz.ntmps118
  go_wp2
  rw [HW.out]
  go_quiet (fail)
  go_wp2
  have hml := (Array.getElem?_eq_some_iff.1 M1.out).1
  have LG := fun (W' : World) (h : W'.heap[Mm]? = some (.map #[] c1)) => map_none (x := bs px) Tryz.underlying62 Tryz.underlying9 (zeroMac W') h
  clear L1 L2
  obtain ⟨w1, hw1⟩ : ∃ w1, w0.drewN nq = w1 := ⟨_, rfl⟩
  have x0' : w1.cell? ⟨E, 0, none⟩ = some (.map (some Mm)) := by rw [← hw1]; exact x0
  have u1' : w1.cell? ⟨w.heap.size, 1, none⟩ = some (.string (bs px)) := by rw [← hw1]; exact u1
  have m1' : w1.heap[Mm]? = some (.map #[] c1) := by rw [← hw1]; exact M1.out
  have hB1 : Below w.heap.size w w1 := by rw [← hw1]; exact below_drewN HB.out nq
  have ll1 : w.heap.size < w1.heap.size := by rw [← hw1]; exact (Array.getElem?_eq_some_iff.1 HQ.out).1
  have ll2 : E < w1.heap.size := by rw [← hw1]; exact x4
  have ll3 : Mm < w1.heap.size := by rw [← hw1]; exact hml
  rw [hw1]
  have HB1 := Lib.hid hB1
  clear hw1 x0 u1 hB1
  go_region_held3 (fun w' => w'.cell? ⟨E, 0, none⟩ = some (.map (some Mm)) ∧ w'.cell? ⟨w.heap.size, 1, none⟩ = some (.string (bs px)) ∧ w'.heap[Mm]? = some (.map #[] c1)) (first | ((try dsimp only); (refine ⟨?_, ?_, ?_⟩ <;> first | (exact m1') | (exact (Below.heap_alloc w1.drew _ _ ll3).trans m1') | go_keep))) (fail)
  all_goals
    go_wp2
    go_ret
    exact ⟨rfl, (HB1.out.alloc HB1.out.size _).drew⟩
end Go.Proofs.YtffjblamfbmoeaaGreatDoor

/-! Walks: what a list yields, where there are no macros. -/
set_option linter.unusedVariables false
set_option linter.unusedSimpArgs false
namespace Go.Proofs.YtffjblamfbmoeaaGreatDoor
open Go Go.RowKit
attribute [local go_sem] Oper.semAt_some

theorem wp_region_G {P : Program} {Q : Exit → Act → World → Prop} {id : Nat} {a : Act} {w : World} {l : List Oper} (S : World → Prop) (g : Nat) (hm : P.follows .mixedOrders = true)
    (hS : S w.drew) (h : S w.drew → wpAnyG P .any l.toArray Q S g l.toArray.size (Array.replicate l.toArray.size false) a w.drew) : (Code.region id l.toArray true).wp P Q a w :=
  wp_region_any hm (wpAny_of_G _ _ _ _ (h hS))

/-- Tokens that hide nothing, as cells. -/
def txc (p : Tp.PTok) : List Value := [.int .i64 p.k, .string (bs p.x), .bool p.s, .slice none 0 0, .pointer none]
def txcs (l : List Tp.PTok) : List Value := l.flatMap txc
theorem txcs_length (l : List Tp.PTok) : (txcs l).length = l.length * 5 := by
  induction l with
  | nil => rfl
  | cons e r ih => rw [show txcs (e :: r) = txc e ++ txcs r from rfl, List.length_append, ih, List.length_cons]; simp [txc]; omega
theorem txcs_snoc (l : List Tp.PTok) (p : Tp.PTok) : txcs (l ++ [p]) = txcs l ++ txc p := by simp [txcs]
theorem txcs_at {l : List Tp.PTok} : ∀ {k : Nat} {p : Tp.PTok}, l[k]? = some p → (txcs l)[k * 5]? = some (.int .i64 p.k) ∧ (txcs l)[k * 5 + 1]? = some (.string (bs p.x)) ∧ (txcs l)[k * 5 + 2]? = some (.bool p.s) ∧ (txcs l)[k * 5 + 3]? = some (.slice none 0 0) ∧ (txcs l)[k * 5 + 4]? = some (.pointer none) := by
  induction l with
  | nil => intro k e h; simp at h
  | cons x r ih =>
    intro k e h
    have e1 : txcs (x :: r) = txc x ++ txcs r := rfl
    have e2 : (txc x).length = 5 := rfl
    cases k with
    | zero => simp only [List.getElem?_cons_zero, Option.some.injEq] at h; subst h; exact ⟨rfl, rfl, rfl, rfl, rfl⟩
    | succ k =>
      simp only [List.getElem?_cons_succ] at h
      have := ih h
      rw [e1]
      refine ⟨?_, ?_, ?_, ?_, ?_⟩
      · rw [List.getElem?_append_right (by omega), e2, ← this.1]; congr 1; omega
      · rw [List.getElem?_append_right (by omega), e2, ← this.2.1]; congr 1; omega
      · rw [List.getElem?_append_right (by omega), e2, ← this.2.2.1]; congr 1; omega
      · rw [List.getElem?_append_right (by omega), e2, ← this.2.2.2.1]; congr 1; omega
      · rw [List.getElem?_append_right (by omega), e2, ← this.2.2.2.2]; congr 1; omega
theorem Rd.tx {w : World} {A : Option Addr} {l : List Tp.PTok} {n : Nat} (h : Rd w 5 A n (txcs l)) {k : Nat} {p : Tp.PTok} (hk : l[k]? = some p) :
    ∃ b o, A = some ⟨b, o, none⟩ ∧ b < w.heap.size ∧ w.cell? ⟨b, o + k * 5, none⟩ = some (.int .i64 p.k) ∧ w.cell? ⟨b, o + k * 5 + 1, none⟩ = some (.string (bs p.x)) ∧ w.cell? ⟨b, o + k * 5 + 2, none⟩ = some (.bool p.s) ∧ w.cell? ⟨b, o + k * 5 + 3, none⟩ = some (.slice none 0 0) ∧ w.cell? ⟨b, o + k * 5 + 4, none⟩ = some (.pointer none) := by
  have hl : k < l.length := (List.getElem?_eq_some_iff.1 hk).1
  have h1 := h.1
  rw [txcs_length] at h1
  obtain ⟨b, o, e, hlt, hc⟩ := h.2 (by omega)
  obtain ⟨a1, a2, a3, a4, a5⟩ := txcs_at hk
  exact ⟨b, o, e, hlt, hc _ _ a1, by have := hc _ _ a2; rwa [← Nat.add_assoc] at this, by have := hc _ _ a3; rwa [← Nat.add_assoc] at this, by have := hc _ _ a4; rwa [← Nat.add_assoc] at this, by have := hc _ _ a5; rwa [← Nat.add_assoc] at this⟩
theorem Rd.xlen {w : World} {A : Option Addr} {l : List Tp.PTok} {n : Nat} (h : Rd w 5 A n (txcs l)) : l.length = n := by
  have := h.1
  rw [txcs_length] at this
  omega
theorem txInfo : (Tryz.prog.info? 184).map (fun i => (i.zero, i.size, i.bytes)) = some (some (.agg #[.int .i64 0, .string ⟨#[]⟩, .bool false, .slice none 0 0, .pointer none]), 5, 64) := by kernel_rfl

/-- A __LINE__ becomes a Line. -/
def lnT (p : Tp.PTok) : Tp.PTok := if p.k = 1 ∧ p.x = Tp.lineN then ⟨10, p.x, p.s, []⟩ else p
/-- The place of a token in the one cell. -/
def pk (n F k : Nat) : Pl := if k < n then .at F k else .done
theorem pk_at {n F k : Nat} (h : k < n) : pk n F k = .at F k := if_pos h
theorem pk_done (n F : Nat) : pk n F n = .done := if_neg (by omega)
end Go.Proofs.YtffjblamfbmoeaaGreatDoor

/-! Places compared. -/
set_option linter.unusedVariables false
set_option linter.unusedSimpArgs false
namespace Go.Proofs.YtffjblamfbmoeaaGreatDoor
open Go Go.RowKit
theorem place_ne (F : Nat) (k : Int) (W : World) : (binOp .neq 179 (.agg #[.pointer (some ⟨F, 0, none⟩), .int .i64 k]) (.agg #[.pointer none, .int .i64 0])).run Tryz.prog W = .ok (.bool true) W := by kernel_rfl
theorem place_end (W : World) : (binOp .neq 179 (.agg #[.pointer none, .int .i64 0]) (.agg #[.pointer none, .int .i64 0])).run Tryz.prog W = .ok (.bool false) W := by kernel_rfl
end Go.Proofs.YtffjblamfbmoeaaGreatDoor

/-! Tokens and the names that they hide, as cells; the tokens from a place on. -/
set_option linter.unusedVariables false
set_option linter.unusedSimpArgs false
namespace Go.Proofs.YtffjblamfbmoeaaGreatDoor
open Go Go.RowKit
attribute [local go_sem] Oper.semAt_some

/-- A token, and where the set lies of the names that it hides. -/
abbrev HTok := Tp.PTok × Option Addr
def txh (p : HTok) : List Value := [.int .i64 p.1.k, .string (bs p.1.x), .bool p.1.s, .slice none 0 0, .pointer p.2]
def txhs (l : List HTok) : List Value := l.flatMap txh
theorem txhs_length (l : List HTok) : (txhs l).length = l.length * 5 := by
  induction l with
  | nil => rfl
  | cons e r ih => rw [show txhs (e :: r) = txh e ++ txhs r from rfl, List.length_append, ih, List.length_cons]; simp [txh]; omega
theorem txhs_snoc (l : List HTok) (p : HTok) : txhs (l ++ [p]) = txhs l ++ txh p := by simp [txhs]
theorem txhs_at {l : List HTok} : ∀ {k : Nat} {p : HTok}, l[k]? = some p → (txhs l)[k * 5]? = some (.int .i64 p.1.k) ∧ (txhs l)[k * 5 + 1]? = some (.string (bs p.1.x)) ∧ (txhs l)[k * 5 + 2]? = some (.bool p.1.s) ∧ (txhs l)[k * 5 + 3]? = some (.slice none 0 0) ∧ (txhs l)[k * 5 + 4]? = some (.pointer p.2) := by
  induction l with
  | nil => intro k e h; simp at h
  | cons x r ih =>
    intro k e h
    have e1 : txhs (x :: r) = txh x ++ txhs r := rfl
    have e2 : (txh x).length = 5 := rfl
    cases k with
    | zero => simp only [List.getElem?_cons_zero, Option.some.injEq] at h; subst h; exact ⟨rfl, rfl, rfl, rfl, rfl⟩
    | succ k =>
      simp only [List.getElem?_cons_succ] at h
      have := ih h
      rw [e1]
      refine ⟨?_, ?_, ?_, ?_, ?_⟩
      · rw [List.getElem?_append_right (by omega), e2, ← this.1]; congr 1; omega
      · rw [List.getElem?_append_right (by omega), e2, ← this.2.1]; congr 1; omega
      · rw [List.getElem?_append_right (by omega), e2, ← this.2.2.1]; congr 1; omega
      · rw [List.getElem?_append_right (by omega), e2, ← this.2.2.2.1]; congr 1; omega
      · rw [List.getElem?_append_right (by omega), e2, ← this.2.2.2.2]; congr 1; omega
theorem Rd.txh {w : World} {A : Option Addr} {l : List HTok} {n : Nat} (h : Rd w 5 A n (txhs l)) {k : Nat} {p : HTok} (hk : l[k]? = some p) :
    ∃ b o, A = some ⟨b, o, none⟩ ∧ b < w.heap.size ∧ w.cell? ⟨b, o + k * 5, none⟩ = some (.int .i64 p.1.k) ∧ w.cell? ⟨b, o + k * 5 + 1, none⟩ = some (.string (bs p.1.x)) ∧ w.cell? ⟨b, o + k * 5 + 2, none⟩ = some (.bool p.1.s) ∧ w.cell? ⟨b, o + k * 5 + 3, none⟩ = some (.slice none 0 0) ∧ w.cell? ⟨b, o + k * 5 + 4, none⟩ = some (.pointer p.2) := by
  have hl : k < l.length := (List.getElem?_eq_some_iff.1 hk).1
  have h1 := h.1
  rw [txhs_length] at h1
  obtain ⟨b, o, e, hlt, hc⟩ := h.2 (by omega)
  obtain ⟨a1, a2, a3, a4, a5⟩ := txhs_at hk
  exact ⟨b, o, e, hlt, hc _ _ a1, by have := hc _ _ a2; rwa [← Nat.add_assoc] at this, by have := hc _ _ a3; rwa [← Nat.add_assoc] at this, by have := hc _ _ a4; rwa [← Nat.add_assoc] at this, by have := hc _ _ a5; rwa [← Nat.add_assoc] at this⟩
theorem Rd.hlen {w : World} {A : Option Addr} {l : List HTok} {n : Nat} (h : Rd w 5 A n (txhs l)) : l.length = n := by
  have := h.1
  rw [txhs_length] at this
  omega

/-- A token stands in the cell C, at i, in the block g from o on. -/
def StopAt (W : World) (C i g o : Nat) (t : HTok) : Prop :=
  (∃ n c q j, CellAt W C (some ⟨g, o, none⟩) n c q j ∧ i < n ∧ n ≤ 1000000) ∧ g < W.heap.size ∧
    W.cell? ⟨g, o + i * 5, none⟩ = some (.int .i64 t.1.k) ∧ W.cell? ⟨g, o + i * 5 + 1, none⟩ = some (.string (bs t.1.x)) ∧ W.cell? ⟨g, o + i * 5 + 2, none⟩ = some (.bool t.1.s) ∧ W.cell? ⟨g, o + i * 5 + 3, none⟩ = some (.slice none 0 0) ∧ W.cell? ⟨g, o + i * 5 + 4, none⟩ = some (.pointer t.2)
theorem StopAt.below {W W' : World} {C i g o : Nat} {t : HTok} (h : StopAt W C i g o t) (hb : Below W.heap.size W W') : StopAt W' C i g o t := by
  obtain ⟨⟨n, c, q, j, h1, h2, h3⟩, h4, a0, a1, a2, a3, a4⟩ := h
  exact ⟨⟨n, c, q, j, h1.below hb, h2, h3⟩, Nat.lt_of_lt_of_le h4 hb.size, (hb.cell (p := ⟨g, o + i * 5, none⟩) h4).trans a0, (hb.cell (p := ⟨g, o + i * 5 + 1, none⟩) h4).trans a1, (hb.cell (p := ⟨g, o + i * 5 + 2, none⟩) h4).trans a2, (hb.cell (p := ⟨g, o + i * 5 + 3, none⟩) h4).trans a3, (hb.cell (p := ⟨g, o + i * 5 + 4, none⟩) h4).trans a4⟩
/-- The tokens from a place on. -/
def Path (W : World) : Pl → List HTok → Prop
  | p, [] => p = .done
  | p, t :: r => ∃ C i g o p', p = .at C i ∧ i ≤ 1000000 ∧ StopAt W C i g o t ∧ p'.ok W ∧ p'.from W (.pointer (some ⟨C, 0, none⟩)) ((i : Int) + 1) ∧ Path W p' r
theorem Path.below {W W' : World} (hb : Below W.heap.size W W') : ∀ {l : List HTok} {p : Pl}, Path W p l → Path W' p l := by
  intro l
  induction l with
  | nil => intro p h; exact h
  | cons t r ih =>
    rintro p ⟨C, i, g, o, p', h1, h2, h3, h4, h5, h6⟩
    exact ⟨C, i, g, o, p', h1, h2, h3.below hb, h4.below hb, h5.below hb, ih h6⟩
theorem Path.ok {W : World} {l : List HTok} {p : Pl} (h : Path W p l) : p.ok W := by
  cases l with
  | nil => rw [show p = .done from h]; trivial
  | cons t r =>
    obtain ⟨C, i, g, o, p', rfl, h2, ⟨⟨n, c, q, j, h3, h4, _⟩, _⟩, _⟩ := h
    exact ⟨_, _, _, _, _, h3, h4⟩
/-- A cell's tokens, where nothing goes on behind it. -/
theorem path_cell {W : World} {C g o n : Nat} {l : List HTok} (hn : n ≤ 1000000) (hC : CellAt W C (some ⟨g, o, none⟩) n n (.pointer none) 0) (hr : Rd W 5 (some ⟨g, o, none⟩) n (txhs l)) : ∀ (d k : Nat), n - k = d → k ≤ n → Path W (pk n C k) (l.drop k) := by
  have hln := hr.hlen
  intro d
  induction d with
  | zero =>
    intro k h1 h2
    obtain rfl : k = n := by omega
    rw [List.drop_eq_nil_of_le (by omega), pk_done]
    rfl
  | succ d ih =>
    intro k h1 h2
    have hk : k < l.length := by omega
    rw [List.drop_eq_getElem_cons hk, pk_at (by omega)]
    obtain ⟨b, o', e, hlt, a0, a1, a2, a3, a4⟩ := hr.txh (List.getElem?_eq_getElem hk)
    cases e
    have := ih (k + 1) (by omega) (by omega)
    refine ⟨C, k, g, o, pk n C (k + 1), rfl, by omega, ⟨⟨n, n, _, _, hC, by omega, hn⟩, hlt, a0, a1, a2, a3, a4⟩, this.ok, ?_, this⟩
    unfold pk
    split
    · exact .inl ⟨rfl, by unfold Pl.i; simp⟩
    · exact .inr ⟨C, _, n, _, rfl, by omega, hC, by unfold Pl.c; simp⟩
/-- Where a cell ends whose tokens are one, it goes on behind it. -/
theorem path_push {W : World} {C g o c : Nat} {t : HTok} {r : List HTok} {p : Pl} (hC : CellAt W C (some ⟨g, o, none⟩) 1 c p.c p.i) (hne : p = .done ∨ ∃ C' i, p = .at C' i ∧ C' ≠ C) (hr : Rd W 5 (some ⟨g, o, none⟩) 1 (txhs [t])) (h : Path W p r) : Path W (.at C 0) (t :: r) := by
  obtain ⟨b, o', e, hlt, a0, a1, a2, a3, a4⟩ := hr.txh (k := 0) (p := t) rfl
  cases e
  refine ⟨C, 0, g, o, p, rfl, by omega, ⟨⟨1, c, _, _, hC, by omega, by omega⟩, hlt, a0, a1, a2, a3, a4⟩, h.ok, .inr ⟨C, _, 1, _, rfl, by simp, hC, ?_⟩, h⟩
  rintro ⟨e1, e2⟩
  rcases hne with rfl | ⟨C', i, rfl, hne⟩
  · simp [Pl.c] at e1
  · unfold Pl.c at e1
    simp only [Value.pointer.injEq, Option.some.injEq, Addr.mk.injEq, and_true] at e1
    exact hne e1.symm
end Go.Proofs.YtffjblamfbmoeaaGreatDoor

/-! Walks: how a macro's body is filled, at X -> 1: has, spelt, items. -/
set_option linter.unusedVariables false
set_option linter.unusedSimpArgs false
namespace Go.Proofs.YtffjblamfbmoeaaGreatDoor
open Go Go.RowKit
attribute [local go_sem] Oper.semAt_some

/-- A map's look-up whose run is known. -/
theorem wpListIn_lookup_run {F : Fence} {nF : Nat} {P : Program} (w : World) {ops : Array Oper} {rest : List Oper} {o : Oper} {a : Act} {Q : Exit → Act → World → Prop}
    (hw : Region.wanted o (yielded ops a.tmps) = true) (m x : Operand) (t : TypeId) (ok : Bool) (hop : o.op = Op.lookup t m x ok) (mv xv v : Value) (hm : a.eval m = mv) (hx : a.eval x = xv)
    (hrun : (Instr.lookup t mv xv ok).run P w = .ok v w) (h : wpListIn F nF P ops Q rest (a.put o.dst v) w) : wpListIn F nF P ops Q (o :: rest) a w := by
  unfold wpListIn
  rw [if_pos hw]
  unfold Oper.wpIn
  refine ⟨by simp [Oper.about, hop], ?_⟩
  rw [Oper.semAt_plain F _ _ (by rw [hop]; intro c hc'; cases hc')]
  simp [execOp, hop, hm, hx, hrun, Result.andThen]
  exact h
theorem wpList_lookup_run {P : Program} (w : World) {ops : Array Oper} {rest : List Oper} {o : Oper} {a : Act} {Q : Exit → Act → World → Prop}
    (hg : o.guard = none) (m x : Operand) (t : TypeId) (ok : Bool) (hop : o.op = Op.lookup t m x ok) (mv xv v : Value) (hm : a.eval m = mv) (hx : a.eval x = xv)
    (hrun : (Instr.lookup t mv xv ok).run P w = .ok v w) (h : wpList P ops Q rest (a.put o.dst v) w) : wpList P ops Q (o :: rest) a w := by
  refine wpList_plain hg fun K' hK' => ?_
  unfold Oper.wp
  simp [execOp, hop, hm, hx, hrun, Result.andThen]
  exact hK' _ _ h
theorem wpList_mapUpdate_run {P : Program} (w w' : World) {ops : Array Oper} {rest : List Oper} {o : Oper} {a : Act} {Q : Exit → Act → World → Prop}
    (hg : o.guard = none) (m x v : Operand) (t : TypeId) (hop : o.op = Op.mapUpdate t m x v) (mv xv vv : Value) (hm : a.eval m = mv) (hx : a.eval x = xv) (hv : a.eval v = vv)
    (hrun : (Instr.mapUpdate t mv xv vv).run P w = .ok () w') (h : wpList P ops Q rest (a.put o.dst undef) w') : wpList P ops Q (o :: rest) a w := by
  refine wpList_plain hg fun K' hK' => ?_
  unfold Oper.wp
  simp [execOp, hop, hm, hx, hv, hrun, Result.andThen]
  exact hK' _ _ h

set_option maxRecDepth 100000 in
set_option maxHeartbeats 8000000 in
theorem has_nil (k : Int) (w : World) : Calls Tryz.prog 135 #[.pointer none, .int .i64 k] w fun e w' => e = .returned (.bool false) ∧ w' = w := by
  go_enter Tryz.func135, Tryz.ntmps135
  go_wp2
  go_ret
  exact ⟨rfl, rfl⟩

set_option maxRecDepth 100000 in
set_option maxHeartbeats 8000000 in
theorem spelt_2 (x : ByteArray) (s : Bool) (v1 v2 : Value) (w : World) : Calls Tryz.prog 175 #[.agg #[.int .i64 2, .string x, .bool s, .slice none 0 0], v1, v2] w fun e w' => e = .returned (.bool false) ∧ w' = w.alloc (.cells #[.int .i64 2, .string x, .bool s, .slice none 0 0] 49) := by
  go_enter Tryz.func175, Tryz.ntmps175
  go_wp2
  go_ret
  exact ⟨rfl, rfl⟩

set_option maxRecDepth 100000 in
set_option maxHeartbeats 8000000 in
theorem items_X (A : Option Addr) (c : Nat) (w : World) : Calls Tryz.prog 162 #[mvX A c] w fun e w' =>
    e = .returned (.func (.func 174) #[] #[.pointer (some ⟨w.heap.size, 0, none⟩), .pointer (some ⟨w.heap.size + 2, 0, none⟩)]) ∧ Below w.heap.size w w' ∧ w'.heap.size = w.heap.size + 3 ∧
    w'.heap[w.heap.size]? = some (.cells #[.string (bs [88]), .bool false, .slice none 0 0, .bool false, .slice A 1 c] 25 (0, 0)) ∧ w'.heap[w.heap.size + 1]? = some (.map #[] 0) ∧ Bx w' (w.heap.size + 2) 63 (.map (some (w.heap.size + 1))) := by
  have HM := fun (n : Int) (W : World) => map_makeN (P := Tryz.prog) Tryz.underlying63 (w := W) .i64 n
  unfold mvX
  obtain ⟨W2, hW2⟩ : ∃ W2, (((w.alloc (.cells #[.string (bs [88]), .bool false, .slice none 0 0, .bool false, .slice A 1 c] 25)).alloc (.map #[] 0)).alloc (.cells #[.map (some (w.heap.size + 1))] 63)) = W2 := ⟨_, rfl⟩
  have k0 : W2.heap[w.heap.size]? = some (.cells #[.string (bs [88]), .bool false, .slice none 0 0, .bool false, .slice A 1 c] 25 (0, 0)) := by rw [← hW2]; exact (Below.heap_alloc _ _ _ (by simp; omega)).trans ((Below.heap_alloc _ _ _ (by simp)).trans (heap_alloc_new w _))
  have k1 : W2.heap[w.heap.size + 1]? = some (.map #[] 0) := by
    rw [← hW2]
    have := heap_alloc_new (w.alloc (.cells #[.string (bs [88]), .bool false, .slice none 0 0, .bool false, .slice A 1 c] 25)) (.map #[] 0)
    rw [World.size_alloc] at this
    exact (Below.heap_alloc _ _ _ (by simp)).trans this
  have k2 : Bx W2 (w.heap.size + 2) 63 (.map (some (w.heap.size + 1))) := by
    rw [← hW2]
    have := heap_alloc_new ((w.alloc (.cells #[.string (bs [88]), .bool false, .slice none 0 0, .bool false, .slice A 1 c] 25)).alloc (.map #[] 0)) (.cells #[.map (some (w.heap.size + 1))] 63)
    rwa [World.size_alloc, World.size_alloc] at this
  have hs : W2.heap.size = w.heap.size + 3 := by rw [← hW2]; simp
  have hB : Below w.heap.size w W2 := by rw [← hW2]; exact (((Below.refl _ _).alloc (Nat.le_refl _) _).alloc (by simp) _).alloc (by simp; omega) _
  have HW2 := Lib.hid hW2
  have K1 := Lib.hid k1
  have c3 := Lib.cell_of_heap k0 3
  simp only [List.getElem?_toArray, List.getElem?_cons_zero, List.getElem?_cons_succ] at c3
  have HS := Lib.hid hs
  clear hW2 hs k1
  go_enter Tryz.func162, Tryz.ntmps162
  go_wp2
  rw [HW2.out]
  go_loopw [14] (fun c14 wr => c14 = .int .i64 0 ∧ wr = W2) (fun _ _ => 0)
  case atStart => exact ⟨rfl, rfl⟩
  case round =>
    obtain ⟨rfl, rfl⟩ := hrel
    go_wp2
    go_ret
    exact ⟨rfl, hB, HS.out, k0, K1.out, k2⟩
end Go.Proofs.YtffjblamfbmoeaaGreatDoor

/-! Walks: how a macro's body is filled, at X -> 1: the items of the body. -/
set_option linter.unusedVariables false
set_option linter.unusedSimpArgs false
namespace Go.Proofs.YtffjblamfbmoeaaGreatDoor
open Go Go.RowKit
attribute [local go_sem] Oper.semAt_some

/-- A round's word: the blocks below N stay, but for one. -/
def KpB (pb N : Nat) (X Y : World) : Prop := X.heap.size ≤ Y.heap.size ∧ ∀ k, k < N → k ≠ pb → Y.heap[k]? = X.heap[k]?
theorem KpB.trans {pb N : Nat} {X Y Z : World} (h : KpB pb N X Y) (g : KpB pb N Y Z) : KpB pb N X Z := ⟨Nat.le_trans h.1 g.1, fun k h1 h2 => (g.2 k h1 h2).trans (h.2 k h1 h2)⟩
/-- The one item of X's body. -/
def itc : List Value := [.int .i64 2, .string (bs [49]), .bool false, .slice none 0 0, .int .i64 (-1), .bool false, .bool false, .bool false]
theorem zeroInt (w : World) : (zeroValue 3).run Tryz.prog w = .ok (.int .i64 0) w := by kernel_rfl

set_option maxRecDepth 100000 in
set_option maxHeartbeats 8000000 in
theorem items1_seq_X (nn B0 Mb Nb pb N c : Nat) (A : Option Addr) (W : World) (hB0 : W.heap[B0]? = some (.cells #[.string (bs [88]), .bool false, .slice none 0 0, .bool false, .slice A 1 c] 25 (0, 0)))
    (hNb : Bx W Nb 63 (.map (some Mb))) (hMb : W.heap[Mb]? = some (.map #[] 0)) (hr : Rd W 4 A 1 (ptcs [xM])) (hN : B0 < N) (hNW : N ≤ W.heap.size) (hpb : B0 ≠ pb) (hc : 1 ≤ c) :
    Seq nn Tryz.prog 174 #[.pointer (some ⟨B0, 0, none⟩), .pointer (some ⟨Nb, 0, none⟩)] (fun _ : Unit => #[.agg itc.toArray]) (fun X Y => Below X.heap.size X Y) (KpB pb N)
      (fun pre => pre = [()]) (fun xs => xs = [()]) (fun pre => pre = [()]) W := by
  intro y K Kx hK hY h0
  obtain ⟨b, o, rfl, hbl, d0, d1, d2, d3⟩ := hr.pt (k := 0) (p := xM) rfl
  simp only [xM, Nat.zero_mul, Nat.add_zero] at d0 d1 d2 d3
  have c1 := Lib.cell_of_heap hB0 1
  have c4 := Lib.cell_of_heap hB0 4
  simp only [List.getElem?_toArray, List.getElem?_cons_zero, List.getElem?_cons_succ] at c1 c4
  have hBl := (Array.getElem?_eq_some_iff.1 hB0).1
  have hNl := hNb.lt
  have hMl := (Array.getElem?_eq_some_iff.1 hMb).1
  have cN := hNb.cell
  have H0 := Lib.hid hB0
  have HM := Lib.hid hMb
  have HH := Lib.hid h0
  have SP := Lib.hid (fun (v1 v2 : Value) (W : World) => spelt_2 (bs [49]) false v1 v2 W)
  have FW := Lib.hid (show Fence.wide.fn 175 from trivial)
  clear hB0 hMb hNb h0 hr
  refine callsIn_of_wp Tryz.func174 rfl trivial ?_ rfl
  simp only [Tryz.ntmps174, List.size_toArray, List.length_cons, List.length_nil, Nat.reduceAdd, Nat.reduceSub, Array.replicate_succ, Array.replicate_zero, List.push_toArray, List.append_toArray, List.nil_append, List.cons_append]
  gi_wp2
  refine wpIn_scope ?_
  gi_wp2
  refine wpIn_label ?_
  gi_wp2
  gi_loopw [4, 5] (fun c4 c5 wr => c4 = .bool false ∧ ((c5 = .int .i64 0 ∧ wr = W) ∨ (c5 = .int .i64 1 ∧ wr.heap[B0]? = some (.cells #[.string (bs [88]), .bool false, .slice none 0 0, .bool false, .slice (some ⟨b, o, none⟩) 1 c] 25 (0, 0)) ∧ K [()] wr))) (fun _ c _ => 1 - (intOf c).toNat)
  case atStart => exact ⟨rfl, .inl ⟨rfl, rfl⟩⟩
  case round =>
    rcases hrel with ⟨rfl, ⟨rfl, rfl⟩ | ⟨rfl, hk, hK1⟩⟩
    · gi_upto_region 8 with (first
        | (refine ⟨trivial, (fun h => by cases h), ?_⟩; gi_at_call 175; (with_reducible refine (callsIn_wide.2 (SP.out _ _ _)).mono ?_); rintro e w2 ⟨rfl, rfl⟩))
      obtain ⟨W3, hW3⟩ : ∃ W3, (((wr.alloc (.cells #[.int .i64 2, .string (bs [49]), .bool false, .slice none 0 0] 49)).alloc (.cells #[.int .i64 2, .string (bs [49]), .bool false, .slice none 0 0] 49)).alloc (.cells #[.int .i64 2, .string (bs [49]), .bool false, .slice none 0 0, .int .i64 (-1), .bool false, .bool false, .bool false] 255)) = W3 := ⟨_, rfl⟩
      have hB3 : Below wr.heap.size wr W3 := by rw [← hW3]; exact (((Below.refl _ _).alloc (Nat.le_refl _) _).alloc (by simp) _).alloc (by simp; omega) _
      have q0 : W3.heap[wr.heap.size]? = some (.cells #[.int .i64 2, .string (bs [49]), .bool false, .slice none 0 0] 49 (0, 0)) := by rw [← hW3]; exact (Below.heap_alloc _ _ _ (by simp; omega)).trans ((Below.heap_alloc _ _ _ (by simp)).trans (heap_alloc_new wr _))
      have q2 : W3.heap[wr.heap.size + 1 + 1]? = some (.cells #[.int .i64 2, .string (bs [49]), .bool false, .slice none 0 0, .int .i64 (-1), .bool false, .bool false, .bool false] 255 (0, 0)) := by
        rw [← hW3]
        have := heap_alloc_new ((wr.alloc (.cells #[.int .i64 2, .string (bs [49]), .bool false, .slice none 0 0] 49)).alloc (.cells #[.int .i64 2, .string (bs [49]), .bool false, .slice none 0 0] 49)) (.cells #[.int .i64 2, .string (bs [49]), .bool false, .slice none 0 0, .int .i64 (-1), .bool false, .bool false, .bool false] 255)
        rwa [World.size_alloc, World.size_alloc] at this
      rw [hW3]
      clear hW3
      have g1 := (hB3.cell (p := ⟨B0, 1, none⟩) hBl).trans c1
      have g4 := (hB3.cell (p := ⟨B0, 4, none⟩) hBl).trans c4
      have gN := (hB3.cell (p := ⟨Nb, 0, none⟩) hNl).trans cN
      have gM := (hB3.block Mb hMl).trans HM.out
      have gB := Lib.hid ((hB3.block B0 hBl).trans H0.out)
      have i0 := Lib.cell_of_heap q0 0
      have i1 := Lib.cell_of_heap q0 1
      have i2 := Lib.cell_of_heap q0 2
      have i3 := Lib.cell_of_heap q0 3
      have m0 := Lib.cell_of_heap q2 0
      have m1 := Lib.cell_of_heap q2 1
      have m2 := Lib.cell_of_heap q2 2
      have m3 := Lib.cell_of_heap q2 3
      have m4 := Lib.cell_of_heap q2 4
      have m5 := Lib.cell_of_heap q2 5
      have m6 := Lib.cell_of_heap q2 6
      have m7 := Lib.cell_of_heap q2 7
      have f5 := Lib.frozen_of_heap q2 5
      have f7 := Lib.frozen_of_heap q2 7
      simp only [List.getElem?_toArray, List.getElem?_cons_zero, List.getElem?_cons_succ] at i0 i1 i2 i3 m0 m1 m2 m3 m4 m5 m6 m7
      have hl3 : wr.heap.size + 1 + 1 < W3.heap.size := (Array.getElem?_eq_some_iff.1 q2).1
      have hn1 : ¬ B0 = wr.heap.size + 1 + 1 := by omega
      have hn2 : ¬ Nb = wr.heap.size + 1 + 1 := by omega
      have hn3 : ¬ b = wr.heap.size + 1 + 1 := by omega
      have hn4 : ¬ wr.heap.size = wr.heap.size + 1 + 1 := by omega
      have GM := Lib.hid gM
      have Q2 := Lib.hid q2
      have HB3 := Lib.hid hB3
      have LK := map_none (x := bs [49]) Tryz.underlying63 Tryz.underlying9 (zeroInt (W3.setCell ⟨wr.heap.size + 1 + 1, 5, none⟩ (.bool false))) (show (W3.setCell ⟨wr.heap.size + 1 + 1, 5, none⟩ (.bool false)).heap[Mb]? = _ from (Below.heap_setCell _ _ _ _ (by simp; omega)).trans gM)
      clear c1 c4 cN d0 d1 d2 d3 q0 q2 gM hB3
      gi_wp2_with (first
        | (with_reducible refine ⟨FW.out, ?_⟩))
      have hBy := (HB3.out.setCell (p := ⟨wr.heap.size + 1 + 1, 5, none⟩) (by simp; omega) (.bool false)).setCell (p := ⟨wr.heap.size + 1 + 1, 7, none⟩) (by simp; omega) (.bool false)
      have hBy0 := (Below.heap_setCell (W3.setCell ⟨wr.heap.size + 1 + 1, 5, none⟩ (.bool false)) ⟨wr.heap.size + 1 + 1, 7, none⟩ (.bool false) B0 (by simpa using hn1)).trans ((Below.heap_setCell W3 ⟨wr.heap.size + 1 + 1, 5, none⟩ (.bool false) B0 (by simpa using hn1)).trans gB.out)
      generalize (W3.setCell ⟨wr.heap.size + 1 + 1, 5, none⟩ (.bool false)).setCell ⟨wr.heap.size + 1 + 1, 7, none⟩ (.bool false) = wy at *
      have hsy := hBy.size
      obtain ⟨fn, tmps, assign, body, hy, hR⟩ := hY [] () wy (hK _ _ _ HH.out hBy) rfl
      simp only [itc] at hy
      rw [hy]
      clear hy LK i0 i1 i2 i3 m0 m1 m2 m3 m4 m5 m6 m7
      gi_wp2
      refine ⟨(fun h => by cases h), hR.mono ?_⟩
      rintro e W5 (⟨rfl, hJ5, hk5⟩ | ⟨rfl, hJx5⟩)
      · have hB5 := Lib.hid ((hk5.2 B0 hN hpb).trans hBy0)
        clear hk5 hR
        gi_wp2
        go_roundw
        case rel => exact ⟨rfl, .inr ⟨by go_num, hB5.out, hJ5⟩⟩
        case measure => simp [intOf]
      · gi_wp2
        refine bodyPost_ret (results_none rfl _ _ _) rfl ?_
        exact ⟨⟨_, rfl⟩, .inr ⟨_, rfl, hJx5⟩⟩
    · have e1 := Lib.cell_of_heap hk 4
      have hkl := (Array.getElem?_eq_some_iff.1 hk).1
      simp only [List.getElem?_toArray, List.getElem?_cons_zero, List.getElem?_cons_succ] at e1
      gi_wp2
      go_end0
      exact ⟨⟨_, rfl⟩, .inl ⟨_, rfl, hK1⟩⟩
end Go.Proofs.YtffjblamfbmoeaaGreatDoor
