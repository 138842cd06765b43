/- Walks: the document's entries, the others; all. -/
import Derived.Test.YtliabgcpciekpaaDoorYeC
set_option linter.unusedVariables false
set_option linter.unusedSimpArgs false
namespace Go.Proofs.YtliabgcpciekpaaDoor
open Go Go.RowKit

set_option maxRecDepth 100000 in
set_option maxHeartbeats 4000000 in
theorem refentry_9 (w : World) :
    Calls Tryd.prog 44 #[.int .i64 9] w fun e w' => e = .returned (.agg #[.string (bs (St.nm 9)), .int .i64 (St.low 9), .int .i64 (St.high 9), .int .i64 (St.first 9)]) ∧ Below w.heap.size w w' := by
  go_enter Tryd.func44, Tryd.ntmps44
  go_wp2
  refine gen_world (Q := fun W => Code.wp _ _ _ _ W) (fun W => W.cell? ⟨w.heap.size + 1, 9, none⟩ = some (.string (bs (St.nm 9))) ∧ (True) ∧ W.cell? ⟨w.heap.size + 1 + 1 + 1, 9, none⟩ = some (.int .i64 (St.first 9)) ∧ W.heap[w.heap.size]? = some (.cells #[.string ⟨#[]⟩, .int .i64 0, .int .i64 0, .int .i64 0] 90 (0, 0)) ∧ W.heap.size = w.heap.size + 1 + 1 + 1 + 1 ∧ Below w.heap.size w W) ⟨(Lib.cell_of_heap (alloc4 w _ _ _ _).2.1 9).trans rfl, trivial, (Lib.cell_of_heap (alloc4 w _ _ _ _).2.2.2 9).trans rfl, (alloc4 w _ _ _ _).1, by simp, below4 w _ _ _ _⟩ ?_
  rintro W ⟨c1, c2, c3, c4, hsz, hb⟩
  have hsw := hb.size
  obtain ⟨d0, d1, d2, d3, f0, f1, f2, f3⟩ := four_cells c4
  have C4 := Lib.hid (fun v0 v1 v2 v3 o => four_set c4 v0 v1 v2 v3 o)
  clear c4
  go_region_held3 (fun w' => w'.cell? ⟨w.heap.size + 1, 9, none⟩ = some (.string (bs (St.nm 9))) ∧ w'.cell? ⟨w.heap.size + 1 + 1 + 1, 9, none⟩ = some (.int .i64 (St.first 9))) (go_keep) (fail)
  go_wp2
  refine bodyPost_ret (results_cell_row Tryd.results44 _ _ w.heap.size 90 _ _ _ rfl (C4.out _ _ _ _ _) Tryd.underlying90 rfl (by kernel_rfl)) rfl ⟨rfl, ?_⟩
  exact (((((hb.setCell (Nat.le_refl _) _).setCell (Nat.le_refl _) _).setCell (Nat.le_refl _) _).setCell (Nat.le_refl _) _).alloc (by simp [World.setCell]; omega) _).drew

set_option maxRecDepth 100000 in
set_option maxHeartbeats 4000000 in
theorem refentry_10 (w : World) :
    Calls Tryd.prog 44 #[.int .i64 10] w fun e w' => e = .returned (.agg #[.string (bs (St.nm 10)), .int .i64 (St.low 10), .int .i64 (St.high 10), .int .i64 (St.first 10)]) ∧ Below w.heap.size w w' := by
  go_enter Tryd.func44, Tryd.ntmps44
  go_wp2
  refine gen_world (Q := fun W => Code.wp _ _ _ _ W) (fun W => W.cell? ⟨w.heap.size + 1, 10, none⟩ = some (.string (bs (St.nm 10))) ∧ (True) ∧ W.cell? ⟨w.heap.size + 1 + 1 + 1, 10, none⟩ = some (.int .i64 (St.first 10)) ∧ W.heap[w.heap.size]? = some (.cells #[.string ⟨#[]⟩, .int .i64 0, .int .i64 0, .int .i64 0] 90 (0, 0)) ∧ W.heap.size = w.heap.size + 1 + 1 + 1 + 1 ∧ Below w.heap.size w W) ⟨(Lib.cell_of_heap (alloc4 w _ _ _ _).2.1 10).trans rfl, trivial, (Lib.cell_of_heap (alloc4 w _ _ _ _).2.2.2 10).trans rfl, (alloc4 w _ _ _ _).1, by simp, below4 w _ _ _ _⟩ ?_
  rintro W ⟨c1, c2, c3, c4, hsz, hb⟩
  have hsw := hb.size
  obtain ⟨d0, d1, d2, d3, f0, f1, f2, f3⟩ := four_cells c4
  have C4 := Lib.hid (fun v0 v1 v2 v3 o => four_set c4 v0 v1 v2 v3 o)
  clear c4
  go_region_held3 (fun w' => w'.cell? ⟨w.heap.size + 1, 10, none⟩ = some (.string (bs (St.nm 10))) ∧ w'.cell? ⟨w.heap.size + 1 + 1 + 1, 10, none⟩ = some (.int .i64 (St.first 10))) (go_keep) (fail)
  go_wp2
  refine bodyPost_ret (results_cell_row Tryd.results44 _ _ w.heap.size 90 _ _ _ rfl (C4.out _ _ _ _ _) Tryd.underlying90 rfl (by kernel_rfl)) rfl ⟨rfl, ?_⟩
  exact (((((hb.setCell (Nat.le_refl _) _).setCell (Nat.le_refl _) _).setCell (Nat.le_refl _) _).setCell (Nat.le_refl _) _).alloc (by simp [World.setCell]; omega) _).drew

set_option maxRecDepth 100000 in
set_option maxHeartbeats 4000000 in
theorem refentry_11 (w : World) :
    Calls Tryd.prog 44 #[.int .i64 11] w fun e w' => e = .returned (.agg #[.string (bs (St.nm 11)), .int .i64 (St.low 11), .int .i64 (St.high 11), .int .i64 (St.first 11)]) ∧ Below w.heap.size w w' := by
  go_enter Tryd.func44, Tryd.ntmps44
  go_wp2
  refine gen_world (Q := fun W => Code.wp _ _ _ _ W) (fun W => W.cell? ⟨w.heap.size + 1, 11, none⟩ = some (.string (bs (St.nm 11))) ∧ (True) ∧ W.cell? ⟨w.heap.size + 1 + 1 + 1, 11, none⟩ = some (.int .i64 (St.first 11)) ∧ W.heap[w.heap.size]? = some (.cells #[.string ⟨#[]⟩, .int .i64 0, .int .i64 0, .int .i64 0] 90 (0, 0)) ∧ W.heap.size = w.heap.size + 1 + 1 + 1 + 1 ∧ Below w.heap.size w W) ⟨(Lib.cell_of_heap (alloc4 w _ _ _ _).2.1 11).trans rfl, trivial, (Lib.cell_of_heap (alloc4 w _ _ _ _).2.2.2 11).trans rfl, (alloc4 w _ _ _ _).1, by simp, below4 w _ _ _ _⟩ ?_
  rintro W ⟨c1, c2, c3, c4, hsz, hb⟩
  have hsw := hb.size
  obtain ⟨d0, d1, d2, d3, f0, f1, f2, f3⟩ := four_cells c4
  have C4 := Lib.hid (fun v0 v1 v2 v3 o => four_set c4 v0 v1 v2 v3 o)
  clear c4
  go_region_held3 (fun w' => w'.cell? ⟨w.heap.size + 1, 11, none⟩ = some (.string (bs (St.nm 11))) ∧ w'.cell? ⟨w.heap.size + 1 + 1 + 1, 11, none⟩ = some (.int .i64 (St.first 11))) (go_keep) (fail)
  go_wp2
  refine bodyPost_ret (results_cell_row Tryd.results44 _ _ w.heap.size 90 _ _ _ rfl (C4.out _ _ _ _ _) Tryd.underlying90 rfl (by kernel_rfl)) rfl ⟨rfl, ?_⟩
  exact (((((hb.setCell (Nat.le_refl _) _).setCell (Nat.le_refl _) _).setCell (Nat.le_refl _) _).setCell (Nat.le_refl _) _).alloc (by simp [World.setCell]; omega) _).drew

set_option maxRecDepth 100000 in
set_option maxHeartbeats 4000000 in
theorem refentry_12 (w : World) :
    Calls Tryd.prog 44 #[.int .i64 12] w fun e w' => e = .returned (.agg #[.string (bs (St.nm 12)), .int .i64 (St.low 12), .int .i64 (St.high 12), .int .i64 (St.first 12)]) ∧ Below w.heap.size w w' := by
  go_enter Tryd.func44, Tryd.ntmps44
  go_wp2
  refine gen_world (Q := fun W => Code.wp _ _ _ _ W) (fun W => W.cell? ⟨w.heap.size + 1, 12, none⟩ = some (.string (bs (St.nm 12))) ∧ (True) ∧ W.cell? ⟨w.heap.size + 1 + 1 + 1, 12, none⟩ = some (.int .i64 (St.first 12)) ∧ W.heap[w.heap.size]? = some (.cells #[.string ⟨#[]⟩, .int .i64 0, .int .i64 0, .int .i64 0] 90 (0, 0)) ∧ W.heap.size = w.heap.size + 1 + 1 + 1 + 1 ∧ Below w.heap.size w W) ⟨(Lib.cell_of_heap (alloc4 w _ _ _ _).2.1 12).trans rfl, trivial, (Lib.cell_of_heap (alloc4 w _ _ _ _).2.2.2 12).trans rfl, (alloc4 w _ _ _ _).1, by simp, below4 w _ _ _ _⟩ ?_
  rintro W ⟨c1, c2, c3, c4, hsz, hb⟩
  have hsw := hb.size
  obtain ⟨d0, d1, d2, d3, f0, f1, f2, f3⟩ := four_cells c4
  have C4 := Lib.hid (fun v0 v1 v2 v3 o => four_set c4 v0 v1 v2 v3 o)
  clear c4
  go_region_held3 (fun w' => w'.cell? ⟨w.heap.size + 1, 12, none⟩ = some (.string (bs (St.nm 12))) ∧ w'.cell? ⟨w.heap.size + 1 + 1 + 1, 12, none⟩ = some (.int .i64 (St.first 12))) (go_keep) (fail)
  go_wp2
  refine bodyPost_ret (results_cell_row Tryd.results44 _ _ w.heap.size 90 _ _ _ rfl (C4.out _ _ _ _ _) Tryd.underlying90 rfl (by kernel_rfl)) rfl ⟨rfl, ?_⟩
  exact (((((hb.setCell (Nat.le_refl _) _).setCell (Nat.le_refl _) _).setCell (Nat.le_refl _) _).setCell (Nat.le_refl _) _).alloc (by simp [World.setCell]; omega) _).drew

set_option maxRecDepth 100000 in
set_option maxHeartbeats 4000000 in
theorem refentry_13 (w : World) :
    Calls Tryd.prog 44 #[.int .i64 13] w fun e w' => e = .returned (.agg #[.string (bs (St.nm 13)), .int .i64 (St.low 13), .int .i64 (St.high 13), .int .i64 (St.first 13)]) ∧ Below w.heap.size w w' := by
  go_enter Tryd.func44, Tryd.ntmps44
  go_wp2
  refine gen_world (Q := fun W => Code.wp _ _ _ _ W) (fun W => W.cell? ⟨w.heap.size + 1, 13, none⟩ = some (.string (bs (St.nm 13))) ∧ (True) ∧ W.cell? ⟨w.heap.size + 1 + 1 + 1, 13, none⟩ = some (.int .i64 (St.first 13)) ∧ W.heap[w.heap.size]? = some (.cells #[.string ⟨#[]⟩, .int .i64 0, .int .i64 0, .int .i64 0] 90 (0, 0)) ∧ W.heap.size = w.heap.size + 1 + 1 + 1 + 1 ∧ Below w.heap.size w W) ⟨(Lib.cell_of_heap (alloc4 w _ _ _ _).2.1 13).trans rfl, trivial, (Lib.cell_of_heap (alloc4 w _ _ _ _).2.2.2 13).trans rfl, (alloc4 w _ _ _ _).1, by simp, below4 w _ _ _ _⟩ ?_
  rintro W ⟨c1, c2, c3, c4, hsz, hb⟩
  have hsw := hb.size
  obtain ⟨d0, d1, d2, d3, f0, f1, f2, f3⟩ := four_cells c4
  have C4 := Lib.hid (fun v0 v1 v2 v3 o => four_set c4 v0 v1 v2 v3 o)
  clear c4
  go_region_held3 (fun w' => w'.cell? ⟨w.heap.size + 1, 13, none⟩ = some (.string (bs (St.nm 13))) ∧ w'.cell? ⟨w.heap.size + 1 + 1 + 1, 13, none⟩ = some (.int .i64 (St.first 13))) (go_keep) (fail)
  go_wp2
  refine bodyPost_ret (results_cell_row Tryd.results44 _ _ w.heap.size 90 _ _ _ rfl (C4.out _ _ _ _ _) Tryd.underlying90 rfl (by kernel_rfl)) rfl ⟨rfl, ?_⟩
  exact (((((hb.setCell (Nat.le_refl _) _).setCell (Nat.le_refl _) _).setCell (Nat.le_refl _) _).setCell (Nat.le_refl _) _).alloc (by simp [World.setCell]; omega) _).drew

set_option maxRecDepth 100000 in
set_option maxHeartbeats 4000000 in
theorem refentry_14 (w : World) :
    Calls Tryd.prog 44 #[.int .i64 14] w fun e w' => e = .returned (.agg #[.string (bs (St.nm 14)), .int .i64 (St.low 14), .int .i64 (St.high 14), .int .i64 (St.first 14)]) ∧ Below w.heap.size w w' := by
  go_enter Tryd.func44, Tryd.ntmps44
  go_wp2
  refine gen_world (Q := fun W => Code.wp _ _ _ _ W) (fun W => W.cell? ⟨w.heap.size + 1, 14, none⟩ = some (.string (bs (St.nm 14))) ∧ (True) ∧ W.cell? ⟨w.heap.size + 1 + 1 + 1, 14, none⟩ = some (.int .i64 (St.first 14)) ∧ W.heap[w.heap.size]? = some (.cells #[.string ⟨#[]⟩, .int .i64 0, .int .i64 0, .int .i64 0] 90 (0, 0)) ∧ W.heap.size = w.heap.size + 1 + 1 + 1 + 1 ∧ Below w.heap.size w W) ⟨(Lib.cell_of_heap (alloc4 w _ _ _ _).2.1 14).trans rfl, trivial, (Lib.cell_of_heap (alloc4 w _ _ _ _).2.2.2 14).trans rfl, (alloc4 w _ _ _ _).1, by simp, below4 w _ _ _ _⟩ ?_
  rintro W ⟨c1, c2, c3, c4, hsz, hb⟩
  have hsw := hb.size
  obtain ⟨d0, d1, d2, d3, f0, f1, f2, f3⟩ := four_cells c4
  have C4 := Lib.hid (fun v0 v1 v2 v3 o => four_set c4 v0 v1 v2 v3 o)
  clear c4
  go_region_held3 (fun w' => w'.cell? ⟨w.heap.size + 1, 14, none⟩ = some (.string (bs (St.nm 14))) ∧ w'.cell? ⟨w.heap.size + 1 + 1 + 1, 14, none⟩ = some (.int .i64 (St.first 14))) (go_keep) (fail)
  go_wp2
  refine bodyPost_ret (results_cell_row Tryd.results44 _ _ w.heap.size 90 _ _ _ rfl (C4.out _ _ _ _ _) Tryd.underlying90 rfl (by kernel_rfl)) rfl ⟨rfl, ?_⟩
  exact (((((hb.setCell (Nat.le_refl _) _).setCell (Nat.le_refl _) _).setCell (Nat.le_refl _) _).setCell (Nat.le_refl _) _).alloc (by simp [World.setCell]; omega) _).drew

set_option maxRecDepth 100000 in
set_option maxHeartbeats 4000000 in
theorem refentry_15 (w : World) :
    Calls Tryd.prog 44 #[.int .i64 15] w fun e w' => e = .returned (.agg #[.string (bs (St.nm 15)), .int .i64 (St.low 15), .int .i64 (St.high 15), .int .i64 (St.first 15)]) ∧ Below w.heap.size w w' := by
  go_enter Tryd.func44, Tryd.ntmps44
  go_wp2
  refine gen_world (Q := fun W => Code.wp _ _ _ _ W) (fun W => W.cell? ⟨w.heap.size + 1, 15, none⟩ = some (.string (bs (St.nm 15))) ∧ (True) ∧ W.cell? ⟨w.heap.size + 1 + 1 + 1, 15, none⟩ = some (.int .i64 (St.first 15)) ∧ W.heap[w.heap.size]? = some (.cells #[.string ⟨#[]⟩, .int .i64 0, .int .i64 0, .int .i64 0] 90 (0, 0)) ∧ W.heap.size = w.heap.size + 1 + 1 + 1 + 1 ∧ Below w.heap.size w W) ⟨(Lib.cell_of_heap (alloc4 w _ _ _ _).2.1 15).trans rfl, trivial, (Lib.cell_of_heap (alloc4 w _ _ _ _).2.2.2 15).trans rfl, (alloc4 w _ _ _ _).1, by simp, below4 w _ _ _ _⟩ ?_
  rintro W ⟨c1, c2, c3, c4, hsz, hb⟩
  have hsw := hb.size
  obtain ⟨d0, d1, d2, d3, f0, f1, f2, f3⟩ := four_cells c4
  have C4 := Lib.hid (fun v0 v1 v2 v3 o => four_set c4 v0 v1 v2 v3 o)
  clear c4
  go_region_held3 (fun w' => w'.cell? ⟨w.heap.size + 1, 15, none⟩ = some (.string (bs (St.nm 15))) ∧ w'.cell? ⟨w.heap.size + 1 + 1 + 1, 15, none⟩ = some (.int .i64 (St.first 15))) (go_keep) (fail)
  go_wp2
  refine bodyPost_ret (results_cell_row Tryd.results44 _ _ w.heap.size 90 _ _ _ rfl (C4.out _ _ _ _ _) Tryd.underlying90 rfl (by kernel_rfl)) rfl ⟨rfl, ?_⟩
  exact (((((hb.setCell (Nat.le_refl _) _).setCell (Nat.le_refl _) _).setCell (Nat.le_refl _) _).setCell (Nat.le_refl _) _).alloc (by simp [World.setCell]; omega) _).drew

set_option maxRecDepth 100000 in
set_option maxHeartbeats 4000000 in
theorem refentry_16 (w : World) :
    Calls Tryd.prog 44 #[.int .i64 16] w fun e w' => e = .returned (.agg #[.string (bs (St.nm 16)), .int .i64 (St.low 16), .int .i64 (St.high 16), .int .i64 (St.first 16)]) ∧ Below w.heap.size w w' := by
  go_enter Tryd.func44, Tryd.ntmps44
  go_wp2
  refine gen_world (Q := fun W => Code.wp _ _ _ _ W) (fun W => W.cell? ⟨w.heap.size + 1, 16, none⟩ = some (.string (bs (St.nm 16))) ∧ (True) ∧ W.cell? ⟨w.heap.size + 1 + 1 + 1, 16, none⟩ = some (.int .i64 (St.first 16)) ∧ W.heap[w.heap.size]? = some (.cells #[.string ⟨#[]⟩, .int .i64 0, .int .i64 0, .int .i64 0] 90 (0, 0)) ∧ W.heap.size = w.heap.size + 1 + 1 + 1 + 1 ∧ Below w.heap.size w W) ⟨(Lib.cell_of_heap (alloc4 w _ _ _ _).2.1 16).trans rfl, trivial, (Lib.cell_of_heap (alloc4 w _ _ _ _).2.2.2 16).trans rfl, (alloc4 w _ _ _ _).1, by simp, below4 w _ _ _ _⟩ ?_
  rintro W ⟨c1, c2, c3, c4, hsz, hb⟩
  have hsw := hb.size
  obtain ⟨d0, d1, d2, d3, f0, f1, f2, f3⟩ := four_cells c4
  have C4 := Lib.hid (fun v0 v1 v2 v3 o => four_set c4 v0 v1 v2 v3 o)
  clear c4
  go_region_held3 (fun w' => w'.cell? ⟨w.heap.size + 1, 16, none⟩ = some (.string (bs (St.nm 16))) ∧ w'.cell? ⟨w.heap.size + 1 + 1 + 1, 16, none⟩ = some (.int .i64 (St.first 16))) (go_keep) (fail)
  go_wp2
  refine bodyPost_ret (results_cell_row Tryd.results44 _ _ w.heap.size 90 _ _ _ rfl (C4.out _ _ _ _ _) Tryd.underlying90 rfl (by kernel_rfl)) rfl ⟨rfl, ?_⟩
  exact (((((hb.setCell (Nat.le_refl _) _).setCell (Nat.le_refl _) _).setCell (Nat.le_refl _) _).setCell (Nat.le_refl _) _).alloc (by simp [World.setCell]; omega) _).drew

set_option maxRecDepth 100000 in
set_option maxHeartbeats 4000000 in
theorem refentry_17 (w : World) :
    Calls Tryd.prog 44 #[.int .i64 17] w fun e w' => e = .returned (.agg #[.string (bs (St.nm 17)), .int .i64 (St.low 17), .int .i64 (St.high 17), .int .i64 (St.first 17)]) ∧ Below w.heap.size w w' := by
  go_enter Tryd.func44, Tryd.ntmps44
  go_wp2
  refine gen_world (Q := fun W => Code.wp _ _ _ _ W) (fun W => W.cell? ⟨w.heap.size + 1, 17, none⟩ = some (.string (bs (St.nm 17))) ∧ (True) ∧ W.cell? ⟨w.heap.size + 1 + 1 + 1, 17, none⟩ = some (.int .i64 (St.first 17)) ∧ W.heap[w.heap.size]? = some (.cells #[.string ⟨#[]⟩, .int .i64 0, .int .i64 0, .int .i64 0] 90 (0, 0)) ∧ W.heap.size = w.heap.size + 1 + 1 + 1 + 1 ∧ Below w.heap.size w W) ⟨(Lib.cell_of_heap (alloc4 w _ _ _ _).2.1 17).trans rfl, trivial, (Lib.cell_of_heap (alloc4 w _ _ _ _).2.2.2 17).trans rfl, (alloc4 w _ _ _ _).1, by simp, below4 w _ _ _ _⟩ ?_
  rintro W ⟨c1, c2, c3, c4, hsz, hb⟩
  have hsw := hb.size
  obtain ⟨d0, d1, d2, d3, f0, f1, f2, f3⟩ := four_cells c4
  have C4 := Lib.hid (fun v0 v1 v2 v3 o => four_set c4 v0 v1 v2 v3 o)
  clear c4
  go_region_held3 (fun w' => w'.cell? ⟨w.heap.size + 1, 17, none⟩ = some (.string (bs (St.nm 17))) ∧ w'.cell? ⟨w.heap.size + 1 + 1 + 1, 17, none⟩ = some (.int .i64 (St.first 17))) (go_keep) (fail)
  go_wp2
  refine bodyPost_ret (results_cell_row Tryd.results44 _ _ w.heap.size 90 _ _ _ rfl (C4.out _ _ _ _ _) Tryd.underlying90 rfl (by kernel_rfl)) rfl ⟨rfl, ?_⟩
  exact (((((hb.setCell (Nat.le_refl _) _).setCell (Nat.le_refl _) _).setCell (Nat.le_refl _) _).setCell (Nat.le_refl _) _).alloc (by simp [World.setCell]; omega) _).drew

theorem refentry_any (i : Nat) (hi : i < 18) (w : World) :
    Calls Tryd.prog 44 #[.int .i64 (i : Int)] w fun e w' => e = .returned (.agg #[.string (bs (St.nm i)), .int .i64 (St.low i), .int .i64 (St.high i), .int .i64 (St.first i)]) ∧ Below w.heap.size w w' := by
  have : i = 0 ∨ i = 1 ∨ i = 2 ∨ i = 3 ∨ i = 4 ∨ i = 5 ∨ i = 6 ∨ i = 7 ∨ i = 8 ∨ i = 9 ∨ i = 10 ∨ i = 11 ∨ i = 12 ∨ i = 13 ∨ i = 14 ∨ i = 15 ∨ i = 16 ∨ i = 17 := by omega
  rcases this with rfl | rfl | rfl | rfl | rfl | rfl | rfl | rfl | rfl | rfl | rfl | rfl | rfl | rfl | rfl | rfl | rfl | rfl
  · exact refentry_0 w
  · exact refentry_1 w
  · exact refentry_2 w
  · exact refentry_3 w
  · exact refentry_4 w
  · exact refentry_5 w
  · exact refentry_6 w
  · exact refentry_7 w
  · exact refentry_8 w
  · exact refentry_9 w
  · exact refentry_10 w
  · exact refentry_11 w
  · exact refentry_12 w
  · exact refentry_13 w
  · exact refentry_14 w
  · exact refentry_15 w
  · exact refentry_16 w
  · exact refentry_17 w

end Go.Proofs.YtliabgcpciekpaaDoor
