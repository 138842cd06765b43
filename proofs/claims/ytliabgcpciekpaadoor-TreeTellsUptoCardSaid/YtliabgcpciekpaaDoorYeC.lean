/- Walks: the document's numerals; its entries. -/
import Derived.Test.YtliabgcpciekpaaDoorYlA
import Derived.Deep.MidRow
import Derived.Deep.RegionHeld3
set_option linter.unusedVariables false
set_option linter.unusedSimpArgs false
namespace Go.Proofs.YtliabgcpciekpaaDoor
open Go Go.RowKit

theorem dd_small {u : Nat} (h : u < 10) : Lib.decDigits u = [UInt8.ofNat (48 + u)] := by unfold Lib.decDigits; rw [dif_pos h]
theorem dd_big {u : Nat} (h : ¬ u < 10) : Lib.decDigits u = Lib.decDigits (u / 10) ++ [UInt8.ofNat (48 + u % 10)] := by
  conv => lhs; unfold Lib.decDigits
  rw [dif_neg h]
theorem dig_ext {q : Nat} (h : q < 10) : (⟨#[48, 49, 50, 51, 52, 53, 54, 55, 56, 57]⟩ : ByteArray).extract q (q + 1) = bs [UInt8.ofNat (48 + q)] := by
  have : q = 0 ∨ q = 1 ∨ q = 2 ∨ q = 3 ∨ q = 4 ∨ q = 5 ∨ q = 6 ∨ q = 7 ∨ q = 8 ∨ q = 9 := by omega
  rcases this with rfl | rfl | rfl | rfl | rfl | rfl | rfl | rfl | rfl | rfl <;> rfl

set_option maxRecDepth 100000 in
set_option maxHeartbeats 4000000 in
theorem Num_any (m : Nat) : ∀ (w : World), m < 100000000 →
    Calls Tryd.prog 45 #[.int .i64 (m : Int)] w fun e w' => e = .returned (.string (bs (Lib.decDigits m))) ∧ ∃ k, w' = w.drewN k := by
  induction m using Nat.strongRecOn with
  | ind m ih =>
    intro w hm
    by_cases h10 : m < 10
    · have hE := dig_ext h10
      have HD := Lib.hid (dd_small h10)
      clear ih
      generalize UInt8.ofNat (48 + m) = d at *
      go_enter Tryd.func45, Tryd.ntmps45
      go_wp2
      go_ret
      exact ⟨by rw [HD.out]; rfl, 0, rfl⟩
    · have IH := Lib.hid (fun W => ih (m / 10) (by omega) W (by omega))
      have HD := Lib.hid (dd_big h10)
      obtain ⟨q, hq⟩ : ∃ q, m % 10 = q := ⟨_, rfl⟩
      obtain ⟨m2, hm2⟩ : ∃ m2, m / 10 = m2 := ⟨_, rfl⟩
      have hq10 : q < 10 := by omega
      have hm2b : m2 < 100000000 := by omega
      have hqi : (m : Int) % 10 = (q : Int) := by omega
      have hmi : (m : Int) / 10 = (m2 : Int) := by omega
      rw [hq, hm2] at HD
      rw [hm2] at IH
      have hE := dig_ext hq10
      have z0 : (bs (Lib.decDigits m2)).size ≤ 100000001 := by rw [bs_size]; have := St.decDigits_le m2; omega
      have z1 : (bs [UInt8.ofNat (48 + q)]).size ≤ 10 := by rw [bs_size]; simp
      generalize Lib.decDigits m2 = D at *
      generalize UInt8.ofNat (48 + q) = d at *
      clear ih hq hm2
      go_enter Tryd.func45, Tryd.ntmps45
      go_wp2
      go_quiet ((go_at_call 45; exact Calls.quiet_of (IH.out _)))
      go_wp2
      go_ret
      exact ⟨by rw [HD.out, bs_cat]; rfl, _, rfl⟩

theorem one_any (b : Bool) (w : World) : Calls Tryd.prog 67 #[.bool b] w fun e w' => e = .returned (.int .i64 (if b = true then 1 else 0)) ∧ w' = w := by
  cases b
  · go_enter Tryd.func67, Tryd.ntmps67
    go_wp2
    go_ret
    exact ⟨rfl, rfl⟩
  · go_enter Tryd.func67, Tryd.ntmps67
    go_wp2
    go_ret
    exact ⟨rfl, rfl⟩

theorem gen_world {w : World} {Q : World → Prop} (p : World → Prop) (hp : p w) (h : ∀ W, p W → Q W) : Q w := h w hp

theorem alloc4 (w : World) (a b c d : Obj) : ((((w.alloc a).alloc b).alloc c).alloc d).heap[w.heap.size]? = some a ∧ ((((w.alloc a).alloc b).alloc c).alloc d).heap[w.heap.size + 1]? = some b ∧ ((((w.alloc a).alloc b).alloc c).alloc d).heap[w.heap.size + 1 + 1]? = some c ∧ ((((w.alloc a).alloc b).alloc c).alloc d).heap[w.heap.size + 1 + 1 + 1]? = some d := by
  have h1 := heap_alloc_new w a
  have h2 := heap_alloc_new (w.alloc a) b
  have h3 := heap_alloc_new ((w.alloc a).alloc b) c
  have h4 := heap_alloc_new (((w.alloc a).alloc b).alloc c) d
  simp only [World.size_alloc] at h2 h3 h4
  refine ⟨?_, ?_, ?_, h4⟩
  · rw [Below.heap_alloc _ _ _ (by simp only [World.size_alloc]; omega), Below.heap_alloc _ _ _ (by simp only [World.size_alloc]; omega), Below.heap_alloc _ _ _ (by simp only [World.size_alloc]; omega), h1]
  · rw [Below.heap_alloc _ _ _ (by simp only [World.size_alloc]; omega), Below.heap_alloc _ _ _ (by simp only [World.size_alloc]; omega), h2]
  · rw [Below.heap_alloc _ _ _ (by simp), h3]

theorem below4 (w : World) (a b c d : Obj) : Below w.heap.size w ((((w.alloc a).alloc b).alloc c).alloc d) :=
  ((((Below.refl _ _).alloc (Nat.le_refl _) _).alloc (by simp only [World.size_alloc]; omega) _).alloc (by simp only [World.size_alloc]; omega) _).alloc (by simp only [World.size_alloc]; omega) _
theorem four_set {W : World} {b : Nat} {x0 x1 x2 x3 : Value} {T : TypeId} (h : W.heap[b]? = some (.cells #[x0, x1, x2, x3] T (0, 0))) (v0 v1 v2 v3 : Value) (o : Obj) :
    (((((W.setCell ⟨b, 0, none⟩ v0).setCell ⟨b, 1, none⟩ v1).setCell ⟨b, 2, none⟩ v2).setCell ⟨b, 3, none⟩ v3).alloc o).drew.heap[b]? = some (.cells #[v0, v1, v2, v3] T (0, 0)) := by
  have hl := (Array.getElem?_eq_some_iff.1 h).1
  show ((((((W.setCell ⟨b, 0, none⟩ v0).setCell ⟨b, 1, none⟩ v1).setCell ⟨b, 2, none⟩ v2).setCell ⟨b, 3, none⟩ v3).alloc o)).heap[b]? = _
  rw [Below.heap_alloc _ _ _ (by simpa [World.setCell] using hl)]
  simp [World.setCell, Array.getElem?_modify, h]
theorem four_cells {W : World} {b : Nat} {x0 x1 x2 x3 : Value} {T : TypeId} (h : W.heap[b]? = some (.cells #[x0, x1, x2, x3] T (0, 0))) :
    W.cell? ⟨b, 0, none⟩ = some x0 ∧ W.cell? ⟨b, 1, none⟩ = some x1 ∧ W.cell? ⟨b, 2, none⟩ = some x2 ∧ W.cell? ⟨b, 3, none⟩ = some x3 ∧ W.frozen? ⟨b, 0, none⟩ = false ∧ W.frozen? ⟨b, 1, none⟩ = false ∧ W.frozen? ⟨b, 2, none⟩ = false ∧ W.frozen? ⟨b, 3, none⟩ = false :=
  ⟨Lib.cell_of_heap h 0, Lib.cell_of_heap h 1, Lib.cell_of_heap h 2, Lib.cell_of_heap h 3, by simp [World.frozen?, h], by simp [World.frozen?, h], by simp [World.frozen?, h], by simp [World.frozen?, h]⟩

set_option maxRecDepth 100000 in
set_option maxHeartbeats 4000000 in
theorem refentry_0 (w : World) :
    Calls Tryd.prog 44 #[.int .i64 0] w fun e w' => e = .returned (.agg #[.string (bs (St.nm 0)), .int .i64 (St.low 0), .int .i64 (St.high 0), .int .i64 (St.first 0)]) ∧ Below w.heap.size w w' := by
  go_enter Tryd.func44, Tryd.ntmps44
  go_wp2
  refine gen_world (Q := fun W => Code.wp _ _ _ _ W) (fun W => W.cell? ⟨w.heap.size + 1, 0, none⟩ = some (.string (bs (St.nm 0))) ∧ (W.cell? ⟨w.heap.size + 1 + 1, 0, none⟩ = some (.int .i64 (St.high 0))) ∧ W.cell? ⟨w.heap.size + 1 + 1 + 1, 0, none⟩ = some (.int .i64 (St.first 0)) ∧ W.heap[w.heap.size]? = some (.cells #[.string ⟨#[]⟩, .int .i64 0, .int .i64 0, .int .i64 0] 90 (0, 0)) ∧ W.heap.size = w.heap.size + 1 + 1 + 1 + 1 ∧ Below w.heap.size w W) ⟨(Lib.cell_of_heap (alloc4 w _ _ _ _).2.1 0).trans rfl, (Lib.cell_of_heap (alloc4 w _ _ _ _).2.2.1 0).trans rfl, (Lib.cell_of_heap (alloc4 w _ _ _ _).2.2.2 0).trans rfl, (alloc4 w _ _ _ _).1, by simp, below4 w _ _ _ _⟩ ?_
  rintro W ⟨c1, c2, c3, c4, hsz, hb⟩
  have hsw := hb.size
  obtain ⟨d0, d1, d2, d3, f0, f1, f2, f3⟩ := four_cells c4
  have C4 := Lib.hid (fun v0 v1 v2 v3 o => four_set c4 v0 v1 v2 v3 o)
  clear c4
  go_region_held3 (fun w' => w'.cell? ⟨w.heap.size + 1, 0, none⟩ = some (.string (bs (St.nm 0))) ∧ w'.cell? ⟨w.heap.size + 1 + 1 + 1, 0, none⟩ = some (.int .i64 (St.first 0))) (go_keep) (fail)
  go_wp2
  refine bodyPost_ret (results_cell_row Tryd.results44 _ _ w.heap.size 90 _ _ _ rfl (C4.out _ _ _ _ _) Tryd.underlying90 rfl (by kernel_rfl)) rfl ⟨rfl, ?_⟩
  exact (((((hb.setCell (Nat.le_refl _) _).setCell (Nat.le_refl _) _).setCell (Nat.le_refl _) _).setCell (Nat.le_refl _) _).alloc (by simp [World.setCell]; omega) _).drew

set_option maxRecDepth 100000 in
set_option maxHeartbeats 4000000 in
theorem refentry_1 (w : World) :
    Calls Tryd.prog 44 #[.int .i64 1] w fun e w' => e = .returned (.agg #[.string (bs (St.nm 1)), .int .i64 (St.low 1), .int .i64 (St.high 1), .int .i64 (St.first 1)]) ∧ Below w.heap.size w w' := by
  go_enter Tryd.func44, Tryd.ntmps44
  go_wp2
  refine gen_world (Q := fun W => Code.wp _ _ _ _ W) (fun W => W.cell? ⟨w.heap.size + 1, 1, none⟩ = some (.string (bs (St.nm 1))) ∧ (W.cell? ⟨w.heap.size + 1 + 1, 1, none⟩ = some (.int .i64 (St.high 1))) ∧ W.cell? ⟨w.heap.size + 1 + 1 + 1, 1, none⟩ = some (.int .i64 (St.first 1)) ∧ W.heap[w.heap.size]? = some (.cells #[.string ⟨#[]⟩, .int .i64 0, .int .i64 0, .int .i64 0] 90 (0, 0)) ∧ W.heap.size = w.heap.size + 1 + 1 + 1 + 1 ∧ Below w.heap.size w W) ⟨(Lib.cell_of_heap (alloc4 w _ _ _ _).2.1 1).trans rfl, (Lib.cell_of_heap (alloc4 w _ _ _ _).2.2.1 1).trans rfl, (Lib.cell_of_heap (alloc4 w _ _ _ _).2.2.2 1).trans rfl, (alloc4 w _ _ _ _).1, by simp, below4 w _ _ _ _⟩ ?_
  rintro W ⟨c1, c2, c3, c4, hsz, hb⟩
  have hsw := hb.size
  obtain ⟨d0, d1, d2, d3, f0, f1, f2, f3⟩ := four_cells c4
  have C4 := Lib.hid (fun v0 v1 v2 v3 o => four_set c4 v0 v1 v2 v3 o)
  clear c4
  go_region_held3 (fun w' => w'.cell? ⟨w.heap.size + 1, 1, none⟩ = some (.string (bs (St.nm 1))) ∧ w'.cell? ⟨w.heap.size + 1 + 1 + 1, 1, none⟩ = some (.int .i64 (St.first 1))) (go_keep) (fail)
  go_wp2
  refine bodyPost_ret (results_cell_row Tryd.results44 _ _ w.heap.size 90 _ _ _ rfl (C4.out _ _ _ _ _) Tryd.underlying90 rfl (by kernel_rfl)) rfl ⟨rfl, ?_⟩
  exact (((((hb.setCell (Nat.le_refl _) _).setCell (Nat.le_refl _) _).setCell (Nat.le_refl _) _).setCell (Nat.le_refl _) _).alloc (by simp [World.setCell]; omega) _).drew

set_option maxRecDepth 100000 in
set_option maxHeartbeats 4000000 in
theorem refentry_2 (w : World) :
    Calls Tryd.prog 44 #[.int .i64 2] w fun e w' => e = .returned (.agg #[.string (bs (St.nm 2)), .int .i64 (St.low 2), .int .i64 (St.high 2), .int .i64 (St.first 2)]) ∧ Below w.heap.size w w' := by
  go_enter Tryd.func44, Tryd.ntmps44
  go_wp2
  refine gen_world (Q := fun W => Code.wp _ _ _ _ W) (fun W => W.cell? ⟨w.heap.size + 1, 2, none⟩ = some (.string (bs (St.nm 2))) ∧ (W.cell? ⟨w.heap.size + 1 + 1, 2, none⟩ = some (.int .i64 (St.high 2))) ∧ W.cell? ⟨w.heap.size + 1 + 1 + 1, 2, none⟩ = some (.int .i64 (St.first 2)) ∧ W.heap[w.heap.size]? = some (.cells #[.string ⟨#[]⟩, .int .i64 0, .int .i64 0, .int .i64 0] 90 (0, 0)) ∧ W.heap.size = w.heap.size + 1 + 1 + 1 + 1 ∧ Below w.heap.size w W) ⟨(Lib.cell_of_heap (alloc4 w _ _ _ _).2.1 2).trans rfl, (Lib.cell_of_heap (alloc4 w _ _ _ _).2.2.1 2).trans rfl, (Lib.cell_of_heap (alloc4 w _ _ _ _).2.2.2 2).trans rfl, (alloc4 w _ _ _ _).1, by simp, below4 w _ _ _ _⟩ ?_
  rintro W ⟨c1, c2, c3, c4, hsz, hb⟩
  have hsw := hb.size
  obtain ⟨d0, d1, d2, d3, f0, f1, f2, f3⟩ := four_cells c4
  have C4 := Lib.hid (fun v0 v1 v2 v3 o => four_set c4 v0 v1 v2 v3 o)
  clear c4
  go_region_held3 (fun w' => w'.cell? ⟨w.heap.size + 1, 2, none⟩ = some (.string (bs (St.nm 2))) ∧ w'.cell? ⟨w.heap.size + 1 + 1 + 1, 2, none⟩ = some (.int .i64 (St.first 2))) (go_keep) (fail)
  go_wp2
  refine bodyPost_ret (results_cell_row Tryd.results44 _ _ w.heap.size 90 _ _ _ rfl (C4.out _ _ _ _ _) Tryd.underlying90 rfl (by kernel_rfl)) rfl ⟨rfl, ?_⟩
  exact (((((hb.setCell (Nat.le_refl _) _).setCell (Nat.le_refl _) _).setCell (Nat.le_refl _) _).setCell (Nat.le_refl _) _).alloc (by simp [World.setCell]; omega) _).drew

set_option maxRecDepth 100000 in
set_option maxHeartbeats 4000000 in
theorem refentry_3 (w : World) :
    Calls Tryd.prog 44 #[.int .i64 3] w fun e w' => e = .returned (.agg #[.string (bs (St.nm 3)), .int .i64 (St.low 3), .int .i64 (St.high 3), .int .i64 (St.first 3)]) ∧ Below w.heap.size w w' := by
  go_enter Tryd.func44, Tryd.ntmps44
  go_wp2
  refine gen_world (Q := fun W => Code.wp _ _ _ _ W) (fun W => W.cell? ⟨w.heap.size + 1, 3, none⟩ = some (.string (bs (St.nm 3))) ∧ (W.cell? ⟨w.heap.size + 1 + 1, 3, none⟩ = some (.int .i64 (St.high 3))) ∧ W.cell? ⟨w.heap.size + 1 + 1 + 1, 3, none⟩ = some (.int .i64 (St.first 3)) ∧ W.heap[w.heap.size]? = some (.cells #[.string ⟨#[]⟩, .int .i64 0, .int .i64 0, .int .i64 0] 90 (0, 0)) ∧ W.heap.size = w.heap.size + 1 + 1 + 1 + 1 ∧ Below w.heap.size w W) ⟨(Lib.cell_of_heap (alloc4 w _ _ _ _).2.1 3).trans rfl, (Lib.cell_of_heap (alloc4 w _ _ _ _).2.2.1 3).trans rfl, (Lib.cell_of_heap (alloc4 w _ _ _ _).2.2.2 3).trans rfl, (alloc4 w _ _ _ _).1, by simp, below4 w _ _ _ _⟩ ?_
  rintro W ⟨c1, c2, c3, c4, hsz, hb⟩
  have hsw := hb.size
  obtain ⟨d0, d1, d2, d3, f0, f1, f2, f3⟩ := four_cells c4
  have C4 := Lib.hid (fun v0 v1 v2 v3 o => four_set c4 v0 v1 v2 v3 o)
  clear c4
  go_region_held3 (fun w' => w'.cell? ⟨w.heap.size + 1, 3, none⟩ = some (.string (bs (St.nm 3))) ∧ w'.cell? ⟨w.heap.size + 1 + 1 + 1, 3, none⟩ = some (.int .i64 (St.first 3))) (go_keep) (fail)
  go_wp2
  refine bodyPost_ret (results_cell_row Tryd.results44 _ _ w.heap.size 90 _ _ _ rfl (C4.out _ _ _ _ _) Tryd.underlying90 rfl (by kernel_rfl)) rfl ⟨rfl, ?_⟩
  exact (((((hb.setCell (Nat.le_refl _) _).setCell (Nat.le_refl _) _).setCell (Nat.le_refl _) _).setCell (Nat.le_refl _) _).alloc (by simp [World.setCell]; omega) _).drew

set_option maxRecDepth 100000 in
set_option maxHeartbeats 4000000 in
theorem refentry_4 (w : World) :
    Calls Tryd.prog 44 #[.int .i64 4] w fun e w' => e = .returned (.agg #[.string (bs (St.nm 4)), .int .i64 (St.low 4), .int .i64 (St.high 4), .int .i64 (St.first 4)]) ∧ Below w.heap.size w w' := by
  go_enter Tryd.func44, Tryd.ntmps44
  go_wp2
  refine gen_world (Q := fun W => Code.wp _ _ _ _ W) (fun W => W.cell? ⟨w.heap.size + 1, 4, none⟩ = some (.string (bs (St.nm 4))) ∧ (W.cell? ⟨w.heap.size + 1 + 1, 4, none⟩ = some (.int .i64 (St.high 4))) ∧ W.cell? ⟨w.heap.size + 1 + 1 + 1, 4, none⟩ = some (.int .i64 (St.first 4)) ∧ W.heap[w.heap.size]? = some (.cells #[.string ⟨#[]⟩, .int .i64 0, .int .i64 0, .int .i64 0] 90 (0, 0)) ∧ W.heap.size = w.heap.size + 1 + 1 + 1 + 1 ∧ Below w.heap.size w W) ⟨(Lib.cell_of_heap (alloc4 w _ _ _ _).2.1 4).trans rfl, (Lib.cell_of_heap (alloc4 w _ _ _ _).2.2.1 4).trans rfl, (Lib.cell_of_heap (alloc4 w _ _ _ _).2.2.2 4).trans rfl, (alloc4 w _ _ _ _).1, by simp, below4 w _ _ _ _⟩ ?_
  rintro W ⟨c1, c2, c3, c4, hsz, hb⟩
  have hsw := hb.size
  obtain ⟨d0, d1, d2, d3, f0, f1, f2, f3⟩ := four_cells c4
  have C4 := Lib.hid (fun v0 v1 v2 v3 o => four_set c4 v0 v1 v2 v3 o)
  clear c4
  go_region_held3 (fun w' => w'.cell? ⟨w.heap.size + 1, 4, none⟩ = some (.string (bs (St.nm 4))) ∧ w'.cell? ⟨w.heap.size + 1 + 1 + 1, 4, none⟩ = some (.int .i64 (St.first 4))) (go_keep) (fail)
  go_wp2
  refine bodyPost_ret (results_cell_row Tryd.results44 _ _ w.heap.size 90 _ _ _ rfl (C4.out _ _ _ _ _) Tryd.underlying90 rfl (by kernel_rfl)) rfl ⟨rfl, ?_⟩
  exact (((((hb.setCell (Nat.le_refl _) _).setCell (Nat.le_refl _) _).setCell (Nat.le_refl _) _).setCell (Nat.le_refl _) _).alloc (by simp [World.setCell]; omega) _).drew

set_option maxRecDepth 100000 in
set_option maxHeartbeats 4000000 in
theorem refentry_5 (w : World) :
    Calls Tryd.prog 44 #[.int .i64 5] w fun e w' => e = .returned (.agg #[.string (bs (St.nm 5)), .int .i64 (St.low 5), .int .i64 (St.high 5), .int .i64 (St.first 5)]) ∧ Below w.heap.size w w' := by
  go_enter Tryd.func44, Tryd.ntmps44
  go_wp2
  refine gen_world (Q := fun W => Code.wp _ _ _ _ W) (fun W => W.cell? ⟨w.heap.size + 1, 5, none⟩ = some (.string (bs (St.nm 5))) ∧ (W.cell? ⟨w.heap.size + 1 + 1, 5, none⟩ = some (.int .i64 (St.high 5))) ∧ W.cell? ⟨w.heap.size + 1 + 1 + 1, 5, none⟩ = some (.int .i64 (St.first 5)) ∧ W.heap[w.heap.size]? = some (.cells #[.string ⟨#[]⟩, .int .i64 0, .int .i64 0, .int .i64 0] 90 (0, 0)) ∧ W.heap.size = w.heap.size + 1 + 1 + 1 + 1 ∧ Below w.heap.size w W) ⟨(Lib.cell_of_heap (alloc4 w _ _ _ _).2.1 5).trans rfl, (Lib.cell_of_heap (alloc4 w _ _ _ _).2.2.1 5).trans rfl, (Lib.cell_of_heap (alloc4 w _ _ _ _).2.2.2 5).trans rfl, (alloc4 w _ _ _ _).1, by simp, below4 w _ _ _ _⟩ ?_
  rintro W ⟨c1, c2, c3, c4, hsz, hb⟩
  have hsw := hb.size
  obtain ⟨d0, d1, d2, d3, f0, f1, f2, f3⟩ := four_cells c4
  have C4 := Lib.hid (fun v0 v1 v2 v3 o => four_set c4 v0 v1 v2 v3 o)
  clear c4
  go_region_held3 (fun w' => w'.cell? ⟨w.heap.size + 1, 5, none⟩ = some (.string (bs (St.nm 5))) ∧ w'.cell? ⟨w.heap.size + 1 + 1 + 1, 5, none⟩ = some (.int .i64 (St.first 5))) (go_keep) (fail)
  go_wp2
  refine bodyPost_ret (results_cell_row Tryd.results44 _ _ w.heap.size 90 _ _ _ rfl (C4.out _ _ _ _ _) Tryd.underlying90 rfl (by kernel_rfl)) rfl ⟨rfl, ?_⟩
  exact (((((hb.setCell (Nat.le_refl _) _).setCell (Nat.le_refl _) _).setCell (Nat.le_refl _) _).setCell (Nat.le_refl _) _).alloc (by simp [World.setCell]; omega) _).drew

set_option maxRecDepth 100000 in
set_option maxHeartbeats 4000000 in
theorem refentry_6 (w : World) :
    Calls Tryd.prog 44 #[.int .i64 6] w fun e w' => e = .returned (.agg #[.string (bs (St.nm 6)), .int .i64 (St.low 6), .int .i64 (St.high 6), .int .i64 (St.first 6)]) ∧ Below w.heap.size w w' := by
  go_enter Tryd.func44, Tryd.ntmps44
  go_wp2
  refine gen_world (Q := fun W => Code.wp _ _ _ _ W) (fun W => W.cell? ⟨w.heap.size + 1, 6, none⟩ = some (.string (bs (St.nm 6))) ∧ (W.cell? ⟨w.heap.size + 1 + 1, 6, none⟩ = some (.int .i64 (St.high 6))) ∧ W.cell? ⟨w.heap.size + 1 + 1 + 1, 6, none⟩ = some (.int .i64 (St.first 6)) ∧ W.heap[w.heap.size]? = some (.cells #[.string ⟨#[]⟩, .int .i64 0, .int .i64 0, .int .i64 0] 90 (0, 0)) ∧ W.heap.size = w.heap.size + 1 + 1 + 1 + 1 ∧ Below w.heap.size w W) ⟨(Lib.cell_of_heap (alloc4 w _ _ _ _).2.1 6).trans rfl, (Lib.cell_of_heap (alloc4 w _ _ _ _).2.2.1 6).trans rfl, (Lib.cell_of_heap (alloc4 w _ _ _ _).2.2.2 6).trans rfl, (alloc4 w _ _ _ _).1, by simp, below4 w _ _ _ _⟩ ?_
  rintro W ⟨c1, c2, c3, c4, hsz, hb⟩
  have hsw := hb.size
  obtain ⟨d0, d1, d2, d3, f0, f1, f2, f3⟩ := four_cells c4
  have C4 := Lib.hid (fun v0 v1 v2 v3 o => four_set c4 v0 v1 v2 v3 o)
  clear c4
  go_region_held3 (fun w' => w'.cell? ⟨w.heap.size + 1, 6, none⟩ = some (.string (bs (St.nm 6))) ∧ w'.cell? ⟨w.heap.size + 1 + 1 + 1, 6, none⟩ = some (.int .i64 (St.first 6))) (go_keep) (fail)
  go_wp2
  refine bodyPost_ret (results_cell_row Tryd.results44 _ _ w.heap.size 90 _ _ _ rfl (C4.out _ _ _ _ _) Tryd.underlying90 rfl (by kernel_rfl)) rfl ⟨rfl, ?_⟩
  exact (((((hb.setCell (Nat.le_refl _) _).setCell (Nat.le_refl _) _).setCell (Nat.le_refl _) _).setCell (Nat.le_refl _) _).alloc (by simp [World.setCell]; omega) _).drew

set_option maxRecDepth 100000 in
set_option maxHeartbeats 4000000 in
theorem refentry_7 (w : World) :
    Calls Tryd.prog 44 #[.int .i64 7] w fun e w' => e = .returned (.agg #[.string (bs (St.nm 7)), .int .i64 (St.low 7), .int .i64 (St.high 7), .int .i64 (St.first 7)]) ∧ Below w.heap.size w w' := by
  go_enter Tryd.func44, Tryd.ntmps44
  go_wp2
  refine gen_world (Q := fun W => Code.wp _ _ _ _ W) (fun W => W.cell? ⟨w.heap.size + 1, 7, none⟩ = some (.string (bs (St.nm 7))) ∧ (True) ∧ W.cell? ⟨w.heap.size + 1 + 1 + 1, 7, none⟩ = some (.int .i64 (St.first 7)) ∧ W.heap[w.heap.size]? = some (.cells #[.string ⟨#[]⟩, .int .i64 0, .int .i64 0, .int .i64 0] 90 (0, 0)) ∧ W.heap.size = w.heap.size + 1 + 1 + 1 + 1 ∧ Below w.heap.size w W) ⟨(Lib.cell_of_heap (alloc4 w _ _ _ _).2.1 7).trans rfl, trivial, (Lib.cell_of_heap (alloc4 w _ _ _ _).2.2.2 7).trans rfl, (alloc4 w _ _ _ _).1, by simp, below4 w _ _ _ _⟩ ?_
  rintro W ⟨c1, c2, c3, c4, hsz, hb⟩
  have hsw := hb.size
  obtain ⟨d0, d1, d2, d3, f0, f1, f2, f3⟩ := four_cells c4
  have C4 := Lib.hid (fun v0 v1 v2 v3 o => four_set c4 v0 v1 v2 v3 o)
  clear c4
  go_region_held3 (fun w' => w'.cell? ⟨w.heap.size + 1, 7, none⟩ = some (.string (bs (St.nm 7))) ∧ w'.cell? ⟨w.heap.size + 1 + 1 + 1, 7, none⟩ = some (.int .i64 (St.first 7))) (go_keep) (fail)
  go_wp2
  refine bodyPost_ret (results_cell_row Tryd.results44 _ _ w.heap.size 90 _ _ _ rfl (C4.out _ _ _ _ _) Tryd.underlying90 rfl (by kernel_rfl)) rfl ⟨rfl, ?_⟩
  exact (((((hb.setCell (Nat.le_refl _) _).setCell (Nat.le_refl _) _).setCell (Nat.le_refl _) _).setCell (Nat.le_refl _) _).alloc (by simp [World.setCell]; omega) _).drew

set_option maxRecDepth 100000 in
set_option maxHeartbeats 4000000 in
theorem refentry_8 (w : World) :
    Calls Tryd.prog 44 #[.int .i64 8] w fun e w' => e = .returned (.agg #[.string (bs (St.nm 8)), .int .i64 (St.low 8), .int .i64 (St.high 8), .int .i64 (St.first 8)]) ∧ Below w.heap.size w w' := by
  go_enter Tryd.func44, Tryd.ntmps44
  go_wp2
  refine gen_world (Q := fun W => Code.wp _ _ _ _ W) (fun W => W.cell? ⟨w.heap.size + 1, 8, none⟩ = some (.string (bs (St.nm 8))) ∧ (True) ∧ W.cell? ⟨w.heap.size + 1 + 1 + 1, 8, none⟩ = some (.int .i64 (St.first 8)) ∧ W.heap[w.heap.size]? = some (.cells #[.string ⟨#[]⟩, .int .i64 0, .int .i64 0, .int .i64 0] 90 (0, 0)) ∧ W.heap.size = w.heap.size + 1 + 1 + 1 + 1 ∧ Below w.heap.size w W) ⟨(Lib.cell_of_heap (alloc4 w _ _ _ _).2.1 8).trans rfl, trivial, (Lib.cell_of_heap (alloc4 w _ _ _ _).2.2.2 8).trans rfl, (alloc4 w _ _ _ _).1, by simp, below4 w _ _ _ _⟩ ?_
  rintro W ⟨c1, c2, c3, c4, hsz, hb⟩
  have hsw := hb.size
  obtain ⟨d0, d1, d2, d3, f0, f1, f2, f3⟩ := four_cells c4
  have C4 := Lib.hid (fun v0 v1 v2 v3 o => four_set c4 v0 v1 v2 v3 o)
  clear c4
  go_region_held3 (fun w' => w'.cell? ⟨w.heap.size + 1, 8, none⟩ = some (.string (bs (St.nm 8))) ∧ w'.cell? ⟨w.heap.size + 1 + 1 + 1, 8, none⟩ = some (.int .i64 (St.first 8))) (go_keep) (fail)
  go_wp2
  refine bodyPost_ret (results_cell_row Tryd.results44 _ _ w.heap.size 90 _ _ _ rfl (C4.out _ _ _ _ _) Tryd.underlying90 rfl (by kernel_rfl)) rfl ⟨rfl, ?_⟩
  exact (((((hb.setCell (Nat.le_refl _) _).setCell (Nat.le_refl _) _).setCell (Nat.le_refl _) _).setCell (Nat.le_refl _) _).alloc (by simp [World.setCell]; omega) _).drew


end Go.Proofs.YtliabgcpciekpaaDoor
