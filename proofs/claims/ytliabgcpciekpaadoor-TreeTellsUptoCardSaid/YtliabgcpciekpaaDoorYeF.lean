/- Walks: a style's numbers (the document's). -/
import Derived.Test.YtliabgcpciekpaaDoorYeB
import Derived.Test.YtliabgcpciekpaaDoorYeC
set_option linter.unusedVariables false
set_option linter.unusedSimpArgs false
namespace Go.Proofs.YtliabgcpciekpaaDoor
open Go Go.RowKit

/-- A style's numbers, as cells. -/
def vals (v : Nat → Int) : List Value := (List.range 18).map fun i => .int .i64 (v i)
theorem vals_len (v : Nat → Int) : (vals v).length = 18 := by simp [vals]
theorem vals_at (v : Nat → Int) {i : Nat} (h : i < 18) : (vals v)[i]? = some (.int .i64 (v i)) := by simp [vals, h]
theorem one_flag {v : Nat → Int} (h : St.Fl v) {i : Nat} (hi : i < 18) (hf : St.isFl i = true) (w : World) : Calls Tryd.prog 67 #[.bool (v i == 1)] w fun e w' => e = .returned (.int .i64 (v i)) ∧ w' = w := by
  have := one_any (v i == 1) w
  rcases h i hi hf with e | e <;> rw [e] at this ⊢ <;> exact this
theorem rd_block {w : World} {g : Nat} {cs : Array Value} {T : TypeId} {n : Nat} {xs : List Value} (h : w.heap[g]? = some (.cells cs T (0, 0))) (hc : cs.toList = xs) (hx : xs.length = n * 1) : Rd w 1 (some ⟨g, 0, none⟩) n xs := by
  refine ⟨hx, fun _ => ⟨g, 0, rfl, (Array.getElem?_eq_some_iff.1 h).1, fun j u hj => ?_⟩⟩
  rw [Nat.zero_add, Lib.cell_of_heap h j, ← hj, ← hc, Array.getElem?_toList]

theorem second_block (w : World) (o1 o2 : Obj) : ((w.alloc o1).alloc o2).drew.heap[w.heap.size + 1]? = some o2 := by
  have := heap_alloc_new (w.alloc o1) o2
  rw [World.size_alloc] at this
  exact this

set_option maxRecDepth 100000 in
set_option maxHeartbeats 8000000 in
theorem numbers_blk (v : Nat → Int) (hfl : St.Fl v) (w : World) :
    Calls Tryd.prog 43 #[.agg (St.stv v).toArray] w fun e w' => e = .returned (.slice (some ⟨w.heap.size + 1, 0, none⟩) 18 18) ∧ w'.heap[w.heap.size + 1]? = some (.cells (vals v).toArray 3 (0, 0)) ∧ Below w.heap.size w w' := by
  have hS := Sty.new w v
  have c0 : (w.alloc (.cells (St.stv v).toArray 23)).cell? ⟨w.heap.size, 0, none⟩ = some (.int .i64 (v 0)) := hS.cell (by omega)
  have c1 : (w.alloc (.cells (St.stv v).toArray 23)).cell? ⟨w.heap.size, 1, none⟩ = some (.int .i64 (v 1)) := hS.cell (by omega)
  have c2 : (w.alloc (.cells (St.stv v).toArray 23)).cell? ⟨w.heap.size, 2, none⟩ = some (.int .i64 (v 2)) := hS.cell (by omega)
  have c3 : (w.alloc (.cells (St.stv v).toArray 23)).cell? ⟨w.heap.size, 3, none⟩ = some (.int .i64 (v 3)) := hS.cell (by omega)
  have c4 : (w.alloc (.cells (St.stv v).toArray 23)).cell? ⟨w.heap.size, 4, none⟩ = some (.bool (v 4 == 1)) := hS.cell (by omega)
  have c5 : (w.alloc (.cells (St.stv v).toArray 23)).cell? ⟨w.heap.size, 5, none⟩ = some (.bool (v 5 == 1)) := hS.cell (by omega)
  have c6 : (w.alloc (.cells (St.stv v).toArray 23)).cell? ⟨w.heap.size, 6, none⟩ = some (.bool (v 6 == 1)) := hS.cell (by omega)
  have c7 : (w.alloc (.cells (St.stv v).toArray 23)).cell? ⟨w.heap.size, 7, none⟩ = some (.int .i64 (v 7)) := hS.cell (by omega)
  have c8 : (w.alloc (.cells (St.stv v).toArray 23)).cell? ⟨w.heap.size, 8, none⟩ = some (.int .i64 (v 8)) := hS.cell (by omega)
  have c9 : (w.alloc (.cells (St.stv v).toArray 23)).cell? ⟨w.heap.size, 9, none⟩ = some (.int .i64 (v 9)) := hS.cell (by omega)
  have c10 : (w.alloc (.cells (St.stv v).toArray 23)).cell? ⟨w.heap.size, 10, none⟩ = some (.int .i64 (v 10)) := hS.cell (by omega)
  have c11 : (w.alloc (.cells (St.stv v).toArray 23)).cell? ⟨w.heap.size, 11, none⟩ = some (.int .i64 (v 11)) := hS.cell (by omega)
  have c12 : (w.alloc (.cells (St.stv v).toArray 23)).cell? ⟨w.heap.size, 12, none⟩ = some (.int .i64 (v 12)) := hS.cell (by omega)
  have c13 : (w.alloc (.cells (St.stv v).toArray 23)).cell? ⟨w.heap.size, 13, none⟩ = some (.int .i64 (v 13)) := hS.cell (by omega)
  have c14 : (w.alloc (.cells (St.stv v).toArray 23)).cell? ⟨w.heap.size, 14, none⟩ = some (.int .i64 (v 14)) := hS.cell (by omega)
  have c15 : (w.alloc (.cells (St.stv v).toArray 23)).cell? ⟨w.heap.size, 15, none⟩ = some (.int .i64 (v 15)) := hS.cell (by omega)
  have c16 : (w.alloc (.cells (St.stv v).toArray 23)).cell? ⟨w.heap.size, 16, none⟩ = some (.int .i64 (v 16)) := hS.cell (by omega)
  have c17 : (w.alloc (.cells (St.stv v).toArray 23)).cell? ⟨w.heap.size, 17, none⟩ = some (.int .i64 (v 17)) := hS.cell (by omega)
  have O4 := Lib.hid (fun W => one_flag hfl (i := 4) (by omega) rfl W)
  have O5 := Lib.hid (fun W => one_flag hfl (i := 5) (by omega) rfl W)
  have O6 := Lib.hid (fun W => one_flag hfl (i := 6) (by omega) rfl W)
  have HV := Lib.hid (show [.int .i64 (v 0), .int .i64 (v 1), .int .i64 (v 2), .int .i64 (v 3), .int .i64 (v 4), .int .i64 (v 5), .int .i64 (v 6), .int .i64 (v 7), .int .i64 (v 8), .int .i64 (v 9), .int .i64 (v 10), .int .i64 (v 11), .int .i64 (v 12), .int .i64 (v 13), .int .i64 (v 14), .int .i64 (v 15), .int .i64 (v 16), .int .i64 (v 17)] = vals v from rfl)
  have hb1 := (Below.refl w.heap.size w).alloc (Nat.le_refl _) (.cells (St.stv v).toArray 23)
  clear hS hfl
  go_enter Tryd.func43, Tryd.ntmps43
  go_wp2
  go_region_held3 (fun w' => w'.cell? ⟨w.heap.size, 0, none⟩ = some (.int .i64 (v 0)) ∧ w'.cell? ⟨w.heap.size, 1, none⟩ = some (.int .i64 (v 1)) ∧ w'.cell? ⟨w.heap.size, 2, none⟩ = some (.int .i64 (v 2)) ∧ w'.cell? ⟨w.heap.size, 3, none⟩ = some (.int .i64 (v 3)) ∧ w'.cell? ⟨w.heap.size, 4, none⟩ = some (.bool (v 4 == 1)) ∧ w'.cell? ⟨w.heap.size, 5, none⟩ = some (.bool (v 5 == 1)) ∧ w'.cell? ⟨w.heap.size, 6, none⟩ = some (.bool (v 6 == 1)) ∧ w'.cell? ⟨w.heap.size, 7, none⟩ = some (.int .i64 (v 7)) ∧ w'.cell? ⟨w.heap.size, 8, none⟩ = some (.int .i64 (v 8)) ∧ w'.cell? ⟨w.heap.size, 9, none⟩ = some (.int .i64 (v 9)) ∧ w'.cell? ⟨w.heap.size, 10, none⟩ = some (.int .i64 (v 10)) ∧ w'.cell? ⟨w.heap.size, 11, none⟩ = some (.int .i64 (v 11)) ∧ w'.cell? ⟨w.heap.size, 12, none⟩ = some (.int .i64 (v 12)) ∧ w'.cell? ⟨w.heap.size, 13, none⟩ = some (.int .i64 (v 13)) ∧ w'.cell? ⟨w.heap.size, 14, none⟩ = some (.int .i64 (v 14)) ∧ w'.cell? ⟨w.heap.size, 15, none⟩ = some (.int .i64 (v 15)) ∧ w'.cell? ⟨w.heap.size, 16, none⟩ = some (.int .i64 (v 16)) ∧ w'.cell? ⟨w.heap.size, 17, none⟩ = some (.int .i64 (v 17))) (go_keep) (first | (go_at_call 67; refine (O4.out _).mono ?_; rintro e w' ⟨rfl, rfl⟩) | (go_at_call 67; refine (O5.out _).mono ?_; rintro e w' ⟨rfl, rfl⟩) | (go_at_call 67; refine (O6.out _).mono ?_; rintro e w' ⟨rfl, rfl⟩))
  all_goals go_wp2
  all_goals go_ret
  all_goals exact ⟨rfl, second_block _ _ _, (hb1.alloc (by simp) _).drew⟩

theorem numbers_any (v : Nat → Int) (hfl : St.Fl v) (w : World) :
    Calls Tryd.prog 43 #[.agg (St.stv v).toArray] w fun e w' => ∃ g, e = .returned (.slice (some ⟨g, 0, none⟩) 18 18) ∧ Rd w' 1 (some ⟨g, 0, none⟩) 18 (vals v) ∧ Below w.heap.size w w' :=
  (numbers_blk v hfl w).mono fun e w' ⟨h1, h2, h3⟩ => ⟨_, h1, rd_block h2 (by simp) (by rw [vals_len]), h3⟩

end Go.Proofs.YtliabgcpciekpaaDoor
