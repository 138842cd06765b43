/- Walks: the style of numbers (the document's). -/
import Derived.Test.YtliabgcpciekpaaDoorYeF
import Derived.Test.YtliabgcpciekpaaDoorYrF
set_option linter.unusedVariables false
set_option linter.unusedSimpArgs false
namespace Go.Proofs.YtliabgcpciekpaaDoor
open Go Go.RowKit

set_option maxRecDepth 100000 in
set_option maxHeartbeats 8000000 in
theorem of_any (v : Nat → Int) (g c : Nat) (w : World) (hr : Rd w 1 (some ⟨g, 0, none⟩) 18 (vals v)) :
    Calls Tryd.prog 52 #[.slice (some ⟨g, 0, none⟩) 18 c] w fun e w' => e = .returned (.agg (St.stv v).toArray) ∧ Below w.heap.size w w' := by
  obtain ⟨g', o', e', hg, hcell⟩ := hr.2 (by omega)
  cases e'
  have hcl : ∀ i, i < 18 → w.cell? ⟨g, i, none⟩ = some (.int .i64 (v i)) := fun i hi => by
    have := hcell i _ (vals_at v hi)
    rwa [Nat.zero_add] at this
  have c0 := hcl 0 (by omega)
  have c1 := hcl 1 (by omega)
  have c2 := hcl 2 (by omega)
  have c3 := hcl 3 (by omega)
  have c4 := hcl 4 (by omega)
  have c5 := hcl 5 (by omega)
  have c6 := hcl 6 (by omega)
  have c7 := hcl 7 (by omega)
  have c8 := hcl 8 (by omega)
  have c9 := hcl 9 (by omega)
  have c10 := hcl 10 (by omega)
  have c11 := hcl 11 (by omega)
  have c12 := hcl 12 (by omega)
  have c13 := hcl 13 (by omega)
  have c14 := hcl 14 (by omega)
  have c15 := hcl 15 (by omega)
  have c16 := hcl 16 (by omega)
  have c17 := hcl 17 (by omega)
  have d0 : (w.alloc (.cells #[.int .i64 0, .int .i64 0, .int .i64 0, .int .i64 0, .bool false, .bool false, .bool false, .int .i64 0, .int .i64 0, .int .i64 0, .int .i64 0, .int .i64 0, .int .i64 0, .int .i64 0, .int .i64 0, .int .i64 0, .int .i64 0, .int .i64 0] 23)).cell? ⟨g, 0, none⟩ = some (.int .i64 (v 0)) := (World.cell?_alloc_past _ _ _ hg).trans c0
  have d1 : (w.alloc (.cells #[.int .i64 0, .int .i64 0, .int .i64 0, .int .i64 0, .bool false, .bool false, .bool false, .int .i64 0, .int .i64 0, .int .i64 0, .int .i64 0, .int .i64 0, .int .i64 0, .int .i64 0, .int .i64 0, .int .i64 0, .int .i64 0, .int .i64 0] 23)).cell? ⟨g, 1, none⟩ = some (.int .i64 (v 1)) := (World.cell?_alloc_past _ _ _ hg).trans c1
  have d2 : (w.alloc (.cells #[.int .i64 0, .int .i64 0, .int .i64 0, .int .i64 0, .bool false, .bool false, .bool false, .int .i64 0, .int .i64 0, .int .i64 0, .int .i64 0, .int .i64 0, .int .i64 0, .int .i64 0, .int .i64 0, .int .i64 0, .int .i64 0, .int .i64 0] 23)).cell? ⟨g, 2, none⟩ = some (.int .i64 (v 2)) := (World.cell?_alloc_past _ _ _ hg).trans c2
  have d3 : (w.alloc (.cells #[.int .i64 0, .int .i64 0, .int .i64 0, .int .i64 0, .bool false, .bool false, .bool false, .int .i64 0, .int .i64 0, .int .i64 0, .int .i64 0, .int .i64 0, .int .i64 0, .int .i64 0, .int .i64 0, .int .i64 0, .int .i64 0, .int .i64 0] 23)).cell? ⟨g, 3, none⟩ = some (.int .i64 (v 3)) := (World.cell?_alloc_past _ _ _ hg).trans c3
  have d4 : (w.alloc (.cells #[.int .i64 0, .int .i64 0, .int .i64 0, .int .i64 0, .bool false, .bool false, .bool false, .int .i64 0, .int .i64 0, .int .i64 0, .int .i64 0, .int .i64 0, .int .i64 0, .int .i64 0, .int .i64 0, .int .i64 0, .int .i64 0, .int .i64 0] 23)).cell? ⟨g, 4, none⟩ = some (.int .i64 (v 4)) := (World.cell?_alloc_past _ _ _ hg).trans c4
  have d5 : (w.alloc (.cells #[.int .i64 0, .int .i64 0, .int .i64 0, .int .i64 0, .bool false, .bool false, .bool false, .int .i64 0, .int .i64 0, .int .i64 0, .int .i64 0, .int .i64 0, .int .i64 0, .int .i64 0, .int .i64 0, .int .i64 0, .int .i64 0, .int .i64 0] 23)).cell? ⟨g, 5, none⟩ = some (.int .i64 (v 5)) := (World.cell?_alloc_past _ _ _ hg).trans c5
  have d6 : (w.alloc (.cells #[.int .i64 0, .int .i64 0, .int .i64 0, .int .i64 0, .bool false, .bool false, .bool false, .int .i64 0, .int .i64 0, .int .i64 0, .int .i64 0, .int .i64 0, .int .i64 0, .int .i64 0, .int .i64 0, .int .i64 0, .int .i64 0, .int .i64 0] 23)).cell? ⟨g, 6, none⟩ = some (.int .i64 (v 6)) := (World.cell?_alloc_past _ _ _ hg).trans c6
  have d7 : (w.alloc (.cells #[.int .i64 0, .int .i64 0, .int .i64 0, .int .i64 0, .bool false, .bool false, .bool false, .int .i64 0, .int .i64 0, .int .i64 0, .int .i64 0, .int .i64 0, .int .i64 0, .int .i64 0, .int .i64 0, .int .i64 0, .int .i64 0, .int .i64 0] 23)).cell? ⟨g, 7, none⟩ = some (.int .i64 (v 7)) := (World.cell?_alloc_past _ _ _ hg).trans c7
  have d8 : (w.alloc (.cells #[.int .i64 0, .int .i64 0, .int .i64 0, .int .i64 0, .bool false, .bool false, .bool false, .int .i64 0, .int .i64 0, .int .i64 0, .int .i64 0, .int .i64 0, .int .i64 0, .int .i64 0, .int .i64 0, .int .i64 0, .int .i64 0, .int .i64 0] 23)).cell? ⟨g, 8, none⟩ = some (.int .i64 (v 8)) := (World.cell?_alloc_past _ _ _ hg).trans c8
  have d9 : (w.alloc (.cells #[.int .i64 0, .int .i64 0, .int .i64 0, .int .i64 0, .bool false, .bool false, .bool false, .int .i64 0, .int .i64 0, .int .i64 0, .int .i64 0, .int .i64 0, .int .i64 0, .int .i64 0, .int .i64 0, .int .i64 0, .int .i64 0, .int .i64 0] 23)).cell? ⟨g, 9, none⟩ = some (.int .i64 (v 9)) := (World.cell?_alloc_past _ _ _ hg).trans c9
  have d10 : (w.alloc (.cells #[.int .i64 0, .int .i64 0, .int .i64 0, .int .i64 0, .bool false, .bool false, .bool false, .int .i64 0, .int .i64 0, .int .i64 0, .int .i64 0, .int .i64 0, .int .i64 0, .int .i64 0, .int .i64 0, .int .i64 0, .int .i64 0, .int .i64 0] 23)).cell? ⟨g, 10, none⟩ = some (.int .i64 (v 10)) := (World.cell?_alloc_past _ _ _ hg).trans c10
  have d11 : (w.alloc (.cells #[.int .i64 0, .int .i64 0, .int .i64 0, .int .i64 0, .bool false, .bool false, .bool false, .int .i64 0, .int .i64 0, .int .i64 0, .int .i64 0, .int .i64 0, .int .i64 0, .int .i64 0, .int .i64 0, .int .i64 0, .int .i64 0, .int .i64 0] 23)).cell? ⟨g, 11, none⟩ = some (.int .i64 (v 11)) := (World.cell?_alloc_past _ _ _ hg).trans c11
  have d12 : (w.alloc (.cells #[.int .i64 0, .int .i64 0, .int .i64 0, .int .i64 0, .bool false, .bool false, .bool false, .int .i64 0, .int .i64 0, .int .i64 0, .int .i64 0, .int .i64 0, .int .i64 0, .int .i64 0, .int .i64 0, .int .i64 0, .int .i64 0, .int .i64 0] 23)).cell? ⟨g, 12, none⟩ = some (.int .i64 (v 12)) := (World.cell?_alloc_past _ _ _ hg).trans c12
  have d13 : (w.alloc (.cells #[.int .i64 0, .int .i64 0, .int .i64 0, .int .i64 0, .bool false, .bool false, .bool false, .int .i64 0, .int .i64 0, .int .i64 0, .int .i64 0, .int .i64 0, .int .i64 0, .int .i64 0, .int .i64 0, .int .i64 0, .int .i64 0, .int .i64 0] 23)).cell? ⟨g, 13, none⟩ = some (.int .i64 (v 13)) := (World.cell?_alloc_past _ _ _ hg).trans c13
  have d14 : (w.alloc (.cells #[.int .i64 0, .int .i64 0, .int .i64 0, .int .i64 0, .bool false, .bool false, .bool false, .int .i64 0, .int .i64 0, .int .i64 0, .int .i64 0, .int .i64 0, .int .i64 0, .int .i64 0, .int .i64 0, .int .i64 0, .int .i64 0, .int .i64 0] 23)).cell? ⟨g, 14, none⟩ = some (.int .i64 (v 14)) := (World.cell?_alloc_past _ _ _ hg).trans c14
  have d15 : (w.alloc (.cells #[.int .i64 0, .int .i64 0, .int .i64 0, .int .i64 0, .bool false, .bool false, .bool false, .int .i64 0, .int .i64 0, .int .i64 0, .int .i64 0, .int .i64 0, .int .i64 0, .int .i64 0, .int .i64 0, .int .i64 0, .int .i64 0, .int .i64 0] 23)).cell? ⟨g, 15, none⟩ = some (.int .i64 (v 15)) := (World.cell?_alloc_past _ _ _ hg).trans c15
  have d16 : (w.alloc (.cells #[.int .i64 0, .int .i64 0, .int .i64 0, .int .i64 0, .bool false, .bool false, .bool false, .int .i64 0, .int .i64 0, .int .i64 0, .int .i64 0, .int .i64 0, .int .i64 0, .int .i64 0, .int .i64 0, .int .i64 0, .int .i64 0, .int .i64 0] 23)).cell? ⟨g, 16, none⟩ = some (.int .i64 (v 16)) := (World.cell?_alloc_past _ _ _ hg).trans c16
  have d17 : (w.alloc (.cells #[.int .i64 0, .int .i64 0, .int .i64 0, .int .i64 0, .bool false, .bool false, .bool false, .int .i64 0, .int .i64 0, .int .i64 0, .int .i64 0, .int .i64 0, .int .i64 0, .int .i64 0, .int .i64 0, .int .i64 0, .int .i64 0, .int .i64 0] 23)).cell? ⟨g, 17, none⟩ = some (.int .i64 (v 17)) := (World.cell?_alloc_past _ _ _ hg).trans c17
  have hinfo : (Tryd.prog.info? 23).map (·.size) = some (St.stv v).toArray.size := by rw [List.size_toArray, St.stv_len]; kernel_rfl
  have HI := Lib.hid hinfo
  clear hcl hcell hinfo
  go_enter Tryd.func52, Tryd.ntmps52
  go_wp2
  go_region_held3 (fun w' => w'.cell? ⟨g, 0, none⟩ = some (.int .i64 (v 0)) ∧ w'.cell? ⟨g, 1, none⟩ = some (.int .i64 (v 1)) ∧ w'.cell? ⟨g, 2, none⟩ = some (.int .i64 (v 2)) ∧ w'.cell? ⟨g, 3, none⟩ = some (.int .i64 (v 3)) ∧ w'.cell? ⟨g, 4, none⟩ = some (.int .i64 (v 4)) ∧ w'.cell? ⟨g, 5, none⟩ = some (.int .i64 (v 5)) ∧ w'.cell? ⟨g, 6, none⟩ = some (.int .i64 (v 6)) ∧ w'.cell? ⟨g, 7, none⟩ = some (.int .i64 (v 7)) ∧ w'.cell? ⟨g, 8, none⟩ = some (.int .i64 (v 8)) ∧ w'.cell? ⟨g, 9, none⟩ = some (.int .i64 (v 9)) ∧ w'.cell? ⟨g, 10, none⟩ = some (.int .i64 (v 10)) ∧ w'.cell? ⟨g, 11, none⟩ = some (.int .i64 (v 11)) ∧ w'.cell? ⟨g, 12, none⟩ = some (.int .i64 (v 12)) ∧ w'.cell? ⟨g, 13, none⟩ = some (.int .i64 (v 13)) ∧ w'.cell? ⟨g, 14, none⟩ = some (.int .i64 (v 14)) ∧ w'.cell? ⟨g, 15, none⟩ = some (.int .i64 (v 15)) ∧ w'.cell? ⟨g, 16, none⟩ = some (.int .i64 (v 16)) ∧ w'.cell? ⟨g, 17, none⟩ = some (.int .i64 (v 17))) (go_keep) (fail)
  all_goals go_wp2
  all_goals refine bodyPost_ret (results_cell_row Tryd.results52 _ _ w.heap.size 23 (St.stv v).toArray (0, 0) _ rfl (show ((w.alloc (.cells (St.stv v).toArray 23)).drew).heap[w.heap.size]? = _ from heap_alloc_new w _) Tryd.underlying23 rfl HI.out) rfl ⟨rfl, ((Below.refl w.heap.size w).alloc (Nat.le_refl _) _).drew⟩

end Go.Proofs.YtliabgcpciekpaaDoor
