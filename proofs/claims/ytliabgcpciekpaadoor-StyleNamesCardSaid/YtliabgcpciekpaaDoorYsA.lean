/- Walks: the chapter's second example. -/
import Derived.Test.YtliabgcpciekpaaDoorYrM
import Derived.Test.YtliabgcpciekpaaDoorYrP
set_option linter.unusedVariables false
set_option linter.unusedSimpArgs false
namespace Go.Proofs.YtliabgcpciekpaaDoor
open Go Go.RowKit

def alT : St.T := [99, 111, 108, 117, 109, 110, 115, 32, 61, 32, 49, 48, 48, 10, 35, 32, 120, 10, 107, 101, 101, 112, 61, 49]
def alV : Nat → Int := St.sput (St.sput (fv 18) 0 100) 4 1
theorem al_run : (match St.run St.s0 (St.lns 0 alT) with
    | .error _ => none
    | .ok s => some (St.stv s.1)) = some (St.stv alV) := by rfl
theorem al_ps : psRes alT = .tuple #[.agg (St.stv alV).toArray, .int .i64 0, .int .i64 0] := by
  have h := al_run
  cases hr : St.run St.s0 (St.lns 0 alT) with
  | error p => rw [hr] at h; cases h
  | ok s =>
    rw [hr] at h
    simp only [Option.some.injEq] at h
    obtain ⟨q1, q2, q3⟩ := St.ps_good (t := alT) (by decide) hr
    unfold psRes
    rw [q1, q2, q3, h]

set_option maxRecDepth 100000 in
set_option maxHeartbeats 8000000 in
theorem styleAlive_any (w : World) :
    Calls Tryd.prog 21 #[] w fun e w' => e = .returned (.bool true) ∧ Below w.heap.size w w' := by
  have K1 : ∀ W : World, Calls Tryd.prog 17 #[.string ⟨#[99, 111, 108, 117, 109, 110, 115, 32, 61, 32, 49, 48, 48, 10, 35, 32, 120, 10, 107, 101, 101, 112, 61, 49]⟩] W fun e w' => e = .returned (.tuple #[.agg (St.stv alV).toArray, .int .i64 0, .int .i64 0]) ∧ Below W.heap.size W w' :=
    fun W => (Parse_any _ W).mono fun e w' h => ⟨h.1.trans (congrArg Ending.returned al_ps), h.2⟩
  have K1 := Lib.hid K1
  have K3 := Lib.hid (fun W => First_any W)
  have hE := fun w => eqStB alV w
  have hg := eq_guardSt
  have hlen := St.stv_len alV
  have hinfo : (Tryd.prog.info? 23).map (·.size) = some (St.stv alV).length := by rw [hlen]; kernel_rfl
  go_enter Tryd.func21, Tryd.ntmps21
  go_wp2_with (first
    | (go_at_call 17; (with_reducible refine (K1.out _).mono ?_); rintro e w1 ⟨rfl, b1⟩)
    | (go_at_call 19; (with_reducible refine (K3.out _).mono ?_); rintro e w3 ⟨rfl, b3⟩)
    | (refine wpList_store_mid rfl _ _ _ rfl _ _ (St.stv alV).toArray rfl rfl (st_there w1 alV) (sty_info alV) (sty_one alV) ?_; refine gen_world2 (Q := fun W => wpList _ _ _ _ _ W) (fun W => Sty W w1.heap.size alV ∧ Below w1.heap.size w1 W ∧ W.heap.size = w1.heap.size + 1) (st_first w1 alV) ?_; rintro w2 ⟨S2, c2, z2⟩; have z2 := Lib.hid z2; (try dsimp only); simp only [Act.put, List.setIfInBounds_toArray, List.set_cons_zero, List.set_cons_succ])
    | (refine wpList_store_mid rfl _ _ _ rfl _ _ (St.stv (fv 18)).toArray rfl rfl (st_there w3 (fv 18)) (sty_info (fv 18)) (sty_one (fv 18)) ?_; refine gen_world2 (Q := fun W => wpList _ _ _ _ _ W) (fun W => Sty W w3.heap.size (fv 18) ∧ Below w3.heap.size w3 W ∧ W.heap.size = w3.heap.size + 1) (st_first w3 (fv 18)) ?_; rintro w4 ⟨S4, c4, z4⟩;
        have h23 := b3.size; have h12 := S2.lt; have S24 := (S2.later b3).later c4; have e0 := S4.cell (i := 0) (by omega); rw [cellN_int rfl] at e0; have f0 := S4.frozen 0; have e4 := S4.cell (i := 4) (by omega); rw [cellN_bool rfl] at e4; have f4 := S4.frozen 4;
        have S46 : Sty ((w4.setCell ⟨w3.heap.size, 0, none⟩ (.int .i64 100)).setCell ⟨w3.heap.size, 4, none⟩ (.bool true)) w3.heap.size alV := (S4.set (i := 0) (by omega) 100).set (i := 4) (by omega) 1; have S26 : Sty ((w4.setCell ⟨w3.heap.size, 0, none⟩ (.int .i64 100)).setCell ⟨w3.heap.size, 4, none⟩ (.bool true)) w1.heap.size alV := (Below.heap_setCell _ _ _ _ (by simp; omega)).trans ((Below.heap_setCell _ _ _ _ (by simp; omega)).trans S24); have SR4 := S46.range; have SR2 := S26.range; have a7 : ((w4.setCell ⟨w3.heap.size, 0, none⟩ (.int .i64 100)).setCell ⟨w3.heap.size, 4, none⟩ (.bool true)).cell? ⟨w1.heap.size, 7, none⟩ = some (.int .i64 1000) := S26.cell (i := 7) (by omega); have a1 : ((w4.setCell ⟨w3.heap.size, 0, none⟩ (.int .i64 100)).setCell ⟨w3.heap.size, 4, none⟩ (.bool true)).cell? ⟨w1.heap.size, 1, none⟩ = some (.int .i64 4) := S26.cell (i := 1) (by omega); have S46 := Lib.hid S46; have S26 := Lib.hid S26;
        have z4 := Lib.hid z4; (try dsimp only); simp only [Act.put, List.setIfInBounds_toArray, List.set_cons_zero, List.set_cons_succ])
    | (refine wpList_load_guarded (by rfl) _ _ rfl _ _ rfl (St.stv alV) _ SR2 Tryd.underlying23 rfl hinfo ?_)
    | (refine wpList_load_guarded (by rfl) _ _ rfl _ _ rfl (St.stv alV) _ SR4 Tryd.underlying23 rfl hinfo ?_))
  trace_state
  go_ret
  have h2 := b1.trans (c2.mono b1.size)
  have h3 := h2.trans (b3.mono h2.size)
  have h4 := h3.trans (c4.mono h3.size)
  exact ⟨by simp, (h4.setCell (p := ⟨_, 0, none⟩) (by simp; have := h3.size; omega) _).setCell (p := ⟨_, 4, none⟩) (by simp; have := h3.size; omega) _⟩

end Go.Proofs.YtliabgcpciekpaaDoor
