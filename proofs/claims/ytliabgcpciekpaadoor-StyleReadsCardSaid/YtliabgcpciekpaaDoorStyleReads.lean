/- The law StyleReads, walked. -/
import Derived.Test.YtliabgcpciekpaaDoorYrM
import Derived.Test.YtliabgcpciekpaaDoorYrN
import Derived.Test.YtliabgcpciekpaaDoorYrP
set_option linter.unusedVariables false
set_option linter.unusedSimpArgs false
namespace Go.Proofs.YtliabgcpciekpaaDoor
open Go Go.RowKit

set_option maxRecDepth 100000 in
set_option maxHeartbeats 8000000 in
theorem StyleReads_any (s : ByteArray) (w : World) :
    Calls Tryd.prog 4 #[.string s] w fun e w' => e = .returned (.bool true) ∧ Below w.heap.size w w' := by
  have K1 := Lib.hid (fun W => Parse_any s W)
  have K2 := Lib.hid (fun W => refParse_any s W)
  have K3 := Lib.hid (fun W => First_any W)
  have K4 := Lib.hid (fun W => refFirst_any W)
  unfold psRes at K1 K2
  generalize St.psV s.data.toList = V at *
  generalize St.psP s.data.toList = p at *
  generalize St.psE s.data.toList = er at *
  generalize fv 18 = U at *
  have hE := fun w => eqStB V w
  have hE2 := fun w => eqStB U w
  have hg := eq_guardSt
  have hlen := St.stv_len V
  have hinfo : (Tryd.prog.info? 23).map (·.size) = some (St.stv V).length := by rw [hlen]; kernel_rfl
  go_enter Tryd.func4, Tryd.ntmps4
  go_wp2_with (first
    | (go_at_call 17; (with_reducible refine (K1.out _).mono ?_); rintro e w1 ⟨rfl, b1⟩)
    | (go_at_call 18; (with_reducible refine (K2.out _).mono ?_); rintro e w3 ⟨rfl, b3⟩)
    | (go_at_call 19; (with_reducible refine (K3.out _).mono ?_); rintro e w5 ⟨rfl, b5⟩)
    | (go_at_call 20; (with_reducible refine (K4.out _).mono ?_); rintro e w6 ⟨rfl, b6⟩)
    | (refine wpList_store_mid rfl _ _ _ rfl _ _ (St.stv V).toArray rfl rfl (st_there w1 V) (sty_info V) (sty_one V) ?_; refine gen_world2 (Q := fun W => wpList _ _ _ _ _ W) (fun W => Sty W w1.heap.size V ∧ Below w1.heap.size w1 W ∧ W.heap.size = w1.heap.size + 1) (st_first w1 V) ?_; rintro w2 ⟨S2, c2, z2⟩; have z2 := Lib.hid z2; (try dsimp only); simp only [Act.put, List.setIfInBounds_toArray, List.set_cons_zero, List.set_cons_succ])
    | (refine wpList_store_mid rfl _ _ _ rfl _ _ (St.stv V).toArray rfl rfl (st_there w3 V) (sty_info V) (sty_one V) ?_; refine gen_world2 (Q := fun W => wpList _ _ _ _ _ W) (fun W => Sty W w3.heap.size V ∧ Below w3.heap.size w3 W ∧ W.heap.size = w3.heap.size + 1) (st_first w3 V) ?_; rintro w4 ⟨S4, c4, z4⟩; have z4 := Lib.hid z4; have SR4 := S4.range; have SR2 := ((S2.later b3).later c4).range; (try dsimp only); simp only [Act.put, List.setIfInBounds_toArray, List.set_cons_zero, List.set_cons_succ])
    | (refine wpList_load_mid rfl _ _ rfl _ _ rfl (St.stv V) _ SR2 Tryd.underlying23 rfl hinfo ?_)
    | (refine wpList_load_mid rfl _ _ rfl _ _ rfl (St.stv V) _ SR4 Tryd.underlying23 rfl hinfo ?_))
  trace_state
  go_ret
  have h2 := b1.trans (c2.mono b1.size)
  have h3 := h2.trans (b3.mono h2.size)
  have h4 := h3.trans (c4.mono h3.size)
  have h5 := h4.trans (b5.mono h4.size)
  exact ⟨by simp, h5.trans (b6.mono h5.size)⟩

end Go.Proofs.YtliabgcpciekpaaDoor
