/- The law StyleBack, walked. -/
import Derived.Test.YtliabgcpciekpaaDoorYsA
import Derived.Test.YtliabgcpciekpaaDoorYrO
import Derived.Test.YtliabgcpciekpaaDoorStylePrints
set_option linter.unusedVariables false
set_option linter.unusedSimpArgs false
namespace Go.Proofs.YtliabgcpciekpaaDoor
open Go Go.RowKit

namespace St
theorem psE_of (t : T) : psE t = 0 ∨ psE t = 3 ∨ psE t = 90 := by
  by_cases hl : 65536 < t.length
  · exact .inr (.inl (ps_long hl).2.2)
  · cases hr : run s0 (lns 0 t) with
    | error p => exact .inr (.inr (ps_bad hl hr).2.2)
    | ok s => exact .inl (ps_good hl hr).2.2
end St

set_option maxRecDepth 100000 in
set_option maxHeartbeats 8000000 in
theorem back_core (v X1 V Z : Nat → Int) (s P1 P2 : ByteArray) (e1 p1 f1 p er h2 p2 i2 : Int) (w : World) (hp : Pow w)
    (KP1 : ∀ W, Pow W → Calls Tryd.prog 13 #[.agg (St.stv v).toArray] W fun e w' => e = .returned (.tuple #[.string P1, .int .i64 e1]) ∧ Below W.heap.size W w')
    (KA1 : ∀ W, Calls Tryd.prog 17 #[.string P1] W fun e w' => e = .returned (.tuple #[.agg (St.stv X1).toArray, .int .i64 p1, .int .i64 f1]) ∧ Below W.heap.size W w')
    (KA2 : ∀ W, Calls Tryd.prog 17 #[.string s] W fun e w' => e = .returned (.tuple #[.agg (St.stv V).toArray, .int .i64 p, .int .i64 er]) ∧ Below W.heap.size W w')
    (KP2 : ∀ W, Pow W → Calls Tryd.prog 13 #[.agg (St.stv V).toArray] W fun e w' => e = .returned (.tuple #[.string P2, .int .i64 h2]) ∧ Below W.heap.size W w')
    (KA3 : ∀ W, Calls Tryd.prog 17 #[.string P2] W fun e w' => e = .returned (.tuple #[.agg (St.stv Z).toArray, .int .i64 p2, .int .i64 i2]) ∧ Below W.heap.size W w')
    (c1 : (e1 = 0 ∧ f1 = 0 ∧ v = X1) ∨ (e1 = 90 ∧ P1 = ⟨#[]⟩)) (c2 : (er = 0 ∧ h2 = 0 ∧ i2 = 0 ∧ V = Z) ∨ er = 3 ∨ er = 90) :
    Calls Tryd.prog 10 #[.agg (St.stv v).toArray, .string s] w fun e w' => e = .returned (.bool true) ∧ Below w.heap.size w w' := by
  have AL := Lib.hid (fun W => styleAlive_any W)
  have S0 : Sty (w.alloc (.cells (St.stv v).toArray 23)) w.heap.size v := Sty.new w v
  have hb0 := (Below.refl w.heap.size w).alloc (Nat.le_refl _) (.cells (St.stv v).toArray 23)
  have HP0 := Lib.hid (hp.later hb0)
  have HB0 := Lib.hid hb0
  have hE1 := fun w => neSt v w
  have hE2 := fun w => eqStB V w
  have hg := eq_guardSt
  have hi1 : (Tryd.prog.info? 23).map (·.size) = some (St.stv v).length := by rw [St.stv_len]; kernel_rfl
  have hi2 : (Tryd.prog.info? 23).map (·.size) = some (St.stv V).length := by rw [St.stv_len]; kernel_rfl
  have KP1 := Lib.hid KP1
  have KA1 := Lib.hid KA1
  have KA2 := Lib.hid KA2
  have KP2 := Lib.hid KP2
  have KA3 := Lib.hid KA3
  rcases c1 with ⟨rfl, rfl, rfl⟩ | ⟨rfl, rfl⟩
  · rcases c2 with ⟨rfl, rfl, rfl, rfl⟩ | rfl | rfl
    · go_enter Tryd.func10, Tryd.ntmps10
      go_wp2_with (first
        | (go_at_call 21; (with_reducible refine (AL.out _).mono ?_); rintro e w1 ⟨rfl, b1⟩; have S1 := S0.later b1; have SR1 := S1.range; have HP1 := HP0.out.later b1; have HB1 := Lib.hid (HB0.out.trans (b1.mono (by simp))))
        | (go_at_call 13; (with_reducible refine (KP1.out _ HP1).mono ?_); rintro e w2 ⟨rfl, b2⟩; have HP2 := HP1.later b2; have HB2 := Lib.hid (HB1.out.trans (b2.mono HB1.out.size)))
        | (go_at_call 17; (with_reducible refine (KA1.out _).mono ?_); rintro e w3 ⟨rfl, b3⟩; have HP3 := HP2.later b3; have HB3 := Lib.hid (HB2.out.trans (b3.mono HB2.out.size)))
        | (refine wpList_store_mid rfl _ _ _ rfl _ _ (St.stv v).toArray rfl rfl (st_there w3 v) (sty_info v) (sty_one v) ?_; refine gen_world2 (Q := fun W => wpList _ _ _ _ _ W) (fun W => Sty W w3.heap.size v ∧ Below w3.heap.size w3 W ∧ W.heap.size = w3.heap.size + 1) (st_first w3 v) ?_; rintro w4 ⟨S4, c4, z⟩; have z := Lib.hid z; have HP4 := HP3.later c4; have HB4 := Lib.hid (HB3.out.trans (c4.mono HB3.out.size)); have SR4 := S4.range; have SRb := (((S1.later b2).later b3).later c4).range; (try dsimp only); simp only [Act.put, List.setIfInBounds_toArray, List.set_cons_zero, List.set_cons_succ])
        | (go_at_call 17; (with_reducible refine (KA2.out _).mono ?_); rintro e w5 ⟨rfl, b5⟩; have HP5 := HP4.later b5; have HB5 := Lib.hid (HB4.out.trans (b5.mono HB4.out.size)))
        | (refine wpList_store_mid rfl _ _ _ rfl _ _ (St.stv V).toArray rfl rfl (st_there w5 V) (sty_info V) (sty_one V) ?_; refine gen_world2 (Q := fun W => wpList _ _ _ _ _ W) (fun W => Sty W w5.heap.size V ∧ Below w5.heap.size w5 W ∧ W.heap.size = w5.heap.size + 1) (st_first w5 V) ?_; rintro w6 ⟨S6, c6, z⟩; have z := Lib.hid z; have HP6 := HP5.later c6; have HB6 := Lib.hid (HB5.out.trans (c6.mono HB5.out.size)); have SR6 := S6.range; (try dsimp only); simp only [Act.put, List.setIfInBounds_toArray, List.set_cons_zero, List.set_cons_succ])
        | (go_at_call 13; (with_reducible refine (KP2.out _ HP6).mono ?_); rintro e w7 ⟨rfl, b7⟩; have HB7 := Lib.hid (HB6.out.trans (b7.mono HB6.out.size)))
        | (go_at_call 17; (with_reducible refine (KA3.out _).mono ?_); rintro e w8 ⟨rfl, b8⟩; have HB8 := Lib.hid (HB7.out.trans (b8.mono HB7.out.size)))
        | (refine wpList_store_mid rfl _ _ _ rfl _ _ (St.stv V).toArray rfl rfl (st_there w8 V) (sty_info V) (sty_one V) ?_; refine gen_world2 (Q := fun W => wpList _ _ _ _ _ W) (fun W => Sty W w8.heap.size V ∧ Below w8.heap.size w8 W ∧ W.heap.size = w8.heap.size + 1) (st_first w8 V) ?_; rintro w9 ⟨S9, c9, z⟩; have z := Lib.hid z; have HB9 := Lib.hid (HB8.out.trans (c9.mono HB8.out.size)); have SR9 := S9.range; have SRy := (((S6.later b7).later b8).later c9).range; (try dsimp only); simp only [Act.put, List.setIfInBounds_toArray, List.set_cons_zero, List.set_cons_succ])
        | (refine wpList_load_mid rfl _ _ rfl _ _ rfl (St.stv v) _ SR1 Tryd.underlying23 rfl hi1 ?_)
        | (refine wpList_load_mid rfl _ _ rfl _ _ rfl (St.stv V) _ SR6 Tryd.underlying23 rfl hi2 ?_)
        | (refine wpList_load_guarded (by rfl) _ _ rfl _ _ rfl (St.stv v) _ SR4 Tryd.underlying23 rfl hi1 ?_)
        | (refine wpList_load_guarded (by rfl) _ _ rfl _ _ rfl (St.stv v) _ SRb Tryd.underlying23 rfl hi1 ?_)
        | (refine wpList_load_guarded (by rfl) _ _ rfl _ _ rfl (St.stv V) _ SR9 Tryd.underlying23 rfl hi2 ?_)
        | (refine wpList_load_guarded (by rfl) _ _ rfl _ _ rfl (St.stv V) _ SRy Tryd.underlying23 rfl hi2 ?_))
      go_ret
      exact ⟨by simp, HB9.out⟩
    · go_enter Tryd.func10, Tryd.ntmps10
      go_wp2_with (first
        | (go_at_call 21; (with_reducible refine (AL.out _).mono ?_); rintro e w1 ⟨rfl, b1⟩; have S1 := S0.later b1; have SR1 := S1.range; have HP1 := HP0.out.later b1; have HB1 := Lib.hid (HB0.out.trans (b1.mono (by simp))))
        | (go_at_call 13; (with_reducible refine (KP1.out _ HP1).mono ?_); rintro e w2 ⟨rfl, b2⟩; have HP2 := HP1.later b2; have HB2 := Lib.hid (HB1.out.trans (b2.mono HB1.out.size)))
        | (go_at_call 17; (with_reducible refine (KA1.out _).mono ?_); rintro e w3 ⟨rfl, b3⟩; have HP3 := HP2.later b3; have HB3 := Lib.hid (HB2.out.trans (b3.mono HB2.out.size)))
        | (refine wpList_store_mid rfl _ _ _ rfl _ _ (St.stv v).toArray rfl rfl (st_there w3 v) (sty_info v) (sty_one v) ?_; refine gen_world2 (Q := fun W => wpList _ _ _ _ _ W) (fun W => Sty W w3.heap.size v ∧ Below w3.heap.size w3 W ∧ W.heap.size = w3.heap.size + 1) (st_first w3 v) ?_; rintro w4 ⟨S4, c4, z⟩; have z := Lib.hid z; have HP4 := HP3.later c4; have HB4 := Lib.hid (HB3.out.trans (c4.mono HB3.out.size)); have SR4 := S4.range; have SRb := (((S1.later b2).later b3).later c4).range; (try dsimp only); simp only [Act.put, List.setIfInBounds_toArray, List.set_cons_zero, List.set_cons_succ])
        | (go_at_call 17; (with_reducible refine (KA2.out _).mono ?_); rintro e w5 ⟨rfl, b5⟩; have HP5 := HP4.later b5; have HB5 := Lib.hid (HB4.out.trans (b5.mono HB4.out.size)))
        | (refine wpList_store_mid rfl _ _ _ rfl _ _ (St.stv V).toArray rfl rfl (st_there w5 V) (sty_info V) (sty_one V) ?_; refine gen_world2 (Q := fun W => wpList _ _ _ _ _ W) (fun W => Sty W w5.heap.size V ∧ Below w5.heap.size w5 W ∧ W.heap.size = w5.heap.size + 1) (st_first w5 V) ?_; rintro w6 ⟨S6, c6, z⟩; have z := Lib.hid z; have HP6 := HP5.later c6; have HB6 := Lib.hid (HB5.out.trans (c6.mono HB5.out.size)); have SR6 := S6.range; (try dsimp only); simp only [Act.put, List.setIfInBounds_toArray, List.set_cons_zero, List.set_cons_succ])
        | (go_at_call 13; (with_reducible refine (KP2.out _ HP6).mono ?_); rintro e w7 ⟨rfl, b7⟩; have HB7 := Lib.hid (HB6.out.trans (b7.mono HB6.out.size)))
        | (go_at_call 17; (with_reducible refine (KA3.out _).mono ?_); rintro e w8 ⟨rfl, b8⟩; have HB8 := Lib.hid (HB7.out.trans (b8.mono HB7.out.size)))
        | (refine wpList_store_mid rfl _ _ _ rfl _ _ (St.stv Z).toArray rfl rfl (st_there w8 Z) (sty_info Z) (sty_one Z) ?_; refine gen_world2 (Q := fun W => wpList _ _ _ _ _ W) (fun W => Sty W w8.heap.size Z ∧ Below w8.heap.size w8 W ∧ W.heap.size = w8.heap.size + 1) (st_first w8 Z) ?_; rintro w9 ⟨S9, c9, z⟩; have z := Lib.hid z; have HB9 := Lib.hid (HB8.out.trans (c9.mono HB8.out.size)); have SR9 := S9.range; have SRy := (((S6.later b7).later b8).later c9).range; (try dsimp only); simp only [Act.put, List.setIfInBounds_toArray, List.set_cons_zero, List.set_cons_succ])
        | (refine wpList_load_mid rfl _ _ rfl _ _ rfl (St.stv v) _ SR1 Tryd.underlying23 rfl hi1 ?_)
        | (refine wpList_load_mid rfl _ _ rfl _ _ rfl (St.stv V) _ SR6 Tryd.underlying23 rfl hi2 ?_)
        | (refine wpList_load_guarded (by rfl) _ _ rfl _ _ rfl (St.stv v) _ SR4 Tryd.underlying23 rfl hi1 ?_)
        | (refine wpList_load_guarded (by rfl) _ _ rfl _ _ rfl (St.stv v) _ SRb Tryd.underlying23 rfl hi1 ?_)
        | (refine wpList_load_guarded (by rfl) _ _ rfl _ _ rfl (St.stv V) _ SR9 Tryd.underlying23 rfl hi2 ?_)
        | (refine wpList_load_guarded (by rfl) _ _ rfl _ _ rfl (St.stv V) _ SRy Tryd.underlying23 rfl hi2 ?_))
      go_ret
      exact ⟨by simp, HB9.out⟩
    · go_enter Tryd.func10, Tryd.ntmps10
      go_wp2_with (first
        | (go_at_call 21; (with_reducible refine (AL.out _).mono ?_); rintro e w1 ⟨rfl, b1⟩; have S1 := S0.later b1; have SR1 := S1.range; have HP1 := HP0.out.later b1; have HB1 := Lib.hid (HB0.out.trans (b1.mono (by simp))))
        | (go_at_call 13; (with_reducible refine (KP1.out _ HP1).mono ?_); rintro e w2 ⟨rfl, b2⟩; have HP2 := HP1.later b2; have HB2 := Lib.hid (HB1.out.trans (b2.mono HB1.out.size)))
        | (go_at_call 17; (with_reducible refine (KA1.out _).mono ?_); rintro e w3 ⟨rfl, b3⟩; have HP3 := HP2.later b3; have HB3 := Lib.hid (HB2.out.trans (b3.mono HB2.out.size)))
        | (refine wpList_store_mid rfl _ _ _ rfl _ _ (St.stv v).toArray rfl rfl (st_there w3 v) (sty_info v) (sty_one v) ?_; refine gen_world2 (Q := fun W => wpList _ _ _ _ _ W) (fun W => Sty W w3.heap.size v ∧ Below w3.heap.size w3 W ∧ W.heap.size = w3.heap.size + 1) (st_first w3 v) ?_; rintro w4 ⟨S4, c4, z⟩; have z := Lib.hid z; have HP4 := HP3.later c4; have HB4 := Lib.hid (HB3.out.trans (c4.mono HB3.out.size)); have SR4 := S4.range; have SRb := (((S1.later b2).later b3).later c4).range; (try dsimp only); simp only [Act.put, List.setIfInBounds_toArray, List.set_cons_zero, List.set_cons_succ])
        | (go_at_call 17; (with_reducible refine (KA2.out _).mono ?_); rintro e w5 ⟨rfl, b5⟩; have HP5 := HP4.later b5; have HB5 := Lib.hid (HB4.out.trans (b5.mono HB4.out.size)))
        | (refine wpList_store_mid rfl _ _ _ rfl _ _ (St.stv V).toArray rfl rfl (st_there w5 V) (sty_info V) (sty_one V) ?_; refine gen_world2 (Q := fun W => wpList _ _ _ _ _ W) (fun W => Sty W w5.heap.size V ∧ Below w5.heap.size w5 W ∧ W.heap.size = w5.heap.size + 1) (st_first w5 V) ?_; rintro w6 ⟨S6, c6, z⟩; have z := Lib.hid z; have HP6 := HP5.later c6; have HB6 := Lib.hid (HB5.out.trans (c6.mono HB5.out.size)); have SR6 := S6.range; (try dsimp only); simp only [Act.put, List.setIfInBounds_toArray, List.set_cons_zero, List.set_cons_succ])
        | (go_at_call 13; (with_reducible refine (KP2.out _ HP6).mono ?_); rintro e w7 ⟨rfl, b7⟩; have HB7 := Lib.hid (HB6.out.trans (b7.mono HB6.out.size)))
        | (go_at_call 17; (with_reducible refine (KA3.out _).mono ?_); rintro e w8 ⟨rfl, b8⟩; have HB8 := Lib.hid (HB7.out.trans (b8.mono HB7.out.size)))
        | (refine wpList_store_mid rfl _ _ _ rfl _ _ (St.stv Z).toArray rfl rfl (st_there w8 Z) (sty_info Z) (sty_one Z) ?_; refine gen_world2 (Q := fun W => wpList _ _ _ _ _ W) (fun W => Sty W w8.heap.size Z ∧ Below w8.heap.size w8 W ∧ W.heap.size = w8.heap.size + 1) (st_first w8 Z) ?_; rintro w9 ⟨S9, c9, z⟩; have z := Lib.hid z; have HB9 := Lib.hid (HB8.out.trans (c9.mono HB8.out.size)); have SR9 := S9.range; have SRy := (((S6.later b7).later b8).later c9).range; (try dsimp only); simp only [Act.put, List.setIfInBounds_toArray, List.set_cons_zero, List.set_cons_succ])
        | (refine wpList_load_mid rfl _ _ rfl _ _ rfl (St.stv v) _ SR1 Tryd.underlying23 rfl hi1 ?_)
        | (refine wpList_load_mid rfl _ _ rfl _ _ rfl (St.stv V) _ SR6 Tryd.underlying23 rfl hi2 ?_)
        | (refine wpList_load_guarded (by rfl) _ _ rfl _ _ rfl (St.stv v) _ SR4 Tryd.underlying23 rfl hi1 ?_)
        | (refine wpList_load_guarded (by rfl) _ _ rfl _ _ rfl (St.stv v) _ SRb Tryd.underlying23 rfl hi1 ?_)
        | (refine wpList_load_guarded (by rfl) _ _ rfl _ _ rfl (St.stv V) _ SR9 Tryd.underlying23 rfl hi2 ?_)
        | (refine wpList_load_guarded (by rfl) _ _ rfl _ _ rfl (St.stv V) _ SRy Tryd.underlying23 rfl hi2 ?_))
      go_ret
      exact ⟨by simp, HB9.out⟩
  · have t1 : (⟨#[]⟩ : ByteArray).toList = [] := by rw [Lib.toList_data]
    rcases c2 with ⟨rfl, rfl, rfl, rfl⟩ | rfl | rfl
    · go_enter Tryd.func10, Tryd.ntmps10
      go_wp2_with (first
        | (go_at_call 21; (with_reducible refine (AL.out _).mono ?_); rintro e w1 ⟨rfl, b1⟩; have S1 := S0.later b1; have SR1 := S1.range; have HP1 := HP0.out.later b1; have HB1 := Lib.hid (HB0.out.trans (b1.mono (by simp))))
        | (go_at_call 13; (with_reducible refine (KP1.out _ HP1).mono ?_); rintro e w2 ⟨rfl, b2⟩; have HP2 := HP1.later b2; have HB2 := Lib.hid (HB1.out.trans (b2.mono HB1.out.size)))
        | (go_at_call 17; (with_reducible refine (KA1.out _).mono ?_); rintro e w3 ⟨rfl, b3⟩; have HP3 := HP2.later b3; have HB3 := Lib.hid (HB2.out.trans (b3.mono HB2.out.size)))
        | (refine wpList_store_mid rfl _ _ _ rfl _ _ (St.stv X1).toArray rfl rfl (st_there w3 X1) (sty_info X1) (sty_one X1) ?_; refine gen_world2 (Q := fun W => wpList _ _ _ _ _ W) (fun W => Sty W w3.heap.size X1 ∧ Below w3.heap.size w3 W ∧ W.heap.size = w3.heap.size + 1) (st_first w3 X1) ?_; rintro w4 ⟨S4, c4, z⟩; have z := Lib.hid z; have HP4 := HP3.later c4; have HB4 := Lib.hid (HB3.out.trans (c4.mono HB3.out.size)); have SR4 := S4.range; have SRb := (((S1.later b2).later b3).later c4).range; (try dsimp only); simp only [Act.put, List.setIfInBounds_toArray, List.set_cons_zero, List.set_cons_succ])
        | (go_at_call 17; (with_reducible refine (KA2.out _).mono ?_); rintro e w5 ⟨rfl, b5⟩; have HP5 := HP4.later b5; have HB5 := Lib.hid (HB4.out.trans (b5.mono HB4.out.size)))
        | (refine wpList_store_mid rfl _ _ _ rfl _ _ (St.stv V).toArray rfl rfl (st_there w5 V) (sty_info V) (sty_one V) ?_; refine gen_world2 (Q := fun W => wpList _ _ _ _ _ W) (fun W => Sty W w5.heap.size V ∧ Below w5.heap.size w5 W ∧ W.heap.size = w5.heap.size + 1) (st_first w5 V) ?_; rintro w6 ⟨S6, c6, z⟩; have z := Lib.hid z; have HP6 := HP5.later c6; have HB6 := Lib.hid (HB5.out.trans (c6.mono HB5.out.size)); have SR6 := S6.range; (try dsimp only); simp only [Act.put, List.setIfInBounds_toArray, List.set_cons_zero, List.set_cons_succ])
        | (go_at_call 13; (with_reducible refine (KP2.out _ HP6).mono ?_); rintro e w7 ⟨rfl, b7⟩; have HB7 := Lib.hid (HB6.out.trans (b7.mono HB6.out.size)))
        | (go_at_call 17; (with_reducible refine (KA3.out _).mono ?_); rintro e w8 ⟨rfl, b8⟩; have HB8 := Lib.hid (HB7.out.trans (b8.mono HB7.out.size)))
        | (refine wpList_store_mid rfl _ _ _ rfl _ _ (St.stv V).toArray rfl rfl (st_there w8 V) (sty_info V) (sty_one V) ?_; refine gen_world2 (Q := fun W => wpList _ _ _ _ _ W) (fun W => Sty W w8.heap.size V ∧ Below w8.heap.size w8 W ∧ W.heap.size = w8.heap.size + 1) (st_first w8 V) ?_; rintro w9 ⟨S9, c9, z⟩; have z := Lib.hid z; have HB9 := Lib.hid (HB8.out.trans (c9.mono HB8.out.size)); have SR9 := S9.range; have SRy := (((S6.later b7).later b8).later c9).range; (try dsimp only); simp only [Act.put, List.setIfInBounds_toArray, List.set_cons_zero, List.set_cons_succ])
        | (refine wpList_load_mid rfl _ _ rfl _ _ rfl (St.stv v) _ SR1 Tryd.underlying23 rfl hi1 ?_)
        | (refine wpList_load_mid rfl _ _ rfl _ _ rfl (St.stv V) _ SR6 Tryd.underlying23 rfl hi2 ?_)
        | (refine wpList_load_guarded (by rfl) _ _ rfl _ _ rfl (St.stv v) _ SR4 Tryd.underlying23 rfl hi1 ?_)
        | (refine wpList_load_guarded (by rfl) _ _ rfl _ _ rfl (St.stv v) _ SRb Tryd.underlying23 rfl hi1 ?_)
        | (refine wpList_load_guarded (by rfl) _ _ rfl _ _ rfl (St.stv V) _ SR9 Tryd.underlying23 rfl hi2 ?_)
        | (refine wpList_load_guarded (by rfl) _ _ rfl _ _ rfl (St.stv V) _ SRy Tryd.underlying23 rfl hi2 ?_))
      go_ret
      exact ⟨by simp, HB9.out⟩
    · go_enter Tryd.func10, Tryd.ntmps10
      go_wp2_with (first
        | (go_at_call 21; (with_reducible refine (AL.out _).mono ?_); rintro e w1 ⟨rfl, b1⟩; have S1 := S0.later b1; have SR1 := S1.range; have HP1 := HP0.out.later b1; have HB1 := Lib.hid (HB0.out.trans (b1.mono (by simp))))
        | (go_at_call 13; (with_reducible refine (KP1.out _ HP1).mono ?_); rintro e w2 ⟨rfl, b2⟩; have HP2 := HP1.later b2; have HB2 := Lib.hid (HB1.out.trans (b2.mono HB1.out.size)))
        | (go_at_call 17; (with_reducible refine (KA1.out _).mono ?_); rintro e w3 ⟨rfl, b3⟩; have HP3 := HP2.later b3; have HB3 := Lib.hid (HB2.out.trans (b3.mono HB2.out.size)))
        | (refine wpList_store_mid rfl _ _ _ rfl _ _ (St.stv X1).toArray rfl rfl (st_there w3 X1) (sty_info X1) (sty_one X1) ?_; refine gen_world2 (Q := fun W => wpList _ _ _ _ _ W) (fun W => Sty W w3.heap.size X1 ∧ Below w3.heap.size w3 W ∧ W.heap.size = w3.heap.size + 1) (st_first w3 X1) ?_; rintro w4 ⟨S4, c4, z⟩; have z := Lib.hid z; have HP4 := HP3.later c4; have HB4 := Lib.hid (HB3.out.trans (c4.mono HB3.out.size)); have SR4 := S4.range; have SRb := (((S1.later b2).later b3).later c4).range; (try dsimp only); simp only [Act.put, List.setIfInBounds_toArray, List.set_cons_zero, List.set_cons_succ])
        | (go_at_call 17; (with_reducible refine (KA2.out _).mono ?_); rintro e w5 ⟨rfl, b5⟩; have HP5 := HP4.later b5; have HB5 := Lib.hid (HB4.out.trans (b5.mono HB4.out.size)))
        | (refine wpList_store_mid rfl _ _ _ rfl _ _ (St.stv V).toArray rfl rfl (st_there w5 V) (sty_info V) (sty_one V) ?_; refine gen_world2 (Q := fun W => wpList _ _ _ _ _ W) (fun W => Sty W w5.heap.size V ∧ Below w5.heap.size w5 W ∧ W.heap.size = w5.heap.size + 1) (st_first w5 V) ?_; rintro w6 ⟨S6, c6, z⟩; have z := Lib.hid z; have HP6 := HP5.later c6; have HB6 := Lib.hid (HB5.out.trans (c6.mono HB5.out.size)); have SR6 := S6.range; (try dsimp only); simp only [Act.put, List.setIfInBounds_toArray, List.set_cons_zero, List.set_cons_succ])
        | (go_at_call 13; (with_reducible refine (KP2.out _ HP6).mono ?_); rintro e w7 ⟨rfl, b7⟩; have HB7 := Lib.hid (HB6.out.trans (b7.mono HB6.out.size)))
        | (go_at_call 17; (with_reducible refine (KA3.out _).mono ?_); rintro e w8 ⟨rfl, b8⟩; have HB8 := Lib.hid (HB7.out.trans (b8.mono HB7.out.size)))
        | (refine wpList_store_mid rfl _ _ _ rfl _ _ (St.stv Z).toArray rfl rfl (st_there w8 Z) (sty_info Z) (sty_one Z) ?_; refine gen_world2 (Q := fun W => wpList _ _ _ _ _ W) (fun W => Sty W w8.heap.size Z ∧ Below w8.heap.size w8 W ∧ W.heap.size = w8.heap.size + 1) (st_first w8 Z) ?_; rintro w9 ⟨S9, c9, z⟩; have z := Lib.hid z; have HB9 := Lib.hid (HB8.out.trans (c9.mono HB8.out.size)); have SR9 := S9.range; have SRy := (((S6.later b7).later b8).later c9).range; (try dsimp only); simp only [Act.put, List.setIfInBounds_toArray, List.set_cons_zero, List.set_cons_succ])
        | (refine wpList_load_mid rfl _ _ rfl _ _ rfl (St.stv v) _ SR1 Tryd.underlying23 rfl hi1 ?_)
        | (refine wpList_load_mid rfl _ _ rfl _ _ rfl (St.stv V) _ SR6 Tryd.underlying23 rfl hi2 ?_)
        | (refine wpList_load_guarded (by rfl) _ _ rfl _ _ rfl (St.stv v) _ SR4 Tryd.underlying23 rfl hi1 ?_)
        | (refine wpList_load_guarded (by rfl) _ _ rfl _ _ rfl (St.stv v) _ SRb Tryd.underlying23 rfl hi1 ?_)
        | (refine wpList_load_guarded (by rfl) _ _ rfl _ _ rfl (St.stv V) _ SR9 Tryd.underlying23 rfl hi2 ?_)
        | (refine wpList_load_guarded (by rfl) _ _ rfl _ _ rfl (St.stv V) _ SRy Tryd.underlying23 rfl hi2 ?_))
      go_ret
      exact ⟨by simp, HB9.out⟩
    · go_enter Tryd.func10, Tryd.ntmps10
      go_wp2_with (first
        | (go_at_call 21; (with_reducible refine (AL.out _).mono ?_); rintro e w1 ⟨rfl, b1⟩; have S1 := S0.later b1; have SR1 := S1.range; have HP1 := HP0.out.later b1; have HB1 := Lib.hid (HB0.out.trans (b1.mono (by simp))))
        | (go_at_call 13; (with_reducible refine (KP1.out _ HP1).mono ?_); rintro e w2 ⟨rfl, b2⟩; have HP2 := HP1.later b2; have HB2 := Lib.hid (HB1.out.trans (b2.mono HB1.out.size)))
        | (go_at_call 17; (with_reducible refine (KA1.out _).mono ?_); rintro e w3 ⟨rfl, b3⟩; have HP3 := HP2.later b3; have HB3 := Lib.hid (HB2.out.trans (b3.mono HB2.out.size)))
        | (refine wpList_store_mid rfl _ _ _ rfl _ _ (St.stv X1).toArray rfl rfl (st_there w3 X1) (sty_info X1) (sty_one X1) ?_; refine gen_world2 (Q := fun W => wpList _ _ _ _ _ W) (fun W => Sty W w3.heap.size X1 ∧ Below w3.heap.size w3 W ∧ W.heap.size = w3.heap.size + 1) (st_first w3 X1) ?_; rintro w4 ⟨S4, c4, z⟩; have z := Lib.hid z; have HP4 := HP3.later c4; have HB4 := Lib.hid (HB3.out.trans (c4.mono HB3.out.size)); have SR4 := S4.range; have SRb := (((S1.later b2).later b3).later c4).range; (try dsimp only); simp only [Act.put, List.setIfInBounds_toArray, List.set_cons_zero, List.set_cons_succ])
        | (go_at_call 17; (with_reducible refine (KA2.out _).mono ?_); rintro e w5 ⟨rfl, b5⟩; have HP5 := HP4.later b5; have HB5 := Lib.hid (HB4.out.trans (b5.mono HB4.out.size)))
        | (refine wpList_store_mid rfl _ _ _ rfl _ _ (St.stv V).toArray rfl rfl (st_there w5 V) (sty_info V) (sty_one V) ?_; refine gen_world2 (Q := fun W => wpList _ _ _ _ _ W) (fun W => Sty W w5.heap.size V ∧ Below w5.heap.size w5 W ∧ W.heap.size = w5.heap.size + 1) (st_first w5 V) ?_; rintro w6 ⟨S6, c6, z⟩; have z := Lib.hid z; have HP6 := HP5.later c6; have HB6 := Lib.hid (HB5.out.trans (c6.mono HB5.out.size)); have SR6 := S6.range; (try dsimp only); simp only [Act.put, List.setIfInBounds_toArray, List.set_cons_zero, List.set_cons_succ])
        | (go_at_call 13; (with_reducible refine (KP2.out _ HP6).mono ?_); rintro e w7 ⟨rfl, b7⟩; have HB7 := Lib.hid (HB6.out.trans (b7.mono HB6.out.size)))
        | (go_at_call 17; (with_reducible refine (KA3.out _).mono ?_); rintro e w8 ⟨rfl, b8⟩; have HB8 := Lib.hid (HB7.out.trans (b8.mono HB7.out.size)))
        | (refine wpList_store_mid rfl _ _ _ rfl _ _ (St.stv Z).toArray rfl rfl (st_there w8 Z) (sty_info Z) (sty_one Z) ?_; refine gen_world2 (Q := fun W => wpList _ _ _ _ _ W) (fun W => Sty W w8.heap.size Z ∧ Below w8.heap.size w8 W ∧ W.heap.size = w8.heap.size + 1) (st_first w8 Z) ?_; rintro w9 ⟨S9, c9, z⟩; have z := Lib.hid z; have HB9 := Lib.hid (HB8.out.trans (c9.mono HB8.out.size)); have SR9 := S9.range; have SRy := (((S6.later b7).later b8).later c9).range; (try dsimp only); simp only [Act.put, List.setIfInBounds_toArray, List.set_cons_zero, List.set_cons_succ])
        | (refine wpList_load_mid rfl _ _ rfl _ _ rfl (St.stv v) _ SR1 Tryd.underlying23 rfl hi1 ?_)
        | (refine wpList_load_mid rfl _ _ rfl _ _ rfl (St.stv V) _ SR6 Tryd.underlying23 rfl hi2 ?_)
        | (refine wpList_load_guarded (by rfl) _ _ rfl _ _ rfl (St.stv v) _ SR4 Tryd.underlying23 rfl hi1 ?_)
        | (refine wpList_load_guarded (by rfl) _ _ rfl _ _ rfl (St.stv v) _ SRb Tryd.underlying23 rfl hi1 ?_)
        | (refine wpList_load_guarded (by rfl) _ _ rfl _ _ rfl (St.stv V) _ SR9 Tryd.underlying23 rfl hi2 ?_)
        | (refine wpList_load_guarded (by rfl) _ _ rfl _ _ rfl (St.stv V) _ SRy Tryd.underlying23 rfl hi2 ?_))
      go_ret
      exact ⟨by simp, HB9.out⟩

theorem StyleBack_any (v : Nat → Int) (hfl : St.Fl v) (s : ByteArray) (w : World) (hp : Pow w) :
    Calls Tryd.prog 10 #[.agg (St.stv v).toArray, .string s] w fun e w' => e = .returned (.bool true) ∧ Below w.heap.size w w' := by
  have hV := St.psV_fl s.data.toList
  have KA2 := fun W => Parse_any s W
  unfold psRes at KA2
  have KP1 := fun W h => Print_all v hfl W h
  have KP2 := fun W h => Print_all (St.psV s.data.toList) hV W h
  unfold PrRes at KP1 KP2
  by_cases hc1 : St.chk v = true
  · obtain ⟨a1, a2⟩ := St.ps_txt hc1
    have KA1 := fun W => Parse_any (bs (St.txt v 18)) W
    simp only [bs_data] at KA1
    unfold psRes at KA1
    rw [a1, a2] at KA1
    simp only [hc1, if_true] at KP1
    rcases St.psE_of s.data.toList with h0 | h0
    · have hc2 := St.ps_chk h0
      obtain ⟨d1, d2⟩ := St.ps_txt hc2
      have KA3 := fun W => Parse_any (bs (St.txt (St.psV s.data.toList) 18)) W
      simp only [bs_data] at KA3
      unfold psRes at KA3
      rw [d1, d2] at KA3
      simp only [hc2, if_true] at KP2
      rw [h0] at KA2
      exact back_core v v _ _ s _ _ _ _ _ _ _ _ _ _ w hp KP1 KA1 KA2 KP2 KA3 (.inl ⟨rfl, rfl, rfl⟩) (.inl ⟨rfl, rfl, rfl, rfl⟩)
    · exact back_core v v _ _ s _ _ _ _ _ _ _ _ _ _ w hp KP1 KA1 KA2 KP2 (fun W => by have := Parse_any (bs (if St.chk (St.psV s.data.toList) = true then St.txt (St.psV s.data.toList) 18 else [])) W; unfold psRes at this; exact this) (.inl ⟨rfl, rfl, rfl⟩) (.inr h0)
  · have KA1 := fun W => Parse_any (bs []) W
    unfold psRes at KA1
    simp only [hc1, if_false] at KP1
    rcases St.psE_of s.data.toList with h0 | h0
    · have hc2 := St.ps_chk h0
      obtain ⟨d1, d2⟩ := St.ps_txt hc2
      have KA3 := fun W => Parse_any (bs (St.txt (St.psV s.data.toList) 18)) W
      simp only [bs_data] at KA3
      unfold psRes at KA3
      rw [d1, d2] at KA3
      simp only [hc2, if_true] at KP2
      rw [h0] at KA2
      exact back_core v _ _ _ s _ _ _ _ _ _ _ _ _ _ w hp KP1 KA1 KA2 KP2 KA3 (.inr ⟨rfl, rfl⟩) (.inl ⟨rfl, rfl, rfl, rfl⟩)
    · exact back_core v _ _ _ s _ _ _ _ _ _ _ _ _ _ w hp KP1 KA1 KA2 KP2 (fun W => by have := Parse_any (bs (if St.chk (St.psV s.data.toList) = true then St.txt (St.psV s.data.toList) 18 else [])) W; unfold psRes at this; exact this) (.inr ⟨rfl, rfl⟩) (.inr h0)

end Go.Proofs.YtliabgcpciekpaaDoor
