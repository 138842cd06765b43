/- The law SpansMeet, walked: it returns true and leaves what was there. -/
import Derived.Test.YtccpjjhaeocfhaaDoorQ1
set_option linter.unusedVariables false
set_option linter.unusedSimpArgs false
namespace Go.Proofs.YtccpjjhaeocfhaaDoor
open Go Go.RowKit

set_option maxRecDepth 100000 in
set_option maxHeartbeats 8000000 in
theorem SpansMeet_any (A : Option Addr) (c : Nat) (a : List Sp.R) (f t : Int) (w : World) (hA : Rd w 2 A a.length (rgcs a)) (hla : a.length ≤ maxLen) (hfw : (Lit.int .i64 f).wf = true) (htw : (Lit.int .i64 t).wf = true) :
    Calls Tryd.prog 7 #[.slice A a.length c, .int .i64 f, .int .i64 t] w fun e w' => e = .returned (.bool true) ∧ Below w.heap.size w w' := by
  unfold maxLen at hla
  have AL := Lib.hid (alive_any w)
  have hf64 := wf64 hfw
  by_cases g : a.length ≤ 50 ∧ 0 ≤ f ∧ f < t ∧ t ≤ 65536
  · obtain ⟨g1, g2, g3, g4⟩ := g
    have HOK1 := ok_one g2 g3 g4
    have HA := Lib.hid (fun w1 hb => hA.later (w' := w1) hb)
    by_cases hok : Sp.ok a = true
    · have CA := Lib.hid (fun w1 hb B d hB => And_any A B c d a [(f, t)] w1 (HA.out w1 hb) hB (by omega) (by simp))
      have HL := meet_law hok g2 g3 g4
      have hE : bothE a [(f, t)] = 0 := bothE_yes ⟨hok, HOK1⟩
      have HN : decide (0 < (bothL true a [(f, t)]).length) = meetsB a f t := by rw [← HL, Bool.eq_iff_iff, decide_eq_true_eq, decide_eq_true_eq]; omega
      have lL := bothL_len true a [(f, t)]
      rw [hE] at CA
      generalize bothL true a [(f, t)] = L at *
      have HHM := has_meets a f
      have CM := Lib.hid (fun w1 hb => Meets_any A c a f t w1 (HA.out w1 hb) (by omega) (by omega) (by omega))
      have CM1 := Lib.hid (fun w1 hb => Meets_any A c a f (f + 1) w1 (HA.out w1 hb) (by omega) (by omega) (by omega))
      have CH := Lib.hid (fun w1 hb => Has_any A c a f w1 (HA.out w1 hb) (by omega))
      rw [HHM] at CM1
      generalize meetsB a f t = m at *
      generalize hasB a f = h at *
      have lz : L.length ≤ 65536 := lL
      clear hok HOK1 HHM hE
      cases m
      all_goals cases h
      all_goals
        go_enter Tryd.func7, Tryd.ntmps7
        go_wp2_with (first
          | (go_at_call 14; (with_reducible refine AL.out.mono ?_); rintro e w1 ⟨rfl, b1⟩)
          | (go_at_call 18; refine (CA.out _ (b1.alloc b1.size _) _ _ (rd_new _ _ _)).mono ?_; rintro e w2 ⟨v, rfl, q⟩; obtain ⟨A2, c2, rfl, r2, b2'⟩ := q.get; have b2 := (b1.alloc b1.size (.cells #[.int .i64 f, .int .i64 t] 38)).trans (b2'.mono (by have := b1.size; simp; omega)); clear q CA; generalize L.length = n at *)
          | (go_at_call 20; (with_reducible refine (CM.out _ b2).mono ?_); rintro e w3 ⟨rfl, b3'⟩; have b3 := b2.trans (b3'.mono b2.size))
          | (go_at_call 16; (with_reducible refine (CH.out _ b3).mono ?_); rintro e w4 ⟨rfl, b4'⟩; have b4 := b3.trans (b4'.mono b3.size))
          | (go_at_call 20; (with_reducible refine (CM1.out _ b4).mono ?_); rintro e w5 ⟨rfl, b5'⟩; have b5 := b4.trans (b5'.mono b4.size)))
        go_ret
        exact ⟨rfl, b5⟩
    · have hno : Sp.ok a = false := by simpa using hok
      have CA := Lib.hid (fun w1 hb B d hB => And_any A B c d a [(f, t)] w1 (HA.out w1 hb) hB (by omega) (by simp))
      have hE : bothE a [(f, t)] = 2 := bothE_no (fun h => hok h.1)
      rw [hE] at CA
      generalize bothL true a [(f, t)] = L at *
      have CM := Lib.hid (fun w1 hb => Meets_any A c a f t w1 (HA.out w1 hb) (by omega) (by omega) (by omega))
      have CH := Lib.hid (fun w1 hb => Has_any A c a f w1 (HA.out w1 hb) (by omega))
      rw [meetsB_no hno] at CM
      rw [hasB_no hno] at CH
      clear hok hno HOK1 hE
      go_enter Tryd.func7, Tryd.ntmps7
      go_wp2_with (first
        | (go_at_call 14; (with_reducible refine AL.out.mono ?_); rintro e w1 ⟨rfl, b1⟩)
        | (go_at_call 18; refine (CA.out _ (b1.alloc b1.size _) _ _ (rd_new _ _ _)).mono ?_; rintro e w2 ⟨v, rfl, q⟩; obtain ⟨A2, c2, rfl, r2, b2'⟩ := q.get; have b2 := (b1.alloc b1.size (.cells #[.int .i64 f, .int .i64 t] 38)).trans (b2'.mono (by have := b1.size; simp; omega)))
        | (go_at_call 20; (with_reducible refine (CM.out _ b2).mono ?_); rintro e w3 ⟨rfl, b3'⟩; have b3 := b2.trans (b3'.mono b2.size))
        | (go_at_call 16; (with_reducible refine (CH.out _ b3).mono ?_); rintro e w4 ⟨rfl, b4'⟩; have b4 := b3.trans (b4'.mono b3.size)))
      go_ret
      exact ⟨rfl, b4⟩
  · have hc : 50 < a.length ∨ f < 0 ∨ t ≤ f ∨ 65536 < t := by omega
    have z1 : ¬ (a.length ≤ 50 ∧ 0 ≤ f ∧ f < t ∧ t ≤ 65536) := g
    clear g
    by_cases k1 : 50 < a.length
    · clear hc z1
      go_enter Tryd.func7, Tryd.ntmps7
      go_wp2_with (go_at_call 14; (with_reducible refine AL.out.mono ?_); rintro e w1 ⟨rfl, b1⟩)
      go_ret
      exact ⟨rfl, b1⟩
    by_cases k2 : f < 0
    · clear hc z1
      go_enter Tryd.func7, Tryd.ntmps7
      go_wp2_with (go_at_call 14; (with_reducible refine AL.out.mono ?_); rintro e w1 ⟨rfl, b1⟩)
      go_ret
      exact ⟨rfl, b1⟩
    by_cases k3 : t ≤ f
    · clear hc z1
      go_enter Tryd.func7, Tryd.ntmps7
      go_wp2_with (go_at_call 14; (with_reducible refine AL.out.mono ?_); rintro e w1 ⟨rfl, b1⟩)
      go_ret
      exact ⟨rfl, b1⟩
    have k4 : 65536 < t := by omega
    clear hc z1
    go_enter Tryd.func7, Tryd.ntmps7
    go_wp2_with (go_at_call 14; (with_reducible refine AL.out.mono ?_); rintro e w1 ⟨rfl, b1⟩)
    go_ret
    exact ⟨rfl, b1⟩

end Go.Proofs.YtccpjjhaeocfhaaDoor
