/- The law SpansOrders, walked: it returns true and leaves what was there. -/
import Derived.Test.YtccpjjhaeocfhaaDoorQ1
set_option linter.unusedVariables false
set_option linter.unusedSimpArgs false
namespace Go.Proofs.YtccpjjhaeocfhaaDoor
open Go Go.RowKit

theorem both_comm (z : Bool) (a b : List Sp.R) : bothL z a b = bothL z b a := by
  unfold bothL
  by_cases h : Sp.ok a = true ∧ Sp.ok b = true
  · rw [if_pos h, if_pos ⟨h.2, h.1⟩]
    exact Sp.setOf_congr (fun i _ => by cases z <;> simp [cmb, Bool.and_comm, Bool.or_comm])
  · rw [if_neg h, if_neg (fun g => h ⟨g.2, g.1⟩)]
theorem bothE_comm (a b : List Sp.R) : bothE a b = bothE b a := by
  unfold bothE
  by_cases h : Sp.ok a = true ∧ Sp.ok b = true
  · rw [if_pos h, if_pos ⟨h.2, h.1⟩]
  · rw [if_neg h, if_neg (fun g => h ⟨g.2, g.1⟩)]
theorem both_ok {z : Bool} {a b : List Sp.R} (ha : Sp.ok a = true) (hb : Sp.ok b = true) : Sp.ok (bothL z a b) = true := by
  rw [bothL_yes ⟨ha, hb⟩]; exact Sp.setOf_ok _ (Nat.le_refl _)
theorem both_has {z : Bool} {a b : List Sp.R} (ha : Sp.ok a = true) (hb : Sp.ok b = true) (i : Int) : Sp.has (bothL z a b) i = cmb z (Sp.has a i) (Sp.has b i) := by
  rw [bothL_yes ⟨ha, hb⟩, Sp.has_setOf _ (Nat.le_refl _)]
  by_cases h0 : 0 ≤ i ∧ i < 65536
  · rw [Int.toNat_of_nonneg h0.1, decide_eq_true h0.1, decide_eq_true (show i < ((65536 : Nat) : Int) by omega)]; simp
  · have e1 : Sp.has a i = false := by
      rw [Bool.eq_false_iff]; intro e; exact h0 (Sp.has_range ha e)
    have e2 : Sp.has b i = false := by
      rw [Bool.eq_false_iff]; intro e; exact h0 (Sp.has_range hb e)
    have : (decide (0 ≤ i) && decide (i < ((65536 : Nat) : Int))) = false := by
      rw [Bool.and_eq_false_iff]; simp only [decide_eq_false_iff_not]; omega
    rw [this, e1, e2]; cases z <;> rfl
theorem set_ext {a b : List Sp.R} (ha : Sp.ok a = true) (hb : Sp.ok b = true) (h : ∀ i, Sp.has a i = Sp.has b i) : a = b := Sp.uniq (last := -1) ha hb h
theorem both_self {z : Bool} {a : List Sp.R} (ha : Sp.ok a = true) : bothL z a a = a :=
  set_ext (both_ok ha ha) ha (fun i => by rw [both_has ha ha]; cases z <;> simp [cmb])
theorem or_assoc' {a b c : List Sp.R} (ha : Sp.ok a = true) (hb : Sp.ok b = true) (hc : Sp.ok c = true) : bothL false (bothL false a b) c = bothL false a (bothL false b c) :=
  set_ext (both_ok (both_ok ha hb) hc) (both_ok ha (both_ok hb hc)) (fun i => by
    rw [both_has (both_ok ha hb) hc, both_has ha hb, both_has ha (both_ok hb hc), both_has hb hc]; simp [cmb, Bool.or_assoc])
theorem and_or' {a b c : List Sp.R} (ha : Sp.ok a = true) (hb : Sp.ok b = true) (hc : Sp.ok c = true) : bothL true a (bothL false b c) = bothL false (bothL true a b) (bothL true a c) :=
  set_ext (both_ok ha (both_ok hb hc)) (both_ok (both_ok ha hb) (both_ok ha hc)) (fun i => by
    rw [both_has ha (both_ok hb hc), both_has hb hc, both_has (both_ok ha hb) (both_ok ha hc), both_has ha hb, both_has ha hc]; simp [cmb, Bool.and_or_distrib_left])

set_option maxRecDepth 100000 in
set_option maxHeartbeats 16000000 in
theorem SpansOrders_any (A B D : Option Addr) (c d e0 : Nat) (a b l : List Sp.R) (w : World) (hA : Rd w 2 A a.length (rgcs a)) (hB : Rd w 2 B b.length (rgcs b)) (hD : Rd w 2 D l.length (rgcs l))
    (hla : a.length ≤ maxLen) (hlb : b.length ≤ maxLen) (hll : l.length ≤ maxLen) :
    Calls Tryd.prog 5 #[.slice A a.length c, .slice B b.length d, .slice D l.length e0] w fun e w' => e = .returned (.bool true) ∧ Below w.heap.size w w' := by
  unfold maxLen at hla hlb hll
  have AL := Lib.hid (alive_any w)
  by_cases ga : 50 < a.length
  · go_enter Tryd.func5, Tryd.ntmps5
    go_wp2_with (go_at_call 14; (with_reducible refine AL.out.mono ?_); rintro e w1 ⟨rfl, b1⟩)
    go_ret
    exact ⟨rfl, b1⟩
  by_cases gb : 50 < b.length
  · go_enter Tryd.func5, Tryd.ntmps5
    go_wp2_with (go_at_call 14; (with_reducible refine AL.out.mono ?_); rintro e w1 ⟨rfl, b1⟩)
    go_ret
    exact ⟨rfl, b1⟩
  by_cases gl : 50 < l.length
  · go_enter Tryd.func5, Tryd.ntmps5
    go_wp2_with (go_at_call 14; (with_reducible refine AL.out.mono ?_); rintro e w1 ⟨rfl, b1⟩)
    go_ret
    exact ⟨rfl, b1⟩
  have RA := Lib.hid (fun w1 hb => hA.later (w' := w1) hb)
  have RB := Lib.hid (fun w1 hb => hB.later (w' := w1) hb)
  have RD := Lib.hid (fun w1 hb => hD.later (w' := w1) hb)
  have K1 := fun w1 hb => Or_any A B c d a b w1 (RA.out w1 hb) (RB.out w1 hb) (by omega) (by omega)
  have K2 := fun w1 hb => Or_any B A d c b a w1 (RB.out w1 hb) (RA.out w1 hb) (by omega) (by omega)
  have K3 := fun w1 hb => And_any A B c d a b w1 (RA.out w1 hb) (RB.out w1 hb) (by omega) (by omega)
  have K4 := fun w1 hb => And_any B A d c b a w1 (RB.out w1 hb) (RA.out w1 hb) (by omega) (by omega)
  have K5 := fun w1 hb => Or_any B D d e0 b l w1 (RB.out w1 hb) (RD.out w1 hb) (by omega) (by omega)
  have lP := bothL_len false a b
  have lQ := bothL_len true a b
  rw [both_comm false b a, bothE_comm b a] at K2
  rw [both_comm true b a, bothE_comm b a] at K4
  by_cases hab : Sp.ok a = true ∧ Sp.ok b = true
  · have hE := bothE_yes hab
    rw [hE] at K1 K2 K3 K4
    by_cases hc : Sp.ok l = true
    · have ha := hab.1
      have hb := hab.2
      have hP : Sp.ok (bothL false a b) = true := both_ok ha hb
      have hQ : Sp.ok (bothL true a b) = true := both_ok ha hb
      have hS : Sp.ok (bothL false b l) = true := both_ok hb hc
      have hV : Sp.ok (bothL true a l) = true := both_ok ha hc
      have lS := bothL_len false b l
      have lV := bothL_len true a l
      have lT := bothL_len false a (bothL false b l)
      have lU := bothL_len true a (bothL false b l)
      have K6 := fun w1 hb => Or_any A A c c a a w1 (RA.out w1 hb) (RA.out w1 hb) (by omega) (by omega)
      have K7 := fun w1 hb => And_any A A c c a a w1 (RA.out w1 hb) (RA.out w1 hb) (by omega) (by omega)
      have K8 := fun w1 X cx hb hX => Or_any X D cx e0 (bothL false a b) l w1 hX (RD.out w1 hb) (by omega) (by omega)
      have K9 := fun w1 X cx hb hX => Or_any A X c cx a (bothL false b l) w1 (RA.out w1 hb) hX (by omega) (by omega)
      have K10 := fun w1 X cx hb hX => And_any A X c cx a (bothL false b l) w1 (RA.out w1 hb) hX (by omega) (by omega)
      have K11 := fun w1 hb => And_any A D c e0 a l w1 (RA.out w1 hb) (RD.out w1 hb) (by omega) (by omega)
      have K12 := fun w1 X cx Y cy (hb : Below w.heap.size w w1) hX hY => Or_any X Y cx cy (bothL true a b) (bothL true a l) w1 hX hY (by omega) (by omega)
      rw [bothE_yes ⟨hb, hc⟩] at K5
      rw [both_self ha, bothE_yes ⟨ha, ha⟩] at K6 K7
      rw [or_assoc' ha hb hc, bothE_yes ⟨hP, hc⟩] at K8
      rw [bothE_yes ⟨ha, hS⟩] at K9 K10
      rw [bothE_yes ⟨ha, hc⟩] at K11
      rw [← and_or' ha hb hc, bothE_yes ⟨hQ, hV⟩] at K12
      clear hE hab ha hb hc hP hQ hS hV
      generalize bothL true a (bothL false b l) = U at *
      generalize bothL false a (bothL false b l) = T at *
      generalize bothL false a b = P at *
      generalize bothL true a b = Q at *
      generalize bothL false b l = S at *
      generalize bothL true a l = V at *
      have K1 := Lib.hid K1
      have K2 := Lib.hid K2
      have K3 := Lib.hid K3
      have K4 := Lib.hid K4
      have K5 := Lib.hid K5
      have K6 := Lib.hid K6
      have K7 := Lib.hid K7
      have K8 := Lib.hid K8
      have K9 := Lib.hid K9
      have K10 := Lib.hid K10
      have K11 := Lib.hid K11
      have K12 := Lib.hid K12
      go_enter Tryd.func5, Tryd.ntmps5
      go_wp2_with (first
        | (go_at_call 14; (with_reducible refine AL.out.mono ?_); rintro e w1 ⟨rfl, b1⟩)
        | (go_at_call 17; (with_reducible refine (K1.out _ b1).mono ?_); rintro e w2 ⟨v2, rfl, q2⟩; obtain ⟨A2, c2, rfl, r2, k2⟩ := q2.get; have b2 := b1.trans (k2.mono b1.size))
        | (go_at_call 17; (with_reducible refine (K2.out _ b2).mono ?_); rintro e w3 ⟨v3, rfl, q3⟩; obtain ⟨A3, c3, rfl, r3, k3⟩ := q3.get; have b3 := b2.trans (k3.mono b2.size); have s2 := r2.later k3)
        | (go_at_call 18; (with_reducible refine (K3.out _ b3).mono ?_); rintro e w4 ⟨v4, rfl, q4⟩; obtain ⟨A4, c4, rfl, r4, k4⟩ := q4.get; have b4 := b3.trans (k4.mono b3.size))
        | (go_at_call 18; (with_reducible refine (K4.out _ b4).mono ?_); rintro e w5 ⟨v5, rfl, q5⟩; obtain ⟨A5, c5, rfl, r5, k5⟩ := q5.get; have b5 := b4.trans (k5.mono b4.size); have s4 := r4.later k5; have t2 := s2.later (k4.trans (k5.mono k4.size)); have t3 := r3.later (k4.trans (k5.mono k4.size)))
        | (go_at_call 13; (with_reducible refine (same_eq A2 A3 c2 c3 P _ t2 t3 (by omega)).mono ?_); rintro e w6 ⟨rfl, k6⟩; have b6 := b5.trans (k6.mono b5.size))
        | (go_at_call 13; (with_reducible refine (same_eq A4 A5 c4 c5 Q _ (s4.later k6) (r5.later k6) (by omega)).mono ?_); rintro e w7 ⟨rfl, k7⟩; have b7 := b6.trans (k7.mono b6.size))
        | (go_at_call 17; (with_reducible refine (K5.out _ b7).mono ?_); rintro e w8 ⟨v8, rfl, q8⟩; obtain ⟨A8, c8, rfl, r8, k8⟩ := q8.get; have b8 := b7.trans (k8.mono b7.size))
        | (go_at_call 17; (with_reducible refine (K6.out _ b8).mono ?_); rintro e w9 ⟨v9, rfl, q9⟩; obtain ⟨A9, c9, rfl, r9, k9⟩ := q9.get; have b9 := b8.trans (k9.mono b8.size))
        | (go_at_call 18; (with_reducible refine (K7.out _ b9).mono ?_); rintro e w10 ⟨v10, rfl, q10⟩; obtain ⟨A10, c10, rfl, r10, k10⟩ := q10.get; have b10 := b9.trans (k10.mono b9.size))
        | (go_at_call 17; (with_reducible refine (K8.out _ _ _ b10 (t2.later (k6.trans ((k7.trans ((k8.trans ((k9.trans (k10.mono k9.size)).mono k8.size)).mono k7.size)).mono k6.size)))).mono ?_); rintro e w11 ⟨v11, rfl, q11⟩; obtain ⟨A11, c11, rfl, r11, k11⟩ := q11.get; have b11 := b10.trans (k11.mono b10.size))
        | (go_at_call 17; (with_reducible refine (K9.out _ _ _ b11 (r8.later (k9.trans ((k10.trans (k11.mono k10.size)).mono k9.size)))).mono ?_); rintro e w12 ⟨v12, rfl, q12⟩; obtain ⟨A12, c12, rfl, r12, k12⟩ := q12.get; have b12 := b11.trans (k12.mono b11.size))
        | (go_at_call 18; (with_reducible refine (K10.out _ _ _ b12 (r8.later (k9.trans ((k10.trans ((k11.trans (k12.mono k11.size)).mono k10.size)).mono k9.size)))).mono ?_); rintro e w13 ⟨v13, rfl, q13⟩; obtain ⟨A13, c13, rfl, r13, k13⟩ := q13.get; have b13 := b12.trans (k13.mono b12.size))
        | (go_at_call 18; (with_reducible refine (K11.out _ b13).mono ?_); rintro e w14 ⟨v14, rfl, q14⟩; obtain ⟨A14, c14, rfl, r14, k14⟩ := q14.get; have b14 := b13.trans (k14.mono b13.size))
        | (go_at_call 17; (with_reducible refine (K12.out _ _ _ _ _ b14 (s4.later (k6.trans ((k7.trans ((k8.trans ((k9.trans ((k10.trans ((k11.trans ((k12.trans ((k13.trans (k14.mono k13.size)).mono k12.size)).mono k11.size)).mono k10.size)).mono k9.size)).mono k8.size)).mono k7.size)).mono k6.size))) r14).mono ?_); rintro e w15 ⟨v15, rfl, q15⟩; obtain ⟨A15, c15, rfl, r15, k15⟩ := q15.get; have b15 := b14.trans (k15.mono b14.size))
        | (go_at_call 13; (with_reducible refine (same_eq A9 A c9 c a _ (r9.later (k10.trans ((k11.trans ((k12.trans ((k13.trans ((k14.trans (k15.mono k14.size)).mono k13.size)).mono k12.size)).mono k11.size)).mono k10.size))) (RA.out _ b15) (by omega)).mono ?_); rintro e w16 ⟨rfl, k16⟩; have b16 := b15.trans (k16.mono b15.size))
        | (go_at_call 13; (with_reducible refine (same_eq A10 A c10 c a _ (r10.later (k11.trans ((k12.trans ((k13.trans ((k14.trans ((k15.trans (k16.mono k15.size)).mono k14.size)).mono k13.size)).mono k12.size)).mono k11.size))) (RA.out _ b16) (by omega)).mono ?_); rintro e w17 ⟨rfl, k17⟩; have b17 := b16.trans (k17.mono b16.size))
        | (go_at_call 13; (with_reducible refine (same_eq A11 A12 c11 c12 T _ (r11.later (k12.trans ((k13.trans ((k14.trans ((k15.trans ((k16.trans (k17.mono k16.size)).mono k15.size)).mono k14.size)).mono k13.size)).mono k12.size))) (r12.later (k13.trans ((k14.trans ((k15.trans ((k16.trans (k17.mono k16.size)).mono k15.size)).mono k14.size)).mono k13.size))) (by omega)).mono ?_); rintro e w18 ⟨rfl, k18⟩; have b18 := b17.trans (k18.mono b17.size))
        | (go_at_call 13; (with_reducible refine (same_eq A13 A15 c13 c15 U _ (r13.later (k14.trans ((k15.trans ((k16.trans ((k17.trans (k18.mono k17.size)).mono k16.size)).mono k15.size)).mono k14.size))) (r15.later (k16.trans ((k17.trans (k18.mono k17.size)).mono k16.size))) (by omega)).mono ?_); rintro e w19 ⟨rfl, k19⟩; have b19 := b18.trans (k19.mono b18.size)))
      go_ret
      exact ⟨rfl, b19⟩
    · rw [bothE_no (fun h => hc h.2)] at K5
      clear hE hab hc
      generalize bothL false a b = P at *
      generalize bothL true a b = Q at *
      generalize bothL false b l = S at *
      have K1 := Lib.hid K1
      have K2 := Lib.hid K2
      have K3 := Lib.hid K3
      have K4 := Lib.hid K4
      have K5 := Lib.hid K5
      go_enter Tryd.func5, Tryd.ntmps5
      go_wp2_with (first
        | (go_at_call 14; (with_reducible refine AL.out.mono ?_); rintro e w1 ⟨rfl, b1⟩)
        | (go_at_call 17; (with_reducible refine (K1.out _ b1).mono ?_); rintro e w2 ⟨v2, rfl, q2⟩; obtain ⟨A2, c2, rfl, r2, k2⟩ := q2.get; have b2 := b1.trans (k2.mono b1.size))
        | (go_at_call 17; (with_reducible refine (K2.out _ b2).mono ?_); rintro e w3 ⟨v3, rfl, q3⟩; obtain ⟨A3, c3, rfl, r3, k3⟩ := q3.get; have b3 := b2.trans (k3.mono b2.size); have s2 := r2.later k3)
        | (go_at_call 18; (with_reducible refine (K3.out _ b3).mono ?_); rintro e w4 ⟨v4, rfl, q4⟩; obtain ⟨A4, c4, rfl, r4, k4⟩ := q4.get; have b4 := b3.trans (k4.mono b3.size))
        | (go_at_call 18; (with_reducible refine (K4.out _ b4).mono ?_); rintro e w5 ⟨v5, rfl, q5⟩; obtain ⟨A5, c5, rfl, r5, k5⟩ := q5.get; have b5 := b4.trans (k5.mono b4.size); have s4 := r4.later k5; have t2 := s2.later (k4.trans (k5.mono k4.size)); have t3 := r3.later (k4.trans (k5.mono k4.size)))
        | (go_at_call 13; (with_reducible refine (same_eq A2 A3 c2 c3 P _ t2 t3 (by omega)).mono ?_); rintro e w6 ⟨rfl, k6⟩; have b6 := b5.trans (k6.mono b5.size))
        | (go_at_call 13; (with_reducible refine (same_eq A4 A5 c4 c5 Q _ (s4.later k6) (r5.later k6) (by omega)).mono ?_); rintro e w7 ⟨rfl, k7⟩; have b7 := b6.trans (k7.mono b6.size))
        | (go_at_call 17; (with_reducible refine (K5.out _ b7).mono ?_); rintro e w8 ⟨v8, rfl, q8⟩; obtain ⟨A8, c8, rfl, r8, k8⟩ := q8.get; have b8 := b7.trans (k8.mono b7.size)))
      go_ret
      exact ⟨rfl, b8⟩
  · have hE := bothE_no hab
    rw [hE] at K1 K2 K3 K4
    clear hE hab
    generalize bothL false a b = P at *
    generalize bothL true a b = Q at *
    generalize bothL false b l = S at *
    generalize bothE b l = E2 at *
    have K1 := Lib.hid K1
    have K2 := Lib.hid K2
    have K3 := Lib.hid K3
    have K4 := Lib.hid K4
    have K5 := Lib.hid K5
    go_enter Tryd.func5, Tryd.ntmps5
    go_wp2_with (first
      | (go_at_call 14; (with_reducible refine AL.out.mono ?_); rintro e w1 ⟨rfl, b1⟩)
      | (go_at_call 17; (with_reducible refine (K1.out _ b1).mono ?_); rintro e w2 ⟨v2, rfl, q2⟩; obtain ⟨A2, c2, rfl, r2, k2⟩ := q2.get; have b2 := b1.trans (k2.mono b1.size))
      | (go_at_call 17; (with_reducible refine (K2.out _ b2).mono ?_); rintro e w3 ⟨v3, rfl, q3⟩; obtain ⟨A3, c3, rfl, r3, k3⟩ := q3.get; have b3 := b2.trans (k3.mono b2.size); have s2 := r2.later k3)
      | (go_at_call 18; (with_reducible refine (K3.out _ b3).mono ?_); rintro e w4 ⟨v4, rfl, q4⟩; obtain ⟨A4, c4, rfl, r4, k4⟩ := q4.get; have b4 := b3.trans (k4.mono b3.size))
      | (go_at_call 18; (with_reducible refine (K4.out _ b4).mono ?_); rintro e w5 ⟨v5, rfl, q5⟩; obtain ⟨A5, c5, rfl, r5, k5⟩ := q5.get; have b5 := b4.trans (k5.mono b4.size); have s4 := r4.later k5; have t2 := s2.later (k4.trans (k5.mono k4.size)); have t3 := r3.later (k4.trans (k5.mono k4.size)))
      | (go_at_call 13; (with_reducible refine (same_eq A2 A3 c2 c3 P _ t2 t3 (by omega)).mono ?_); rintro e w6 ⟨rfl, k6⟩; have b6 := b5.trans (k6.mono b5.size))
      | (go_at_call 13; (with_reducible refine (same_eq A4 A5 c4 c5 Q _ (s4.later k6) (r5.later k6) (by omega)).mono ?_); rintro e w7 ⟨rfl, k7⟩; have b7 := b6.trans (k7.mono b6.size))
      | (go_at_call 17; (with_reducible refine (K5.out _ b7).mono ?_); rintro e w8 ⟨v8, rfl, q8⟩; obtain ⟨A8, c8, rfl, r8, k8⟩ := q8.get; have b8 := b7.trans (k8.mono b7.size)))
    go_ret
    exact ⟨rfl, b8⟩

end Go.Proofs.YtccpjjhaeocfhaaDoor
