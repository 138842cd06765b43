/- Walks: sets put together and cut, what a set has not (the program's). -/
import Derived.Test.YtccpjjhaeocfhaaDoorS9
set_option linter.unusedVariables false
set_option linter.unusedSimpArgs false
namespace Go.Proofs.YtccpjjhaeocfhaaDoor
open Go Go.RowKit

theorem own_rd {w w' : World} {base e sz n : Nat} {A : Option Addr} {c : Nat} {xs : List Value} (h : w.ownsRow base e sz (.slice A n c) n xs) (hb : Below w.heap.size w w') : Rd w' sz A n xs := (Rd.of_own h).later hb
theorem RgIs.from {L M : List Sp.R} {w w1 w' : World} {v : Value} (h : RgIs L w1 w' v) (hb : Below w.heap.size w w1) (e : L = M) : RgIs M w w' v := by subst e; exact h.trans hb


set_option maxRecDepth 100000 in
set_option maxHeartbeats 4000000 in
theorem Or_any (A B : Option Addr) (c d : Nat) (a b : List Sp.R) (w : World) (h : Rd w 2 A a.length (rgcs a)) (g : Rd w 2 B b.length (rgcs b)) (hl : a.length ≤ 1000000000) (hm : b.length ≤ 1000000000) :
    Calls Tryd.prog 17 #[.slice A a.length c, .slice B b.length d] w (RgRes2 (bothL false a b) (bothE a b) w) := by
  have V1 := Lib.hid (isSet_any A c a w h hl)
  have V2 := Lib.hid (fun w1 hb => isSet_any B d b w1 (g.later hb) hm)
  by_cases hok : Sp.ok a = true ∧ Sp.ok b = true
  · have HL := Lib.hid (bothL_yes (z := false) hok)
    have HE := Lib.hid (bothE_yes hok)
    have i1 := In1.of_ok hok.1
    have i2 := In1.of_ok hok.2
    rw [hok.1] at V1
    rw [hok.2] at V2
    clear hok
    have L1 := Lib.hid (fun w1 hb => table_any A c a w1 (h.later hb) hl i1)
    have L2 := Lib.hid (fun w1 hb => table_any B d b w1 (g.later hb) hm i2)
    clear i1 i2
    go_enter Tryd.func17, Tryd.ntmps17
    go_wp2_with (first
      | (go_at_call 30; (with_reducible refine V1.out.mono ?_); rintro e w1 ⟨rfl, hb1⟩)
      | (go_at_call 30; (with_reducible refine (V2.out _ hb1).mono ?_); rintro e w2 ⟨rfl, hb2⟩; have hb12 := hb1.trans (hb2.mono hb1.size))
      | (go_at_call 38; (with_reducible refine (L1.out _ hb12).mono ?_); rintro e w3 ⟨g1, N, rfl, hN1, hN2, hx, hb3⟩; have hb13 := hb12.trans (hb3.mono hb12.size))
      | (go_at_call 38; (with_reducible refine (L2.out _ hb13).mono ?_); rintro e w4 ⟨g2, M, rfl, hM1, hM2, hy, hb4⟩)
      | (go_at_call 25; refine (ranges_any _ _ _ _).mono ?_; rintro e w5 ⟨rfl, rfl⟩))
    have hb14 := hb13.trans (hb4.mono hb13.size)
    have hk := two_keep w4 (.cells #[.slice (some ⟨g1, 0, none⟩) N N] 53) (.cells #[.slice (some ⟨g2, 0, none⟩) M M] 53)
    obtain ⟨x1, x2⟩ := two_boxes w4 (.slice (some ⟨g1, 0, none⟩) N N) (.slice (some ⟨g2, 0, none⟩) M M) 53 53
    have CC := (collect_Or (n := 65536) (z := 65536) (Nat.le_refl _) rfl (says_Or x1 x2 (own_rd (own_later hx hb4) hk) (own_rd hy hk) hN2 hM2))
    simp only [World.size_alloc] at CC
    have hb15 := hb14.trans ((hk.trans ((two_keep _ (.cells #[.int .i64 65536] 3) (.cells #[.func (.func 39) #[] #[.pointer (some ⟨w4.heap.size, 0, none⟩), .pointer (some ⟨w4.heap.size + 1, 0, none⟩)]] 58)).mono hk.size)).mono hb14.size)
    clear x1 x2 hx hy hk
    refine CC.mono ?_
    rintro e w6 ⟨v, rfl, hv⟩
    clear CC
    go_wp2
    go_ret2
    exact ⟨_, by rw [HE.out]; rfl, hv.from hb15 (by rw [HL.out]; exact Sp.setOf_congr (fun i _ => by simp [cmb]))⟩
  · have HL := Lib.hid (bothL_no (z := false) hok)
    have HE := Lib.hid (bothE_no hok)
    by_cases ha : Sp.ok a = true
    · have hb : Sp.ok b = false := by rw [Bool.eq_false_iff]; exact fun h => hok ⟨ha, h⟩
      rw [ha] at V1
      rw [hb] at V2
      clear hok ha hb
      go_enter Tryd.func17, Tryd.ntmps17
      go_wp2_with (first | (go_at_call 30; (with_reducible refine V1.out.mono ?_); rintro e w1 ⟨rfl, hb1⟩) | (go_at_call 30; (with_reducible refine (V2.out _ hb1).mono ?_); rintro e w2 ⟨rfl, hb2⟩))
      go_ret2
      exact ⟨_, by rw [HE.out]; rfl, by rw [HL.out]; exact RgIs.nil (hb1.trans (hb2.mono hb1.size))⟩
    · have ha : Sp.ok a = false := by simpa using ha
      rw [ha] at V1
      clear hok ha
      go_enter Tryd.func17, Tryd.ntmps17
      go_wp2_with (go_at_call 30; (with_reducible refine V1.out.mono ?_); rintro e w1 ⟨rfl, hb1⟩)
      go_ret2
      exact ⟨_, by rw [HE.out]; rfl, by rw [HL.out]; exact RgIs.nil hb1⟩

set_option maxRecDepth 100000 in
set_option maxHeartbeats 4000000 in
theorem And_any (A B : Option Addr) (c d : Nat) (a b : List Sp.R) (w : World) (h : Rd w 2 A a.length (rgcs a)) (g : Rd w 2 B b.length (rgcs b)) (hl : a.length ≤ 1000000000) (hm : b.length ≤ 1000000000) :
    Calls Tryd.prog 18 #[.slice A a.length c, .slice B b.length d] w (RgRes2 (bothL true a b) (bothE a b) w) := by
  have V1 := Lib.hid (isSet_any A c a w h hl)
  have V2 := Lib.hid (fun w1 hb => isSet_any B d b w1 (g.later hb) hm)
  by_cases hok : Sp.ok a = true ∧ Sp.ok b = true
  · have HL := Lib.hid (bothL_yes (z := true) hok)
    have HE := Lib.hid (bothE_yes hok)
    have i1 := In1.of_ok hok.1
    have i2 := In1.of_ok hok.2
    rw [hok.1] at V1
    rw [hok.2] at V2
    clear hok
    have L1 := Lib.hid (fun w1 hb => table_any A c a w1 (h.later hb) hl i1)
    have L2 := Lib.hid (fun w1 hb => table_any B d b w1 (g.later hb) hm i2)
    clear i1 i2
    go_enter Tryd.func18, Tryd.ntmps18
    go_wp2_with (first
      | (go_at_call 30; (with_reducible refine V1.out.mono ?_); rintro e w1 ⟨rfl, hb1⟩)
      | (go_at_call 30; (with_reducible refine (V2.out _ hb1).mono ?_); rintro e w2 ⟨rfl, hb2⟩; have hb12 := hb1.trans (hb2.mono hb1.size))
      | (go_at_call 38; (with_reducible refine (L1.out _ hb12).mono ?_); rintro e w3 ⟨g1, N, rfl, hN1, hN2, hx, hb3⟩; have hb13 := hb12.trans (hb3.mono hb12.size))
      | (go_at_call 38; (with_reducible refine (L2.out _ hb13).mono ?_); rintro e w4 ⟨g2, M, rfl, hM1, hM2, hy, hb4⟩)
      | (go_at_call 25; refine (ranges_any _ _ _ _).mono ?_; rintro e w5 ⟨rfl, rfl⟩))
    have hb14 := hb13.trans (hb4.mono hb13.size)
    have hk := two_keep w4 (.cells #[.slice (some ⟨g1, 0, none⟩) N N] 53) (.cells #[.slice (some ⟨g2, 0, none⟩) M M] 53)
    obtain ⟨x1, x2⟩ := two_boxes w4 (.slice (some ⟨g1, 0, none⟩) N N) (.slice (some ⟨g2, 0, none⟩) M M) 53 53
    have CC := (collect_And (n := 65536) (z := 65536) (Nat.le_refl _) rfl (says_And x1 x2 (own_rd (own_later hx hb4) hk) (own_rd hy hk) hN2 hM2))
    simp only [World.size_alloc] at CC
    have hb15 := hb14.trans ((hk.trans ((two_keep _ (.cells #[.int .i64 65536] 3) (.cells #[.func (.func 40) #[] #[.pointer (some ⟨w4.heap.size, 0, none⟩), .pointer (some ⟨w4.heap.size + 1, 0, none⟩)]] 58)).mono hk.size)).mono hb14.size)
    clear x1 x2 hx hy hk
    refine CC.mono ?_
    rintro e w6 ⟨v, rfl, hv⟩
    clear CC
    go_wp2
    go_ret2
    exact ⟨_, by rw [HE.out]; rfl, hv.from hb15 (by rw [HL.out]; exact Sp.setOf_congr (fun i _ => by simp [cmb]))⟩
  · have HL := Lib.hid (bothL_no (z := true) hok)
    have HE := Lib.hid (bothE_no hok)
    by_cases ha : Sp.ok a = true
    · have hb : Sp.ok b = false := by rw [Bool.eq_false_iff]; exact fun h => hok ⟨ha, h⟩
      rw [ha] at V1
      rw [hb] at V2
      clear hok ha hb
      go_enter Tryd.func18, Tryd.ntmps18
      go_wp2_with (first | (go_at_call 30; (with_reducible refine V1.out.mono ?_); rintro e w1 ⟨rfl, hb1⟩) | (go_at_call 30; (with_reducible refine (V2.out _ hb1).mono ?_); rintro e w2 ⟨rfl, hb2⟩))
      go_ret2
      exact ⟨_, by rw [HE.out]; rfl, by rw [HL.out]; exact RgIs.nil (hb1.trans (hb2.mono hb1.size))⟩
    · have ha : Sp.ok a = false := by simpa using ha
      rw [ha] at V1
      clear hok ha
      go_enter Tryd.func18, Tryd.ntmps18
      go_wp2_with (go_at_call 30; (with_reducible refine V1.out.mono ?_); rintro e w1 ⟨rfl, hb1⟩)
      go_ret2
      exact ⟨_, by rw [HE.out]; rfl, by rw [HL.out]; exact RgIs.nil hb1⟩

set_option maxRecDepth 100000 in
set_option maxHeartbeats 4000000 in
theorem Not_any (A : Option Addr) (c : Nat) (a : List Sp.R) (n : Int) (w : World) (h : Rd w 2 A a.length (rgcs a)) (hl : a.length ≤ 1000000000) :
    Calls Tryd.prog 19 #[.slice A a.length c, .int .i64 n] w (RgRes2 (notL a n) (notE a n) w) := by
  have V1 := Lib.hid (isSet_any A c a w h hl)
  by_cases hok : notOk a n
  · have HL := Lib.hid (notL_yes hok)
    have HE := Lib.hid (notE_yes hok)
    have i1 := In1.of_ok hok.1
    obtain ⟨h1, h2, h3⟩ := hok
    rw [h1] at V1
    clear h1
    obtain ⟨m, rfl⟩ := Int.eq_ofNat_of_zero_le h2
    have hm : m ≤ 65536 := by omega
    have y1 : decide ((m : Int) < 0) = false := decide_eq_false (by omega)
    have y2 : decide (65536 < (m : Int)) = false := decide_eq_false (by omega)
    have y3 : decide (65536 < m) = false := decide_eq_false (by omega)
    clear h2 h3
    have L1 := Lib.hid (fun w1 hb => table_any A c a w1 (h.later hb) hl i1)
    clear i1
    go_enter Tryd.func19, Tryd.ntmps19
    go_wp2_with (first
      | (go_at_call 30; (with_reducible refine V1.out.mono ?_); rintro e w1 ⟨rfl, hb1⟩)
      | (go_at_call 38; (with_reducible refine (L1.out _ hb1).mono ?_); rintro e w3 ⟨g1, N, rfl, hN1, hN2, hx, hb3⟩)
      | (go_at_call 25; refine (ranges_any _ _ _ _).mono ?_; rintro e w5 ⟨rfl, rfl⟩))
    have hb13 := hb1.trans (hb3.mono hb1.size)
    have hk := (Below.refl w3.heap.size w3).alloc (Nat.le_refl _) (.cells #[.slice (some ⟨g1, 0, none⟩) N N] 53)
    have x1 := Bx.new w3 53 (.slice (some ⟨g1, 0, none⟩) N N)
    have CC := (collect_Not (n := m) (z := m) hm rfl (says_Not x1 (own_rd hx hk) (by omega)))
    simp only [World.size_alloc] at CC
    have hb15 := hb13.trans ((hk.trans ((two_keep _ (.cells #[.int .i64 m] 3) (.cells #[.func (.func 41) #[] #[.pointer (some ⟨w3.heap.size, 0, none⟩)]] 58)).mono hk.size)).mono hb13.size)
    clear x1 hx hk
    refine CC.mono ?_
    rintro e w6 ⟨v, rfl, hv⟩
    clear CC
    go_wp2
    go_ret2
    exact ⟨_, by rw [HE.out]; rfl, hv.from hb15 (by rw [HL.out, Int.toNat_natCast])⟩
  · have HL := Lib.hid (notL_no hok)
    have HE := Lib.hid (notE_no hok)
    by_cases ha : Sp.ok a = true
    · have hn : n < 0 ∨ 65536 < n := by
        by_cases h1 : n < 0
        · exact .inl h1
        · by_cases h2 : 65536 < n
          · exact .inr h2
          · exact absurd ⟨ha, by omega, by omega⟩ hok
      rw [ha] at V1
      clear hok ha
      rcases hn with hn | hn
      · go_enter Tryd.func19, Tryd.ntmps19
        go_wp2_with (go_at_call 30; (with_reducible refine V1.out.mono ?_); rintro e w1 ⟨rfl, hb1⟩)
        go_ret2
        exact ⟨_, by rw [HE.out]; rfl, by rw [HL.out]; exact RgIs.nil hb1⟩
      · have hn2 : ¬ n < 0 := by omega
        go_enter Tryd.func19, Tryd.ntmps19
        go_wp2_with (go_at_call 30; (with_reducible refine V1.out.mono ?_); rintro e w1 ⟨rfl, hb1⟩)
        go_ret2
        exact ⟨_, by rw [HE.out]; rfl, by rw [HL.out]; exact RgIs.nil hb1⟩
    · have ha : Sp.ok a = false := by simpa using ha
      rw [ha] at V1
      clear hok ha
      go_enter Tryd.func19, Tryd.ntmps19
      go_wp2_with (go_at_call 30; (with_reducible refine V1.out.mono ?_); rintro e w1 ⟨rfl, hb1⟩)
      go_ret2
      exact ⟨_, by rw [HE.out]; rfl, by rw [HL.out]; exact RgIs.nil hb1⟩

end Go.Proofs.YtccpjjhaeocfhaaDoor
