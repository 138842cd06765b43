/- The law EditWays: by way of a third text no fewer lines go out and in; there and back as many go out as came in. -/
import Derived.Test.YtnijaleedbmljaaEditMakes
set_option linter.unusedVariables false
set_option linter.unusedSimpArgs false
namespace Go.Proofs.Ytnijaleedbmljaa
open Go Go.RowKit

set_option maxRecDepth 100000 in
set_option maxHeartbeats 4000000 in
theorem EditWays_any (a b c : ByteArray) (w : World) (ha : a.size ≤ maxLen) (hb : b.size ≤ maxLen) (hc : c.size ≤ maxLen) :
    Calls Try.prog 12 #[.string a, .string b, .string c] w fun e w' => e = .returned (.bool true) ∧ Below w.heap.size w w' := by
  unfold maxLen at ha hb hc
  by_cases h1 : 1000 < a.size
  · have hg : decide ((1000 : Int) < (a.size : Int)) = true := by simp; omega
    go_enter Try.func12, Try.ntmps12
    go_wp2_with (go_at_call 42; refine (alive18_any _).mono ?_; rintro e w0 ⟨rfl, hb0⟩)
    go_ret
    exact ⟨rfl, hb0⟩
  have hg1 : decide ((1000 : Int) < (a.size : Int)) = false := by simp; omega
  by_cases h2 : 1000 < b.size
  · have hg : decide ((1000 : Int) < (b.size : Int)) = true := by simp; omega
    go_enter Try.func12, Try.ntmps12
    go_wp2_with (go_at_call 42; refine (alive18_any _).mono ?_; rintro e w0 ⟨rfl, hb0⟩)
    go_ret
    exact ⟨rfl, hb0⟩
  have hg2 : decide ((1000 : Int) < (b.size : Int)) = false := by simp; omega
  by_cases h3 : 1000 < c.size
  · have hg : decide ((1000 : Int) < (c.size : Int)) = true := by simp; omega
    go_enter Try.func12, Try.ntmps12
    go_wp2_with (go_at_call 42; refine (alive18_any _).mono ?_; rintro e w0 ⟨rfl, hb0⟩)
    go_ret
    exact ⟨rfl, hb0⟩
  have hg3 : decide ((1000 : Int) < (c.size : Int)) = false := by simp; omega
  have ha1 : a.size ≤ 1000 := by omega
  have hb1 : b.size ≤ 1000 := by omega
  have hc1 : c.size ≤ 1000 := by omega
  obtain ⟨la, lfa⟩ := lines_size ha1
  obtain ⟨lb, lfb⟩ := lines_size hb1
  obtain ⟨lc, lfc⟩ := lines_size hc1
  have K1 := Lib.hid (fun w => Between_small a b w ha1 hb1)
  have K2 := Lib.hid (fun w => Between_small b c w hb1 hc1)
  have K3 := Lib.hid (fun w => Between_small a c w ha1 hc1)
  have K4 := Lib.hid (fun w => Between_small b a w hb1 ha1)
  have s1 : Sm (Pl.between (Pl.lines a.data.toList) (Pl.lines b.data.toList)) := between_sm (by omega) (by omega)
  have s2 : Sm (Pl.between (Pl.lines b.data.toList) (Pl.lines c.data.toList)) := between_sm (by omega) (by omega)
  have s3 : Sm (Pl.between (Pl.lines a.data.toList) (Pl.lines c.data.toList)) := between_sm (by omega) (by omega)
  have s4 : Sm (Pl.between (Pl.lines b.data.toList) (Pl.lines a.data.toList)) := between_sm (by omega) (by omega)
  have C5 := fun A k w h => Size_any a A k _ w (by omega) h s1
  have C6 := fun A k w h => Size_any b A k _ w (by omega) h s2
  have C7 := fun A k w h => Size_any a A k _ w (by omega) h s3
  have C8 := fun A k w h => Size_any b A k _ w (by omega) h s4
  rw [size_fit (fit_bet _ _)] at C5 C6 C7 C8
  obtain ⟨o1, i1⟩ := Pl.between_outs (x := Pl.lines a.data.toList) (Pl.good_lines b.data.toList)
  obtain ⟨o2, i2⟩ := Pl.between_outs (x := Pl.lines b.data.toList) (Pl.good_lines c.data.toList)
  obtain ⟨o3, i3⟩ := Pl.between_outs (x := Pl.lines a.data.toList) (Pl.good_lines c.data.toList)
  obtain ⟨o4, i4⟩ := Pl.between_outs (x := Pl.lines b.data.toList) (Pl.good_lines a.data.toList)
  have hw := Pl.lcs_way (Pl.lines a.data.toList) (Pl.lines b.data.toList) (Pl.lines c.data.toList)
  have hy := Pl.lcs_symm (Pl.lines a.data.toList) (Pl.lines b.data.toList)
  have l1 := Pl.lcs_le_left (Pl.lines a.data.toList) (Pl.lines b.data.toList)
  have l2 := Pl.lcs_le_right (Pl.lines a.data.toList) (Pl.lines b.data.toList)
  have l3 := Pl.lcs_le_left (Pl.lines b.data.toList) (Pl.lines c.data.toList)
  have l4 := Pl.lcs_le_right (Pl.lines b.data.toList) (Pl.lines c.data.toList)
  have l5 := Pl.lcs_le_left (Pl.lines a.data.toList) (Pl.lines c.data.toList)
  have l6 := Pl.lcs_le_right (Pl.lines a.data.toList) (Pl.lines c.data.toList)
  have e4 : Pl.outs (Pl.between (Pl.lines b.data.toList) (Pl.lines a.data.toList)) = Pl.ins (Pl.between (Pl.lines a.data.toList) (Pl.lines b.data.toList)) := by rw [o4, i1, hy]
  have e5 : Pl.ins (Pl.between (Pl.lines b.data.toList) (Pl.lines a.data.toList)) = Pl.outs (Pl.between (Pl.lines a.data.toList) (Pl.lines b.data.toList)) := by rw [o1, i4, hy]
  rw [e4, e5] at C8
  clear s1 s2 s3 s4 e4 e5 o4 i4 hy
  generalize Pl.outs (Pl.between (Pl.lines a.data.toList) (Pl.lines b.data.toList)) = m at *
  generalize Pl.ins (Pl.between (Pl.lines a.data.toList) (Pl.lines b.data.toList)) = n at *
  generalize Pl.outs (Pl.between (Pl.lines b.data.toList) (Pl.lines c.data.toList)) = o at *
  generalize Pl.ins (Pl.between (Pl.lines b.data.toList) (Pl.lines c.data.toList)) = p at *
  generalize Pl.outs (Pl.between (Pl.lines a.data.toList) (Pl.lines c.data.toList)) = q at *
  generalize Pl.ins (Pl.between (Pl.lines a.data.toList) (Pl.lines c.data.toList)) = r at *
  have b1 : 0 ≤ m ∧ m ≤ 1000 := by omega
  have b2 : 0 ≤ n ∧ n ≤ 1000 := by omega
  have b3 : 0 ≤ o ∧ o ≤ 1000 := by omega
  have b4 : 0 ≤ p ∧ p ≤ 1000 := by omega
  have b5 : 0 ≤ q ∧ q ≤ 1000 := by omega
  have b6 : 0 ≤ r ∧ r ≤ 1000 := by omega
  have hle : q + r ≤ m + n + o + p := by omega
  clear o1 i1 o2 i2 o3 i3 hw l1 l2 l3 l4 l5 l6
  generalize Pl.between (Pl.lines a.data.toList) (Pl.lines b.data.toList) = x1 at *
  generalize Pl.between (Pl.lines b.data.toList) (Pl.lines c.data.toList) = x2 at *
  generalize Pl.between (Pl.lines a.data.toList) (Pl.lines c.data.toList) = x3 at *
  generalize Pl.between (Pl.lines b.data.toList) (Pl.lines a.data.toList) = x4 at *
  have K5 := Lib.hid C5; clear C5
  have K6 := Lib.hid C6; clear C6
  have K7 := Lib.hid C7; clear C7
  have K8 := Lib.hid C8; clear C8
  go_enter Try.func12, Try.ntmps12
  go_wp2_with (first
    | (go_at_call 42; refine (alive18_any _).mono ?_; rintro e w0 ⟨rfl, hB0⟩)
    | (go_at_call 34; with_reducible refine (K1.out _).mono ?_; rintro e w1 ⟨B1, cb1, rfl, r1, hb1⟩; have hB1 := hB0.trans (hb1.mono hB0.size))
    | (go_at_call 34; with_reducible refine (K2.out _).mono ?_; rintro e w2 ⟨B2, cb2, rfl, r2, hb2⟩; have hB2 := hB1.trans (hb2.mono hB1.size); have r1 := r1.later hb2)
    | (go_at_call 34; with_reducible refine (K3.out _).mono ?_; rintro e w3 ⟨B3, cb3, rfl, r3, hb3⟩; have hB3 := hB2.trans (hb3.mono hB2.size); have r1 := r1.later hb3; have r2 := r2.later hb3)
    | (go_at_call 34; with_reducible refine (K4.out _).mono ?_; rintro e w4 ⟨B4, cb4, rfl, r4, hb4⟩; have hB4 := hB3.trans (hb4.mono hB3.size); have r1 := r1.later hb4; have r2 := r2.later hb4; have r3 := r3.later hb4)
    | (go_at_call 29; with_reducible refine (K5.out _ _ _ r1).mono ?_; rintro e w5 ⟨rfl, hb5⟩; have hB5 := hB4.trans (hb5.mono hB4.size); have r2 := r2.later hb5; have r3 := r3.later hb5; have r4 := r4.later hb5)
    | (go_at_call 29; with_reducible refine (K6.out _ _ _ r2).mono ?_; rintro e w6 ⟨rfl, hb6⟩; have hB6 := hB5.trans (hb6.mono hB5.size); have r3 := r3.later hb6; have r4 := r4.later hb6)
    | (go_at_call 29; with_reducible refine (K7.out _ _ _ r3).mono ?_; rintro e w7 ⟨rfl, hb7⟩; have hB7 := hB6.trans (hb7.mono hB6.size); have r4 := r4.later hb7)
    | (go_at_call 29; with_reducible refine (K8.out _ _ _ r4).mono ?_; rintro e w8 ⟨rfl, hb8⟩; have hB8 := hB7.trans (hb8.mono hB7.size)))
  go_ret
  exact ⟨rfl, hB8⟩

end Go.Proofs.Ytnijaleedbmljaa
