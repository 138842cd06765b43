/- The law EditFinds: lines, and what makes one text of another one, are the document's. -/
import Derived.Test.YtnijaleedbmljaaW28
import Derived.Test.YtnijaleedbmljaaEditMakes
set_option linter.unusedVariables false
set_option linter.unusedSimpArgs false
namespace Go.Proofs.Ytnijaleedbmljaa
open Go Go.RowKit

theorem bet_lenF (q : List Pl.T) : ∀ (ps : List (Nat × Nat)) (i j : Nat), (Pl.bet q i j ps).length ≤ ps.length := by
  intro ps
  induction ps with
  | nil => intro i j; simp [Pl.bet]
  | cons p r ih =>
    intro i j
    simp only [Pl.bet]
    have := ih (p.1 + 1) (p.2 + 1)
    split
    · simp only [List.length_cons]; omega
    · simp only [List.length_cons]; omega
theorem betOut_lenF (x y : List Pl.T) : (betOut x y).length ≤ x.length + 1 := by
  unfold betOut
  split
  · simp
  · unfold Pl.between
    refine Nat.le_trans (bet_lenF _ _ _ _) ?_
    rw [List.length_append, Pl.pairs_length _ 0 0 x y (Nat.le_refl _)]
    have := Pl.lcs_le_left x y
    simp only [List.length_cons, List.length_nil]; omega

set_option maxRecDepth 100000 in
set_option maxHeartbeats 4000000 in
theorem EditFinds_any (s t : ByteArray) (w : World) (hs : s.size ≤ maxLen) (ht : t.size ≤ maxLen) :
    Calls Try.prog 5 #[.string s, .string t] w fun e w' => e = .returned (.bool true) ∧ Below w.heap.size w w' := by
  unfold maxLen at hs ht
  by_cases h1 : 2000 < s.size
  · have hg : decide ((2000 : Int) < (s.size : Int)) = true := by simp; omega
    go_enter Try.func5, Try.ntmps5
    go_wp2
    go_ret
    exact ⟨rfl, Below.refl _ _⟩
  have hg1 : decide ((2000 : Int) < (s.size : Int)) = false := by simp; omega
  by_cases h2 : 2000 < t.size
  · have hg : decide ((2000 : Int) < (t.size : Int)) = true := by simp; omega
    go_enter Try.func5, Try.ntmps5
    go_wp2
    go_ret
    exact ⟨rfl, Below.refl _ _⟩
  have hg2 : decide ((2000 : Int) < (t.size : Int)) = false := by simp; omega
  obtain ⟨hxn, hxT, hxf⟩ := ref_setup (s := s) (by omega)
  have hlen : (Pl.lines s.data.toList).length ≤ 4000000 := by omega
  have LS := Lib.hid (fun w => Lines_got s w (by omega))
  have LR := Lib.hid (fun w => refLines_got s w (by omega))
  have B1 := fun w => Between_any s t w (by omega) (by omega)
  have B2 := fun w => refBetween_any s t w (by omega) (by omega)
  have hol : (betOut (Pl.lines s.data.toList) (Pl.lines t.data.toList)).length ≤ 1000000000 := by have := betOut_lenF (Pl.lines s.data.toList) (Pl.lines t.data.toList); omega
  unfold BetPost at B1 B2
  have SM := fun A B c d W g1 g2 => same18_any A B c d (betOut (Pl.lines s.data.toList) (Pl.lines t.data.toList)) (betOut (Pl.lines s.data.toList) (Pl.lines t.data.toList)) W g1 g2 hol hol
  simp only [decide_true] at SM
  generalize betErr (Pl.lines s.data.toList) (Pl.lines t.data.toList) = be at *
  generalize betOut (Pl.lines s.data.toList) (Pl.lines t.data.toList) = bo at *
  generalize Pl.lines s.data.toList = x at *
  obtain ⟨la, hla⟩ : ∃ n, n = x.length := ⟨_, rfl⟩
  rw [← hla] at LS LR hlen
  have HLA := Lib.hid hla
  have B1 := Lib.hid B1
  have B2 := Lib.hid B2
  have SM := Lib.hid SM
  clear hla hxn hxT hxf
  go_enter Try.func5, Try.ntmps5
  go_wp2_with (first
    | (go_at_call 32; with_reducible refine (LS.out _).mono ?_; rintro e w1 ⟨X, cx, rfl, hcx, hX, hb1⟩)
    | (go_at_call 33; with_reducible refine (LR.out _).mono ?_; rintro e w2 ⟨Y, cy, rfl, hcy, hY, hb2⟩))
  have hX2 := hX.later hb2
  have hb12 := hb1.trans (hb2.mono hb1.size)
  go_loopw [7] (fun iv wr => ∃ k : Nat, k ≤ la ∧ iv = .int .i64 k ∧ Below w2.heap.size w2 wr) (fun iv _ => la - (intOf iv).toNat)
  case atStart => exact ⟨0, Nat.zero_le _, rfl, Below.refl _ _⟩
  case round =>
    obtain ⟨k, hk, rfl, hb⟩ := hrel
    have wK : IntKind.i64.wrap ((k : Int) + 1) = (k : Int) + 1 := IntWalk.i64_in _ (by omega)
    rcases Nat.lt_or_ge k la with hlt | hlt
    · have hd : decide ((k : Int) < (la : Int)) = true := by simp; omega
      have hq : (0 : Int) ≤ (k : Int) ∧ (k : Int) < (la : Int) := by omega
      have hat := List.getElem?_eq_getElem (l := x) (i := k) (by rw [← HLA.out]; exact hlt)
      generalize x[k]'(by rw [← HLA.out]; exact hlt) = a at hat
      obtain ⟨s1, o1, rfl, q1, f1⟩ := (hX2.later hb).st hat
      obtain ⟨s2, o2, rfl, q2, f2⟩ := (hY.later hb).st hat
      have hqe : ((bs a).toList == (bs a).toList) = true := by simp
      clear hat
      go_wp2
      go_quiet (fail)
      go_wp2
      go_roundw
      case rel => exact ⟨k + 1, by omega, by go_num, below_drewN hb _⟩
      case measure => simp [intOf]; omega
    · have hd : decide ((k : Int) < (la : Int)) = false := by simp; omega
      have hbB := hb12.trans (hb.mono hb12.size)
      go_wp2_with (first
        | (go_at_call 34; with_reducible refine (B1.out _).mono ?_; rintro e w3 ⟨C, cc, rfl, hC, hb3⟩; have hB3 := hbB.trans (hb3.mono hbB.size))
        | (go_at_call 35; with_reducible refine (B2.out _).mono ?_; rintro e w4 ⟨D, dc, rfl, hD, hb4⟩; have hC4 := hC.later hb4; have hB4 := hB3.trans (hb4.mono hB3.size))
        | (go_at_call 31; with_reducible refine (SM.out _ _ _ _ _ hC4 hD).mono ?_; rintro e w5 ⟨rfl, hb5⟩; have hB5 := hB4.trans (hb5.mono hB4.size)))
      go_ret
      exact ⟨rfl, hB5⟩

end Go.Proofs.Ytnijaleedbmljaa
