/- The law PlaceSteps: behind a byte 10 a new line begins, behind any other byte the column is one more; there is no column behind a line's end. -/
import Derived.Test.YtnijaleedbmljaaPlaceLines
set_option linter.unusedVariables false
set_option linter.unusedSimpArgs false
namespace Go.Proofs.Ytnijaleedbmljaa
open Go Go.RowKit

theorem atRes_past {s : Pl.T} {m : Nat} (h : m ≤ s.length) (h2 : m = s.length ∨ s[m]? = some 10) : atRes s (Pl.lc (s.take m)).1 ((Pl.lc (s.take m)).2 + 1) = .tuple #[.int .i64 0, .int .i64 2] := by
  unfold atRes
  rw [if_neg (by omega)]
  have e : (((Pl.lc (s.take m)).2 : Int) + 1).toNat = (Pl.lc (s.take m)).2 + 1 := by omega
  rw [Int.toNat_natCast, e, Pl.atP_past h h2]

set_option maxRecDepth 100000 in
set_option maxHeartbeats 4000000 in
theorem PlaceSteps_any (s : ByteArray) (u : Int) (w : World) (hs : s.size ≤ maxLen) (wu : (Lit.int .u16 u).wf = true) :
    Calls Try.prog 7 #[.string s, .int .u16 u] w fun e w' => e = .returned (.bool true) ∧ Below w.heap.size w w' := by
  unfold maxLen at hs
  have hu : 0 ≤ u ∧ u ≤ 65535 := by simpa [Lit.wf, IntKind.min, IntKind.max, IntKind.signed, IntKind.bits] using wu
  obtain ⟨hu0, hu1⟩ := hu
  clear wu
  by_cases h1 : 1000 < s.size
  · have hg : decide ((1000 : Int) < (s.size : Int)) = true := by simp; omega
    go_enter Try.func7, Try.ntmps7
    go_wp2_with (go_at_call 36; refine (alive20_any _).mono ?_; rintro e w0 ⟨rfl, hb0⟩)
    go_ret
    exact ⟨rfl, hb0⟩
  have hg1 : decide ((1000 : Int) < (s.size : Int)) = false := by simp; omega
  have hsb : s.size ≤ 1000000000 := by omega
  have hlen : s.size = s.data.toList.length := Lib.size_eq s
  have hmod0 := Int.emod_nonneg u (b := (s.size : Int) + 1) (by omega)
  have hmod1 := Int.emod_lt_of_pos u (b := (s.size : Int) + 1) (by omega)
  obtain ⟨m, hm⟩ : ∃ m : Nat, u % ((s.size : Int) + 1) = m := ⟨(u % ((s.size : Int) + 1)).toNat, by omega⟩
  rw [hm] at hmod0 hmod1
  have hms : m ≤ s.data.toList.length := by omega
  have ho := ofRes_in hms
  have K1 := Lib.hid (fun w => Of_got s m w hsb _ _ _ ho)
  have hpast := atRes_past hms
  have hll := lc_le (s.data.toList.take m)
  have hl3 : (s.data.toList.take m).length ≤ m := List.length_take_le _ _
  have hz : ((m : Int) == 0) = false ∨ (((m : Int) == 0) = true ∧ Pl.lc (s.data.toList.take m) = (0, 0)) := by
    by_cases e : m = 0
    · subst e; exact .inr ⟨rfl, rfl⟩
    · exact .inl (by rw [beq_eq_false_iff_ne]; omega)
  by_cases he : m = s.size
  · have K3 := Lib.hid (fun w => Of_got s ((m : Int) + 1) w hsb 0 0 2 (ofRes_out (by right; omega)))
    have K4 := Lib.hid (fun w => At_any s (Pl.lc (s.data.toList.take m)).1 ((Pl.lc (s.data.toList.take m)).2 + 1) w hsb (by omega))
    rw [hpast (.inl (by omega))] at K4
    clear hpast ho
    generalize Pl.lc (s.data.toList.take m) = q at *
    obtain ⟨q1, q2⟩ := q
    simp only at K1 K4 hll
    have he2 : ((m : Int) == (s.size : Int)) = true := by simp; omega
    clear he hlen h1
    rcases hz with hz | ⟨hz, hq⟩
    rotate_left
    simp only [Prod.mk.injEq] at hq
    obtain ⟨rfl, rfl⟩ := hq
    all_goals
      go_enter Try.func7, Try.ntmps7
      go_wp2_with (first
        | (go_at_call 36; refine (alive20_any _).mono ?_; rintro e w0 ⟨rfl, hb0⟩)
        | (go_at_call 37; with_reducible refine (K1.out _).mono ?_; rintro e w1 ⟨rfl, hb1⟩; have hB1 := hb0.trans (hb1.mono hb0.size))
        | (go_at_call 37; with_reducible refine (K3.out _).mono ?_; rintro e w3 ⟨rfl, hb3⟩; have hB3 := hB1.trans (hb3.mono hB1.size))
        | (go_at_call 39; refine (K4.out _).mono ?_; rintro e w' ⟨rfl, rfl⟩))
      go_ret
      exact ⟨rfl, hB3⟩
  · have hms2 : m < s.size := by omega
    have hg2 := ba_get s m hms2
    have hst := Pl.lc_take_succ hg2
    have ho2 := ofRes_in (s := s.data.toList) (m := m + 1) (by omega)
    rw [hst, show ((m + 1 : Nat) : Int) = (m : Int) + 1 by omega] at ho2
    have K3 := Lib.hid (fun w => Of_got s ((m : Int) + 1) w hsb _ _ _ ho2)
    have he2 : ((m : Int) == (s.size : Int)) = false := by rw [beq_eq_false_iff_ne]; omega
    have hu8 := u8_10 (s[m]'hms2)
    by_cases h10 : s[m]'hms2 = 10
    · have hd10 : decide (s[m]'hms2 = 10) = true := by simp [h10]
      rw [hd10] at hu8
      have hu9 : (((s[m]'hms2).toNat : Int) != 10) = !(((s[m]'hms2).toNat : Int) == 10) := rfl
      rw [hu8] at hu9
      have K4 := Lib.hid (fun w => At_any s (Pl.lc (s.data.toList.take m)).1 ((Pl.lc (s.data.toList.take m)).2 + 1) w hsb (by omega))
      rw [hpast (.inr (by rw [hg2, h10]))] at K4
      have hst2 : Pl.lcStep (Pl.lc (s.data.toList.take m)) (s[m]'hms2) = ((Pl.lc (s.data.toList.take m)).1 + 1, 0) := by simp [Pl.lcStep, h10]
      rw [hst2] at K3
      clear hpast ho ho2 hst hst2 hg2 h10 hd10
      generalize Pl.lc (s.data.toList.take m) = q at *
      obtain ⟨q1, q2⟩ := q
      simp only at K1 K3 K4 hll
      clear he hlen h1
      rcases hz with hz | ⟨hz, hq⟩
      rotate_left
      simp only [Prod.mk.injEq] at hq
      obtain ⟨rfl, rfl⟩ := hq
      all_goals
        go_enter Try.func7, Try.ntmps7
        go_wp2_with (first
          | (go_at_call 36; refine (alive20_any _).mono ?_; rintro e w0 ⟨rfl, hb0⟩)
          | (go_at_call 37; with_reducible refine (K1.out _).mono ?_; rintro e w1 ⟨rfl, hb1⟩; have hB1 := hb0.trans (hb1.mono hb0.size))
          | (go_at_call 37; with_reducible refine (K3.out _).mono ?_; rintro e w3 ⟨rfl, hb3⟩; have hB3 := hB1.trans (hb3.mono hB1.size))
          | (go_at_call 39; refine (K4.out _).mono ?_; rintro e w' ⟨rfl, rfl⟩))
        go_ret
        exact ⟨rfl, hB3⟩
    · have hd10 : decide (s[m]'hms2 = 10) = false := by simp [h10]
      rw [hd10] at hu8
      have hu9 : (((s[m]'hms2).toNat : Int) != 10) = !(((s[m]'hms2).toNat : Int) == 10) := rfl
      rw [hu8] at hu9
      have hst2 : Pl.lcStep (Pl.lc (s.data.toList.take m)) (s[m]'hms2) = ((Pl.lc (s.data.toList.take m)).1, (Pl.lc (s.data.toList.take m)).2 + 1) := by simp [Pl.lcStep, h10]
      rw [hst2] at K3
      have K4 := True.intro
      clear hpast ho ho2 hst hst2 hg2 h10 hd10
      generalize Pl.lc (s.data.toList.take m) = q at *
      obtain ⟨q1, q2⟩ := q
      simp only at K1 K3 hll
      clear he hlen h1
      rcases hz with hz | ⟨hz, hq⟩
      rotate_left
      simp only [Prod.mk.injEq] at hq
      obtain ⟨rfl, rfl⟩ := hq
      all_goals
        go_enter Try.func7, Try.ntmps7
        go_wp2_with (first
          | (go_at_call 36; refine (alive20_any _).mono ?_; rintro e w0 ⟨rfl, hb0⟩)
          | (go_at_call 37; with_reducible refine (K1.out _).mono ?_; rintro e w1 ⟨rfl, hb1⟩; have hB1 := hb0.trans (hb1.mono hb0.size))
          | (go_at_call 37; with_reducible refine (K3.out _).mono ?_; rintro e w3 ⟨rfl, hb3⟩; have hB3 := hB1.trans (hb3.mono hB1.size)))
        go_ret
        exact ⟨rfl, hB3⟩

end Go.Proofs.Ytnijaleedbmljaa
