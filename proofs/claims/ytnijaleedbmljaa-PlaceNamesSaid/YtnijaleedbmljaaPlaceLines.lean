/- The law PlaceLines: lines and columns of places, and places of lines and columns, are the document's, and undo one another. -/
import Derived.Test.YtnijaleedbmljaaAl20
import Derived.Test.YtnijaleedbmljaaW22
set_option linter.unusedVariables false
set_option linter.unusedSimpArgs false
namespace Go.Proofs.Ytnijaleedbmljaa
open Go Go.RowKit

theorem wf64 {n : Int} (h : (Lit.int .i64 n).wf = true) : -9223372036854775808 ≤ n ∧ n ≤ 9223372036854775807 := by
  simpa [Lit.wf, IntKind.min, IntKind.max, IntKind.signed, IntKind.bits] using h

theorem Of_got (s : ByteArray) (n : Int) (w : World) (hs : s.size ≤ 1000000000) (x y z : Int) (h : ofRes s.data.toList n = .tuple #[.int .i64 x, .int .i64 y, .int .i64 z]) :
    Calls Try.prog 37 #[.string s, .int .i64 n] w fun e w' => e = .returned (.tuple #[.int .i64 x, .int .i64 y, .int .i64 z]) ∧ Below w.heap.size w w' := by
  rw [← h]
  exact (Of_any s n w hs).mono fun e w' ⟨h1, h2⟩ => ⟨h1, by rw [← h2]; exact (Below.refl _ _).alloc (Nat.le_refl _) _⟩
theorem ofRes_in {s : Pl.T} {m : Nat} (h : m ≤ s.length) : ofRes s m = .tuple #[.int .i64 (Pl.lc (s.take m)).1, .int .i64 (Pl.lc (s.take m)).2, .int .i64 0] := by
  unfold ofRes; rw [if_neg (by omega)]; rfl
theorem ofRes_out {s : Pl.T} {n : Int} (h : n < 0 ∨ (s.length : Int) < n) : ofRes s n = .tuple #[.int .i64 0, .int .i64 0, .int .i64 2] := by
  unfold ofRes; rw [if_pos h]
theorem atRes_back {s : Pl.T} {m : Nat} (h : m ≤ s.length) : atRes s (Pl.lc (s.take m)).1 (Pl.lc (s.take m)).2 = .tuple #[.int .i64 m, .int .i64 0] := by
  unfold atRes; rw [if_neg (by omega), Int.toNat_natCast, Int.toNat_natCast, Pl.atP_of h]
theorem atRes_two (s : Pl.T) (l c : Int) : ∃ p g : Int, atRes s l c = .tuple #[.int .i64 p, .int .i64 g] := by
  unfold atRes
  split
  · exact ⟨_, _, rfl⟩
  · split <;> exact ⟨_, _, rfl⟩

set_option maxRecDepth 100000 in
set_option maxHeartbeats 4000000 in
theorem PlaceLines_any (s : ByteArray) (n l c : Int) (w : World) (hs : s.size ≤ maxLen) (wn : (Lit.int .i64 n).wf = true) (wl : (Lit.int .i64 l).wf = true) (wc : (Lit.int .i64 c).wf = true) :
    Calls Try.prog 6 #[.string s, .int .i64 n, .int .i64 l, .int .i64 c] w fun e w' => e = .returned (.bool true) ∧ Below w.heap.size w w' := by
  unfold maxLen at hs
  have hl1 := (wf64 wl).2
  clear wn wl wc
  by_cases h1 : 2000 < s.size
  · have hg : decide ((2000 : Int) < (s.size : Int)) = true := by simp; omega
    go_enter Try.func6, Try.ntmps6
    go_wp2_with (go_at_call 36; refine (alive20_any _).mono ?_; rintro e w0 ⟨rfl, hb0⟩)
    go_ret
    exact ⟨rfl, hb0⟩
  have hg1 : decide ((2000 : Int) < (s.size : Int)) = false := by simp; omega
  have hsb : s.size ≤ 1000000000 := by omega
  have hlen : s.size = s.data.toList.length := Lib.size_eq s
  obtain ⟨p, g, hpg⟩ := atRes_two s.data.toList l c
  have K3 := Lib.hid (fun w => At_any s l c w hsb hl1)
  have K4 := Lib.hid (fun w => refAt_any s l c w hsb)
  rw [hpg] at K3 K4
  have K2 := Lib.hid (fun w => refOf_any s n w hsb)
  by_cases hn : n < 0 ∨ (s.size : Int) < n
  · have ho : ofRes s.data.toList n = .tuple #[.int .i64 0, .int .i64 0, .int .i64 2] := ofRes_out (by rw [← hlen]; exact hn)
    have K1 := Lib.hid (fun w => Of_got s n w hsb 0 0 2 ho)
    rw [ho] at K2
    clear hn ho hpg hlen h1
    go_enter Try.func6, Try.ntmps6
    go_wp2_with (first
      | (go_at_call 36; refine (alive20_any _).mono ?_; rintro e w0 ⟨rfl, hb0⟩)
      | (go_at_call 37; refine (K1.out _).mono ?_; rintro e w1 ⟨rfl, hb1⟩; have hB1 := hb0.trans (hb1.mono hb0.size))
      | (go_at_call 38; refine (K2.out _).mono ?_; rintro e w' ⟨rfl, rfl⟩)
      | (go_at_call 39; refine (K3.out _).mono ?_; rintro e w' ⟨rfl, rfl⟩)
      | (go_at_call 40; refine (K4.out _).mono ?_; rintro e w' ⟨rfl, rfl⟩))
    go_ret
    exact ⟨rfl, hB1⟩
  · obtain ⟨m, rfl⟩ : ∃ m : Nat, n = m := ⟨n.toNat, by omega⟩
    have hm : m ≤ s.data.toList.length := by omega
    have ho := ofRes_in hm
    have hbk := atRes_back hm
    have K1 := Lib.hid (fun w => Of_got s m w hsb _ _ _ ho)
    rw [ho] at K2
    have hll := lc_le (s.data.toList.take m)
    have hl3 : (s.data.toList.take m).length ≤ m := List.length_take_le _ _
    generalize Pl.lc (s.data.toList.take m) = q at *
    have K5 := Lib.hid (fun w => At_any s q.1 q.2 w hsb (by omega))
    rw [hbk] at K5
    clear hn ho hpg hbk hlen h1 hll hl3
    go_enter Try.func6, Try.ntmps6
    go_wp2_with (first
      | (go_at_call 36; refine (alive20_any _).mono ?_; rintro e w0 ⟨rfl, hb0⟩; have tok := True.intro)
      | (go_at_call 37; refine (K1.out _).mono ?_; rintro e w1 ⟨rfl, hb1⟩; have hB1 := hb0.trans (hb1.mono hb0.size))
      | (go_at_call 38; refine (K2.out _).mono ?_; rintro e w' ⟨rfl, rfl⟩)
      | (go_at_call 39; have _t := tok; refine (K3.out _).mono ?_; rintro e w' ⟨rfl, rfl⟩; clear tok _t)
      | (go_at_call 40; refine (K4.out _).mono ?_; rintro e w' ⟨rfl, rfl⟩)
      | (go_at_call 39; refine (K5.out _).mono ?_; rintro e w' ⟨rfl, rfl⟩))
    go_ret
    exact ⟨rfl, hB1⟩

end Go.Proofs.Ytnijaleedbmljaa
