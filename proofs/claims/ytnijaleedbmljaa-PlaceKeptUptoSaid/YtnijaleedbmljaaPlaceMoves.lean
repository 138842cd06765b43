/- The law PlaceMoves: where a place stands behind edits, where one came from, and what is kept, are the document's. -/
import Derived.Test.YtnijaleedbmljaaW25
import Derived.Test.YtnijaleedbmljaaW26
set_option linter.unusedVariables false
set_option linter.unusedSimpArgs false
namespace Go.Proofs.Ytnijaleedbmljaa
open Go Go.RowKit

theorem mvRes_two (s : Pl.T) (l : List Pl.Ed) (n : Int) : ∃ p g : Int, mvRes s l n = .tuple #[.int .i64 p, .int .i64 g] := by
  unfold mvRes
  split
  · split <;> exact ⟨_, _, rfl⟩
  · exact ⟨_, _, rfl⟩
theorem frRes_three (s : Pl.T) (l : List Pl.Ed) (n : Int) : ∃ (p : Int) (b : Bool) (g : Int), frRes s l n = .tuple #[.int .i64 p, .bool b, .int .i64 g] := by
  unfold frRes
  split
  · split <;> exact ⟨_, _, _, rfl⟩
  · exact ⟨_, _, _, rfl⟩
theorem small_app {s : ByteArray} {l : List Pl.Ed} (h : grt s.size l ≤ 2000) : (Pl.app (Pl.lines s.data.toList) 0 l).length ≤ 1000000 := by
  obtain ⟨h1, h2, h3, h4⟩ := small_of h
  have := app_size (Pl.lines s.data.toList) 2000 2000 (by rw [Pl.lines_flat, ← Lib.size_eq]; exact h1) l 0 h4
  have h5 : l.length * (2000 + 2000) ≤ 200 * 4000 := Nat.mul_le_mul h3 (by omega)
  omega
theorem runs_len (f : Nat → Bool) (k : Nat) : (Pl.runs f k).length ≤ k := by
  induction k with
  | zero => simp [Pl.runs]
  | succ k ih =>
    simp only [Pl.runs]
    split
    · omega
    · split
      · split
        · simp; omega
        · simp; omega
      · simp; omega
theorem kpOut_len {s : ByteArray} {l : List Pl.Ed} : (kpOut s.data.toList l).length ≤ s.size := by
  unfold kpOut
  split
  · next hf =>
    obtain ⟨ho, _, hen⟩ := spots_ord hf
    have := runs_len (Pl.marked (spS s.data.toList l)) s.data.toList.length
    rw [Pl.runs_all ho hen, ← Lib.size_eq] at this
    rw [← Lib.size_eq]
    exact this
  · simp

set_option maxRecDepth 100000 in
set_option maxHeartbeats 4000000 in
theorem PlaceMoves_any (s : ByteArray) (A : Option Addr) (c : Nat) (l : List Pl.Ed) (n : Int) (w : World) (hs : s.size ≤ maxLen) (hsb : s.size ≤ 1048576) (hl : l.length ≤ maxLen) (hlb : l.length ≤ 1048576) (hx : ∀ e ∈ l, e.x.length ≤ 1048576) (h : Rd w 3 A l.length (edcs l)) (wn : (Lit.int .i64 n).wf = true) :
    Calls Try.prog 3 #[.string s, .slice A l.length c, .int .i64 n] w fun e w' => e = .returned (.bool true) ∧ Below w.heap.size w w' := by
  clear wn hl hs
  have KG := Lib.hid (fun w h => great_any s A c l w (by omega) hlb hx h _ rfl)
  by_cases hg : 2000 < grt s.size l
  · have hd : decide (2000 < grt s.size l) = true := by simpa using hg
    rw [hd] at KG
    clear hg hd hx
    go_enter Try.func3, Try.ntmps3
    go_wp2_with (go_at_call 17; refine (KG.out _ h).mono ?_; rintro e w' ⟨rfl, rfl⟩)
    go_ret
    exact ⟨rfl, Below.refl _ _⟩
  · have hd : decide (2000 < grt s.size l) = false := by simpa using hg
    rw [hd] at KG
    obtain ⟨h1, hsm, h3, h4⟩ := small_of (show grt s.size l ≤ 2000 by omega)
    have hap := small_app (show grt s.size l ≤ 2000 by omega)
    have hkl : (kpOut s.data.toList l).length ≤ 1000000000 := Nat.le_trans kpOut_len (by omega)
    have C1 := fun w h => Move_all s A c l n w (by omega) h hsm
    have C2 := fun w h => refMove_all s A c l n w (by omega) h hsm
    have C3 := fun w h => From_all s A c l n w (by omega) h hsm
    have C4 := fun w h => refFrom_all s A c l n w (by omega) h hsm (fun _ => by omega)
    have C5 := fun w h => Kept_all s A c l w (by omega) h hsm
    have C6 := fun w h => refKept_all s A c l w (by omega) h hsm
    have C7 := fun X Y cx cy W g1 g2 => same19_any X Y cx cy (kpOut s.data.toList l) (kpOut s.data.toList l) W g1 g2 hkl hkl
    simp only [decide_true] at C7
    obtain ⟨p, g, hm⟩ := mvRes_two s.data.toList l n
    obtain ⟨p2, b2, g2, hfr⟩ := frRes_three s.data.toList l n
    rw [hm] at C1 C2
    rw [hfr] at C3 C4
    unfold KeptPost at C5 C6
    generalize kpOut s.data.toList l = ko at *
    generalize kpErr s.data.toList l = ke at *
    have K1 := Lib.hid C1; clear C1
    have K2 := Lib.hid C2; clear C2
    have K3 := Lib.hid C3; clear C3
    have K4 := Lib.hid C4; clear C4
    have K5 := Lib.hid C5; clear C5
    have K6 := Lib.hid C6; clear C6
    have K7 := Lib.hid C7; clear C7
    clear hm hfr hd hg hx h4 hap hkl
    go_enter Try.func3, Try.ntmps3
    go_wp2_with (first
      | (go_at_call 17; refine (KG.out _ h).mono ?_; rintro e w' ⟨rfl, rfl⟩)
      | (go_at_call 18; refine (K1.out _ h).mono ?_; rintro e w1 ⟨rfl, B1⟩; have H1 := h.later B1)
      | (go_at_call 19; refine (K2.out _ H1).mono ?_; rintro e w2 ⟨rfl, b⟩; have B2 := B1.trans (b.mono B1.size); have H2 := H1.later b; clear b)
      | (go_at_call 20; refine (K3.out _ H2).mono ?_; rintro e w3 ⟨rfl, b⟩; have B3 := B2.trans (b.mono B2.size); have H3 := H2.later b; clear b)
      | (go_at_call 21; refine (K4.out _ H3).mono ?_; rintro e w4 ⟨rfl, b⟩; have B4 := B3.trans (b.mono B3.size); have H4 := H3.later b; clear b)
      | (go_at_call 22; refine (K5.out _ H4).mono ?_; rintro e w5 ⟨X, cx, rfl, rX, b⟩; have B5 := B4.trans (b.mono B4.size); have H5 := H4.later b; clear b)
      | (go_at_call 23; refine (K6.out _ H5).mono ?_; rintro e w6 ⟨Y, cy, rfl, rY, b⟩; have B6 := B5.trans (b.mono B5.size); have rX6 := rX.later b; clear b)
      | (go_at_call 24; refine (K7.out _ _ _ _ _ rX6 rY).mono ?_; rintro e w7 ⟨rfl, b⟩; have B7 := B6.trans (b.mono B6.size); clear b))
    go_ret
    exact ⟨rfl, B7⟩

end Go.Proofs.Ytnijaleedbmljaa
