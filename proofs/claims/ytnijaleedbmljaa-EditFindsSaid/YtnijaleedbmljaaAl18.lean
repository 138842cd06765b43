/- Walks: the first example of the chapter on edits. -/
import Derived.Test.YtnijaleedbmljaaW15
set_option linter.unusedVariables false
set_option linter.unusedSimpArgs false
namespace Go.Proofs.Ytnijaleedbmljaa
open Go Go.RowKit

theorem eql_ed (e f : Pl.Ed) (w : World) : (binOp .eql 41 (.agg #[.int .i64 e.f, .int .i64 e.t, .string (bs e.x)]) (.agg #[.int .i64 f.f, .int .i64 f.t, .string (bs f.x)])).run Try.prog w = .ok (.bool (decide (e = f))) w := by
  rw [run_eql_struct]
  simp [go_sem, bs_toList]
  obtain ⟨a, b, x⟩ := e
  obtain ⟨c, d, y⟩ := f
  simp only [Pl.Ed.mk.injEq]
  by_cases h1 : a = c <;> by_cases h2 : b = d <;> by_cases h3 : x = y <;> simp [h1, h2, h3]

theorem bet_alive : betOut (Pl.lines [97, 10, 98, 10, 99, 10]) (Pl.lines [97, 10, 120, 10, 99, 10]) = [⟨1, 2, [120, 10]⟩] ∧ betErr (Pl.lines [97, 10, 98, 10, 99, 10]) (Pl.lines [97, 10, 120, 10, 99, 10]) = 0 := by
  have e1 : Pl.lines [97, 10, 98, 10, 99, 10] = [[97, 10], [98, 10], [99, 10]] := by rfl
  have e2 : Pl.lines [97, 10, 120, 10, 99, 10] = [[97, 10], [120, 10], [99, 10]] := by rfl
  rw [e1, e2]
  unfold betOut betErr
  rw [if_neg (by decide), if_neg (by decide)]
  unfold Pl.between
  refine ⟨?_, rfl⟩
  simp [Pl.pairs_cons, Pl.lcs_cons, Pl.pairs_nil_left, Pl.pairs_nil_right, Pl.lcs_nil_left, Pl.lcs_nil_right, Pl.bet, Pl.cut]

theorem Between_got (s t : ByteArray) (w : World) (hs : s.size ≤ 4000000) (ht : t.size ≤ 4000000) :
    Calls Try.prog 34 #[.string s, .string t] w fun e w' => ∃ B cb, e = .returned (.tuple #[.slice B (betOut (Pl.lines s.data.toList) (Pl.lines t.data.toList)).length cb, .int .i64 (betErr (Pl.lines s.data.toList) (Pl.lines t.data.toList))]) ∧
      Rd w' 3 B (betOut (Pl.lines s.data.toList) (Pl.lines t.data.toList)).length (edcs (betOut (Pl.lines s.data.toList) (Pl.lines t.data.toList))) ∧ Below w.heap.size w w' := Between_any s t w hs ht

theorem apply_alive : applyRes [97, 10, 98, 10, 99, 10] [⟨1, 2, [120, 10]⟩] = .tuple #[.string ⟨#[97, 10, 120, 10, 99, 10]⟩, .int .i64 0] := by
  unfold applyRes
  rw [if_pos (by decide)]
  rfl

set_option maxRecDepth 100000 in
set_option maxHeartbeats 1000000 in
theorem alive18_any (w : World) : Calls Try.prog 42 #[] w fun e w' => e = .returned (.bool true) ∧ Below w.heap.size w w' := by
  have C1 := Lib.hid (fun w => Between_got ⟨#[97, 10, 98, 10, 99, 10]⟩ ⟨#[97, 10, 120, 10, 99, 10]⟩ w (by decide) (by decide))
  rw [show (⟨#[97, 10, 98, 10, 99, 10]⟩ : ByteArray).data.toList = [97, 10, 98, 10, 99, 10] from rfl, show (⟨#[97, 10, 120, 10, 99, 10]⟩ : ByteArray).data.toList = [97, 10, 120, 10, 99, 10] from rfl, bet_alive.1, bet_alive.2] at C1
  have C2 := Lib.hid (fun A c w h => Apply_any ⟨#[97, 10, 98, 10, 99, 10]⟩ A c [⟨1, 2, [120, 10]⟩] w (by decide) h ⟨by decide, by decide⟩ (fun _ => by decide))
  rw [show (⟨#[97, 10, 98, 10, 99, 10]⟩ : ByteArray).data.toList = [97, 10, 98, 10, 99, 10] from rfl, apply_alive] at C2
  simp only [List.length_cons, List.length_nil, Nat.zero_add] at C1 C2
  have hq : ∀ w, (binOp .eql 41 (.agg #[.int .i64 1, .int .i64 2, .string (bs [120, 10])]) (.agg #[.int .i64 1, .int .i64 2, .string ⟨#[120, 10]⟩])).run Try.prog w = .ok (.bool true) w := fun w => by
    have h := eql_ed ⟨1, 2, [120, 10]⟩ ⟨1, 2, [120, 10]⟩ w
    rw [decide_eq_true rfl] at h
    exact h
  go_enter Try.func42, Try.ntmps42
  go_wp2_with (first
    | (go_at_call 34; with_reducible refine (C1.out _).mono ?_; rintro e w1 ⟨B, cb, rfl, hr, hb1⟩)
    | (go_at_call 25; with_reducible refine (C2.out _ _ _ hr).mono ?_; rintro e w2 ⟨rfl, hb2⟩; obtain ⟨b, o, rfl, hbk, c1, c2, c3⟩ := (hr.later hb2).ed (k := 0) rfl; simp only [Nat.zero_mul, Nat.add_zero] at c1 c2 c3))
  go_ret
  exact ⟨rfl, hb1.trans (hb2.mono hb1.size)⟩

end Go.Proofs.Ytnijaleedbmljaa
