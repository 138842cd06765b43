/- The law PlaceNames: the examples of the chapter on places; what is refused. -/
import Derived.Test.YtnijaleedbmljaaPlaceLines
set_option linter.unusedVariables false
set_option linter.unusedSimpArgs false
namespace Go.Proofs.Ytnijaleedbmljaa
open Go Go.RowKit

theorem eql_rg (a b : Int) (w : World) : (binOp .eql 70 (.agg #[.int .i64 a, .int .i64 b]) (.agg #[.int .i64 a, .int .i64 b])).run Try.prog w = .ok (.bool true) w := by
  rw [run_eql_struct]
  simp [go_sem]

set_option maxRecDepth 100000 in
set_option maxHeartbeats 4000000 in
theorem PlaceNames_any (w : World) : Calls Try.prog 8 #[] w fun e w' => e = .returned (.bool true) ∧ Below w.heap.size w w' := by
  have M1 := Lib.hid (fun w => Move_one ⟨#[97, 98, 10, 99, 100, 10, 101, 102, 10]⟩ 1 2 ⟨#[120, 10]⟩ 4 w (.tuple #[.int .i64 4, .int .i64 0]) (by decide) (by decide) (by unfold mvRes; rw [if_pos (by decide), if_neg (by decide)]; rfl))
  have M2 := Lib.hid (fun w => Move_one ⟨#[97, 98, 10, 99, 100, 10, 101, 102, 10]⟩ 1 2 ⟨#[120, 10]⟩ 6 w (.tuple #[.int .i64 5, .int .i64 0]) (by decide) (by decide) (by unfold mvRes; rw [if_pos (by decide), if_neg (by decide)]; rfl))
  have F1 := Lib.hid (fun w => From_one ⟨#[97, 98, 10, 99, 100, 10, 101, 102, 10]⟩ 1 2 ⟨#[120, 10]⟩ 3 w (.tuple #[.int .i64 3, .bool false, .int .i64 0]) (by decide) (by decide) (by unfold frRes; rw [if_pos (by decide), if_neg (by decide)]; rfl))
  have A1 := Lib.hid (fun w => At_any ⟨#[97, 98, 10, 99, 100, 10, 101, 102, 10]⟩ 1 1 w (by decide) (by decide))
  rw [show atRes (⟨#[97, 98, 10, 99, 100, 10, 101, 102, 10]⟩ : ByteArray).data.toList 1 1 = .tuple #[.int .i64 4, .int .i64 0] from by rfl] at A1
  have O1 := Lib.hid (fun w => Of_got ⟨#[97, 98, 10, 99, 100, 10, 101, 102, 10]⟩ 4 w (by decide) 1 1 0 (by rfl))
  have A2 := Lib.hid (fun w => At_any ⟨#[97, 98, 10, 99, 100, 10, 101, 102, 10]⟩ 1 3 w (by decide) (by decide))
  rw [show atRes (⟨#[97, 98, 10, 99, 100, 10, 101, 102, 10]⟩ : ByteArray).data.toList 1 3 = .tuple #[.int .i64 0, .int .i64 2] from by rfl] at A2
  have P1 := Lib.hid (fun w => Kept_one ⟨#[97, 98, 10, 99, 100, 10, 101, 102, 10]⟩ 1 2 ⟨#[120, 10]⟩ w [(0, 3), (6, 9)] 0 (by decide) (by decide) (by unfold kpOut; rw [if_pos (by decide)]; rfl) (by unfold kpErr; rw [if_pos (by decide)]))
  simp only [List.length_cons, List.length_nil, Nat.zero_add, Nat.reduceAdd] at P1
  have M3 := Lib.hid (fun w => Move_one ⟨#[97, 98, 10, 99, 100, 10, 101, 102, 10]⟩ 1 2 ⟨#[120, 10]⟩ 10 w (.tuple #[.int .i64 0, .int .i64 2]) (by decide) (by decide) (by unfold mvRes; rw [if_pos (by decide), if_pos (by decide)]))
  have M4 := Lib.hid (fun w => Move_one ⟨#[97, 98, 10, 99, 100, 10, 101, 102, 10]⟩ 0 0 ⟨#[]⟩ 0 w (.tuple #[.int .i64 0, .int .i64 180]) (by decide) (by decide) (by unfold mvRes; rw [if_neg (by decide)]))
  have F2 := Lib.hid (fun w => From_one ⟨#[97, 98, 10, 99, 100, 10, 101, 102, 10]⟩ 1 2 ⟨#[120, 10]⟩ 9 w (.tuple #[.int .i64 0, .bool false, .int .i64 2]) (by decide) (by decide) (by unfold frRes; rw [if_pos (by decide), if_pos (by decide)]))
  have F3 := Lib.hid (fun w => From_one ⟨#[97, 98, 10, 99, 100, 10, 101, 102, 10]⟩ 0 0 ⟨#[]⟩ 0 w (.tuple #[.int .i64 0, .bool false, .int .i64 180]) (by decide) (by decide) (by unfold frRes; rw [if_neg (by decide)]))
  have P2 := Lib.hid (fun w => Kept_one ⟨#[97, 98, 10, 99, 100, 10, 101, 102, 10]⟩ 0 0 ⟨#[]⟩ w [] 180 (by decide) (by decide) (by unfold kpOut; rw [if_neg (by decide)]) (by unfold kpErr; rw [if_neg (by decide)]))
  have O2 := Lib.hid (fun w => Of_got ⟨#[97, 98, 10, 99, 100, 10, 101, 102, 10]⟩ (-1) w (by decide) 0 0 2 (by rfl))
  have A3 := Lib.hid (fun w => At_any ⟨#[97, 98, 10, 99, 100, 10, 101, 102, 10]⟩ (-1) 0 w (by decide) (by decide))
  rw [show atRes (⟨#[97, 98, 10, 99, 100, 10, 101, 102, 10]⟩ : ByteArray).data.toList (-1) 0 = .tuple #[.int .i64 0, .int .i64 2] from by rfl] at A3
  have A4 := Lib.hid (fun w => At_any ⟨#[97, 98, 10, 99, 100, 10, 101, 102, 10]⟩ 3 0 w (by decide) (by decide))
  rw [show atRes (⟨#[97, 98, 10, 99, 100, 10, 101, 102, 10]⟩ : ByteArray).data.toList 3 0 = .tuple #[.int .i64 9, .int .i64 0] from by rfl] at A4
  have q1 := fun w => eql_rg 0 3 w
  have q2 := fun w => eql_rg 6 9 w
  go_enter Try.func8, Try.ntmps8
  go_wp2_with (first
    | (go_at_call 41; refine (pone_any _).mono ?_; rintro e w' ⟨rfl, rfl⟩)
    | (go_at_call 18; with_reducible refine (M1.out _).mono ?_; rintro e w1 ⟨rfl, B1⟩)
    | (go_at_call 18; with_reducible refine (M2.out _).mono ?_; rintro e w2 ⟨rfl, b⟩; have B2 := B1.trans (b.mono B1.size); clear b)
    | (go_at_call 20; with_reducible refine (F1.out _).mono ?_; rintro e w3 ⟨rfl, b⟩; have B3 := B2.trans (b.mono B2.size); clear b)
    | (go_at_call 39; with_reducible refine (A1.out _).mono ?_; rintro e w' ⟨rfl, rfl⟩)
    | (go_at_call 37; with_reducible refine (O1.out _).mono ?_; rintro e w4 ⟨rfl, b⟩; have B4 := B3.trans (b.mono B3.size); clear b)
    | (go_at_call 39; with_reducible refine (A2.out _).mono ?_; rintro e w' ⟨rfl, rfl⟩)
    | (go_at_call 22; with_reducible refine (P1.out _).mono ?_; rintro e w5 ⟨X, cx, rfl, r5, b⟩; have B5 := B4.trans (b.mono B4.size); clear b)
    | (go_at_call 18; with_reducible refine (M3.out _).mono ?_; rintro e w6 ⟨rfl, b⟩; have B6 := B5.trans (b.mono B5.size); have r6 := r5.later b; clear b)
    | (go_at_call 18; with_reducible refine (M4.out _).mono ?_; rintro e w7 ⟨rfl, b⟩; have B7 := B6.trans (b.mono B6.size); have r7 := r6.later b; clear b)
    | (go_at_call 20; with_reducible refine (F2.out _).mono ?_; rintro e w8 ⟨rfl, b⟩; have B8 := B7.trans (b.mono B7.size); have r8 := r7.later b; clear b)
    | (go_at_call 20; with_reducible refine (F3.out _).mono ?_; rintro e w9 ⟨rfl, b⟩; have B9 := B8.trans (b.mono B8.size); have r9 := r8.later b; clear b)
    | (go_at_call 22; with_reducible refine (P2.out _).mono ?_; rintro e w10 ⟨Y, cy, rfl, _, b⟩; have B10 := B9.trans (b.mono B9.size); have r10 := r9.later b; clear b)
    | (go_at_call 37; with_reducible refine (O2.out _).mono ?_; rintro e w11 ⟨rfl, b⟩; have B11 := B10.trans (b.mono B10.size); have r11 := r10.later b; clear b)
    | (go_at_call 39; with_reducible refine (A3.out _).mono ?_; rintro e w' ⟨rfl, rfl⟩)
    | (go_at_call 39; with_reducible refine (A4.out _).mono ?_; rintro e w' ⟨rfl, rfl⟩)
    | (go_at_call 36; refine (alive20_any _).mono ?_; rintro e w12 ⟨rfl, b⟩; have B12 := B11.trans (b.mono B11.size); have r12 := r11.later b; clear b; obtain ⟨kb, ko, rfl, hkb, c1, c2⟩ := r12.rg (k := 0) rfl; obtain ⟨kb', ko', e', hkb', d1, d2⟩ := r12.rg (k := 1) rfl; simp only [Option.some.injEq, Addr.mk.injEq, and_true] at e'; obtain ⟨rfl, rfl⟩ := e'; simp only [Nat.zero_mul, Nat.add_zero, Nat.one_mul] at c1 c2 d1 d2))
  go_ret
  exact ⟨rfl, B12⟩

end Go.Proofs.Ytnijaleedbmljaa
