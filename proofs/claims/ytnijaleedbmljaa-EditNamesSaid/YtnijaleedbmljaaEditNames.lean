/- The law EditNames: the examples of the chapter on edits. -/
import Derived.Test.YtnijaleedbmljaaEditMakes
set_option linter.unusedVariables false
set_option linter.unusedSimpArgs false
namespace Go.Proofs.Ytnijaleedbmljaa
open Go Go.RowKit

/-- A list of one edit, as the walk makes it. -/
def one (w : World) (f t : Int) (s : ByteArray) : World := w.alloc (.cells #[.int .i64 f, .int .i64 t, .string s] 41)
theorem rd_one (w : World) (f t : Int) (s : ByteArray) : Rd (w.alloc (.cells #[.int .i64 f, .int .i64 t, .string s] 41)) 3 (some ⟨w.heap.size, 0, none⟩) 1 (edcs [⟨f, t, s.data.toList⟩]) := by
  refine ⟨rfl, fun _ => ⟨w.heap.size, 0, rfl, by simp, fun j u hu => ?_⟩⟩
  have e : edcs [⟨f, t, s.data.toList⟩] = [.int .i64 f, .int .i64 t, .string s] := by simp [edcs, edc, bs_of]
  rw [e] at hu
  match j, hu with
  | 0, hu => simp at hu; subst hu; simp
  | 1, hu => simp at hu; subst hu; simp
  | 2, hu => simp at hu; subst hu; simp
theorem below_one (w : World) (f t : Int) (s : ByteArray) : Below w.heap.size w (w.alloc (.cells #[.int .i64 f, .int .i64 t, .string s] 41)) := (Below.refl _ _).alloc (Nat.le_refl _) _

theorem sm_one (f t : Int) (s : ByteArray) (h : s.size ≤ 1000) : Sm [⟨f, t, s.data.toList⟩] := ⟨by simp, fun e he => by simp at he; subst he; simp only; rw [← Lib.size_eq]; omega⟩

theorem Apply_one (s : ByteArray) (f t : Int) (x : ByteArray) (w : World) (v : Value) (hs : s.size ≤ 1000) (hx : x.size ≤ 1000) (hv : applyRes s.data.toList [⟨f, t, x.data.toList⟩] = v) (hap : (Pl.app (Pl.lines s.data.toList) 0 [⟨f, t, x.data.toList⟩]).length ≤ 1000) :
    Calls Try.prog 25 #[.string s, .slice (some ⟨w.heap.size, 0, none⟩) 1 1] (w.alloc (.cells #[.int .i64 f, .int .i64 t, .string x] 41)) fun e w' => e = .returned v ∧ Below w.heap.size w w' := by
  rw [← hv]
  exact (Apply_any s _ 1 [⟨f, t, x.data.toList⟩] _ (by omega) (rd_one w f t x) (sm_one f t x hx) (fun _ => by omega)).mono fun e w' ⟨h1, h2⟩ => ⟨h1, (below_one w f t x).trans (h2.mono (by simp))⟩
theorem Size_one (s : ByteArray) (f t : Int) (x : ByteArray) (w : World) (v : Value) (hs : s.size ≤ 1000) (hx : x.size ≤ 1000) (hv : sizeRes s.data.toList [⟨f, t, x.data.toList⟩] = v) :
    Calls Try.prog 29 #[.string s, .slice (some ⟨w.heap.size, 0, none⟩) 1 1] (w.alloc (.cells #[.int .i64 f, .int .i64 t, .string x] 41)) fun e w' => e = .returned v ∧ Below w.heap.size w w' := by
  rw [← hv]
  exact (Size_any s _ 1 [⟨f, t, x.data.toList⟩] _ (by omega) (rd_one w f t x) (sm_one f t x hx)).mono fun e w' ⟨h1, h2⟩ => ⟨h1, (below_one w f t x).trans (h2.mono (by simp))⟩
theorem Back_one (s : ByteArray) (f t : Int) (x : ByteArray) (w : World) (l : List Pl.Ed) (er : Int) (hs : s.size ≤ 1000) (hx : x.size ≤ 1000) (hv : backOut s.data.toList [⟨f, t, x.data.toList⟩] = l) (he : backErr s.data.toList [⟨f, t, x.data.toList⟩] = er) :
    Calls Try.prog 27 #[.string s, .slice (some ⟨w.heap.size, 0, none⟩) 1 1] (w.alloc (.cells #[.int .i64 f, .int .i64 t, .string x] 41)) fun e w' => ∃ B cb, e = .returned (.tuple #[.slice B l.length cb, .int .i64 er]) ∧ Rd w' 3 B l.length (edcs l) ∧ Below w.heap.size w w' := by
  rw [← hv, ← he]
  exact (Back_any s _ 1 [⟨f, t, x.data.toList⟩] _ (by omega) (rd_one w f t x) (sm_one f t x hx)).mono fun e w' ⟨B, cb, h1, h3, h2⟩ => ⟨B, cb, h1, h3, (below_one w f t x).trans (h2.mono (by simp))⟩

theorem bet_names : betOut (Pl.lines [97, 10, 98, 10]) (Pl.lines [98, 10, 97, 10]) = [⟨0, 1, []⟩, ⟨2, 2, [97, 10]⟩] ∧ betErr (Pl.lines [97, 10, 98, 10]) (Pl.lines [98, 10, 97, 10]) = 0 := by
  have e1 : Pl.lines [97, 10, 98, 10] = [[97, 10], [98, 10]] := by rfl
  have e2 : Pl.lines [98, 10, 97, 10] = [[98, 10], [97, 10]] := by rfl
  rw [e1, e2]
  unfold betOut betErr
  rw [if_neg (by decide), if_neg (by decide)]
  unfold Pl.between
  refine ⟨?_, rfl⟩
  simp [Pl.pairs_cons, Pl.lcs_cons, Pl.pairs_nil_left, Pl.pairs_nil_right, Pl.lcs_nil_left, Pl.lcs_nil_right, Pl.bet, Pl.cut]

theorem eql_at (f t : Int) (x : Pl.T) (s : ByteArray) (h : s = bs x) (w : World) : (binOp .eql 41 (.agg #[.int .i64 f, .int .i64 t, .string (bs x)]) (.agg #[.int .i64 f, .int .i64 t, .string s])).run Try.prog w = .ok (.bool true) w := by
  have h2 := eql_ed ⟨f, t, x⟩ ⟨f, t, x⟩ w
  rw [decide_eq_true rfl] at h2
  rw [h]; exact h2

set_option maxRecDepth 100000 in
set_option maxHeartbeats 4000000 in
theorem EditNames_any (w : World) : Calls Try.prog 13 #[] w fun e w' => e = .returned (.bool true) ∧ Below w.heap.size w w' := by
  have K1 := Lib.hid (fun w => Between_got ⟨#[97, 10, 98, 10]⟩ ⟨#[98, 10, 97, 10]⟩ w (by decide) (by decide))
  rw [show (⟨#[97, 10, 98, 10]⟩ : ByteArray).data.toList = [97, 10, 98, 10] from rfl, show (⟨#[98, 10, 97, 10]⟩ : ByteArray).data.toList = [98, 10, 97, 10] from rfl, bet_names.1, bet_names.2] at K1
  simp only [List.length_cons, List.length_nil, Nat.zero_add, Nat.reduceAdd] at K1
  have K2 := Lib.hid (fun w => Apply_one ⟨#[97, 10, 98]⟩ 1 2 ⟨#[99]⟩ w (.tuple #[.string ⟨#[97, 10, 99]⟩, .int .i64 0]) (by decide) (by decide) (by unfold applyRes; rw [if_pos (by decide)]; rfl) (by decide))
  have K3 := Lib.hid (fun w => Apply_one ⟨#[97, 10, 98]⟩ 2 2 ⟨#[99]⟩ w (.tuple #[.string (bs []), .int .i64 180]) (by decide) (by decide) (by unfold applyRes; rw [if_neg (by decide)]) (by decide))
  have K4 := Lib.hid (fun w => Back_one ⟨#[97, 10, 98, 10, 99, 10]⟩ 1 2 ⟨#[120, 10, 121, 10]⟩ w [⟨1, 3, [98, 10]⟩] 0 (by decide) (by decide) (by unfold backOut; rw [if_pos (by decide)]; rfl) (by unfold backErr; rw [if_pos (by decide)]))
  simp only [List.length_cons, List.length_nil, Nat.zero_add] at K4
  have K5 := Lib.hid (fun w => Size_one ⟨#[97, 10, 98, 10, 99, 10]⟩ 1 2 ⟨#[120, 10, 121, 10]⟩ w (.tuple #[.int .i64 1, .int .i64 2, .int .i64 0]) (by decide) (by decide) (by unfold sizeRes; rw [if_pos (by decide)]; rfl))
  have K6 := Lib.hid (fun w => Apply_one ⟨#[97, 10]⟩ 0 0 ⟨#[]⟩ w (.tuple #[.string (bs []), .int .i64 180]) (by decide) (by decide) (by unfold applyRes; rw [if_neg (by decide)]) (by decide))
  have K7 := Lib.hid (fun w => Apply_one ⟨#[97, 10]⟩ 0 0 ⟨#[98]⟩ w (.tuple #[.string (bs []), .int .i64 180]) (by decide) (by decide) (by unfold applyRes; rw [if_neg (by decide)]) (by decide))
  have K8 := Lib.hid (fun w => Back_one ⟨#[97, 10]⟩ (-1) 0 ⟨#[98, 10]⟩ w [] 180 (by decide) (by decide) (by unfold backOut; rw [if_neg (by decide)]) (by unfold backErr; rw [if_neg (by decide)]))
  have K9 := Lib.hid (fun w => Size_one ⟨#[97, 10]⟩ 0 2 ⟨#[98, 10]⟩ w (.tuple #[.int .i64 0, .int .i64 0, .int .i64 180]) (by decide) (by decide) (by unfold sizeRes; rw [if_neg (by decide)]))
  have q1 := fun w => eql_at 0 1 [] ⟨#[]⟩ rfl w
  have q2 := fun w => eql_at 2 2 [97, 10] ⟨#[97, 10]⟩ rfl w
  have q3 := fun w => eql_at 1 3 [98, 10] ⟨#[98, 10]⟩ rfl w
  go_enter Try.func13, Try.ntmps13
  go_wp2_with (first
    | (go_at_call 34; with_reducible refine (K1.out _).mono ?_; rintro e w1 ⟨B1, cb1, rfl, r1, hB1⟩)
    | (go_at_call 25; with_reducible refine (K2.out _).mono ?_; rintro e w2 ⟨rfl, hb2⟩; have hB2 := hB1.trans (hb2.mono hB1.size); have r1 := r1.later hb2)
    | (go_at_call 25; with_reducible refine (K3.out _).mono ?_; rintro e w3 ⟨rfl, hb3⟩; have hB3 := hB2.trans (hb3.mono hB2.size); have r1 := r1.later hb3)
    | (go_at_call 27; with_reducible refine (K4.out _).mono ?_; rintro e w4 ⟨B4, cb4, rfl, r4, hb4⟩; have hB4 := hB3.trans (hb4.mono hB3.size); have r1 := r1.later hb4)
    | (go_at_call 29; with_reducible refine (K5.out _).mono ?_; rintro e w5 ⟨rfl, hb5⟩; have hB5 := hB4.trans (hb5.mono hB4.size); have r1 := r1.later hb5; have r4 := r4.later hb5)
    | (go_at_call 25; with_reducible refine (K6.out _).mono ?_; rintro e w6 ⟨rfl, hb6⟩; have hB6 := hB5.trans (hb6.mono hB5.size); have r1 := r1.later hb6; have r4 := r4.later hb6)
    | (go_at_call 25; with_reducible refine (K7.out _).mono ?_; rintro e w7 ⟨rfl, hb7⟩; have hB7 := hB6.trans (hb7.mono hB6.size); have r1 := r1.later hb7; have r4 := r4.later hb7)
    | (go_at_call 27; with_reducible refine (K8.out _).mono ?_; rintro e w8 ⟨B8, cb8, rfl, r8, hb8⟩; have hB8 := hB7.trans (hb8.mono hB7.size); have r1 := r1.later hb8; have r4 := r4.later hb8)
    | (go_at_call 29; with_reducible refine (K9.out _).mono ?_; rintro e w9 ⟨rfl, hb9⟩; have hB9 := hB8.trans (hb9.mono hB8.size); have r1 := r1.later hb9; have r4 := r4.later hb9; obtain ⟨b, o, rfl, hbk, c1, c2, c3⟩ := r1.ed (k := 0) rfl; obtain ⟨b', o', e', hbk', d1, d2, d3⟩ := r1.ed (k := 1) rfl; obtain ⟨b4, o4, rfl, hbk4, x1, x2, x3⟩ := r4.ed (k := 0) rfl; simp only [Option.some.injEq, Addr.mk.injEq, and_true] at e'; obtain ⟨rfl, rfl⟩ := e'; simp only [Nat.zero_mul, Nat.add_zero, Nat.one_mul] at c1 c2 c3 d1 d2 d3 x1 x2 x3)
    | (go_at_call 42; refine (alive18_any _).mono ?_; rintro e w10 ⟨rfl, hb10⟩; have hB10 := hB9.trans (hb10.mono hB9.size)))
  go_ret
  exact ⟨rfl, hB10⟩

end Go.Proofs.Ytnijaleedbmljaa
