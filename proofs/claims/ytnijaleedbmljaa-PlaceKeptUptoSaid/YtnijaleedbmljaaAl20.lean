/- Walks: the first example of the chapter on places. -/
import Derived.Test.YtnijaleedbmljaaW21
set_option linter.unusedVariables false
set_option linter.unusedSimpArgs false
namespace Go.Proofs.Ytnijaleedbmljaa
open Go Go.RowKit

theorem prd_one (w : World) (f t : Int) (s : ByteArray) : Rd (w.alloc (.cells #[.int .i64 f, .int .i64 t, .string s] 41)) 3 (some ⟨w.heap.size, 0, none⟩) 1 (edcs [⟨f, t, s.data.toList⟩]) := by
  refine ⟨rfl, fun _ => ⟨w.heap.size, 0, rfl, by simp, fun j u hu => ?_⟩⟩
  have e : edcs [⟨f, t, s.data.toList⟩] = [.int .i64 f, .int .i64 t, .string s] := by simp [edcs, edc, bs_of]
  rw [e] at hu
  match j, hu with
  | 0, hu => simp at hu; subst hu; simp
  | 1, hu => simp at hu; subst hu; simp
  | 2, hu => simp at hu; subst hu; simp
theorem pbelow_one (w : World) (f t : Int) (s : ByteArray) : Below w.heap.size w (w.alloc (.cells #[.int .i64 f, .int .i64 t, .string s] 41)) := (Below.refl _ _).alloc (Nat.le_refl _) _
theorem psm_one (f t : Int) (s : ByteArray) (h : s.size ≤ 1000) : Sm [⟨f, t, s.data.toList⟩] := ⟨by simp, fun e he => by simp at he; subst he; simp only; rw [← Lib.size_eq]; omega⟩

theorem Move_one (s : ByteArray) (f t : Int) (x : ByteArray) (n : Int) (w : World) (v : Value) (hs : s.size ≤ 1000) (hx : x.size ≤ 1000) (hv : mvRes s.data.toList [⟨f, t, x.data.toList⟩] n = v) :
    Calls Try.prog 18 #[.string s, .slice (some ⟨w.heap.size, 0, none⟩) 1 1, .int .i64 n] (w.alloc (.cells #[.int .i64 f, .int .i64 t, .string x] 41)) fun e w' => e = .returned v ∧ Below w.heap.size w w' := by
  rw [← hv]
  exact (Move_all s _ 1 [⟨f, t, x.data.toList⟩] n _ (by omega) (prd_one w f t x) (psm_one f t x hx)).mono fun e w' ⟨h1, h2⟩ => ⟨h1, (pbelow_one w f t x).trans (h2.mono (by simp))⟩
theorem From_one (s : ByteArray) (f t : Int) (x : ByteArray) (n : Int) (w : World) (v : Value) (hs : s.size ≤ 1000) (hx : x.size ≤ 1000) (hv : frRes s.data.toList [⟨f, t, x.data.toList⟩] n = v) :
    Calls Try.prog 20 #[.string s, .slice (some ⟨w.heap.size, 0, none⟩) 1 1, .int .i64 n] (w.alloc (.cells #[.int .i64 f, .int .i64 t, .string x] 41)) fun e w' => e = .returned v ∧ Below w.heap.size w w' := by
  rw [← hv]
  exact (From_all s _ 1 [⟨f, t, x.data.toList⟩] n _ (by omega) (prd_one w f t x) (psm_one f t x hx)).mono fun e w' ⟨h1, h2⟩ => ⟨h1, (pbelow_one w f t x).trans (h2.mono (by simp))⟩
theorem Kept_one (s : ByteArray) (f t : Int) (x : ByteArray) (w : World) (o : List (Int × Int)) (er : Int) (hs : s.size ≤ 1000) (hx : x.size ≤ 1000) (hv : kpOut s.data.toList [⟨f, t, x.data.toList⟩] = o) (he : kpErr s.data.toList [⟨f, t, x.data.toList⟩] = er) :
    Calls Try.prog 22 #[.string s, .slice (some ⟨w.heap.size, 0, none⟩) 1 1] (w.alloc (.cells #[.int .i64 f, .int .i64 t, .string x] 41)) fun e w' => ∃ B cb, e = .returned (.tuple #[.slice B o.length cb, .int .i64 er]) ∧ Rd w' 2 B o.length (rgcs o) ∧ Below w.heap.size w w' := by
  rw [← hv, ← he]
  exact (Kept_all s _ 1 [⟨f, t, x.data.toList⟩] _ (by omega) (prd_one w f t x) (psm_one f t x hx)).mono fun e w' ⟨B, cb, h1, h3, h2⟩ => ⟨B, cb, h1, h3, (pbelow_one w f t x).trans (h2.mono (by simp))⟩

set_option maxHeartbeats 400000 in
theorem pone_any (w : World) : Calls Try.prog 41 #[] w fun e w' => e = .returned (.slice (some ⟨w.heap.size, 0, none⟩) 1 1) ∧ w.alloc (.cells #[.int .i64 1, .int .i64 2, .string ⟨#[120, 10]⟩] 41) = w' := by
  go_enter Try.func41, Try.ntmps41
  go_wp2
  go_ret
  exact ⟨rfl, rfl⟩

set_option maxRecDepth 100000 in
set_option maxHeartbeats 1000000 in
theorem alive20_any (w : World) : Calls Try.prog 36 #[] w fun e w' => e = .returned (.bool true) ∧ Below w.heap.size w w' := by
  have K1 := Lib.hid (fun w => Move_one ⟨#[97, 98, 10, 99, 100, 10, 101, 102, 10]⟩ 1 2 ⟨#[120, 10]⟩ 5 w (.tuple #[.int .i64 5, .int .i64 0]) (by decide) (by decide) (by unfold mvRes; rw [if_pos (by decide), if_neg (by decide)]; rfl))
  have K2 := Lib.hid (fun w => Move_one ⟨#[97, 98, 10, 99, 100, 10, 101, 102, 10]⟩ 1 2 ⟨#[120, 10]⟩ 9 w (.tuple #[.int .i64 8, .int .i64 0]) (by decide) (by decide) (by unfold mvRes; rw [if_pos (by decide), if_neg (by decide)]; rfl))
  have K3 := Lib.hid (fun w => From_one ⟨#[97, 98, 10, 99, 100, 10, 101, 102, 10]⟩ 1 2 ⟨#[120, 10]⟩ 5 w (.tuple #[.int .i64 6, .bool true, .int .i64 0]) (by decide) (by decide) (by unfold frRes; rw [if_pos (by decide), if_neg (by decide)]; rfl))
  go_enter Try.func36, Try.ntmps36
  go_wp2_with (first
    | (go_at_call 41; refine (pone_any _).mono ?_; rintro e w' ⟨rfl, rfl⟩)
    | (go_at_call 18; with_reducible refine (K1.out _).mono ?_; rintro e w1 ⟨rfl, hb1⟩)
    | (go_at_call 18; with_reducible refine (K2.out _).mono ?_; rintro e w2 ⟨rfl, hb2⟩; have hB2 := hb1.trans (hb2.mono hb1.size))
    | (go_at_call 20; with_reducible refine (K3.out _).mono ?_; rintro e w3 ⟨rfl, hb3⟩; have hB3 := hB2.trans (hb3.mono hB2.size)))
  go_ret
  exact ⟨rfl, hB3⟩

end Go.Proofs.Ytnijaleedbmljaa
