/- The law SpansTold, walked. -/
import Derived.Test.YtccpjjhaeocfhaaDoorT2
import Derived.Test.YtccpjjhaeocfhaaDoorT4
import Derived.Test.YtccpjjhaeocfhaaDoorSpansBack
set_option linter.unusedVariables false
set_option linter.unusedSimpArgs false
namespace Go.Proofs.YtccpjjhaeocfhaaDoor
open Go Go.RowKit

theorem Text_all {A : Option Addr} {c : Nat} {l : List Sp.R} {w : World} (h : Rd w 2 A l.length (rgcs l)) (hl : l.length ≤ 1000000) (hp : Pow w) :
    Calls Tryd.prog 11 #[.slice A l.length c] w (TxRes l w) := by
  by_cases hok : Sp.ok l = true
  · refine (Text_yes h hl hp hok).mono ?_
    rintro e w' ⟨rfl, hb⟩
    unfold TxRes
    rw [if_pos hok, if_pos hok]
    exact ⟨rfl, hb⟩
  · refine (Text_no h hl hok).mono ?_
    rintro e w' ⟨rfl, hb⟩
    unfold TxRes
    rw [if_neg hok, if_neg hok]
    exact ⟨rfl, hb⟩
theorem parseL_len (t : Sp.T) : (Sp.parseL t).length ≤ 65536 := by
  unfold Sp.parseL
  split
  · simp
  · split
    · exact Sp.setOf_length _ _
    · simp

set_option maxRecDepth 100000 in
set_option maxHeartbeats 8000000 in
theorem SpansTold_any (s : ByteArray) (A : Option Addr) (c : Nat) (l : List Sp.R) (w : World) (hA : Rd w 2 A l.length (rgcs l)) (hl : l.length ≤ maxLen) (hp : Pow w) :
    Calls Tryd.prog 3 #[.string s, .slice A l.length c] w fun e w' => e = .returned (.bool true) ∧ Below w.heap.size w w' := by
  unfold maxLen at hl
  by_cases g1 : 1000 < s.size
  · go_enter Tryd.func3, Tryd.ntmps3
    go_wp2
    go_ret
    exact ⟨rfl, Below.refl _ _⟩
  by_cases g2 : 100 < l.length
  · go_enter Tryd.func3, Tryd.ntmps3
    go_wp2
    go_ret
    exact ⟨rfl, Below.refl _ _⟩
  have K1 := Lib.hid (fun W => Parse_any s W (by omega))
  have K2 := Lib.hid (fun W => refParse_any s W (by omega))
  have K3 := Lib.hid (fun W (hb : Below w.heap.size w W) => Text_all (c := c) (hA.later hb) (by omega) (hp.later hb))
  have K4 := Lib.hid (fun W (hb : Below w.heap.size w W) => refText_any A c l W (hA.later hb) (by omega))
  have LL := Lib.hid (parseL_len s.data.toList)
  unfold TxRes at K3 K4
  generalize Sp.parseL s.data.toList = L at *
  generalize Sp.parseE s.data.toList = er at *
  generalize bs (if Sp.ok l = true then Sp.textL l else []) = z at *
  generalize (if Sp.ok l = true then (0 : Int) else 2) = et at *
  go_enter Tryd.func3, Tryd.ntmps3
  go_wp2_with (first
    | (go_at_call 9; (with_reducible refine (K1.out _).mono ?_); rintro e w1 ⟨v1, rfl, q1⟩; obtain ⟨A1, c1, rfl, r1, b1⟩ := q1.get)
    | (go_at_call 10; (with_reducible refine (K2.out _).mono ?_); rintro e w2 ⟨v2, rfl, q2⟩; obtain ⟨A2, c2, rfl, r2, k2⟩ := q2.get; have b2 := b1.trans (k2.mono b1.size))
    | (go_at_call 11; (with_reducible refine (K3.out _ b2).mono ?_); rintro e w3 ⟨rfl, k3⟩; have b3 := b2.trans (k3.mono b2.size))
    | (go_at_call 12; (with_reducible refine (K4.out _ b3).mono ?_); rintro e w4 ⟨rfl, k4⟩; have b4 := b3.trans (k4.mono b3.size))
    | (go_at_call 13; (with_reducible refine (same_eq A1 A2 c1 c2 L _ (r1.later (k2.trans ((k3.trans (k4.mono k3.size)).mono k2.size))) (r2.later (k3.trans (k4.mono k3.size))) (by have := LL.out; omega)).mono ?_); rintro e w5 ⟨rfl, k5⟩; have b5 := b4.trans (k5.mono b4.size)))
  go_ret
  exact ⟨by simp, b5⟩

theorem pow_told {W : World} (hL : laidMetH Tryd.prog Rows.spansToldRow.laid W) : Pow W := by
  rw [MakeChecks.laidMetH_plain _ _ _ (by kernel_rfl)] at hL
  exact pow_laid hL

end Go.Proofs.YtccpjjhaeocfhaaDoor
