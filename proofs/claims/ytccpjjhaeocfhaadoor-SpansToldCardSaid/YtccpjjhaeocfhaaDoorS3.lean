/- Walks: whether a set meets some lines. -/
import Derived.Test.YtccpjjhaeocfhaaDoorS2
set_option linter.unusedVariables false
set_option linter.unusedSimpArgs false
namespace Go.Proofs.YtccpjjhaeocfhaaDoor
open Go Go.RowKit

/-- Does a set meet the lines from `a` on, below `b`? -/
def meetsB (l : List Sp.R) (a b : Int) : Bool := if a = b then hasB l a || (decide (0 < a) && hasB l (a - 1)) else Sp.ok l && Sp.meets l a b
theorem meets_yes {f t a b : Int} {r : List Sp.R} (h : max f a < min t b) : Sp.meets ((f, t) :: r) a b = true := by simp [Sp.meets, h]
theorem meets_no {f t a b : Int} {r : List Sp.R} (h : ¬ max f a < min t b) : Sp.meets ((f, t) :: r) a b = Sp.meets r a b := by
  simp only [Sp.meets, List.any_cons, h, decide_false, Bool.false_or]

set_option maxHeartbeats 1600000 in
theorem Meets_any (A : Option Addr) (c : Nat) (l : List Sp.R) (a b : Int) (w : World) (h : Rd w 2 A l.length (rgcs l)) (hl : l.length ≤ 1000000000) (ha : -9223372036854775808 ≤ a) (ha2 : a ≤ 9223372036854775807) :
    Calls Tryd.prog 20 #[.slice A l.length c, .int .i64 a, .int .i64 b] w fun e w' => e = .returned (.bool (meetsB l a b)) ∧ Below w.heap.size w w' := by
  by_cases hab : a = b
  · have hab' : (a == b) = true := by simpa using hab
    have HB := Lib.hid (show meetsB l a b = (hasB l a || (decide (0 < a) && hasB l (a - 1))) by unfold meetsB; rw [if_pos hab])
    clear hab
    have H1 := Lib.hid (Has_any A c l a w h hl)
    by_cases q1 : hasB l a = true
    · rw [q1] at H1 HB
      clear q1
      go_enter Tryd.func20, Tryd.ntmps20
      go_wp2_with (go_at_call 16; refine H1.out.mono ?_; rintro e w1 ⟨rfl, hb1⟩)
      go_ret
      exact ⟨ret_bool (by rw [HB.out]; simp), hb1⟩
    · have q1' : hasB l a = false := by simpa using q1
      rw [q1'] at H1 HB
      clear q1 q1'
      by_cases h0 : 0 < a
      · have H2 := Lib.hid (fun w1 hb => Has_any A c l (a - 1) w1 (h.later hb) hl)
        generalize hasB l (a - 1) = z at H2 HB
        go_enter Tryd.func20, Tryd.ntmps20
        go_wp2_with (first | (go_at_call 16; (with_reducible refine H1.out.mono ?_); rintro e w1 ⟨rfl, hb1⟩) | (go_at_call 16; (with_reducible refine (H2.out _ hb1).mono ?_); rintro e w2 ⟨rfl, hb2⟩))
        go_ret
        exact ⟨ret_bool (by rw [HB.out, decide_eq_true h0]; simp), hb1.trans (hb2.mono hb1.size)⟩
      · go_enter Tryd.func20, Tryd.ntmps20
        go_wp2_with (go_at_call 16; refine H1.out.mono ?_; rintro e w1 ⟨rfl, hb1⟩)
        go_ret
        exact ⟨ret_bool (by rw [HB.out, decide_eq_false (show ¬ 0 < a by omega)]; simp), hb1⟩
  · have hab' : (a == b) = false := by simpa using hab
    have HB := Lib.hid (show meetsB l a b = (Sp.ok l && Sp.meets l a b) by unfold meetsB; rw [if_neg hab])
    clear hab
    have IC := Lib.hid (isSet_any A c l w h hl)
    by_cases hok : Sp.ok l = true
    · rw [hok] at IC HB
      clear hok
      go_enter Tryd.func20, Tryd.ntmps20
      go_wp2_with (go_at_call 30; refine IC.out.mono ?_; rintro e w1 ⟨rfl, hb1⟩)
      go_loopw [30] (fun j wr => ∃ (k : Nat), k ≤ l.length ∧ j = .int .i64 k ∧ Hid (Sp.meets l a b = Sp.meets (l.drop k) a b) ∧ Below w.heap.size w wr) (fun j _ => l.length - (intOf j).toNat)
      case atStart => exact ⟨0, Nat.zero_le _, rfl, Lib.hid (by simp), hb1⟩
      case round =>
        obtain ⟨k, hk, rfl, HF, hb⟩ := hrel
        by_cases hlt : k < l.length
        · obtain ⟨b1, o1, rfl, _, c1, c2⟩ := (h.later hb).rg (k := k) (List.getElem?_eq_getElem hlt)
          have HF2 : Hid (Sp.meets l a b = Sp.meets (l[k] :: l.drop (k + 1)) a b) := Lib.hid (by rw [HF.out, List.drop_eq_getElem_cons hlt])
          clear HF
          generalize l[k] = r at c1 c2 HF2
          obtain ⟨f, t⟩ := r
          simp only at c1 c2
          by_cases g1 : max f a < min t b
          · have HE := Lib.hid (meets_yes (r := l.drop (k + 1)) g1)
            go_wp2
            all_goals
              go_ret
              exact ⟨ret_bool (by rw [HB.out, HF2.out, HE.out]; rfl), hb.alloc hb.size _⟩
          · have HE := Lib.hid (meets_no (r := l.drop (k + 1)) g1)
            go_wp2
            all_goals
              go_roundw
              case rel => exact ⟨k + 1, by omega, by go_num, Lib.hid (by rw [HF2.out, HE.out]), hb.alloc hb.size _⟩
              case measure => simp [intOf]; omega
        · have HE := Lib.hid (show Sp.meets l a b = false by rw [HF.out, List.drop_of_length_le (by omega)]; rfl)
          go_wp2
          go_ret
          exact ⟨ret_bool (by rw [HB.out, HE.out]; rfl), hb⟩
    · have hf : Sp.ok l = false := by simpa using hok
      rw [hf] at IC HB
      clear hok hf
      go_enter Tryd.func20, Tryd.ntmps20
      go_wp2_with (go_at_call 30; refine IC.out.mono ?_; rintro e w1 ⟨rfl, hb1⟩)
      go_ret
      exact ⟨ret_bool (by rw [HB.out]; rfl), hb1⟩

end Go.Proofs.YtccpjjhaeocfhaaDoor
