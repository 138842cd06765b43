/- Walks: two lists of ranges held against each other; whether ranges are a set (the program's and the document's); whether they have a line; whether they meet some. -/
import Derived.Test.YtccpjjhaeocfhaaDoorSb
set_option linter.unusedVariables false
set_option linter.unusedSimpArgs false
namespace Go.Proofs.YtccpjjhaeocfhaaDoor
open Go Go.RowKit

theorem take_succ_eq {α : Type} {l m : List α} {k : Nat} (h : l.take k = m.take k) (hl : k < l.length) (hm : k < m.length) (e : l[k] = m[k]) : l.take (k + 1) = m.take (k + 1) := by
  rw [List.take_succ_eq_append_getElem hl, List.take_succ_eq_append_getElem hm, h, e]

set_option maxHeartbeats 400000 in
theorem same19_any (A B : Option Addr) (c d : Nat) (l m : List (Int × Int)) (w : World) (h : Rd w 2 A l.length (rgcs l)) (g : Rd w 2 B m.length (rgcs m)) (hl : l.length ≤ 1000000000) (hm : m.length ≤ 1000000000) :
    Calls Tryd.prog 13 #[.slice A l.length c, .slice B m.length d] w fun e w' => e = .returned (.bool (decide (l = m))) ∧ Below w.heap.size w w' := by
  by_cases hlm : l.length = m.length
  · have HL := Lib.hid hlm
    go_enter Tryd.func13, Tryd.ntmps13
    go_wp2
    go_loopw [5] (fun i wr => ∃ k : Nat, k ≤ l.length ∧ i = .int .i64 k ∧ l.take k = m.take k ∧ Below w.heap.size w wr) (fun i _ => l.length - (intOf i).toNat)
    case atStart => exact ⟨0, Nat.zero_le _, rfl, by simp, Below.refl _ _⟩
    case round =>
      obtain ⟨k, hk, rfl, ht, hb⟩ := hrel
      have HT := Lib.hid ht; clear ht
      by_cases hlt : k < l.length
      · have hltm : k < m.length := by omega
        obtain ⟨b1, o1, rfl, _, c1, c2⟩ := (h.later hb).rg (k := k) (List.getElem?_eq_getElem hlt)
        obtain ⟨b2, o2, rfl, _, d1, d2⟩ := (g.later hb).rg (k := k) (List.getElem?_eq_getElem hltm)
        have hq := fun w => neq_rg l[k] m[k] w
        by_cases he : l[k] = m[k]
        · have hq2 : decide (l[k] ≠ m[k]) = false := by simpa using he
          simp only [hq2] at hq
          have HE := Lib.hid he
          clear he hq2
          go_wp2
          go_quiet (fail)
          go_wp2
          go_roundw
          case rel => exact ⟨k + 1, by omega, by go_num, take_succ_eq HT.out (by omega) hltm HE.out, below_drewN hb _⟩
          case measure => simp [intOf]; omega
        · have hq2 : decide (l[k] ≠ m[k]) = true := by simpa using he
          simp only [hq2] at hq
          have HE := Lib.hid he
          clear he hq2
          go_wp2
          go_quiet (fail)
          go_wp2
          go_ret
          exact ⟨ret_bool (by symm; rw [decide_eq_false_iff_not]; intro e; subst e; exact HE.out rfl), below_drewN hb _⟩
      · go_wp2
        go_ret
        exact ⟨ret_bool (by
          have h1 := HT.out
          have h2 := HL.out
          rw [List.take_of_length_le (by omega), List.take_of_length_le (by omega)] at h1
          simpa using h1), hb⟩
  · have hlm' : ((l.length : Int) == (m.length : Int)) = false := by rw [beq_eq_false_iff_ne]; omega
    go_enter Tryd.func13, Tryd.ntmps13
    go_wp2
    go_ret
    exact ⟨ret_bool (by symm; rw [decide_eq_false_iff_not]; intro e; subst e; exact hlm rfl), Below.refl _ _⟩

theorem okFrom_bad {last f t : Int} {r : List Sp.R} (h : f ≤ last ∨ f < 0 ∨ t ≤ f ∨ 65536 < t) : Sp.okFrom last ((f, t) :: r) = false := by
  rw [Bool.eq_false_iff]
  intro e
  have := Sp.okFrom_cons e
  simp only at this
  omega
theorem okFrom_good {last f t : Int} {r : List Sp.R} (h1 : last < f) (h2 : 0 ≤ f) (h3 : f < t) (h4 : t ≤ 65536) : Sp.okFrom last ((f, t) :: r) = Sp.okFrom t r := by
  simp [Sp.okFrom, h1, h2, h3, h4]

set_option maxHeartbeats 800000 in
theorem isSet_any (A : Option Addr) (c : Nat) (l : List Sp.R) (w : World) (h : Rd w 2 A l.length (rgcs l)) (hl : l.length ≤ 1000000000) :
    Calls Tryd.prog 30 #[.slice A l.length c] w fun e w' => e = .returned (.bool (Sp.ok l)) ∧ Below w.heap.size w w' := by
  go_enter Tryd.func30, Tryd.ntmps30
  go_wp2
  go_loopw [3, 8] (fun la i wr => ∃ (k : Nat) (last : Int), k ≤ l.length ∧ i = .int .i64 k ∧ la = .int .i64 last ∧ Hid (Sp.ok l = Sp.okFrom last (l.drop k)) ∧ Below w.heap.size w wr) (fun _ i _ => l.length - (intOf i).toNat)
  case atStart => exact ⟨0, -1, Nat.zero_le _, rfl, rfl, Lib.hid (by simp [Sp.ok]), Below.refl _ _⟩
  case round =>
    obtain ⟨k, last, hk, rfl, rfl, HF, hb⟩ := hrel
    by_cases hlt : k < l.length
    · obtain ⟨b1, o1, rfl, _, c1, c2⟩ := (h.later hb).rg (k := k) (List.getElem?_eq_getElem hlt)
      have HF2 : Hid (Sp.ok l = Sp.okFrom last (l[k] :: l.drop (k + 1))) := Lib.hid (by rw [HF.out, List.drop_eq_getElem_cons hlt])
      clear HF
      generalize l[k] = r at c1 c2 HF2
      obtain ⟨f, t⟩ := r
      simp only at c1 c2
      by_cases g1 : f ≤ last
      · go_wp2
        go_ret
        exact ⟨ret_bool (by rw [HF2.out, okFrom_bad (.inl g1)]), hb.alloc hb.size _⟩
      by_cases g2 : f < 0
      · go_wp2
        go_ret
        exact ⟨ret_bool (by rw [HF2.out, okFrom_bad (.inr (.inl g2))]), hb.alloc hb.size _⟩
      by_cases g3 : t ≤ f
      · go_wp2
        go_ret
        exact ⟨ret_bool (by rw [HF2.out, okFrom_bad (.inr (.inr (.inl g3)))]), hb.alloc hb.size _⟩
      by_cases g4 : 65536 < t
      · go_wp2
        go_ret
        exact ⟨ret_bool (by rw [HF2.out, okFrom_bad (.inr (.inr (.inr g4)))]), hb.alloc hb.size _⟩
      go_wp2
      go_roundw
      case rel => exact ⟨k + 1, t, by omega, by go_num, rfl, Lib.hid (by rw [HF2.out, okFrom_good (by omega) (by omega) (by omega) (by omega)]), hb.alloc hb.size _⟩
      case measure => simp [intOf]; omega
    · have HE := Lib.hid (show Sp.ok l = true by rw [HF.out, List.drop_of_length_le (by omega)]; rfl)
      go_wp2
      go_ret
      exact ⟨ret_bool HE.out.symm, hb⟩

end Go.Proofs.YtccpjjhaeocfhaaDoor
