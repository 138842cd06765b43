/- Walks: whether ranges are a set (the document's); whether a set has a line (both); whether it meets some. -/
import Derived.Test.YtccpjjhaeocfhaaDoorS1
set_option linter.unusedVariables false
set_option linter.unusedSimpArgs false
namespace Go.Proofs.YtccpjjhaeocfhaaDoor
open Go Go.RowKit

/-- Where the range ahead of the one of number k ends. -/
def lastP (l : List Sp.R) : Nat → Int
  | 0 => -1
  | k + 1 => (l[k]?.map (fun e => e.2)).getD 0
theorem lastP_succ {l : List Sp.R} {k : Nat} (h : k < l.length) : lastP l (k + 1) = l[k].2 := by
  simp [lastP, List.getElem?_eq_getElem h]

set_option maxHeartbeats 4000000 in
theorem Valid_any (A : Option Addr) (c : Nat) (l : List Sp.R) (w : World) (h : Rd w 2 A l.length (rgcs l)) (hl : l.length ≤ 1000000000) :
    Calls Tryd.prog 35 #[.slice A l.length c] w fun e w' => e = .returned (.bool (Sp.ok l)) ∧ Below w.heap.size w w' := by
  go_enter Tryd.func35, Tryd.ntmps35
  go_wp2
  go_loopw [3] (fun i wr => ∃ (k : Nat), k ≤ l.length ∧ i = .int .i64 k ∧ Hid (Sp.ok l = Sp.okFrom (lastP l k) (l.drop k)) ∧ Below w.heap.size w wr) (fun i _ => l.length - (intOf i).toNat)
  case atStart => exact ⟨0, Nat.zero_le _, rfl, Lib.hid (by simp [Sp.ok, lastP]), Below.refl _ _⟩
  case round =>
    obtain ⟨k, hk, rfl, HF, hb⟩ := hrel
    by_cases hlt : k < l.length
    · have HS := Lib.hid (lastP_succ hlt)
      obtain ⟨b1, o1, rfl, _, c1, c2⟩ := (h.later hb).rg (k := k) (List.getElem?_eq_getElem hlt)
      have hprev : 0 < k → wr.cell? ⟨b1, o1 + (k - 1) * 2 + 1, none⟩ = some (.int .i64 (lastP l k)) := by
        intro h0
        obtain ⟨k', rfl⟩ : ∃ k', k = k' + 1 := ⟨k - 1, by omega⟩
        obtain ⟨b2, o2, e1, _, _, c3⟩ := (h.later hb).rg (k := k') (List.getElem?_eq_getElem (by omega))
        cases e1
        rw [lastP_succ (by omega)]; simpa using c3
      have hneg : k = 0 → lastP l k = -1 := by rintro rfl; rfl
      have HF2 : Hid (Sp.ok l = Sp.okFrom (lastP l k) (l[k] :: l.drop (k + 1))) := Lib.hid (by rw [HF.out, List.drop_eq_getElem_cons hlt])
      clear HF
      generalize l[k] = r at c1 c2 HF2 HS
      generalize lastP l k = last at HF2 hneg hprev
      obtain ⟨f, t⟩ := r
      simp only at c1 c2 HS
      by_cases g1 : f < 0
      · clear hprev hneg HS
        go_wp2
        go_quiet (fail)
        go_wp2
        go_ret
        exact ⟨ret_bool (by rw [HF2.out, okFrom_bad (.inr (.inl g1))]), below_drewN hb _⟩
      have d1 : decide (f < 0) = false := decide_eq_false g1
      by_cases g2 : t ≤ f
      · clear hprev hneg HS
        go_wp2
        go_quiet (fail)
        go_wp2
        go_ret
        exact ⟨ret_bool (by rw [HF2.out, okFrom_bad (.inr (.inr (.inl g2)))]), below_drewN hb _⟩
      have d2 : decide (t ≤ f) = false := decide_eq_false g2
      by_cases g3 : 65536 < t
      · clear hprev hneg HS
        go_wp2
        go_quiet (fail)
        go_wp2
        go_ret
        exact ⟨ret_bool (by rw [HF2.out, okFrom_bad (.inr (.inr (.inr g3)))]), below_drewN hb _⟩
      have d3 : decide (65536 < t) = false := decide_eq_false g3
      by_cases h0 : 0 < k
      · have hp := hprev h0
        have d4 : decide ((0 : Int) < (k : Int)) = true := by simpa using h0
        have e1 : IntKind.i64.wrap ((k : Int) - 1) = (k : Int) - 1 := IntWalk.i64_in _ (by omega)
        have e2 : ((k : Int) - 1).toNat = k - 1 := by omega
        have e3 : (0 : Int) ≤ (k : Int) - 1 := by omega
        have e4 : (k : Int) - 1 < (l.length : Int) := by omega
        have e5 : (1 : Int) ≤ (k : Int) := by omega
        clear hprev hneg
        by_cases g4 : f ≤ last
        · clear HS
          go_wp2
          go_quiet (fail)
          go_wp2
          go_ret
          exact ⟨ret_bool (by rw [HF2.out, okFrom_bad (.inl g4)]), below_drewN hb _⟩
        · have d5 : decide (f ≤ last) = false := decide_eq_false g4
          have HG : Hid (Sp.ok l = Sp.okFrom (lastP l (k + 1)) (l.drop (k + 1))) := Lib.hid (by rw [HF2.out, okFrom_good (by omega) (by omega) (by omega) (by omega), HS.out])
          clear HS HF2
          go_wp2
          go_quiet (fail)
          go_wp2
          go_roundw
          case rel => exact ⟨k + 1, by omega, by go_num, HG, below_drewN hb _⟩
          case measure => simp [intOf]; omega
      · have d4 : decide ((0 : Int) < (k : Int)) = false := by simp; omega
        have d6 : decide (0 < k) = false := decide_eq_false h0
        have hn := hneg (by omega)
        have HG : Hid (Sp.ok l = Sp.okFrom (lastP l (k + 1)) (l.drop (k + 1))) := Lib.hid (by rw [HF2.out, okFrom_good (by omega) (by omega) (by omega) (by omega), HS.out])
        clear hprev hneg hn HS HF2
        go_wp2
        go_quiet (fail)
        go_wp2
        go_roundw
        case rel => exact ⟨k + 1, by omega, by go_num, HG, below_drewN hb _⟩
        case measure => simp [intOf]; omega
    · have HE := Lib.hid (show Sp.ok l = true by rw [HF.out, List.drop_of_length_le (by omega)]; rfl)
      go_wp2
      go_ret
      exact ⟨ret_bool HE.out.symm, hb⟩

/-- Is it a set that has the line? -/
def hasB (l : List Sp.R) (i : Int) : Bool := Sp.ok l && Sp.has l i
theorem has_yes {f t i : Int} {r : List Sp.R} (h1 : f ≤ i) (h2 : i < t) : Sp.has ((f, t) :: r) i = true := by rw [Sp.has_cons]; simp [h1, h2]
theorem has_no {f t i : Int} {r : List Sp.R} (h : ¬ (f ≤ i ∧ i < t)) : Sp.has ((f, t) :: r) i = Sp.has r i := by
  rw [Sp.has_cons]
  have : (decide (f ≤ i) && decide (i < t)) = false := by rw [Bool.and_eq_false_iff]; simp only [decide_eq_false_iff_not]; omega
  simp only at this ⊢
  rw [this, Bool.false_or]

set_option maxHeartbeats 800000 in
theorem Has_any (A : Option Addr) (c : Nat) (l : List Sp.R) (i : Int) (w : World) (h : Rd w 2 A l.length (rgcs l)) (hl : l.length ≤ 1000000000) :
    Calls Tryd.prog 16 #[.slice A l.length c, .int .i64 i] w fun e w' => e = .returned (.bool (hasB l i)) ∧ Below w.heap.size w w' := by
  have IC := Lib.hid (isSet_any A c l w h hl)
  by_cases hok : Sp.ok l = true
  · rw [hok] at IC
    have HB := Lib.hid (show hasB l i = Sp.has l i by unfold hasB; rw [hok]; rfl)
    clear hok
    go_enter Tryd.func16, Tryd.ntmps16
    go_wp2_with (go_at_call 30; refine IC.out.mono ?_; rintro e w1 ⟨rfl, hb1⟩)
    go_loopw [12] (fun j wr => ∃ (k : Nat), k ≤ l.length ∧ j = .int .i64 k ∧ Hid (Sp.has l i = Sp.has (l.drop k) i) ∧ Below w.heap.size w wr) (fun j _ => l.length - (intOf j).toNat)
    case atStart => exact ⟨0, Nat.zero_le _, rfl, Lib.hid (by simp), hb1⟩
    case round =>
      obtain ⟨k, hk, rfl, HF, hb⟩ := hrel
      by_cases hlt : k < l.length
      · obtain ⟨b1, o1, rfl, _, c1, c2⟩ := (h.later hb).rg (k := k) (List.getElem?_eq_getElem hlt)
        have HF2 : Hid (Sp.has l i = Sp.has (l[k] :: l.drop (k + 1)) i) := Lib.hid (by rw [HF.out, List.drop_eq_getElem_cons hlt])
        clear HF
        generalize l[k] = r at c1 c2 HF2
        obtain ⟨f, t⟩ := r
        simp only at c1 c2
        by_cases g1 : f ≤ i
        · by_cases g2 : i < t
          · go_wp2
            go_ret
            exact ⟨ret_bool (by rw [HB.out, HF2.out, has_yes g1 g2]), hb.alloc hb.size _⟩
          · go_wp2
            go_roundw
            case rel => exact ⟨k + 1, by omega, by go_num, Lib.hid (by rw [HF2.out, has_no (fun ⟨_, h⟩ => g2 h)]), hb.alloc hb.size _⟩
            case measure => simp [intOf]; omega
        · go_wp2
          go_roundw
          case rel => exact ⟨k + 1, by omega, by go_num, Lib.hid (by rw [HF2.out, has_no (fun ⟨h, _⟩ => g1 h)]), hb.alloc hb.size _⟩
          case measure => simp [intOf]; omega
      · have HE := Lib.hid (show Sp.has l i = false by rw [HF.out, List.drop_of_length_le (by omega)]; rfl)
        go_wp2
        go_ret
        exact ⟨ret_bool (by rw [HB.out, HE.out]), hb⟩
  · have hf : Sp.ok l = false := by simpa using hok
    rw [hf] at IC
    have HB := Lib.hid (show hasB l i = false by unfold hasB; rw [hf]; rfl)
    clear hok hf
    go_enter Tryd.func16, Tryd.ntmps16
    go_wp2_with (go_at_call 30; refine IC.out.mono ?_; rintro e w1 ⟨rfl, hb1⟩)
    go_ret
    exact ⟨ret_bool HB.out.symm, hb1⟩


end Go.Proofs.YtccpjjhaeocfhaaDoor
