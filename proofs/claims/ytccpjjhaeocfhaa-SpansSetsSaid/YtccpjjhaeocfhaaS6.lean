/- Walks: what two sets have in one or together, and what a set has not (the document's). -/
import Derived.Test.YtccpjjhaeocfhaaS5
set_option linter.unusedVariables false
set_option linter.unusedSimpArgs false
namespace Go.Proofs.Ytccpjjhaeocfhaa
open Go Go.RowKit

/-- A list of ranges and a number that a call hands back. -/
def RgRes2 (L : List Sp.R) (er : Int) (w : World) (e : Ending) (w' : World) : Prop := ∃ v, e = .returned (.tuple #[v, .int .i64 er]) ∧ RgIs L w w' v
theorem RgIs.nil {w w' : World} (h : Below w.heap.size w w') : RgIs [] w w' (.slice none 0 0) := ⟨none, 0, rfl, Nat.le_refl _, Rd.nil _ _ _, h⟩
theorem RgIs.trans {L : List Sp.R} {w w1 w' : World} {v : Value} (h : RgIs L w1 w' v) (hb : Below w.heap.size w w1) : RgIs L w w' v := by
  obtain ⟨A, c, e, hc, hr, hb'⟩ := h
  exact ⟨A, c, e, hc, hr, hb.trans (hb'.mono hb.size)⟩

def cmb (z : Bool) (x y : Bool) : Bool := if z = true then x && y else x || y
/-- The lines of two sets, put together; the number of the error. -/
def bothL (z : Bool) (a b : List Sp.R) : List Sp.R := if Sp.ok a = true ∧ Sp.ok b = true then Sp.setOf (fun i => cmb z (Sp.has a (i : Int)) (Sp.has b (i : Int))) 65536 else []
def bothE (a b : List Sp.R) : Int := if Sp.ok a = true ∧ Sp.ok b = true then 0 else 2
theorem bothL_no {z : Bool} {a b : List Sp.R} (h : ¬ (Sp.ok a = true ∧ Sp.ok b = true)) : bothL z a b = [] := by unfold bothL; rw [if_neg h]
theorem bothE_no {a b : List Sp.R} (h : ¬ (Sp.ok a = true ∧ Sp.ok b = true)) : bothE a b = 2 := by unfold bothE; rw [if_neg h]
theorem bothL_yes {z : Bool} {a b : List Sp.R} (h : Sp.ok a = true ∧ Sp.ok b = true) : bothL z a b = Sp.setOf (fun i => cmb z (Sp.has a (i : Int)) (Sp.has b (i : Int))) 65536 := by unfold bothL; rw [if_pos h]
theorem bothE_yes {a b : List Sp.R} (h : Sp.ok a = true ∧ Sp.ok b = true) : bothE a b = 0 := by unfold bothE; rw [if_pos h]

/-- What has been put in, up to j. -/
def upTo (g f : Nat → Bool) (j i : Nat) : Bool := if i < j then g i else f i
theorem upTo_start (g f : Nat → Bool) (n : Nat) : bls (fl f n) = bls (fl (upTo g f 0) n) := bls_fl_congr (fun i _ => by simp [upTo])
theorem upTo_step (g f : Nat → Bool) (j n : Nat) : bls (fl (fun i => if i = j then g j else upTo g f j i) n) = bls (fl (upTo g f (j + 1)) n) :=
  bls_fl_congr (fun i _ => by
    unfold upTo
    by_cases e : i = j
    · subst e; simp
    · rw [if_neg e]
      by_cases h : i < j
      · rw [if_pos h, if_pos (by omega)]
      · rw [if_neg h, if_neg (by omega)])
theorem upTo_end (g f : Nat → Bool) (n : Nat) : bls (fl (upTo g f n) n) = bls (fl g n) := bls_fl_congr (fun i h => by simp [upTo, h])
theorem upTo_at (g f : Nat → Bool) (j : Nat) : upTo g f j j = f j := by simp [upTo]

set_option maxRecDepth 100000 in
set_option maxHeartbeats 4000000 in
theorem Both_any (A B : Option Addr) (c d : Nat) (a b : List Sp.R) (z : Bool) (w : World) (h : Rd w 2 A a.length (rgcs a)) (g : Rd w 2 B b.length (rgcs b)) (hl : a.length ≤ 1000000000) (hm : b.length ≤ 1000000000) :
    Calls Try.prog 5 #[.slice A a.length c, .slice B b.length d, .bool z] w (RgRes2 (bothL z a b) (bothE a b) w) := by
  have V1 := Lib.hid (Valid_any A c a w h hl)
  have V2 := Lib.hid (fun w1 hb => Valid_any B d b w1 (g.later hb) hm)
  by_cases hok : Sp.ok a = true ∧ Sp.ok b = true
  · have HL := Lib.hid (bothL_yes (z := z) hok)
    have HE := Lib.hid (bothE_yes hok)
    have i1 := In1.of_ok hok.1
    have i2 := In1.of_ok hok.2
    rw [hok.1] at V1
    rw [hok.2] at V2
    clear hok
    have L1 := Lib.hid (fun w1 hb => Lines_any A c a w1 (h.later hb) hl i1)
    have L2 := Lib.hid (fun w1 hb => Lines_any B d b w1 (g.later hb) hm i2)
    clear i1 i2
    go_enter Try.func5, Try.ntmps5
    go_wp2_with (first | (go_at_call 20; (with_reducible refine V1.out.mono ?_); rintro e w1 ⟨rfl, hb1⟩) | (go_at_call 20; (with_reducible refine (V2.out _ hb1).mono ?_); rintro e w2 ⟨rfl, hb2⟩; have hb12 := hb1.trans (hb2.mono hb1.size)) | (go_at_call 21; (with_reducible refine (L1.out _ hb12).mono ?_); rintro e w3 ⟨g1, N, rfl, hN1, hN2, hx, hb3⟩; have hb13 := hb12.trans (hb3.mono hb12.size)) | (go_at_call 21; (with_reducible refine (L2.out _ hb13).mono ?_); rintro e w4 ⟨g2, M, rfl, hM1, hM2, hy, hb4⟩))
    have hb14 := hb13.trans (hb4.mono hb13.size)
    have hg1 := (hx.lt g1 rfl)
    have hg2 := (hy.lt g2 rfl).1
    have hx4 := own_later hx hb4
    have hw3 := hb12.size
    rw [upTo_start (fun i => cmb z (Sp.has a (i : Int)) (Sp.has b (i : Int)))] at hx4
    clear hx hb4 hb3 hb2 hb1
    generalize hF : (fun i : Nat => Sp.has a (i : Int)) = F at *
    generalize hG : (fun i : Nat => Sp.has b (i : Int)) = G at *
    have hC : (fun i : Nat => cmb z (Sp.has a (i : Int)) (Sp.has b (i : Int))) = fun i => cmb z (F i) (G i) := by rw [← hF, ← hG]
    rw [hC] at hx4 HL
    clear hF hG hC
    go_loopw [12] (fun i wr => ∃ j : Nat, j ≤ N ∧ i = .int .i64 j ∧ wr.ownsRow w2.heap.size 4 1 (.slice (some ⟨g1, 0, none⟩) N N) N (bls (fl (upTo (fun i => cmb z (F i) (G i)) F j) N)) ∧ wr.ownsRow w3.heap.size 4 1 (.slice (some ⟨g2, 0, none⟩) M M) M (bls (fl G M)) ∧ Below w.heap.size w wr) (fun i _ => N - (intOf i).toNat)
    case atStart => exact ⟨0, Nat.zero_le _, rfl, hx4, hy, hb14⟩
    case round =>
      obtain ⟨j, hj, rfl, hx, hy, hb⟩ := hrel
      obtain ⟨wo, rfl⟩ : ∃ wo : World, wo = wr := ⟨_, rfl⟩
      by_cases hlt : j < N
      · have z1 : decide ((j : Int) < 65536) = true := decide_eq_true (by omega)
        have z2 : decide (j < 65536) = true := decide_eq_true (by omega)
        have cx := hx.cellAt j (by omega)
        rw [bls_fl_at _ hlt, upTo_at] at cx
        have fx := hx.frozenAt j
        have cy := hy.cellAt j (by omega)
        rw [bls_fl_at _ (by omega)] at cy
        obtain ⟨v, hv⟩ : ∃ v, cmb z (F j) (G j) = v := ⟨_, rfl⟩
        have HX := hx.stored j (.bool v)
        rw [bls_fl_set] at HX
        have HST := Lib.hid HX
        have hy2 := hy.kept HX.2 (.inr (by simp [Value.ownBlock]; omega))
        have HY := Lib.hid hy2
        have HB := Lib.hid (hb.setCell (p := ⟨g1, j, none⟩) (by simp; omega) (.bool v))
        have HU := Lib.hid (show bls (fl (fun i => if i = j then v else upTo (fun i => cmb z (F i) (G i)) F j i) N) = bls (fl (upTo (fun i => cmb z (F i) (G i)) F (j + 1)) N) by
          rw [← upTo_step, hv])
        clear hx hy hy2 HX
        cases hFj : F j <;> cases hGj : G j <;> cases z
        all_goals
          have hv2 := hv
          simp [cmb, hFj, hGj] at hv2
          subst hv2
          rw [hFj] at cx
          rw [hGj] at cy
          clear hFj hGj hv
          go_wp2_with fail
          go_roundw
          case rel => exact ⟨j + 1, by omega, by go_num, by have := HST.out.1; rw [HU.out] at this; exact this, HY.out, HB.out⟩
          case measure => simp [intOf]; omega
      · have z1 : decide ((j : Int) < 65536) = false := decide_eq_false (by omega)
        have z2 : decide (j < 65536) = false := decide_eq_false (by omega)
        obtain rfl : j = N := by omega
        rw [upTo_end] at hx
        have SC := Lib.hid (Set_any (some ⟨g1, 0, none⟩) j j (fun i => cmb z (F i) (G i)) wo hN1 (Rd.of_own hx))
        clear hx hy
        go_wp2_with (go_at_call 14; refine SC.out.mono ?_; rintro e w5 ⟨v, rfl, hv⟩)
        go_ret2
        have hj65 : j = 65536 := by omega
        rw [hj65] at hv
        exact ⟨_, by rw [HE.out]; rfl, by rw [HL.out]; exact hv.trans hb⟩
  · have HL := Lib.hid (bothL_no (z := z) hok)
    have HE := Lib.hid (bothE_no hok)
    by_cases ha : Sp.ok a = true
    · have hb : Sp.ok b = false := by rw [Bool.eq_false_iff]; exact fun h => hok ⟨ha, h⟩
      rw [ha] at V1
      rw [hb] at V2
      clear hok ha hb
      go_enter Try.func5, Try.ntmps5
      go_wp2_with (first | (go_at_call 20; (with_reducible refine V1.out.mono ?_); rintro e w1 ⟨rfl, hb1⟩) | (go_at_call 20; (with_reducible refine (V2.out _ hb1).mono ?_); rintro e w2 ⟨rfl, hb2⟩))
      go_ret2
      exact ⟨_, by rw [HE.out]; rfl, by rw [HL.out]; exact RgIs.nil (hb1.trans (hb2.mono hb1.size))⟩
    · have ha : Sp.ok a = false := by simpa using ha
      rw [ha] at V1
      clear hok ha
      generalize Sp.ok b = y at V2
      go_enter Try.func5, Try.ntmps5
      go_wp2_with (first | (go_at_call 20; (with_reducible refine V1.out.mono ?_); rintro e w1 ⟨rfl, hb1⟩) | (go_at_call 20; (with_reducible refine (V2.out _ hb1).mono ?_); rintro e w2 ⟨rfl, hb2⟩))
      go_ret2
      exact ⟨_, by rw [HE.out]; rfl, by rw [HL.out]; exact RgIs.nil (hb1.trans (hb2.mono hb1.size))⟩

/-- The lines below n that a set has not; the number of the error. -/
def notOk (a : List Sp.R) (n : Int) : Prop := Sp.ok a = true ∧ 0 ≤ n ∧ n ≤ 65536
instance (a : List Sp.R) (n : Int) : Decidable (notOk a n) := by unfold notOk; infer_instance
def notL (a : List Sp.R) (n : Int) : List Sp.R := if notOk a n then Sp.setOf (fun i => !(Sp.has a (i : Int))) n.toNat else []
def notE (a : List Sp.R) (n : Int) : Int := if notOk a n then 0 else 2
theorem notL_no {a : List Sp.R} {n : Int} (h : ¬ notOk a n) : notL a n = [] := by unfold notL; rw [if_neg h]
theorem notE_no {a : List Sp.R} {n : Int} (h : ¬ notOk a n) : notE a n = 2 := by unfold notE; rw [if_neg h]
theorem notL_yes {a : List Sp.R} {n : Int} (h : notOk a n) : notL a n = Sp.setOf (fun i => !(Sp.has a (i : Int))) n.toNat := by unfold notL; rw [if_pos h]
theorem notE_yes {a : List Sp.R} {n : Int} (h : notOk a n) : notE a n = 0 := by unfold notE; rw [if_pos h]
theorem notL_ref {a : List Sp.R} {n : Nat} (h : n ≤ 65536) : Sp.setOf (fun i => decide (i < n) && !(Sp.has a (i : Int))) 65536 = Sp.setOf (fun i => !(Sp.has a (i : Int))) n := by
  rw [Sp.setOf_tail (n := n) h (fun i h1 _ => by have : decide (i < n) = false := decide_eq_false (by omega)
                                                 simp only [this, Bool.false_and])]
  exact Sp.setOf_congr (fun i hi => by simp [hi])

set_option maxRecDepth 100000 in
set_option maxHeartbeats 4000000 in
theorem refNot_any (A : Option Addr) (c : Nat) (a : List Sp.R) (n : Int) (w : World) (h : Rd w 2 A a.length (rgcs a)) (hl : a.length ≤ 1000000000) :
    Calls Try.prog 8 #[.slice A a.length c, .int .i64 n] w (RgRes2 (notL a n) (notE a n) w) := by
  have V1 := Lib.hid (Valid_any A c a w h hl)
  by_cases hok : notOk a n
  · have HL := Lib.hid (notL_yes hok)
    have HE := Lib.hid (notE_yes hok)
    have i1 := In1.of_ok hok.1
    obtain ⟨h1, h2, h3⟩ := hok
    rw [h1] at V1
    clear h1
    obtain ⟨m, rfl⟩ := Int.eq_ofNat_of_zero_le h2
    have hm : m ≤ 65536 := by omega
    have y1 : decide ((m : Int) < 0) = false := decide_eq_false (by omega)
    have y2 : decide (65536 < (m : Int)) = false := decide_eq_false (by omega)
    have y3 : decide (65536 < m) = false := decide_eq_false (by omega)
    clear h2 h3
    have L1 := Lib.hid (fun w1 hb => Lines_any A c a w1 (h.later hb) hl i1)
    clear i1
    go_enter Try.func8, Try.ntmps8
    go_wp2_with (first | (go_at_call 20; (with_reducible refine V1.out.mono ?_); rintro e w1 ⟨rfl, hb1⟩) | (go_at_call 21; (with_reducible refine (L1.out _ hb1).mono ?_); rintro e w3 ⟨g1, N, rfl, hN1, hN2, hx, hb3⟩))
    have hb13 := hb1.trans (hb3.mono hb1.size)
    have hg1 := (hx.lt g1 rfl)
    have hw3 := hb1.size
    rw [upTo_start (fun i => decide (i < m) && !(Sp.has a (i : Int)))] at hx
    clear hb3 hb1
    generalize hF : (fun i : Nat => Sp.has a (i : Int)) = F at *
    have hC : (fun i : Nat => decide (i < m) && !(Sp.has a (i : Int))) = fun i => decide (i < m) && !(F i) := by rw [← hF]
    have HR := Lib.hid (notL_ref (a := a) hm)
    rw [hC] at hx HR
    clear hF hC
    generalize hG : (fun i : Nat => decide (i < m) && !(F i)) = G at *
    have HG : ∀ i, G i = (decide (i < m) && !(F i)) := fun i => by rw [← hG]
    have HG := Lib.hid HG
    clear hG
    go_loopw [8] (fun i wr => ∃ j : Nat, j ≤ N ∧ i = .int .i64 j ∧ wr.ownsRow w1.heap.size 4 1 (.slice (some ⟨g1, 0, none⟩) N N) N (bls (fl (upTo G F j) N)) ∧ Below w.heap.size w wr) (fun i _ => N - (intOf i).toNat)
    case atStart => exact ⟨0, Nat.zero_le _, rfl, hx, hb13⟩
    case round =>
      obtain ⟨j, hj, rfl, hx, hb⟩ := hrel
      obtain ⟨wo, rfl⟩ : ∃ wo : World, wo = wr := ⟨_, rfl⟩
      by_cases hlt : j < N
      · have z1 : decide ((j : Int) < 65536) = true := decide_eq_true (by omega)
        have z2 : decide (j < 65536) = true := decide_eq_true (by omega)
        have cx := hx.cellAt j (by omega)
        rw [bls_fl_at _ hlt, upTo_at] at cx
        have fx := hx.frozenAt j
        have hv := HG.out j
        have HX := hx.stored j (.bool (G j))
        rw [bls_fl_set] at HX
        rw [upTo_step] at HX
        have HST := Lib.hid HX.1
        have HB := Lib.hid (hb.setCell (p := ⟨g1, j, none⟩) (by simp; omega) (.bool (G j)))
        clear hx HX
        by_cases hjm : j < m
        · have x1 : decide ((j : Int) < (m : Int)) = true := decide_eq_true (by omega)
          have x2 : decide (j < m) = true := decide_eq_true hjm
          rw [x2] at hv
          cases hFj : F j
          all_goals
            rw [hFj] at hv cx
            simp only [Bool.true_and, Bool.not_true, Bool.not_false] at hv
            rw [hv] at HB HST
            clear hv hFj
            go_wp2_with fail
            go_roundw
            case rel => exact ⟨j + 1, by omega, by go_num, HST.out, HB.out⟩
            case measure => simp [intOf]; omega
        · have x1 : decide ((j : Int) < (m : Int)) = false := decide_eq_false (by omega)
          have x2 : decide (j < m) = false := decide_eq_false hjm
          rw [x2] at hv
          simp only [Bool.false_and] at hv
          rw [hv] at HB HST
          clear hv
          generalize F j = y at cx
          go_wp2_with fail
          go_roundw
          case rel => exact ⟨j + 1, by omega, by go_num, HST.out, HB.out⟩
          case measure => simp [intOf]; omega
      · have z1 : decide ((j : Int) < 65536) = false := decide_eq_false (by omega)
        have z2 : decide (j < 65536) = false := decide_eq_false (by omega)
        obtain rfl : j = N := by omega
        rw [upTo_end] at hx
        have SC := Lib.hid (Set_any (some ⟨g1, 0, none⟩) j j G wo hN1 (Rd.of_own hx))
        clear hx
        go_wp2_with (go_at_call 14; refine SC.out.mono ?_; rintro e w5 ⟨v, rfl, hv⟩)
        go_ret2
        have hj65 : j = 65536 := by omega
        rw [hj65] at hv
        exact ⟨_, by rw [HE.out]; rfl, by rw [HL.out, Int.toNat_natCast, ← HR.out]; exact hv.trans hb⟩
  · have HL := Lib.hid (notL_no hok)
    have HE := Lib.hid (notE_no hok)
    by_cases ha : Sp.ok a = true
    · have hn : n < 0 ∨ 65536 < n := by
        by_cases h1 : n < 0
        · exact .inl h1
        · by_cases h2 : 65536 < n
          · exact .inr h2
          · exact absurd ⟨ha, by omega, by omega⟩ hok
      rw [ha] at V1
      clear hok ha
      rcases hn with hn | hn
      · go_enter Try.func8, Try.ntmps8
        go_wp2_with (go_at_call 20; (with_reducible refine V1.out.mono ?_); rintro e w1 ⟨rfl, hb1⟩)
        go_ret2
        exact ⟨_, by rw [HE.out]; rfl, by rw [HL.out]; exact RgIs.nil hb1⟩
      · have hn2 : ¬ n < 0 := by omega
        go_enter Try.func8, Try.ntmps8
        go_wp2_with (go_at_call 20; (with_reducible refine V1.out.mono ?_); rintro e w1 ⟨rfl, hb1⟩)
        go_ret2
        exact ⟨_, by rw [HE.out]; rfl, by rw [HL.out]; exact RgIs.nil hb1⟩
    · have ha : Sp.ok a = false := by simpa using ha
      rw [ha] at V1
      clear hok ha
      go_enter Try.func8, Try.ntmps8
      go_wp2_with (go_at_call 20; (with_reducible refine V1.out.mono ?_); rintro e w1 ⟨rfl, hb1⟩)
      go_ret2
      exact ⟨_, by rw [HE.out]; rfl, by rw [HL.out]; exact RgIs.nil hb1⟩

end Go.Proofs.Ytccpjjhaeocfhaa
