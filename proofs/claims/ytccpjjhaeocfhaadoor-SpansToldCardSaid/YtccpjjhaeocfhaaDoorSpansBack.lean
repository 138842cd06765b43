/- The law SpansBack, walked: it returns true and leaves what was there. (Printed by wip/genback.py.) -/
import Derived.Test.YtccpjjhaeocfhaaDoorSpE
import Derived.Test.YtccpjjhaeocfhaaDoorP6
set_option linter.unusedVariables false
set_option linter.unusedSimpArgs false
namespace Go.Proofs.YtccpjjhaeocfhaaDoor
open Go Go.RowKit

theorem Sp.textL_le (a : List Sp.R) (h : Sp.ok a = true) : (Sp.textL a).length ≤ a.length * 12 := by
  have hd : ∀ n : Int, 0 ≤ n → n ≤ 65536 → (Lib.itoa n).length ≤ 5 := fun n h0 h1 => by
    rw [Sp.itoa_nat h0]; exact Sp.dd_len 4 _ (by omega)
  have hp : ∀ r ∈ a, (Sp.piece r).length ≤ 11 := fun r hr => by
    have := Sp.okFrom_mem h r hr
    unfold Sp.piece
    have s1 := hd (r.1 + 1) (by omega) (by omega)
    have s2 := hd r.2 (by omega) (by omega)
    rw [List.length_append]
    split <;> simp <;> omega
  cases a with
  | nil => simp [Sp.textL]
  | cons r l =>
    have hf : ∀ l : List Sp.R, (∀ q ∈ l, (Sp.piece q).length ≤ 11) → (l.flatMap fun q => 44 :: Sp.piece q).length ≤ l.length * 12 := by
      intro l
      induction l with
      | nil => simp
      | cons q t ih =>
        intro hq
        have h1 := hq q (by simp)
        have h2 := ih (fun x hx => hq x (by simp [hx]))
        rw [List.flatMap_cons, List.length_append]
        simp only [List.length_cons]
        omega
    have h1 := hp r (by simp)
    have h2 := hf l (fun q hq => hp q (by simp [hq]))
    simp only [Sp.textL, List.length_append, List.length_cons]
    omega
theorem RgIs.get0 {w w' : World} {v : Value} (h : RgIs [] w w' v) : ∃ A c, v = .slice A 0 c ∧ Rd w' 2 A 0 (rgcs []) ∧ Below w.heap.size w w' := h.get
theorem rd0 (w : World) : Rd w 2 none 0 (rgcs []) := Rd.nil _ _ _
theorem same0 (w : World) (A B : Option Addr) (c d : Nat) (h : Rd w 2 A 0 (rgcs [])) (g : Rd w 2 B 0 (rgcs [])) : Calls Tryd.prog 13 #[.slice A 0 c, .slice B 0 d] w fun e w' => e = .returned (.bool true) ∧ Below w.heap.size w w' := same_eq A B c d [] w h g (by simp)
theorem bothE_noB {a b : List Sp.R} (h : ¬ Sp.ok b = true) : bothE a b = 2 := bothE_no (fun g => h g.2)
theorem Text_yes {A : Option Addr} {c : Nat} {l : List Sp.R} {w : World} (h : Rd w 2 A l.length (rgcs l)) (hl : l.length ≤ 1000000) (hp : Pow w) (hok : Sp.ok l = true) :
    Calls Tryd.prog 11 #[.slice A l.length c] w fun e w' => e = .returned (.tuple #[.string (bs (Sp.textL l)), .int .i64 0]) ∧ Below w.heap.size w w' := by
  refine (Text_any A c l w h hl (fun r hr => ?_)).mono ?_
  · have := Sp.okFrom_mem hok r hr
    exact ⟨itc_of hp (by omega) (by omega), itc_of hp (by omega) (by omega)⟩
  · rintro e w' ⟨rfl, hb⟩
    rw [if_pos hok, if_pos hok]
    exact ⟨rfl, hb⟩
set_option maxRecDepth 100000 in
theorem Text_no {A : Option Addr} {c : Nat} {l : List Sp.R} {w : World} (h : Rd w 2 A l.length (rgcs l)) (hl : l.length ≤ 1000000) (hok : ¬ Sp.ok l = true) :
    Calls Tryd.prog 11 #[.slice A l.length c] w fun e w' => e = .returned (.tuple #[.string (bs []), .int .i64 2]) ∧ Below w.heap.size w w' := by
  have IC := Lib.hid (isSet_any A c l w h (by omega))
  have hf : Sp.ok l = false := by simpa using hok
  rw [hf] at IC
  clear hok hf
  go_enter Tryd.func11, Tryd.ntmps11
  go_wp2_with (go_at_call 30; refine IC.out.mono ?_; rintro e w1 ⟨rfl, hb1⟩)
  go_ret2
  exact ⟨rfl, hb1⟩

set_option maxRecDepth 100000 in
set_option maxHeartbeats 16000000 in
theorem SpansBack_any (A B : Option Addr) (c d : Nat) (a b : List Sp.R) (n : Int) (w : World) (hA : Rd w 2 A a.length (rgcs a)) (hB : Rd w 2 B b.length (rgcs b))
    (hla : a.length ≤ maxLen) (hlb : b.length ≤ maxLen) (hn : (Lit.int .i64 n).wf = true) (hp : Pow w) :
    Calls Tryd.prog 6 #[.slice A a.length c, .slice B b.length d, .int .i64 n] w fun e w' => e = .returned (.bool true) ∧ Below w.heap.size w w' := by
  unfold maxLen at hla hlb
  have hnn := wf64 hn
  clear hn
  have AL := Lib.hid (alive_any w)
  by_cases ga : 50 < a.length
  ·
    go_enter Tryd.func6, Tryd.ntmps6
    go_wp2_with (first
      | (go_at_call 14; (with_reducible refine (AL.out).mono ?_); rintro e w1 ⟨rfl, k1⟩; have b1 := k1))
    go_ret
    exact ⟨rfl, b1⟩
  by_cases gb : 50 < b.length
  ·
    go_enter Tryd.func6, Tryd.ntmps6
    go_wp2_with (first
      | (go_at_call 14; (with_reducible refine (AL.out).mono ?_); rintro e w1 ⟨rfl, k1⟩; have b1 := k1))
    go_ret
    exact ⟨rfl, b1⟩
  have RA := Lib.hid (fun w1 hb => hA.later (w' := w1) hb)
  have RB := Lib.hid (fun w1 hb => hB.later (w' := w1) hb)
  by_cases ha : Sp.ok a = true
  · have tl := Sp.textL_le a ha
    have K2 := fun w1 hb => Text_yes (c := c) (RA.out w1 hb) (by omega) (hp.later hb) ha
    have K3 := fun w1 => Parse_any (bs (Sp.textL a)) w1 (by rw [bs_size]; omega)
    simp only [bs_data, (Sp.text_parse ha).1, (Sp.text_parse ha).2] at K3
    generalize bs (Sp.textL a) = tx at *
    have K2 := Lib.hid K2
    have K3 := Lib.hid K3
    clear tl
    have K4 := fun w1 hb => Not_any A c a n w1 (RA.out w1 hb) (by omega)
    by_cases hr : 0 ≤ n ∧ n ≤ 65536
    · have h1 : notOk a n := ⟨ha, hr⟩
      have oC := notL_ok h1
      have h2 : notOk (notL a n) n := ⟨oC, hr⟩
      have oD := notL_ok h2
      have lC := notL_len a n
      have lD := notL_len (notL a n) n
      have K5 := fun w1 X cx hX => Not_any X cx (notL a n) n w1 hX (by omega)
      have K7 : ∀ (w1 : World) (X : Option Addr) (cx : Nat) (hb : Below w.heap.size w w1) (hX : Rd w1 2 X 1 (rgcs [((0 : Int), n)])), Calls Tryd.prog 18 #[.slice A a.length c, .slice X 1 cx] w1 (RgRes2 (bothL true a [((0 : Int), n)]) (bothE a [((0 : Int), n)]) w1) := fun w1 X cx (hb : Below w.heap.size w w1) hX => And_any A X c cx a [((0 : Int), n)] w1 (RA.out w1 hb) hX (by omega) (by simp)
      have K8 := fun w1 hb => Not_any B d b n w1 (RB.out w1 hb) (by omega)
      rw [notE_yes h1] at K4
      rw [notE_yes h2] at K5
      by_cases hb : Sp.ok b = true
      · have g1 : notOk b n := ⟨hb, hr⟩
        have oX := notL_ok g1
        have oY := both_ok (z := false) oC oX
        have g2 : notOk (bothL false (notL a n) (notL b n)) n := ⟨oY, hr⟩
        have lX := notL_len b n
        have lY := bothL_len false (notL a n) (notL b n)
        have lZ := notL_len (bothL false (notL a n) (notL b n)) n
        have K10 := fun w1 X cx Y cy hX hY => Or_any X Y cx cy (notL a n) (notL b n) w1 hX hY (by omega) (by omega)
        have K11 := fun w1 X cx hX => Not_any X cx (bothL false (notL a n) (notL b n)) n w1 hX (by omega)
        have K12 := fun w1 X cx (hb : Below w.heap.size w w1) hX => And_any X B cx d (notL (notL a n) n) b w1 hX (RB.out w1 hb) (by omega) (by omega)
        rw [notE_yes g1] at K8
        rw [bothE_yes ⟨oC, oX⟩] at K10
        rw [notE_yes g2] at K11
        rw [bothE_yes ⟨oD, hb⟩, ← morgan h1 g1] at K12
        by_cases hz : n = 0
        · subst hz
          have e7 : ¬ Sp.ok [((0 : Int), (0 : Int))] = true := by decide
          rw [not_not0 h1] at K5 K12
          rw [bothE_noB e7, bothL_no (fun g => e7 g.2)] at K7
          clear ha hb h1 h2 g1 g2 oC oD oX oY e7
          generalize notL (bothL false (notL a 0) (notL b 0)) 0 = Z at *
          generalize bothL false (notL a 0) (notL b 0) = Y at *
          generalize notL a 0 = C at *
          generalize notL b 0 = X at *
          have K12' : ∀ (w1 : World) (X : Option Addr) (cx : Nat) (hb : Below w.heap.size w w1) (hX : Rd w1 2 X 0 (rgcs [])), Calls Tryd.prog 18 #[.slice X 0 cx, .slice B b.length d] w1 (RgRes2 Z 0 w1) := K12
          have S0 := Lib.hid same0
          have K4 := Lib.hid K4
          have K5 := Lib.hid K5
          have K7 := Lib.hid K7
          have K8 := Lib.hid K8
          have K10 := Lib.hid K10
          have K11 := Lib.hid K11
          have K12 := Lib.hid K12'
          go_enter Tryd.func6, Tryd.ntmps6
          go_wp2_with (first
            | (go_at_call 14; (with_reducible refine (AL.out).mono ?_); rintro e w1 ⟨rfl, k1⟩; have b1 := k1)
            | (go_at_call 11; (with_reducible refine (K2.out _ b1).mono ?_); rintro e w2 ⟨rfl, k2⟩; have b2 := b1.trans (k2.mono b1.size))
            | (go_at_call 9; (with_reducible refine (K3.out w2).mono ?_); rintro e w3 ⟨v3, rfl, q3⟩; obtain ⟨A3, c3, rfl, r3, k3⟩ := q3.get; have b3 := b2.trans (k3.mono b2.size))
            | (go_at_call 19; (with_reducible refine (K4.out _ b3).mono ?_); rintro e w4 ⟨v4, rfl, q4⟩; obtain ⟨A4, c4, rfl, r4, k4⟩ := q4.get; have b4 := b3.trans (k4.mono b3.size))
            | (go_at_call 19; (with_reducible refine (K5.out _ _ _ r4).mono ?_); rintro e w5 ⟨v5, rfl, q5⟩; obtain ⟨A5, c5, rfl, r5, k5⟩ := q5.get0; have b5 := b4.trans (k5.mono b4.size))
            | (go_at_call 13; (with_reducible refine (same_eq A3 A c3 c a _ (r3.later (k4.trans (k5.mono k4.size))) (RA.out _ b5) (by omega)).mono ?_); rintro e w6 ⟨rfl, k6⟩; have b6 := b5.trans (k6.mono b5.size))
            | (go_at_call 18; (with_reducible refine (K7.out _ _ _ (b6.alloc b6.size _) (rd_new _ _ _)).mono ?_); rintro e w7 ⟨v7, rfl, q7⟩; obtain ⟨A7, c7, rfl, r7, k'⟩ := q7.get0; have k7 := ((Below.refl w6.heap.size w6).alloc (Nat.le_refl _) (.cells #[.int .i64 0, .int .i64 0] 38)).trans (k'.mono (by simp)); have b7 := b6.trans (k7.mono b6.size))
            | (go_at_call 19; (with_reducible refine (K8.out _ b7).mono ?_); rintro e w8 ⟨v8, rfl, q8⟩; obtain ⟨A8, c8, rfl, r8, k8⟩ := q8.get; have b8 := b7.trans (k8.mono b7.size))
            | (go_at_call 13; (with_reducible refine (S0.out _ _ _ _ _ (r5.later (k6.trans ((k7.trans (k8.mono k7.size)).mono k6.size))) (rd0 _)).mono ?_); rintro e w9 ⟨rfl, k9⟩; have b9 := b8.trans (k9.mono b8.size))
            | (go_at_call 17; (with_reducible refine (K10.out _ _ _ _ _ (r4.later (k5.trans ((k6.trans ((k7.trans ((k8.trans (k9.mono k8.size)).mono k7.size)).mono k6.size)).mono k5.size))) (r8.later k9)).mono ?_); rintro e w10 ⟨v10, rfl, q10⟩; obtain ⟨A10, c10, rfl, r10, k10⟩ := q10.get; have b10 := b9.trans (k10.mono b9.size))
            | (go_at_call 19; (with_reducible refine (K11.out _ _ _ r10).mono ?_); rintro e w11 ⟨v11, rfl, q11⟩; obtain ⟨A11, c11, rfl, r11, k11⟩ := q11.get; have b11 := b10.trans (k11.mono b10.size))
            | (go_at_call 18; (with_reducible refine (K12.out _ _ _ b11 (r5.later (k6.trans ((k7.trans ((k8.trans ((k9.trans ((k10.trans (k11.mono k10.size)).mono k9.size)).mono k8.size)).mono k7.size)).mono k6.size)))).mono ?_); rintro e w12 ⟨v12, rfl, q12⟩; obtain ⟨A12, c12, rfl, r12, k12⟩ := q12.get; have b12 := b11.trans (k12.mono b11.size))
            | (go_at_call 13; (with_reducible refine (same_eq A11 A12 c11 c12 Z _ (r11.later k12) r12 (by omega)).mono ?_); rintro e w13 ⟨rfl, k13⟩; have b13 := b12.trans (k13.mono b12.size)))
          go_ret
          exact ⟨rfl, b13⟩
        · have hz1 : 1 ≤ n := by omega
          have e7 : Sp.ok [((0 : Int), n)] = true := ok_one (by omega) (by omega) hr.2
          rw [bothE_yes ⟨ha, e7⟩, ← not_not h1 hz1] at K7
          clear ha hb h1 h2 g1 g2 oC oD oX oY e7
          generalize notL (bothL false (notL a n) (notL b n)) n = Z at *
          generalize bothL false (notL a n) (notL b n) = Y at *
          generalize notL (notL a n) n = D at *
          generalize notL a n = C at *
          generalize notL b n = X at *
          have K4 := Lib.hid K4
          have K5 := Lib.hid K5
          have K7 := Lib.hid K7
          have K8 := Lib.hid K8
          have K10 := Lib.hid K10
          have K11 := Lib.hid K11
          have K12 := Lib.hid K12
          go_enter Tryd.func6, Tryd.ntmps6
          go_wp2_with (first
            | (go_at_call 14; (with_reducible refine (AL.out).mono ?_); rintro e w1 ⟨rfl, k1⟩; have b1 := k1)
            | (go_at_call 11; (with_reducible refine (K2.out _ b1).mono ?_); rintro e w2 ⟨rfl, k2⟩; have b2 := b1.trans (k2.mono b1.size))
            | (go_at_call 9; (with_reducible refine (K3.out w2).mono ?_); rintro e w3 ⟨v3, rfl, q3⟩; obtain ⟨A3, c3, rfl, r3, k3⟩ := q3.get; have b3 := b2.trans (k3.mono b2.size))
            | (go_at_call 19; (with_reducible refine (K4.out _ b3).mono ?_); rintro e w4 ⟨v4, rfl, q4⟩; obtain ⟨A4, c4, rfl, r4, k4⟩ := q4.get; have b4 := b3.trans (k4.mono b3.size))
            | (go_at_call 19; (with_reducible refine (K5.out _ _ _ r4).mono ?_); rintro e w5 ⟨v5, rfl, q5⟩; obtain ⟨A5, c5, rfl, r5, k5⟩ := q5.get; have b5 := b4.trans (k5.mono b4.size))
            | (go_at_call 13; (with_reducible refine (same_eq A3 A c3 c a _ (r3.later (k4.trans (k5.mono k4.size))) (RA.out _ b5) (by omega)).mono ?_); rintro e w6 ⟨rfl, k6⟩; have b6 := b5.trans (k6.mono b5.size))
            | (go_at_call 18; (with_reducible refine (K7.out _ _ _ (b6.alloc b6.size _) (rd_new _ _ _)).mono ?_); rintro e w7 ⟨v7, rfl, q7⟩; obtain ⟨A7, c7, rfl, r7, k'⟩ := q7.get; have k7 := ((Below.refl w6.heap.size w6).alloc (Nat.le_refl _) (.cells #[.int .i64 0, .int .i64 n] 38)).trans (k'.mono (by simp)); have b7 := b6.trans (k7.mono b6.size))
            | (go_at_call 19; (with_reducible refine (K8.out _ b7).mono ?_); rintro e w8 ⟨v8, rfl, q8⟩; obtain ⟨A8, c8, rfl, r8, k8⟩ := q8.get; have b8 := b7.trans (k8.mono b7.size))
            | (go_at_call 13; (with_reducible refine (same_eq A5 A7 c5 c7 D _ (r5.later (k6.trans ((k7.trans (k8.mono k7.size)).mono k6.size))) (r7.later k8) (by omega)).mono ?_); rintro e w9 ⟨rfl, k9⟩; have b9 := b8.trans (k9.mono b8.size))
            | (go_at_call 17; (with_reducible refine (K10.out _ _ _ _ _ (r4.later (k5.trans ((k6.trans ((k7.trans ((k8.trans (k9.mono k8.size)).mono k7.size)).mono k6.size)).mono k5.size))) (r8.later k9)).mono ?_); rintro e w10 ⟨v10, rfl, q10⟩; obtain ⟨A10, c10, rfl, r10, k10⟩ := q10.get; have b10 := b9.trans (k10.mono b9.size))
            | (go_at_call 19; (with_reducible refine (K11.out _ _ _ r10).mono ?_); rintro e w11 ⟨v11, rfl, q11⟩; obtain ⟨A11, c11, rfl, r11, k11⟩ := q11.get; have b11 := b10.trans (k11.mono b10.size))
            | (go_at_call 18; (with_reducible refine (K12.out _ _ _ b11 (r5.later (k6.trans ((k7.trans ((k8.trans ((k9.trans ((k10.trans (k11.mono k10.size)).mono k9.size)).mono k8.size)).mono k7.size)).mono k6.size)))).mono ?_); rintro e w12 ⟨v12, rfl, q12⟩; obtain ⟨A12, c12, rfl, r12, k12⟩ := q12.get; have b12 := b11.trans (k12.mono b11.size))
            | (go_at_call 13; (with_reducible refine (same_eq A11 A12 c11 c12 Z _ (r11.later k12) r12 (by omega)).mono ?_); rintro e w13 ⟨rfl, k13⟩; have b13 := b12.trans (k13.mono b12.size)))
          go_ret
          exact ⟨rfl, b13⟩
      · have g1 : ¬ notOk b n := fun g => hb g.1
        rw [notE_no g1, notL_no g1] at K8
        by_cases hz : n = 0
        · subst hz
          have e7 : ¬ Sp.ok [((0 : Int), (0 : Int))] = true := by decide
          rw [not_not0 h1] at K5
          rw [bothE_noB e7, bothL_no (fun g => e7 g.2)] at K7
          clear ha hb h1 h2 g1 oC oD e7
          generalize notL a 0 = C at *
          have S0 := Lib.hid same0
          have K4 := Lib.hid K4
          have K5 := Lib.hid K5
          have K7 := Lib.hid K7
          have K8 := Lib.hid K8
          go_enter Tryd.func6, Tryd.ntmps6
          go_wp2_with (first
            | (go_at_call 14; (with_reducible refine (AL.out).mono ?_); rintro e w1 ⟨rfl, k1⟩; have b1 := k1)
            | (go_at_call 11; (with_reducible refine (K2.out _ b1).mono ?_); rintro e w2 ⟨rfl, k2⟩; have b2 := b1.trans (k2.mono b1.size))
            | (go_at_call 9; (with_reducible refine (K3.out w2).mono ?_); rintro e w3 ⟨v3, rfl, q3⟩; obtain ⟨A3, c3, rfl, r3, k3⟩ := q3.get; have b3 := b2.trans (k3.mono b2.size))
            | (go_at_call 19; (with_reducible refine (K4.out _ b3).mono ?_); rintro e w4 ⟨v4, rfl, q4⟩; obtain ⟨A4, c4, rfl, r4, k4⟩ := q4.get; have b4 := b3.trans (k4.mono b3.size))
            | (go_at_call 19; (with_reducible refine (K5.out _ _ _ r4).mono ?_); rintro e w5 ⟨v5, rfl, q5⟩; obtain ⟨A5, c5, rfl, r5, k5⟩ := q5.get0; have b5 := b4.trans (k5.mono b4.size))
            | (go_at_call 13; (with_reducible refine (same_eq A3 A c3 c a _ (r3.later (k4.trans (k5.mono k4.size))) (RA.out _ b5) (by omega)).mono ?_); rintro e w6 ⟨rfl, k6⟩; have b6 := b5.trans (k6.mono b5.size))
            | (go_at_call 18; (with_reducible refine (K7.out _ _ _ (b6.alloc b6.size _) (rd_new _ _ _)).mono ?_); rintro e w7 ⟨v7, rfl, q7⟩; obtain ⟨A7, c7, rfl, r7, k'⟩ := q7.get0; have k7 := ((Below.refl w6.heap.size w6).alloc (Nat.le_refl _) (.cells #[.int .i64 0, .int .i64 0] 38)).trans (k'.mono (by simp)); have b7 := b6.trans (k7.mono b6.size))
            | (go_at_call 19; (with_reducible refine (K8.out _ b7).mono ?_); rintro e w8 ⟨v8, rfl, q8⟩; obtain ⟨A8, c8, rfl, r8, k8⟩ := q8.get0; have b8 := b7.trans (k8.mono b7.size))
            | (go_at_call 13; (with_reducible refine (S0.out _ _ _ _ _ (r5.later (k6.trans ((k7.trans (k8.mono k7.size)).mono k6.size))) (rd0 _)).mono ?_); rintro e w9 ⟨rfl, k9⟩; have b9 := b8.trans (k9.mono b8.size)))
          go_ret
          exact ⟨rfl, b9⟩
        · have hz1 : 1 ≤ n := by omega
          have e7 : Sp.ok [((0 : Int), n)] = true := ok_one (by omega) (by omega) hr.2
          rw [bothE_yes ⟨ha, e7⟩, ← not_not h1 hz1] at K7
          clear ha hb h1 h2 g1 oC oD e7
          generalize notL (notL a n) n = D at *
          generalize notL a n = C at *
          have K4 := Lib.hid K4
          have K5 := Lib.hid K5
          have K7 := Lib.hid K7
          have K8 := Lib.hid K8
          go_enter Tryd.func6, Tryd.ntmps6
          go_wp2_with (first
            | (go_at_call 14; (with_reducible refine (AL.out).mono ?_); rintro e w1 ⟨rfl, k1⟩; have b1 := k1)
            | (go_at_call 11; (with_reducible refine (K2.out _ b1).mono ?_); rintro e w2 ⟨rfl, k2⟩; have b2 := b1.trans (k2.mono b1.size))
            | (go_at_call 9; (with_reducible refine (K3.out w2).mono ?_); rintro e w3 ⟨v3, rfl, q3⟩; obtain ⟨A3, c3, rfl, r3, k3⟩ := q3.get; have b3 := b2.trans (k3.mono b2.size))
            | (go_at_call 19; (with_reducible refine (K4.out _ b3).mono ?_); rintro e w4 ⟨v4, rfl, q4⟩; obtain ⟨A4, c4, rfl, r4, k4⟩ := q4.get; have b4 := b3.trans (k4.mono b3.size))
            | (go_at_call 19; (with_reducible refine (K5.out _ _ _ r4).mono ?_); rintro e w5 ⟨v5, rfl, q5⟩; obtain ⟨A5, c5, rfl, r5, k5⟩ := q5.get; have b5 := b4.trans (k5.mono b4.size))
            | (go_at_call 13; (with_reducible refine (same_eq A3 A c3 c a _ (r3.later (k4.trans (k5.mono k4.size))) (RA.out _ b5) (by omega)).mono ?_); rintro e w6 ⟨rfl, k6⟩; have b6 := b5.trans (k6.mono b5.size))
            | (go_at_call 18; (with_reducible refine (K7.out _ _ _ (b6.alloc b6.size _) (rd_new _ _ _)).mono ?_); rintro e w7 ⟨v7, rfl, q7⟩; obtain ⟨A7, c7, rfl, r7, k'⟩ := q7.get; have k7 := ((Below.refl w6.heap.size w6).alloc (Nat.le_refl _) (.cells #[.int .i64 0, .int .i64 n] 38)).trans (k'.mono (by simp)); have b7 := b6.trans (k7.mono b6.size))
            | (go_at_call 19; (with_reducible refine (K8.out _ b7).mono ?_); rintro e w8 ⟨v8, rfl, q8⟩; obtain ⟨A8, c8, rfl, r8, k8⟩ := q8.get0; have b8 := b7.trans (k8.mono b7.size))
            | (go_at_call 13; (with_reducible refine (same_eq A5 A7 c5 c7 D _ (r5.later (k6.trans ((k7.trans (k8.mono k7.size)).mono k6.size))) (r7.later k8) (by omega)).mono ?_); rintro e w9 ⟨rfl, k9⟩; have b9 := b8.trans (k9.mono b8.size)))
          go_ret
          exact ⟨rfl, b9⟩
    · have h1 : ¬ notOk a n := fun g => hr g.2
      have h2 : ¬ notOk [] n := fun g => hr g.2
      rw [notE_no h1, notL_no h1] at K4
      have K5 := fun w1 X cx hX => Not_any X cx [] n w1 hX (by simp)
      rw [notE_no h2, notL_no h2] at K5
      have K5' : ∀ (w1 : World) (X : Option Addr) (cx : Nat) (hX : Rd w1 2 X 0 (rgcs [])), Calls Tryd.prog 19 #[.slice X 0 cx, .int .i64 n] w1 (RgRes2 [] 2 w1) := K5
      have K4 := Lib.hid K4
      have K5 := Lib.hid K5'
      clear h1 h2 ha K5'
      by_cases hneg : n < 0
      ·
        go_enter Tryd.func6, Tryd.ntmps6
        go_wp2_with (first
          | (go_at_call 14; (with_reducible refine (AL.out).mono ?_); rintro e w1 ⟨rfl, k1⟩; have b1 := k1)
          | (go_at_call 11; (with_reducible refine (K2.out _ b1).mono ?_); rintro e w2 ⟨rfl, k2⟩; have b2 := b1.trans (k2.mono b1.size))
          | (go_at_call 9; (with_reducible refine (K3.out w2).mono ?_); rintro e w3 ⟨v3, rfl, q3⟩; obtain ⟨A3, c3, rfl, r3, k3⟩ := q3.get; have b3 := b2.trans (k3.mono b2.size))
          | (go_at_call 19; (with_reducible refine (K4.out _ b3).mono ?_); rintro e w4 ⟨v4, rfl, q4⟩; obtain ⟨A4, c4, rfl, r4, k4⟩ := q4.get0; have b4 := b3.trans (k4.mono b3.size))
          | (go_at_call 19; (with_reducible refine (K5.out _ _ _ r4).mono ?_); rintro e w5 ⟨v5, rfl, q5⟩; obtain ⟨A5, c5, rfl, r5, k5⟩ := q5.get0; have b5 := b4.trans (k5.mono b4.size))
          | (go_at_call 13; (with_reducible refine (same_eq A3 A c3 c a _ (r3.later (k4.trans (k5.mono k4.size))) (RA.out _ b5) (by omega)).mono ?_); rintro e w6 ⟨rfl, k6⟩; have b6 := b5.trans (k6.mono b5.size)))
        go_ret
        exact ⟨rfl, b6⟩
      · have hbig : 65536 < n := by omega
        clear hr
        go_enter Tryd.func6, Tryd.ntmps6
        go_wp2_with (first
          | (go_at_call 14; (with_reducible refine (AL.out).mono ?_); rintro e w1 ⟨rfl, k1⟩; have b1 := k1)
          | (go_at_call 11; (with_reducible refine (K2.out _ b1).mono ?_); rintro e w2 ⟨rfl, k2⟩; have b2 := b1.trans (k2.mono b1.size))
          | (go_at_call 9; (with_reducible refine (K3.out w2).mono ?_); rintro e w3 ⟨v3, rfl, q3⟩; obtain ⟨A3, c3, rfl, r3, k3⟩ := q3.get; have b3 := b2.trans (k3.mono b2.size))
          | (go_at_call 19; (with_reducible refine (K4.out _ b3).mono ?_); rintro e w4 ⟨v4, rfl, q4⟩; obtain ⟨A4, c4, rfl, r4, k4⟩ := q4.get0; have b4 := b3.trans (k4.mono b3.size))
          | (go_at_call 19; (with_reducible refine (K5.out _ _ _ r4).mono ?_); rintro e w5 ⟨v5, rfl, q5⟩; obtain ⟨A5, c5, rfl, r5, k5⟩ := q5.get0; have b5 := b4.trans (k5.mono b4.size))
          | (go_at_call 13; (with_reducible refine (same_eq A3 A c3 c a _ (r3.later (k4.trans (k5.mono k4.size))) (RA.out _ b5) (by omega)).mono ?_); rintro e w6 ⟨rfl, k6⟩; have b6 := b5.trans (k6.mono b5.size)))
        go_ret
        exact ⟨rfl, b6⟩
  · have K2 := Lib.hid (fun w1 hb => Text_no (c := c) (RA.out w1 hb) (by omega) ha)
    clear ha
    go_enter Tryd.func6, Tryd.ntmps6
    go_wp2_with (first
      | (go_at_call 14; (with_reducible refine (AL.out).mono ?_); rintro e w1 ⟨rfl, k1⟩; have b1 := k1)
      | (go_at_call 11; (with_reducible refine (K2.out _ b1).mono ?_); rintro e w2 ⟨rfl, k2⟩; have b2 := b1.trans (k2.mono b1.size)))
    go_ret
    exact ⟨rfl, b2⟩

end Go.Proofs.YtccpjjhaeocfhaaDoor
