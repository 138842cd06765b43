/- Several texts in one: Walks: the scanner's quoted texts; Walks: the longest token at a place; Walks: the token at a place. -/
import Derived.Test.YtffjblamfbmoeaaGreatDoorUb
import Derived.Test.YtffjblamfbmoeaaGreatDoorUv
import Derived.Test.YtffjblamfbmoeaaGreatDoorShelf
import Derived.Deep.QuietTactic
import Derived.BigQuiet
import Derived.Deep.CutBlock
/-! Walks: the scanner's quoted texts. -/
set_option linter.unusedVariables false
set_option linter.unusedSimpArgs false
namespace Go.Proofs.YtffjblamfbmoeaaGreatDoor
open Go Go.RowKit

namespace Tp
/-- What a quoted text is, from k on. -/
def qtE (q : UInt8) (t : T) (b k : Nat) : Nat × Nat := match qtLen q (t.drop k) with
  | 0 => (0, 0)
  | n + 1 => if q = 34 then (4, k + (n + 1)) else if k + n = b then (0, 0) else (3, k + (n + 1))
theorem drop_one {t : T} {k : Nat} {x : UInt8} (h : t[k]? = some x) : t.drop k = x :: t.drop (k + 1) := drop_at h
theorem qtL1 (q x : UInt8) (hn : x ≠ 10) (hq : x ≠ q) : qtLen q [x] = 0 := by simp [qtLen, hn, hq]
theorem qtE_end {q : UInt8} {t : T} {b k : Nat} (h : t.length ≤ k) : qtE q t b k = (0, 0) := by unfold qtE; rw [List.drop_eq_nil_of_le h]; rfl
theorem qtLen_nl (q : UInt8) (r : T) : qtLen q (10 :: r) = 0 := by cases r <;> simp [qtLen]
theorem qtLen_q {q : UInt8} (r : T) (h : q ≠ 10) : qtLen q (q :: r) = 1 := by cases r <;> simp [qtLen, h]
theorem qtE_nl {q : UInt8} {t : T} {b k : Nat} {x : UInt8} (h : t[k]? = some x) (hx : x = 10) : qtE q t b k = (0, 0) := by
  unfold qtE; rw [drop_one h, hx, qtLen_nl]
theorem qtE_q {q : UInt8} {t : T} {b k : Nat} {x : UInt8} (h : t[k]? = some x) (hq : q ≠ 10) (hx : x = q) : qtE q t b k = if q = 34 then (4, k + 1) else if k = b then (0, 0) else (3, k + 1) := by
  unfold qtE; rw [drop_one h, hx, qtLen_q _ hq]; rfl
theorem qtE_go {q : UInt8} {t : T} {b k : Nat} {x : UInt8} (h : t[k]? = some x) (hn : x ≠ 10) (hq : x ≠ q) (h2 : x ≠ 92) (hbk : b ≤ k) : qtE q t b k = qtE q t b (k + 1) := by
  unfold qtE
  rw [drop_one h]
  by_cases hl : k + 1 < t.length
  · have h3 := List.getElem?_eq_getElem hl
    rw [drop_one h3, qtLen, if_neg hn, if_neg hq, if_neg h2]
    cases qtLen q (t[k + 1] :: List.drop (k + 1 + 1) t) with
    | zero => rfl
    | succ n =>
      simp only
      split
      · congr 1; omega
      · rw [if_neg (by omega), if_neg (by omega)]; congr 1; omega
  · rw [List.drop_eq_nil_of_le (Nat.not_lt.1 hl), qtL1 q x hn hq]; rfl
theorem qtE_esc {q : UInt8} {t : T} {b k : Nat} {y : UInt8} (h : t[k]? = some 92) (h2 : t[k + 1]? = some y) (hq : (92 : UInt8) ≠ q) (hy : y ≠ 10) (hbk : b ≤ k) : qtE q t b k = qtE q t b (k + 2) := by
  unfold qtE
  rw [drop_one h, drop_one h2, qtLen, if_neg (by decide), if_neg hq, if_pos rfl, if_neg hy]
  cases qtLen q (List.drop (k + 1 + 1) t) with
  | zero => rfl
  | succ n =>
    simp only
    split
    · congr 1; omega
    · rw [if_neg (by omega), if_neg (by omega)]; congr 1; omega
theorem qtE_bad {q : UInt8} {t : T} {b k : Nat} (h : t[k]? = some 92) (h2 : ∀ y, t[k + 1]? = some y → y = 10) (hq : (92 : UInt8) ≠ q) : qtE q t b k = (0, 0) := by
  unfold qtE
  rw [drop_one h]
  by_cases hl : k + 1 < t.length
  · have h3 := List.getElem?_eq_getElem hl
    rw [drop_one h3, qtLen, if_neg (by decide), if_neg hq, if_pos rfl, if_pos (h2 _ h3)]
  · rw [List.drop_eq_nil_of_le (Nat.not_lt.1 hl), qtL1 q 92 (by decide) hq]
/-- Where a quoted text's sign stands. -/
def qtI (t : T) (a : Nat) : Nat := if [117, 56, 34].isPrefixOf (t.drop a) = true then a + 2 else if g t a = 117 ∨ g t a = 85 ∨ g t a = 76 then a + 1 else a
theorem quoted_no {t : T} {a : Nat} (h : ¬ (qtI t a < t.length ∧ (g t (qtI t a) = 39 ∨ g t (qtI t a) = 34))) : quoted t a = (0, 0) := by
  unfold quoted; exact if_neg h
theorem quoted_yes {t : T} {a : Nat} {q : UInt8} (h1 : qtI t a < t.length) (h2 : g t (qtI t a) = q) (h3 : q = 39 ∨ q = 34) : quoted t a = qtE q t (qtI t a + 1) (qtI t a + 1) := by
  unfold quoted qtE
  have h4 : g t (qtI t a) = 39 ∨ g t (qtI t a) = 34 := by rw [h2]; exact h3
  refine (if_pos ⟨h1, h4⟩).trans ?_
  show (match qtLen (g t (qtI t a)) (t.drop (qtI t a + 1)) with | 0 => (0, 0) | n + 1 => if g t (qtI t a) = 34 then (4, qtI t a + 1 + (n + 1)) else if n = 0 then (0, 0) else (3, qtI t a + 1 + (n + 1))) = _
  rw [h2]
  cases qtLen q (t.drop (qtI t a + 1)) with
  | zero => rfl
  | succ n =>
    simp only
    split
    · rfl
    · by_cases hn : n = 0
      · rw [if_pos hn, if_pos (by omega)]
      · rw [if_neg hn, if_neg (by omega)]
theorem qtI_le {t : T} {a : Nat} (h : a < t.length) : a ≤ qtI t a ∧ qtI t a ≤ t.length := by
  unfold qtI
  split
  · next hp =>
    have := (List.isPrefixOf_iff_prefix.1 hp).length_le
    simp at this; omega
  · split <;> omega
end Tp

theorem bs_tail (t : Tp.T) (a : Nat) : (bs t).extract a t.length = bs (t.drop a) := by
  rw [Lib.extract_eq, bs_data, List.take_of_length_le (by simp)]; rfl

set_option maxRecDepth 100000 in
set_option maxHeartbeats 8000000 in
theorem quoted_any (t : Tp.T) (a : Nat) (w : World) (ha : a < t.length) (hl : t.length ≤ 1000000) :
    Calls Tryz.prog 97 #[.string (bs t), .int .i64 a] w fun e w' => e = .returned (.tuple #[.int .i64 ((Tp.quoted t a).1 : Nat), .int .i64 ((Tp.quoted t a).2 : Nat)]) ∧ ∃ m, w' = w.drewN m := by
  have hts : (bs t).size = t.length := bs_size t
  have has : a < (bs t).size := by omega
  have G0 := Lib.hid (g_at has)
  obtain ⟨hi1, hi2⟩ := Tp.qtI_le ha
  have HQI := Lib.hid (show Tp.qtI t a = if [117, 56, 34].isPrefixOf (t.drop a) = true then a + 2 else if Tp.g t a = 117 ∨ Tp.g t a = 85 ∨ Tp.g t a = 76 then a + 1 else a from rfl)
  have HP := Lib.hid (fun W => Tryz.strings_HasPrefix (bs (t.drop a)) ⟨#[117, 56, 34]⟩ W)
  rw [bs_data, show Lib.hasPrefix (t.drop a) (⟨#[117, 56, 34]⟩ : ByteArray).data.toList = [117, 56, 34].isPrefixOf (t.drop a) from rfl] at HP
  have hcut := bs_tail t a
  obtain ⟨P, HPP⟩ : ∃ P, Hid (P = [117, 56, 34].isPrefixOf (t.drop a)) := ⟨_, Lib.hid rfl⟩
  rw [← HPP.out] at HP HQI
  obtain ⟨i, HI⟩ : ∃ i, Hid (i = Tp.qtI t a) := ⟨_, Lib.hid rfl⟩
  rw [← HI.out] at hi1 hi2 HQI
  go_enter Tryz.func97, Tryz.ntmps97
  go_upto_block 0 with fail
  go_cut [6] (fun s wc => s = .int .i64 i ∧ w = wc)
  case first =>
    cases P
    · have HQ2 := HQI.out
      rw [if_neg (by decide), G0.out] at HQ2
      simp only [c117, c85, c76] at HQ2
      replace HQ2 := Lib.hid HQ2
      clear HQI
      go_wp2_with (first
        | (go_at_call 77; (with_reducible refine (HP.out _).mono ?_); rintro e w1 ⟨rfl, rfl⟩))
      all_goals
        go_meet
        refine ⟨?_, rfl⟩
        rw [HQ2.out]
        try simp only [beq_iff_eq, beq_eq_false_iff_ne, ne_eq] at *
        first
          | (rw [if_pos (by omega)]; go_num)
          | (rw [if_neg (by omega)])
    · have HQ2 := HQI.out
      rw [if_pos rfl] at HQ2
      replace HQ2 := Lib.hid HQ2
      clear HQI
      go_wp2_with (first
        | (go_at_call 77; (with_reducible refine (HP.out _).mono ?_); rintro e w1 ⟨rfl, rfl⟩))
      go_meet
      exact ⟨by rw [HQ2.out]; go_num, rfl⟩
  case rest =>
    obtain ⟨rfl, rfl⟩ := hcut
    by_cases hil : i < t.length
    · have his : i < (bs t).size := by omega
      have G1 := Lib.hid (g_at his)
      obtain ⟨q, HQ⟩ : ∃ q, Hid (Tp.g t i = q) := ⟨_, Lib.hid rfl⟩
      by_cases hq : q = 39 ∨ q = 34
      · have HV := Lib.hid (show Tp.quoted t a = Tp.qtE q t (i + 1) (i + 1) by
          have := Tp.quoted_yes (t := t) (a := a) (q := q) (by rw [← HI.out]; exact hil) (by rw [← HI.out]; exact HQ.out) hq
          rw [← HI.out] at this; exact this)
        have e1 : IntKind.i64.wrap ((i : Int) + 1) = (i : Int) + 1 := IntWalk.i64_in _ (by omega)
        have e2 : (0 : Int) ≤ (i : Int) + 1 := by omega
        have hcI : (bs t)[i] = q := by rw [← G1.out]; exact HQ.out
        have hnI : ¬ (i : Int) = (t.length : Int) := by omega
        have hnB : ((i : Int) == (t.length : Int)) = false := beq_eq_false_iff_ne.2 hnI
        have hZq : ((bs t)[i].toNat : Int) = (q.toNat : Int) := by rw [hcI]
        have hNq : (bs t)[i].toNat = q.toNat := by rw [hcI]
        have hbb : i + 1 ≤ t.length := by omega
        clear HQ G1 HQI HP HPP HI G0 hcut
        rcases hq with rfl | rfl
        · have hN : ((bs t)[i]'his).toNat = 39 := hNq
          have hZ : (((bs t)[i]'his).toNat : Int) = 39 := hZq
          clear hcI hNq hZq
          go_wp2
          go_quiet (fail)
          clear e1 e2 hN hZ hnI hnB
          go_wp2
          obtain ⟨b, hb⟩ : ∃ b, b = i + 1 := ⟨_, rfl⟩
          rw [← hb] at HV hbb
          have hbI : (i : Int) + 1 = (b : Int) := by omega
          rw [hbI]
          clear hb hbI
          go_loop [6] (fun z => ∃ k : Nat, b ≤ k ∧ k ≤ t.length + 1 ∧ z = .int .i64 k ∧ Hid (Tp.quoted t a = Tp.qtE 39 t b k)) (fun z => t.length + 1 - (intOf z).toNat)
          case atStart => exact ⟨b, Nat.le_refl _, by omega, rfl, HV⟩
          case round =>
            obtain ⟨k, hk1, hk2, rfl, HE⟩ := hrel
            by_cases hkl : k < t.length
            · have hks : k < (bs t).size := by omega
              have hgk := ba_getT (bs t) k hks
              rw [bs_data] at hgk
              generalize hck : (bs t)[k] = c at *
              by_cases c1 : c = 10
              · have HR := Lib.hid (HE.out.trans (Tp.qtE_nl hgk c1))
                subst c1
                go_wp2
                go_ret2
                exact ⟨by rw [HR.out]; rfl, _, rfl⟩
              by_cases c2 : c = 39
              · have HR := Lib.hid (HE.out.trans (Tp.qtE_q hgk (by decide) c2))
                subst c2
                clear hgk c1
                by_cases hkb : k = b
                · have HR2 := Lib.hid (show Tp.quoted t a = (0, 0) from HR.out.trans ((if_neg (by decide)).trans (if_pos hkb)))
                  subst hkb
                  clear HR
                  go_wp2
                  go_ret2
                  exact ⟨by rw [HR2.out]; rfl, _, rfl⟩
                · have HR2 := Lib.hid (show Tp.quoted t a = (3, k + 1) from HR.out.trans ((if_neg (by decide)).trans (if_neg hkb)))
                  have hkb2 : (b : Int) < (k : Int) := by omega
                  clear HR hkb
                  go_wp2
                  go_ret2
                  exact ⟨by rw [HR2.out]; rfl, _, rfl⟩
              by_cases c3 : c = 92
              · subst c3
                clear c1 c2
                by_cases hk2l : k + 1 < t.length
                · have hks2 : k + 1 < (bs t).size := by omega
                  have hgk2 := ba_getT (bs t) (k + 1) hks2
                  rw [bs_data] at hgk2
                  generalize hdk : (bs t)[k + 1] = d at *
                  by_cases hd : d = 10
                  · have HR := Lib.hid (HE.out.trans (Tp.qtE_bad hgk (fun y hy => by rw [hgk2] at hy; cases hy; exact hd) (by decide)))
                    subst hd
                    clear hgk hgk2
                    go_wp2
                    go_ret2
                    exact ⟨by rw [HR.out]; rfl, _, rfl⟩
                  · have HR := Lib.hid (HE.out.trans (Tp.qtE_esc hgk hgk2 (by decide) hd hk1))
                    have d1 : ¬ (d.toNat : Int) = 10 := by intro e; exact hd (by rw [c10]; exact e)
                    have d1b : ((d.toNat : Int) != 10) = true := by simp [d1]
                    clear hgk hgk2 hd
                    go_wp2
                    go_round
                    case rel => exact ⟨k + 2, by omega, by omega, by go_num, HR⟩
                    case measure => simp [intOf]; omega
                · have HR := Lib.hid (HE.out.trans (Tp.qtE_bad hgk (fun y hy => by have := (List.getElem?_eq_some_iff.1 hy).1; omega) (by decide)))
                  have hk1L : k + 1 = t.length := by omega
                  have hk1I : ¬ (k : Int) + 1 < (t.length : Int) := by omega
                  have HKL := Lib.hid hk1L
                  clear hgk hk1L
                  go_wp2
                  go_ret2
                  exact ⟨by rw [HR.out]; rfl, _, rfl⟩
              · have HR := Lib.hid (HE.out.trans (Tp.qtE_go hgk c1 c2 c3 hk1))
                have d1 : ¬ (c.toNat : Int) = 10 := by intro e; exact c1 (by rw [c10]; exact e)
                have d1b : ((c.toNat : Int) != 10) = true := by simp [d1]
                have d2 : ¬ (c.toNat : Int) = 39 := by intro e; exact c2 (by rw [c39]; exact e)
                have d2b : ((c.toNat : Int) == 39) = false := by simp [d2]
                have d3 : ¬ (c.toNat : Int) = 92 := by intro e; exact c3 (by rw [c92]; exact e)
                have d3b : ((c.toNat : Int) == 92) = false := by simp [d3]
                clear c1 c2 c3 hgk
                go_wp2
                go_round
                case rel => exact ⟨k + 1, by omega, by omega, by go_num, HR⟩
                case measure => simp [intOf]; omega
            · have HR := Lib.hid (HE.out.trans (Tp.qtE_end (by omega)))
              go_wp2
              go_ret2
              exact ⟨by rw [HR.out]; rfl, _, rfl⟩
        · have hN : ((bs t)[i]'his).toNat = 34 := hNq
          have hZ : (((bs t)[i]'his).toNat : Int) = 34 := hZq
          clear hcI hNq hZq
          go_wp2
          go_quiet (fail)
          clear e1 e2 hN hZ hnI hnB
          go_wp2
          obtain ⟨b, hb⟩ : ∃ b, b = i + 1 := ⟨_, rfl⟩
          rw [← hb] at HV hbb
          have hbI : (i : Int) + 1 = (b : Int) := by omega
          rw [hbI]
          clear hb hbI
          go_loop [6] (fun z => ∃ k : Nat, b ≤ k ∧ k ≤ t.length + 1 ∧ z = .int .i64 k ∧ Hid (Tp.quoted t a = Tp.qtE 34 t b k)) (fun z => t.length + 1 - (intOf z).toNat)
          case atStart => exact ⟨b, Nat.le_refl _, by omega, rfl, HV⟩
          case round =>
            obtain ⟨k, hk1, hk2, rfl, HE⟩ := hrel
            by_cases hkl : k < t.length
            · have hks : k < (bs t).size := by omega
              have hgk := ba_getT (bs t) k hks
              rw [bs_data] at hgk
              generalize hck : (bs t)[k] = c at *
              by_cases c1 : c = 10
              · have HR := Lib.hid (HE.out.trans (Tp.qtE_nl hgk c1))
                subst c1
                go_wp2
                go_ret2
                exact ⟨by rw [HR.out]; rfl, _, rfl⟩
              by_cases c2 : c = 34
              · have HR := Lib.hid (HE.out.trans (Tp.qtE_q hgk (by decide) c2))
                subst c2
                clear hgk c1
                have HR2 := Lib.hid (show Tp.quoted t a = (4, k + 1) from HR.out.trans (if_pos rfl))
                clear HR
                go_wp2
                go_ret2
                exact ⟨by rw [HR2.out]; rfl, _, rfl⟩
              by_cases c3 : c = 92
              · subst c3
                clear c1 c2
                by_cases hk2l : k + 1 < t.length
                · have hks2 : k + 1 < (bs t).size := by omega
                  have hgk2 := ba_getT (bs t) (k + 1) hks2
                  rw [bs_data] at hgk2
                  generalize hdk : (bs t)[k + 1] = d at *
                  by_cases hd : d = 10
                  · have HR := Lib.hid (HE.out.trans (Tp.qtE_bad hgk (fun y hy => by rw [hgk2] at hy; cases hy; exact hd) (by decide)))
                    subst hd
                    clear hgk hgk2
                    go_wp2
                    go_ret2
                    exact ⟨by rw [HR.out]; rfl, _, rfl⟩
                  · have HR := Lib.hid (HE.out.trans (Tp.qtE_esc hgk hgk2 (by decide) hd hk1))
                    have d1 : ¬ (d.toNat : Int) = 10 := by intro e; exact hd (by rw [c10]; exact e)
                    have d1b : ((d.toNat : Int) != 10) = true := by simp [d1]
                    clear hgk hgk2 hd
                    go_wp2
                    go_round
                    case rel => exact ⟨k + 2, by omega, by omega, by go_num, HR⟩
                    case measure => simp [intOf]; omega
                · have HR := Lib.hid (HE.out.trans (Tp.qtE_bad hgk (fun y hy => by have := (List.getElem?_eq_some_iff.1 hy).1; omega) (by decide)))
                  have hk1L : k + 1 = t.length := by omega
                  have hk1I : ¬ (k : Int) + 1 < (t.length : Int) := by omega
                  have HKL := Lib.hid hk1L
                  clear hgk hk1L
                  go_wp2
                  go_ret2
                  exact ⟨by rw [HR.out]; rfl, _, rfl⟩
              · have HR := Lib.hid (HE.out.trans (Tp.qtE_go hgk c1 c2 c3 hk1))
                have d1 : ¬ (c.toNat : Int) = 10 := by intro e; exact c1 (by rw [c10]; exact e)
                have d1b : ((c.toNat : Int) != 10) = true := by simp [d1]
                have d2 : ¬ (c.toNat : Int) = 34 := by intro e; exact c2 (by rw [c34]; exact e)
                have d2b : ((c.toNat : Int) == 34) = false := by simp [d2]
                have d3 : ¬ (c.toNat : Int) = 92 := by intro e; exact c3 (by rw [c92]; exact e)
                have d3b : ((c.toNat : Int) == 92) = false := by simp [d3]
                clear c1 c2 c3 hgk
                go_wp2
                go_round
                case rel => exact ⟨k + 1, by omega, by omega, by go_num, HR⟩
                case measure => simp [intOf]; omega
            · have HR := Lib.hid (HE.out.trans (Tp.qtE_end (by omega)))
              go_wp2
              go_ret2
              exact ⟨by rw [HR.out]; rfl, _, rfl⟩
      · have HV := Lib.hid (show Tp.quoted t a = (0, 0) from Tp.quoted_no (by rw [← HI.out, HQ.out]; exact fun h => hq h.2))
        have hcI : (bs t)[i] = q := by rw [← G1.out]; exact HQ.out
        simp only [not_or] at hq
        have n1 : ¬ ((bs t)[i].toNat : Int) = 39 := by rw [hcI]; intro e; exact hq.1 (by rw [c39]; exact e)
        have n2 : ¬ ((bs t)[i].toNat : Int) = 34 := by rw [hcI]; intro e; exact hq.2 (by rw [c34]; exact e)
        have n1b : (((bs t)[i].toNat : Int) != 39) = true := by simp [n1]
        have n2b : (((bs t)[i].toNat : Int) != 34) = true := by simp [n2]
        have hnI : ¬ (i : Int) = (t.length : Int) := by omega
        have hnB : ((i : Int) == (t.length : Int)) = false := beq_eq_false_iff_ne.2 hnI
        clear hcI HQ G1 HQI HP HPP HI G0 hcut hq
        go_wp2
        go_ret2
        exact ⟨by rw [HV.out]; rfl, 0, rfl⟩
    · obtain rfl : i = t.length := by omega
      have HV := Lib.hid (show Tp.quoted t a = (0, 0) from Tp.quoted_no (by rw [← HI.out]; simp))
      go_wp2
      go_ret2
      exact ⟨by rw [HV.out]; rfl, 0, rfl⟩

end Go.Proofs.YtffjblamfbmoeaaGreatDoor

/-! Walks: the longest token at a place. -/
set_option linter.unusedVariables false
set_option linter.unusedSimpArgs false
namespace Go.Proofs.YtffjblamfbmoeaaGreatDoor
open Go Go.RowKit

theorem setCell_drewN (w : World) (n : Nat) (p : Addr) (v : Value) : (w.drewN n).setCell p v = (w.setCell p v).drewN n := rfl
theorem alloc_drewN (w : World) (n : Nat) (o : Obj) : (w.drewN n).alloc o = (w.alloc o).drewN n := rfl
attribute [local go_sem] setCell_drewN alloc_drewN

/-- A token's place as a value. -/
def itV (i : Tp.It) : Value := .agg #[.int .i64 i.k, .int .i64 i.f, .int .i64 i.t]
def itR (x : Tp.It × Int) : Value := .tuple #[itV x.1, .int .i64 x.2]
namespace Tp
theorem best_eq (k1 t1 k2 t2 a : Nat) : best ⟨k1, a, t1⟩ ⟨k2, a, t2⟩ = ⟨if t1 < t2 then k2 else k1, a, if t1 < t2 then t2 else t1⟩ := by
  unfold best; simp only; split <;> rfl
end Tp

set_option maxRecDepth 100000 in
set_option maxHeartbeats 8000000 in
theorem longest_any (t : Tp.T) (a : Nat) (w : World) (ha : a < t.length) (hl : t.length ≤ 1000000) :
    Calls Tryz.prog 80 #[.string (bs t), .int .i64 a] w fun e w' => e = .returned (itR (Tp.longest t a)) ∧ Below w.heap.size w w' := by
  have hts : (bs t).size = t.length := bs_size t
  have has : a < (bs t).size := by omega
  have G0 := Lib.hid (g_at has)
  have QT := Lib.hid (fun W => quoted_any t a W ha hl)
  have WD := Lib.hid (fun W => wordEnd_any t a W ha hl)
  have NM := Lib.hid (fun W => numberEnd_any t a W ha hl)
  have PU := Lib.hid (fun W => punctEnd_any t a W ha hl)
  obtain ⟨k1, hk1⟩ : ∃ k, (Tp.quoted t a).1 = k := ⟨_, rfl⟩
  obtain ⟨t1, ht1⟩ : ∃ k, (Tp.quoted t a).2 = k := ⟨_, rfl⟩
  obtain ⟨t2, ht2⟩ : ∃ k, Tp.wordEnd t a = k := ⟨_, rfl⟩
  obtain ⟨t3, ht3⟩ : ∃ k, Tp.numberEnd t a = k := ⟨_, rfl⟩
  obtain ⟨t4, ht4⟩ : ∃ k, Tp.punctEnd t a = k := ⟨_, rfl⟩
  rw [hk1, ht1] at QT
  rw [ht2] at WD
  rw [ht3] at NM
  rw [ht4] at PU
  have HL0 : Tp.longest t a = if Tp.g t a = 10 then (⟨9, a, a + 1⟩, 0) else
      let b := Tp.best (Tp.best (Tp.best (Tp.best ⟨0, a, a⟩ ⟨k1, a, t1⟩) ⟨1, a, t2⟩) ⟨2, a, t3⟩) ⟨5, a, t4⟩
      if b.k ≠ 0 then (b, 0) else if Tp.g t a = 39 ∨ Tp.g t a = 34 then (⟨0, 0, 0⟩, 21) else (⟨6, a, a + 1⟩, 0) := by unfold Tp.longest; rw [hk1, ht1, ht2, ht3, ht4]
  clear hk1 ht1 ht2 ht3 ht4
  rw [Tp.best_eq] at HL0
  obtain ⟨u1, hu1⟩ : ∃ u, u = if a < t1 then k1 else 0 := ⟨_, rfl⟩
  obtain ⟨v1, hv1⟩ : ∃ u, u = if a < t1 then t1 else a := ⟨_, rfl⟩
  rw [← hu1, ← hv1, Tp.best_eq] at HL0
  obtain ⟨u2, hu2⟩ : ∃ u, u = if v1 < t2 then 1 else u1 := ⟨_, rfl⟩
  obtain ⟨v2, hv2⟩ : ∃ u, u = if v1 < t2 then t2 else v1 := ⟨_, rfl⟩
  rw [← hu2, ← hv2, Tp.best_eq] at HL0
  obtain ⟨u3, hu3⟩ : ∃ u, u = if v2 < t3 then 2 else u2 := ⟨_, rfl⟩
  obtain ⟨v3, hv3⟩ : ∃ u, u = if v2 < t3 then t3 else v2 := ⟨_, rfl⟩
  rw [← hu3, ← hv3, Tp.best_eq] at HL0
  obtain ⟨u4, hu4⟩ : ∃ u, u = if v3 < t4 then 5 else u3 := ⟨_, rfl⟩
  obtain ⟨v4, hv4⟩ : ∃ u, u = if v3 < t4 then t4 else v3 := ⟨_, rfl⟩
  rw [← hu4, ← hv4] at HL0
  have HU1 := Lib.hid hu1
  have HV1 := Lib.hid hv1
  have HU2 := Lib.hid hu2
  have HV2 := Lib.hid hv2
  have HU3 := Lib.hid hu3
  have HV3 := Lib.hid hv3
  have HU4 := Lib.hid hu4
  have HV4 := Lib.hid hv4
  clear hu1 hv1 hu2 hv2 hu3 hv3 hu4 hv4
  by_cases h10 : Tp.g t a = 10
  · rw [if_pos h10] at HL0
    have hN : ((bs t)[a]'has).toNat = 10 := by rw [← G0.out, h10]; rfl
    have hZ : (((bs t)[a]'has).toNat : Int) = 10 := by omega
    replace HL0 := Lib.hid HL0
    clear h10
    go_enter Tryz.func80, Tryz.ntmps80
    go_wp2
    rw [HL0.out]
    refine bodyPost_ret (v := itR _) ?_ rfl ⟨rfl, (Below.refl _ w).alloc (Nat.le_refl _) _⟩
    simp [results, Tryz.results80, go_sem, itR, itV]
  · rw [if_neg h10] at HL0
    have hZ : ¬ (((bs t)[a]'has).toNat : Int) = 10 := by rw [← G0.out]; intro e; exact h10 (by rw [c10]; exact e)
    replace HL0 := Lib.hid HL0
    clear h10
    go_enter Tryz.func80, Tryz.ntmps80
    go_upto_if 34 with (first
      | (go_at_call 97; (with_reducible refine (QT.out _).mono ?_); rintro e w1 ⟨rfl, m, rfl⟩))
    go_cut [9] (fun s wc => s = .int .i64 t1 ∧ ((w.alloc (.cells #[.int .i64 0, .int .i64 0, .int .i64 0] 83)).alloc (.cells #[.int .i64 u1, .int .i64 a, .int .i64 v1] 83)).drewN m = wc)
    case first =>
      by_cases hq : a < t1
      · have HA := Lib.hid (HU1.out.trans (if_pos hq))
        have HB := Lib.hid (HV1.out.trans (if_pos hq))
        go_wp2_with fail
        go_meet
        exact ⟨rfl, by first | (rw [HA.out, HB.out]; done) | (rw [HA.out, HB.out]; rfl)⟩
      · have HA := Lib.hid (HU1.out.trans (if_neg hq))
        have HB := Lib.hid (HV1.out.trans (if_neg hq))
        go_wp2_with fail
        go_meet
        exact ⟨rfl, by first | (rw [HA.out, HB.out]; done) | (rw [HA.out, HB.out]; rfl)⟩
    case rest =>
      obtain ⟨rfl, rfl⟩ := hcut
      go_upto_if 45 with (first
        | (go_at_call 98; (with_reducible refine (WD.out _).mono ?_); rintro e w1 ⟨rfl, rfl⟩))
      go_cut [10] (fun s wc => s = .int .i64 t2 ∧ ((w.alloc (.cells #[.int .i64 0, .int .i64 0, .int .i64 0] 83)).alloc (.cells #[.int .i64 u2, .int .i64 a, .int .i64 v2] 83)).drewN m = wc)
      case first =>
        by_cases hq : v1 < t2
        · have HA := Lib.hid (HU2.out.trans (if_pos hq))
          have HB := Lib.hid (HV2.out.trans (if_pos hq))
          go_wp2_with fail
          go_meet
          exact ⟨rfl, by first | (rw [HA.out, HB.out]; done) | (rw [HA.out, HB.out]; rfl)⟩
        · have HA := Lib.hid (HU2.out.trans (if_neg hq))
          have HB := Lib.hid (HV2.out.trans (if_neg hq))
          go_wp2_with fail
          go_meet
          exact ⟨rfl, by first | (rw [HA.out, HB.out]; done) | (rw [HA.out, HB.out]; rfl)⟩
      case rest =>
        obtain ⟨rfl, rfl⟩ := hcut
        go_upto_if 55 with (first
          | (go_at_call 99; (with_reducible refine (NM.out _).mono ?_); rintro e w1 ⟨rfl, rfl⟩))
        go_cut [11] (fun s wc => s = .int .i64 t3 ∧ ((w.alloc (.cells #[.int .i64 0, .int .i64 0, .int .i64 0] 83)).alloc (.cells #[.int .i64 u3, .int .i64 a, .int .i64 v3] 83)).drewN m = wc)
        case first =>
          by_cases hq : v2 < t3
          · have HA := Lib.hid (HU3.out.trans (if_pos hq))
            have HB := Lib.hid (HV3.out.trans (if_pos hq))
            go_wp2_with fail
            go_meet
            exact ⟨rfl, by first | (rw [HA.out, HB.out]; done) | (rw [HA.out, HB.out]; rfl)⟩
          · have HA := Lib.hid (HU3.out.trans (if_neg hq))
            have HB := Lib.hid (HV3.out.trans (if_neg hq))
            go_wp2_with fail
            go_meet
            exact ⟨rfl, by first | (rw [HA.out, HB.out]; done) | (rw [HA.out, HB.out]; rfl)⟩
        case rest =>
          obtain ⟨rfl, rfl⟩ := hcut
          go_upto_if 65 with (first
            | (go_at_call 100; (with_reducible refine (PU.out _).mono ?_); rintro e w1 ⟨rfl, rfl⟩))
          go_cut [12] (fun s wc => s = .int .i64 t4 ∧ ((w.alloc (.cells #[.int .i64 0, .int .i64 0, .int .i64 0] 83)).alloc (.cells #[.int .i64 u4, .int .i64 a, .int .i64 v4] 83)).drewN m = wc)
          case first =>
            by_cases hq : v3 < t4
            · have HA := Lib.hid (HU4.out.trans (if_pos hq))
              have HB := Lib.hid (HV4.out.trans (if_pos hq))
              go_wp2_with fail
              go_meet
              exact ⟨rfl, by first | (rw [HA.out, HB.out]; done) | (rw [HA.out, HB.out]; rfl)⟩
            · have HA := Lib.hid (HU4.out.trans (if_neg hq))
              have HB := Lib.hid (HV4.out.trans (if_neg hq))
              go_wp2_with fail
              go_meet
              exact ⟨rfl, by first | (rw [HA.out, HB.out]; done) | (rw [HA.out, HB.out]; rfl)⟩
          case rest =>
            obtain ⟨rfl, rfl⟩ := hcut
            have hW : Below w.heap.size w (((w.alloc (.cells #[.int .i64 0, .int .i64 0, .int .i64 0] 83)).alloc (.cells #[.int .i64 u4, .int .i64 a, .int .i64 v4] 83)).drewN m) := below_drewN (((Below.refl _ w).alloc (Nat.le_refl _) _).alloc (by simp) _) m
            by_cases hk : u4 = 0
            · subst hk
              by_cases hq : Tp.g t a = 39 ∨ Tp.g t a = 34
              · have HR := Lib.hid (show Tp.longest t a = (⟨0, 0, 0⟩, 21) by rw [HL0.out]; exact (if_neg (by simp)).trans (if_pos hq))
                rcases hq with hq | hq
                · have hN : ((bs t)[a]'has).toNat = 39 := by rw [← G0.out, hq]; rfl
                  have hZ2 : (((bs t)[a]'has).toNat : Int) = 39 := by omega
                  clear hq
                  go_wp2
                  rw [HR.out]
                  refine bodyPost_ret (v := itR _) ?_ rfl ⟨rfl, ?_⟩
                  · simp [results, Tryz.results80, go_sem, itR, itV]
                  · exact below_drewN (((Below.refl _ w).alloc (Nat.le_refl _) _).alloc (by simp) _) m
                · have hN : ((bs t)[a]'has).toNat = 34 := by rw [← G0.out, hq]; rfl
                  have hZ2 : (((bs t)[a]'has).toNat : Int) = 34 := by omega
                  clear hq
                  go_wp2
                  rw [HR.out]
                  refine bodyPost_ret (v := itR _) ?_ rfl ⟨rfl, ?_⟩
                  · simp [results, Tryz.results80, go_sem, itR, itV]
                  · exact below_drewN (((Below.refl _ w).alloc (Nat.le_refl _) _).alloc (by simp) _) m
              · have HR := Lib.hid (show Tp.longest t a = (⟨6, a, a + 1⟩, 0) by rw [HL0.out]; exact (if_neg (by simp)).trans (if_neg hq))
                rw [G0.out] at hq
                simp only [c39, c34, not_or] at hq
                obtain ⟨hq1, hq2⟩ := hq
                have b1 : ((((bs t)[a]'has).toNat : Int) == 39) = false := by simp [hq1]
                have b2 : ((((bs t)[a]'has).toNat : Int) == 34) = false := by simp [hq2]
                go_wp2
                rw [HR.out]
                refine bodyPost_ret (v := itR _) ?_ rfl ⟨rfl, ?_⟩
                · simp [results, Tryz.results80, go_sem, itR, itV]
                · exact below_drewN (((Below.refl _ w).alloc (Nat.le_refl _) _).alloc (by simp) _) m
            · have HR := Lib.hid (show Tp.longest t a = (⟨u4, a, v4⟩, 0) by rw [HL0.out]; exact if_pos hk)
              have hkI : ¬ (u4 : Int) = 0 := by omega
              clear hk
              go_wp2
              rw [HR.out]
              refine bodyPost_ret (v := itR _) ?_ rfl ⟨rfl, ?_⟩
              · simp [results, Tryz.results80, go_sem, itR, itV]
              · exact below_drewN (((Below.refl _ w).alloc (Nat.le_refl _) _).alloc (by simp) _) m

end Go.Proofs.YtffjblamfbmoeaaGreatDoor

/-! Walks: the token at a place. -/
set_option linter.unusedVariables false
set_option linter.unusedSimpArgs false
namespace Go.Proofs.YtffjblamfbmoeaaGreatDoor
open Go Go.RowKit

namespace Tp
theorem cm_index (l : T) : Lib.index l [42, 47] = match cmLen l with | none => -1 | some n => (n : Int) := by
  induction l with
  | nil => rfl
  | cons x l ih =>
    cases l with
    | nil => simp [Lib.index, cmLen]
    | cons y r =>
      rw [Lib.index, ih, cmLen]
      by_cases h : x = 42 ∧ y = 47
      · rw [if_pos h, h.1, h.2]; rfl
      · rw [if_neg h, if_neg (by simp only [List.isPrefixOf, Bool.and_eq_true, beq_iff_eq]; intro e; exact h ⟨e.1.symm, e.2.1.symm⟩)]
        cases cmLen (y :: r) with
        | none => rfl
        | some n =>
          simp only [Option.map_some]
          rw [if_neg (by simp)]
          push_cast; rfl
theorem cm_le (l : T) : ∀ n, cmLen l = some n → n + 2 ≤ l.length := by
  induction l with
  | nil => intro n h; simp [cmLen] at h
  | cons x l ih =>
    intro n h
    cases l with
    | nil => simp [cmLen] at h
    | cons y r =>
      rw [cmLen] at h
      split at h
      · simp only [Option.some.injEq] at h; subst h; simp
      · cases hc : cmLen (y :: r) with
        | none => rw [hc] at h; simp at h
        | some m =>
          rw [hc] at h
          simp only [Option.map_some, Option.some.injEq] at h
          have := ih m hc
          simp only [List.length_cons] at this ⊢
          omega
theorem ln_index (l : T) : Lib.indexByte l 10 = if 10 ∈ l then (lnLen l : Int) else -1 := by
  induction l with
  | nil => rfl
  | cons x r ih =>
    rw [Lib.indexByte, lnLen, ih]
    by_cases h : x = 10
    · subst h; simp
    · rw [if_neg (by simpa using h), if_neg h]
      by_cases hr : 10 ∈ r
      · rw [if_pos hr, if_neg (by simp), if_pos (by simp [hr])]; push_cast; rfl
      · rw [if_neg hr, if_pos (by decide), if_neg (by simp [hr]; exact fun e => h e.symm)]
theorem ln_len (l : T) (h : 10 ∉ l) : lnLen l = l.length := by
  induction l with
  | nil => rfl
  | cons x r ih =>
    simp only [List.mem_cons, not_or] at h
    rw [lnLen, if_neg (fun e => h.1 e.symm), ih h.2]; rfl
theorem ln_le (l : T) : lnLen l ≤ l.length := by
  induction l with
  | nil => exact Nat.le_refl _
  | cons x r ih => rw [lnLen]; split <;> simp <;> omega
/-- What the rest of itemAt does, behind the header. -/
def itemR (l : T) (a : Nat) : It × Int :=
  if [47, 42].isPrefixOf (l.drop a) = true then match cmLen (l.drop (a + 2)) with
    | none => (⟨0, 0, 0⟩, 20)
    | some n => (⟨8, a, a + 2 + n + 2⟩, 0)
  else if [47, 47].isPrefixOf (l.drop a) = true then (⟨8, a, a + lnLen (l.drop a)⟩, 0)
  else longest l a
theorem itemAt_eq (l : T) (a : Nat) (h : Bool) : itemAt l a h = if h = true ∧ 0 < headerEnd l a then (⟨7, a, headerEnd l a⟩, 0) else itemR l a := rfl
end Tp

/-- A block that holds a token's place. -/
def Ib (W : World) (b : Nat) (x : Tp.It) : Prop := W.heap[b]? = some (.cells #[.int .i64 x.k, .int .i64 x.f, .int .i64 x.t] 83 (0, 0))
theorem Ib.lt {W : World} {b : Nat} {p : Tp.It} (h : Ib W b p) : b < W.heap.size := (Array.getElem?_eq_some_iff.1 h).1
theorem Ib.cells {W : World} {b : Nat} {p : Tp.It} (h : Ib W b p) : W.cell? ⟨b, 0, none⟩ = some (.int .i64 p.k) ∧ W.cell? ⟨b, 1, none⟩ = some (.int .i64 p.f) ∧ W.cell? ⟨b, 2, none⟩ = some (.int .i64 p.t) :=
  ⟨Lib.cell_of_heap h 0, Lib.cell_of_heap h 1, Lib.cell_of_heap h 2⟩
theorem Ib.frozen {W : World} {b : Nat} {p : Tp.It} (h : Ib W b p) : W.frozen? ⟨b, 0, none⟩ = false ∧ W.frozen? ⟨b, 1, none⟩ = false ∧ W.frozen? ⟨b, 2, none⟩ = false := by
  unfold Ib at h; exact ⟨by simp [World.frozen?, h], by simp [World.frozen?, h], by simp [World.frozen?, h]⟩
theorem Ib.new (W : World) (p : Tp.It) : Ib (W.alloc (.cells #[.int .i64 p.k, .int .i64 p.f, .int .i64 p.t] 83)) W.heap.size p := heap_alloc_new W _
theorem Ib.below {W W' : World} {b B : Nat} {p : Tp.It} (h : Ib W b p) (hb : Below B W W') (hB : b < B) : Ib W' b p := (hb.block b hB).trans h
theorem Ib.put {W : World} {b l : Nat} {p : Tp.It} {o : Obj} (h : Ib W b p) (o' : Obj) (hl : W.heap[l]? = some o) (ho : o.isCells = false) : Ib (W.putObj l o') b p :=
  (World.putObj_heap_other (by rintro rfl; unfold Ib at h; rw [hl] at h; cases h; cases ho)).trans h
theorem Ib.set {W : World} {b : Nat} {p : Tp.It} (h : Ib W b p) (q : Tp.It) : Ib (((W.setCell ⟨b, 0, none⟩ (.int .i64 q.k)).setCell ⟨b, 1, none⟩ (.int .i64 q.f)).setCell ⟨b, 2, none⟩ (.int .i64 q.t)) b q := by
  unfold Ib at h ⊢
  simp [World.setCell, Array.getElem?_modify, h]

/-- The library's variable at the first block is an int. -/
def MX (w : World) : Prop := ∃ m : Int, w.cell? ⟨0, 0, none⟩ = some (.int .i64 m)
theorem MX.lt {w : World} (h : MX w) : 0 < w.heap.size := by
  obtain ⟨m, h⟩ := h
  by_cases h0 : 0 < w.heap.size
  · exact h0
  · unfold World.cell? at h
    rw [Array.getElem?_eq_none (by simpa using h0)] at h
    simp at h
theorem MX.below {w w' : World} {B : Nat} (h : MX w) (hb : Below B w w') (hB : 0 < B) : MX w' := by
  obtain ⟨m, h⟩ := h
  exact ⟨m, (hb.cell (p := ⟨0, 0, none⟩) hB).trans h⟩
theorem MX.later {w w' : World} (h : MX w) (hb : Below w.heap.size w w') : MX w' := h.below hb h.lt
theorem MX.same {w w' : World} (h : MX w) (hb : w'.heap[0]? = w.heap[0]?) : MX w' := by
  obtain ⟨m, h⟩ := h
  exact ⟨m, (cell_same (p := ⟨0, 0, none⟩) hb).trans h⟩

set_option maxRecDepth 100000 in
set_option maxHeartbeats 8000000 in
theorem itemAt_any (t : Tp.T) (a : Nat) (h : Bool) (w : World) (ha : a < t.length) (hl : t.length ≤ 1000000) (hm : MX w) :
    Calls Tryz.prog 55 #[.string (bs t), .int .i64 a, .bool h] w fun e w' => e = .returned (itR (Tp.itemAt t a h)) ∧ Below w.heap.size w w' := by
  have hts : (bs t).size = t.length := bs_size t
  have HD := Lib.hid (fun W => headerEnd_any t a W ha hl)
  have LG := Lib.hid (fun W => longest_any t a W ha hl)
  have PA := Lib.hid (fun W => Tryz.strings_HasPrefix (bs (t.drop a)) ⟨#[47, 42]⟩ W)
  have PB := Lib.hid (fun W => Tryz.strings_HasPrefix (bs (t.drop a)) ⟨#[47, 47]⟩ W)
  rw [bs_data, show Lib.hasPrefix (t.drop a) (⟨#[47, 42]⟩ : ByteArray).data.toList = [47, 42].isPrefixOf (t.drop a) from rfl] at PA
  rw [bs_data, show Lib.hasPrefix (t.drop a) (⟨#[47, 47]⟩ : ByteArray).data.toList = [47, 47].isPrefixOf (t.drop a) from rfl] at PB
  have hcut := bs_tail t a
  have HI := Lib.hid (Tp.itemAt_eq t a h)
  obtain ⟨R, HRR⟩ : ∃ R, Hid (Tp.itemAt t a h = R) := ⟨_, Lib.hid rfl⟩
  rw [HRR.out] at HI
  rw [HRR.out]
  clear HRR
  obtain ⟨he, HE⟩ : ∃ x, Hid (Tp.headerEnd t a = x) := ⟨_, Lib.hid rfl⟩
  rw [HE.out] at HD HI
  obtain ⟨W0, HW0⟩ : ∃ W0, Hid (W0 = w.alloc (.cells #[.int .i64 0, .int .i64 0, .int .i64 0] 83)) := ⟨_, Lib.hid rfl⟩
  obtain ⟨pa, HPA⟩ : ∃ x, Hid (x = [47, 42].isPrefixOf (t.drop a)) := ⟨_, Lib.hid rfl⟩
  obtain ⟨pb, HPB⟩ : ∃ x, Hid (x = [47, 47].isPrefixOf (t.drop a)) := ⟨_, Lib.hid rfl⟩
  have HR0 := Lib.hid (show Tp.itemR t a = _ from rfl)
  rw [← HPA.out] at PA
  rw [← HPB.out] at PB
  go_enter Tryz.func55, Tryz.ntmps55
  go_upto_if 11 with fail
  go_cut [6] (fun c6 wc => c6 = .pointer (some ⟨w.heap.size, 0, none⟩) ∧ W0 = wc ∧ Hid (R = Tp.itemR t a))
  case first =>
    cases h
    · have HN := Lib.hid (HI.out.trans (if_neg (fun e => by cases e.1)))
      go_wp2_with fail
      go_meet
      exact ⟨rfl, HW0.out, HN⟩
    · by_cases h0 : 0 < he
      · have HN := Lib.hid (HI.out.trans (if_pos ⟨rfl, h0⟩))
        go_wp2_with (first
          | (go_at_call 76; (with_reducible refine (HD.out _).mono ?_); rintro e w1 ⟨rfl, rfl⟩))
        rw [HN.out]
        refine bodyPost_ret (v := itR _) ?_ rfl ⟨rfl, (Below.refl _ _).alloc (Nat.le_refl _) _⟩
        simp [results, Tryz.results55, go_sem, itR, itV]
      · have HN := Lib.hid (HI.out.trans (if_neg (fun e => h0 e.2)))
        go_wp2_with (first
          | (go_at_call 76; (with_reducible refine (HD.out _).mono ?_); rintro e w1 ⟨rfl, rfl⟩))
        go_meet
        exact ⟨rfl, HW0.out, HN⟩
  case rest =>
    obtain ⟨rfl, rfl, HN⟩ := hcut
    have hw0 := HW0.out
    subst hw0
    clear HW0 HI HD HE
    have hI0 : Ib (w.alloc (.cells #[.int .i64 0, .int .i64 0, .int .i64 0] 83)) w.heap.size ⟨0, 0, 0⟩ := Ib.new w ⟨0, 0, 0⟩
    have hB0 : Below w.heap.size w (w.alloc (.cells #[.int .i64 0, .int .i64 0, .int .i64 0] 83)) := (Below.refl _ w).alloc (Nat.le_refl _) _
    have hM0 := hm.later hB0
    cases pa
    · cases pb
      · have HV := Lib.hid (show R = Tp.longest t a by rw [HN.out, HR0.out]; exact (if_neg (by rw [← HPA.out]; simp)).trans (if_neg (by rw [← HPB.out]; simp)))
        clear HN HR0 HPA HPB
        unfold itR itV at LG
        rw [← HV.out] at LG
        clear HV
        obtain ⟨⟨rk, rf, rt⟩, re⟩ := R
        simp only at LG
        go_wp2_with (first
          | (go_at_call_of 77 (Value.string (bs (t.drop a))); (with_reducible refine (PA.out _).mono ?_); rintro e w1 ⟨rfl, rfl⟩)
          | (go_at_call_of 77 (Value.string (bs (t.drop a))); (with_reducible refine (PB.out _).mono ?_); rintro e w1 ⟨rfl, rfl⟩)
          | (go_at_call 80; (with_reducible refine (LG.out _).mono ?_); rintro e w1 ⟨rfl, hb1⟩; have hI1 := hI0.below hb1 hI0.lt; obtain ⟨c0, c1, c2⟩ := hI1.cells; obtain ⟨f0, f1, f2⟩ := hI1.frozen))
        have hI2 := hI1.set ⟨rk, rf, rt⟩
        obtain ⟨z0, z1, z2⟩ := hI2.cells
        refine bodyPost_ret (v := itR _) ?_ rfl ⟨rfl, ?_⟩
        · simp [results, Tryz.results55, go_sem, itR, itV, z0, z1, z2]
        · exact (((hB0.trans (hb1.mono hB0.size)).setCell (p := ⟨_, 0, none⟩) (Nat.le_refl _) _).setCell (p := ⟨_, 1, none⟩) (Nat.le_refl _) _).setCell (p := ⟨_, 2, none⟩) (Nat.le_refl _) _
      · have HV := Lib.hid (show R = (⟨8, a, a + Tp.lnLen (t.drop a)⟩, 0) by rw [HN.out, HR0.out]; exact (if_neg (by rw [← HPA.out]; simp)).trans (if_pos HPB.out.symm))
        clear HN HR0 HPA HPB
        have IB := fun W => Tryz.strings_IndexByte (bs (t.drop a)) 10 W
        rw [bs_data, show (10 : Int).toNat.toUInt8 = 10 from rfl, Tp.ln_index] at IB
        have hle := Tp.ln_le (t.drop a)
        rw [List.length_drop] at hle
        by_cases hc : 10 ∈ t.drop a
        · rw [if_pos hc] at IB
          replace IB := Lib.hid IB
          have hv := HV.out
          clear HV hc
          obtain ⟨n, hn⟩ : ∃ n, Tp.lnLen (t.drop a) = n := ⟨_, rfl⟩
          rw [hn] at hv hle IB
          clear hn
          subst hv
          have e1 : a + n ≤ t.length := by omega
          go_wp2_with (first
            | (go_at_call_of 77 (Value.string (bs (t.drop a))); (with_reducible refine (PA.out _).mono ?_); rintro e w1 ⟨rfl, rfl⟩)
            | (go_at_call_of 77 (Value.string (bs (t.drop a))); (with_reducible refine (PB.out _).mono ?_); rintro e w1 ⟨rfl, rfl⟩)
            | (go_at_call 79; (with_reducible refine (IB.out _).mono ?_); rintro e w1 ⟨rfl, rfl⟩))
          refine bodyPost_ret (v := itR _) ?_ rfl ⟨rfl, (Below.refl _ w).alloc (Nat.le_refl _) _⟩
          simp [results, Tryz.results55, go_sem, itR, itV]
        · rw [if_neg hc] at IB
          replace IB := Lib.hid IB
          have hv := HV.out
          rw [Tp.ln_len _ hc, List.length_drop] at hv
          clear HV hc
          obtain ⟨n, hn⟩ : ∃ n, t.length - a = n := ⟨_, rfl⟩
          have e1 : (t.length : Int) - (a : Int) = (n : Int) := by omega
          have e2 : a + n ≤ t.length := by omega
          rw [hn] at hv
          clear hn hle
          subst hv
          go_wp2_with (first
            | (go_at_call_of 77 (Value.string (bs (t.drop a))); (with_reducible refine (PA.out _).mono ?_); rintro e w1 ⟨rfl, rfl⟩)
            | (go_at_call_of 77 (Value.string (bs (t.drop a))); (with_reducible refine (PB.out _).mono ?_); rintro e w1 ⟨rfl, rfl⟩)
            | (go_at_call 79; (with_reducible refine (IB.out _).mono ?_); rintro e w1 ⟨rfl, rfl⟩))
          refine bodyPost_ret (v := itR _) ?_ rfl ⟨rfl, (Below.refl _ w).alloc (Nat.le_refl _) _⟩
          simp [results, Tryz.results55, go_sem, itR, itV]
    · have hpl : a + 2 ≤ t.length := by
        have := (List.isPrefixOf_iff_prefix.1 HPA.out.symm).length_le
        simp at this; omega
      have hcut2 := bs_tail t (a + 2)
      obtain ⟨mx, hmx⟩ := hM0
      have IX := Tryz.strings_Index (bs (t.drop (a + 2))) ⟨#[42, 47]⟩ mx (w.alloc (.cells #[.int .i64 0, .int .i64 0, .int .i64 0] 83)) (by rw [bs_size, List.length_drop]; omega) hmx
      rw [bs_data, show (⟨#[42, 47]⟩ : ByteArray).data.toList = [42, 47] from rfl, Tp.cm_index] at IX
      have HV : R = match Tp.cmLen (t.drop (a + 2)) with | none => (⟨0, 0, 0⟩, 20) | some n => (⟨8, a, a + 2 + n + 2⟩, 0) := by rw [HN.out, HR0.out]; exact if_pos HPA.out.symm
      clear HN HR0 HPA HPB hmx
      cases hc : Tp.cmLen (t.drop (a + 2)) with
      | none =>
        rw [hc] at HV IX
        replace IX := Lib.hid IX
        clear hc
        subst HV
        go_wp2_with (first
          | (go_at_call_of 77 (Value.string (bs (t.drop a))); (with_reducible refine (PA.out _).mono ?_); rintro e w1 ⟨rfl, rfl⟩)
          | (go_at_call 78; (with_reducible refine (IX.out).mono ?_); rintro e w1 ⟨rfl, rfl⟩))
        refine bodyPost_ret (v := itR _) ?_ rfl ⟨rfl, (Below.refl _ w).alloc (Nat.le_refl _) _⟩
        simp [results, Tryz.results55, go_sem, itR, itV]
      | some n =>
        rw [hc] at HV IX
        replace IX := Lib.hid IX
        have hnl := Tp.cm_le _ n hc
        rw [List.length_drop] at hnl
        have e1 : a + 2 + n + 2 ≤ t.length := by omega
        clear hc hnl
        subst HV
        go_wp2_with (first
          | (go_at_call_of 77 (Value.string (bs (t.drop a))); (with_reducible refine (PA.out _).mono ?_); rintro e w1 ⟨rfl, rfl⟩)
          | (go_at_call 78; (with_reducible refine (IX.out).mono ?_); rintro e w1 ⟨rfl, rfl⟩))
        refine bodyPost_ret (v := itR _) ?_ rfl ⟨rfl, (Below.refl _ w).alloc (Nat.le_refl _) _⟩
        simp [results, Tryz.results55, go_sem, itR, itV]

end Go.Proofs.YtffjblamfbmoeaaGreatDoor
