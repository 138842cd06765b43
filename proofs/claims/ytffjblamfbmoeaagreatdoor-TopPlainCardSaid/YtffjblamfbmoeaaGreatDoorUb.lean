/- Several texts in one: Walks: the scanner's small functions; Walks: where the scanner's numbers end. -/
import Derived.Test.YtffjblamfbmoeaaGreatDoorUa
import Derived.Deep.DeepCutAuto
import Derived.Deep.CutRange
/-! Walks: the scanner's small functions. -/
set_option linter.unusedVariables false
set_option linter.unusedSimpArgs false
namespace Go.Proofs.YtffjblamfbmoeaaGreatDoor
open Go Go.RowKit

theorem ba_getT (s : ByteArray) (k : Nat) (h : k < s.size) : s.data.toList[k]? = some s[k] := by
  rw [List.getElem?_eq_getElem (by rw [← Lib.size_eq]; exact h)]; rfl
theorem u8_eq {c : UInt8} {n : Nat} (hn : n < 256) : c = UInt8.ofNat n ↔ c.toNat = n := by
  rw [← UInt8.toNat_inj, UInt8.toNat_ofNat', Nat.mod_eq_of_lt hn]

/-- What Third gives. -/
def thV (c : UInt8) : Value := match Tp.third c with
  | some x => .tuple #[.int .u8 x.toNat, .bool true]
  | none => .tuple #[.int .u8 0, .bool false]
set_option maxRecDepth 100000 in
set_option maxHeartbeats 2000000 in
theorem Third_any (c : UInt8) (w : World) : Calls Tryz.prog 62 #[.int .u8 c.toNat] w fun e w' => e = .returned (thV c) ∧ w' = w := by
  by_cases h : c = 61 ∨ c = 47 ∨ c = 39 ∨ c = 40 ∨ c = 41 ∨ c = 33 ∨ c = 60 ∨ c = 62 ∨ c = 45
  · rcases h with rfl | rfl | rfl | rfl | rfl | rfl | rfl | rfl | rfl <;>
    · go_enter Tryz.func62, Tryz.ntmps62
      go_wp2
      go_ret2
      exact ⟨rfl, rfl⟩
  · simp only [not_or] at h
    obtain ⟨h1, h2, h3, h4, h5, h6, h7, h8, h9⟩ := h
    have HV := Lib.hid (show thV c = .tuple #[.int .u8 0, .bool false] by unfold thV Tp.third; simp only [h1, h2, h3, h4, h5, h6, h7, h8, h9, if_false])
    have k1 : ¬ c.toNat = 61 := fun e => h1 ((u8_eq (by decide)).2 e)
    have k2 : ¬ c.toNat = 47 := fun e => h2 ((u8_eq (by decide)).2 e)
    have k3 : ¬ c.toNat = 39 := fun e => h3 ((u8_eq (by decide)).2 e)
    have k4 : ¬ c.toNat = 40 := fun e => h4 ((u8_eq (by decide)).2 e)
    have k5 : ¬ c.toNat = 41 := fun e => h5 ((u8_eq (by decide)).2 e)
    have k6 : ¬ c.toNat = 33 := fun e => h6 ((u8_eq (by decide)).2 e)
    have k7 : ¬ c.toNat = 60 := fun e => h7 ((u8_eq (by decide)).2 e)
    have k8 : ¬ c.toNat = 62 := fun e => h8 ((u8_eq (by decide)).2 e)
    have k9 : ¬ c.toNat = 45 := fun e => h9 ((u8_eq (by decide)).2 e)
    clear h1 h2 h3 h4 h5 h6 h7 h8 h9
    have i1 : ¬ (c.toNat : Int) = 61 := by omega
    have i2 : ¬ (c.toNat : Int) = 47 := by omega
    have i3 : ¬ (c.toNat : Int) = 39 := by omega
    have i4 : ¬ (c.toNat : Int) = 40 := by omega
    have i5 : ¬ (c.toNat : Int) = 41 := by omega
    have i6 : ¬ (c.toNat : Int) = 33 := by omega
    have i7 : ¬ (c.toNat : Int) = 60 := by omega
    have i8 : ¬ (c.toNat : Int) = 62 := by omega
    have i9 : ¬ (c.toNat : Int) = 45 := by omega
    go_enter Tryz.func62, Tryz.ntmps62
    go_wp2
    go_ret2
    exact ⟨by rw [HV.out]; rfl, rfl⟩

namespace Tp
theorem u8_le (a c : UInt8) : (a ≤ c) ↔ a.toNat ≤ c.toNat := UInt8.le_iff_toNat_le
theorem u8_beq (c : UInt8) (n : Nat) (hn : n < 256) : (c == UInt8.ofNat n) = ((c.toNat : Int) == (n : Int)) := by
  rw [Bool.eq_iff_iff, beq_iff_eq, beq_iff_eq, u8_eq hn]; omega
theorem u8_ge (c : UInt8) (n : Nat) (hn : n < 256) : decide (UInt8.ofNat n ≤ c) = decide ((n : Int) ≤ (c.toNat : Int)) := by
  rw [decide_eq_decide, u8_le, UInt8.toNat_ofNat', Nat.mod_eq_of_lt hn]; omega
theorem u8_ge' (c : UInt8) (n : Nat) (hn : n < 256) : decide (c ≤ UInt8.ofNat n) = decide ((c.toNat : Int) ≤ (n : Int)) := by
  rw [decide_eq_decide, u8_le, UInt8.toNat_ofNat', Nat.mod_eq_of_lt hn]; omega
theorem white_int (c : UInt8) : white c = (((((c.toNat : Int) == 32) || ((c.toNat : Int) == 9)) || ((c.toNat : Int) == 11)) || ((c.toNat : Int) == 12)) := by
  unfold white
  rw [show (c == 32) = ((c.toNat : Int) == 32) from u8_beq c 32 (by decide), show (c == 9) = ((c.toNat : Int) == 9) from u8_beq c 9 (by decide), show (c == 11) = ((c.toNat : Int) == 11) from u8_beq c 11 (by decide), show (c == 12) = ((c.toNat : Int) == 12) from u8_beq c 12 (by decide)]
  simp only [Bool.or_assoc]
theorem digit_int (c : UInt8) : digit c = (decide ((48 : Int) ≤ (c.toNat : Int)) && decide ((c.toNat : Int) ≤ 57)) := by
  unfold digit
  rw [show decide (48 ≤ c) = decide ((48 : Int) ≤ (c.toNat : Int)) from u8_ge c 48 (by decide), show decide (c ≤ 57) = decide ((c.toNat : Int) ≤ 57) from u8_ge' c 57 (by decide)]
theorem letter_int (c : UInt8) : letter c = (((decide ((97 : Int) ≤ (c.toNat : Int)) && decide ((c.toNat : Int) ≤ 122)) || (decide ((65 : Int) ≤ (c.toNat : Int)) && decide ((c.toNat : Int) ≤ 90))) || ((c.toNat : Int) == 95)) := by
  unfold letter
  rw [show decide (97 ≤ c) = decide ((97 : Int) ≤ (c.toNat : Int)) from u8_ge c 97 (by decide), show decide (c ≤ 122) = decide ((c.toNat : Int) ≤ 122) from u8_ge' c 122 (by decide), show decide (65 ≤ c) = decide ((65 : Int) ≤ (c.toNat : Int)) from u8_ge c 65 (by decide), show decide (c ≤ 90) = decide ((c.toNat : Int) ≤ 90) from u8_ge' c 90 (by decide), show (c == 95) = ((c.toNat : Int) == 95) from u8_beq c 95 (by decide)]
  simp only [Bool.or_assoc]
end Tp
set_option maxRecDepth 100000 in
set_option maxHeartbeats 1000000 in
theorem white_any (c : UInt8) (w : World) : Calls Tryz.prog 54 #[.int .u8 c.toNat] w fun e w' => e = .returned (.bool (Tp.white c)) ∧ w' = w := by
  have HV := Lib.hid (Tp.white_int c)
  go_enter Tryz.func54, Tryz.ntmps54
  go_wp2
  all_goals
    go_ret
    refine ⟨?_, rfl⟩
    rw [HV.out]
    all_goals
      show Ending.returned (.bool _) = Ending.returned (.bool _)
      refine congrArg (fun b => Ending.returned (.bool b)) ?_
      refine Bool.eq_iff_iff.2 ?_
      simp only [Bool.or_eq_true, Bool.and_eq_true, decide_eq_true_eq, beq_iff_eq, Bool.false_eq_true, eq_self_iff_true, true_iff, false_iff]
      try omega
set_option maxRecDepth 100000 in
set_option maxHeartbeats 1000000 in
theorem digit_any (c : UInt8) (w : World) : Calls Tryz.prog 114 #[.int .u8 c.toNat] w fun e w' => e = .returned (.bool (Tp.digit c)) ∧ w' = w := by
  have HV := Lib.hid (Tp.digit_int c)
  go_enter Tryz.func114, Tryz.ntmps114
  go_wp2
  all_goals
    go_ret
    refine ⟨?_, rfl⟩
    rw [HV.out]
    all_goals
      show Ending.returned (.bool _) = Ending.returned (.bool _)
      refine congrArg (fun b => Ending.returned (.bool b)) ?_
      refine Bool.eq_iff_iff.2 ?_
      simp only [Bool.or_eq_true, Bool.and_eq_true, decide_eq_true_eq, beq_iff_eq, Bool.false_eq_true, eq_self_iff_true, true_iff, false_iff]
      try omega
set_option maxRecDepth 100000 in
set_option maxHeartbeats 1000000 in
theorem letter_any (c : UInt8) (w : World) : Calls Tryz.prog 113 #[.int .u8 c.toNat] w fun e w' => e = .returned (.bool (Tp.letter c)) ∧ w' = w := by
  have HV := Lib.hid (Tp.letter_int c)
  go_enter Tryz.func113, Tryz.ntmps113
  go_wp2
  all_goals
    go_ret
    refine ⟨?_, rfl⟩
    rw [HV.out]
    all_goals
      show Ending.returned (.bool _) = Ending.returned (.bool _)
      refine congrArg (fun b => Ending.returned (.bool b)) ?_
      refine Bool.eq_iff_iff.2 ?_
      simp only [Bool.or_eq_true, Bool.and_eq_true, decide_eq_true_eq, beq_iff_eq, Bool.false_eq_true, eq_self_iff_true, true_iff, false_iff]
      try omega

set_option maxRecDepth 100000 in
set_option maxHeartbeats 2000000 in
theorem wordEnd_any (t : Tp.T) (a : Nat) (w : World) (ha : a < t.length) (hl : t.length ≤ 1000000) :
    Calls Tryz.prog 98 #[.string (bs t), .int .i64 a] w fun e w' => e = .returned (.int .i64 (Tp.wordEnd t a : Nat)) ∧ w' = w := by
  have hts : (bs t).size = t.length := bs_size t
  have LT := Lib.hid letter_any
  have DG := Lib.hid digit_any
  have has : a < (bs t).size := by omega
  have hg := ba_getT (bs t) a has
  rw [bs_data] at hg
  have hg2 : Tp.g t a = (bs t)[a] := by unfold Tp.g; rw [List.getD_eq_getElem?_getD, hg]; rfl
  cases hlt : Tp.letter (bs t)[a]
  · have HV := Lib.hid (show Tp.wordEnd t a = 0 by unfold Tp.wordEnd; rw [hg2, hlt]; rfl)
    have LTa := Lib.hid (fun W => letter_any (bs t)[a] W)
    rw [hlt] at LTa
    clear hg hg2 hlt
    go_enter Tryz.func98, Tryz.ntmps98
    go_wp2_with (first
      | (go_at_call 113; (with_reducible refine (LTa.out _).mono ?_); rintro e w1 ⟨rfl, rfl⟩))
    go_ret
    exact ⟨by rw [HV.out]; rfl, rfl⟩
  · have HV := Lib.hid (show Tp.wordEnd t a = a + 1 + Tp.wdLen (t.drop (a + 1)) by unfold Tp.wordEnd; rw [hg2, hlt]; rfl)
    have LTa := Lib.hid (fun W => letter_any (bs t)[a] W)
    rw [hlt] at LTa
    clear hg hg2 hlt
    go_enter Tryz.func98, Tryz.ntmps98
    go_wp2_with (first
      | (go_at_call 113; (with_reducible refine (LTa.out _).mono ?_); rintro e w1 ⟨rfl, rfl⟩))
    go_loop [5] (fun i => ∃ k : Nat, a + 1 ≤ k ∧ k ≤ t.length ∧ i = .int .i64 k ∧ Hid (a + 1 + Tp.wdLen (t.drop (a + 1)) = k + Tp.wdLen (t.drop k))) (fun i => t.length - (intOf i).toNat)
    case atStart => exact ⟨a + 1, Nat.le_refl _, ha, by go_num, Lib.hid rfl⟩
    case round =>
      obtain ⟨k, hk1, hk2, rfl, HE⟩ := hrel
      by_cases hkl : k < t.length
      · have hks : k < (bs t).size := by omega
        have hg := ba_getT (bs t) k hks
        rw [bs_data] at hg
        have hd : t.drop k = (bs t)[k] :: t.drop (k + 1) := by
          have := List.drop_eq_getElem_cons hkl
          rw [this]; rfl
        have LTk := fun W => letter_any (bs t)[k] W
        have DGk := fun W => digit_any (bs t)[k] W
        cases h1 : Tp.letter (bs t)[k]
        · rw [h1] at LTk
          cases h2 : Tp.digit (bs t)[k]
          · rw [h2] at DGk
            have HR := Lib.hid (show Tp.wordEnd t a = k by rw [HV.out, HE.out, hd, Tp.wdLen, h1, h2]; rfl)
            have LTk := Lib.hid LTk
            have DGk := Lib.hid DGk
            clear hg hd h1 h2
            go_wp2_with (first
              | (go_at_call 113; (with_reducible refine (LTk.out _).mono ?_); rintro e w1 ⟨rfl, rfl⟩)
              | (go_at_call 114; (with_reducible refine (DGk.out _).mono ?_); rintro e w1 ⟨rfl, rfl⟩))
            go_ret
            exact ⟨by rw [HR.out]; rfl, rfl⟩
          · rw [h2] at DGk
            have HE2 := Lib.hid (show a + 1 + Tp.wdLen (t.drop (a + 1)) = k + 1 + Tp.wdLen (t.drop (k + 1)) by rw [HE.out, hd, Tp.wdLen, h1, h2]; simp; omega)
            have LTk := Lib.hid LTk
            have DGk := Lib.hid DGk
            clear hg hd h1 h2
            go_wp2_with (first
              | (go_at_call 113; (with_reducible refine (LTk.out _).mono ?_); rintro e w1 ⟨rfl, rfl⟩)
              | (go_at_call 114; (with_reducible refine (DGk.out _).mono ?_); rintro e w1 ⟨rfl, rfl⟩))
            go_round
            case rel => exact ⟨k + 1, by omega, by omega, by go_num, HE2⟩
            case measure => simp [intOf]; omega
        · rw [h1] at LTk
          have HE2 := Lib.hid (show a + 1 + Tp.wdLen (t.drop (a + 1)) = k + 1 + Tp.wdLen (t.drop (k + 1)) by rw [HE.out, hd, Tp.wdLen, h1]; simp; omega)
          have LTk := Lib.hid LTk
          clear hg hd h1 DGk
          go_wp2_with (first
            | (go_at_call 113; (with_reducible refine (LTk.out _).mono ?_); rintro e w1 ⟨rfl, rfl⟩))
          go_round
          case rel => exact ⟨k + 1, by omega, by omega, by go_num, HE2⟩
          case measure => simp [intOf]; omega
      · obtain rfl : k = t.length := by omega
        have HR := Lib.hid (show Tp.wordEnd t a = t.length by rw [HV.out, HE.out, List.drop_length]; rfl)
        go_wp2
        go_ret
        exact ⟨by rw [HR.out]; rfl, rfl⟩

end Go.Proofs.YtffjblamfbmoeaaGreatDoor

/-! Walks: where the scanner's numbers end. -/
set_option linter.unusedVariables false
set_option linter.unusedSimpArgs false
namespace Go.Proofs.YtffjblamfbmoeaaGreatDoor
open Go Go.RowKit

namespace Tp
/-- A number's end, from k on. -/
def nmE (t : T) (k : Nat) : Nat := k + nmLen (t.drop k)
def cont (c : UInt8) : Bool := digit c || (letter c || c == 46)
theorem nmE_end {t : T} {k : Nat} (h : t.length ≤ k) : nmE t k = k := by unfold nmE; rw [List.drop_eq_nil_of_le h]; rfl
theorem drop_at {t : T} {k : Nat} {x : UInt8} (h : t[k]? = some x) : t.drop k = x :: t.drop (k + 1) := by
  have hl := (List.getElem?_eq_some_iff.1 h).1
  rw [List.drop_eq_getElem_cons hl, (List.getElem?_eq_some_iff.1 h).2]
theorem nmE_exp {t : T} {k : Nat} {c d : UInt8} (h : t[k]? = some c) (h2 : t[k + 1]? = some d) (hc : isExp c = true) (hd : sign d = true) : nmE t k = nmE t (k + 2) := by
  unfold nmE
  rw [drop_at h, drop_at h2, nmLen, hc, hd]
  simp only [Bool.and_self, if_true]
  show k + (nmLen (t.drop (k + 1 + 1)) + 2) = k + 1 + 1 + nmLen (t.drop (k + 1 + 1))
  omega
theorem nmE_one {t : T} {k : Nat} {c : UInt8} (h : t[k]? = some c) (hn : ∀ d, t[k + 1]? = some d → (isExp c && sign d) = false) : nmE t k = if cont c then nmE t (k + 1) else k := by
  unfold nmE
  rw [drop_at h]
  by_cases h2 : k + 1 < t.length
  · have h3 := List.getElem?_eq_getElem h2
    rw [drop_at h3, nmLen, hn _ h3]
    simp only [Bool.false_eq_true, if_false]
    unfold cont
    split
    · omega
    · rfl
  · rw [List.drop_eq_nil_of_le (Nat.not_lt.1 h2)]
    show k + (if (digit c || (letter c || c == 46)) = true then 1 else 0) = if (digit c || (letter c || c == 46)) = true then k + 1 + 0 else k
    split <;> rfl
theorem nmE_go {t : T} {k : Nat} {c : UInt8} (h : t[k]? = some c) (hn : ∀ d, t[k + 1]? = some d → (isExp c && sign d) = false) (hc : cont c = true) : nmE t k = nmE t (k + 1) := by rw [nmE_one h hn, hc]; rfl
theorem nmE_stop {t : T} {k : Nat} {c : UInt8} (h : t[k]? = some c) (hn : ∀ d, t[k + 1]? = some d → (isExp c && sign d) = false) (hc : cont c = false) : nmE t k = k := by rw [nmE_one h hn, hc]; rfl
def sgAt (t : T) (k : Nat) : Bool := match t[k]? with | some d => sign d | none => false
theorem isExp_int (c : UInt8) : isExp c = ((((c.toNat : Int) == 101) || ((c.toNat : Int) == 69)) || (((c.toNat : Int) == 112) || ((c.toNat : Int) == 80))) := by
  unfold isExp
  rw [show (c == 101) = ((c.toNat : Int) == 101) from u8_beq c 101 (by decide), show (c == 69) = ((c.toNat : Int) == 69) from u8_beq c 69 (by decide), show (c == 112) = ((c.toNat : Int) == 112) from u8_beq c 112 (by decide), show (c == 80) = ((c.toNat : Int) == 80) from u8_beq c 80 (by decide)]
  simp only [Bool.or_assoc]
theorem sign_int (c : UInt8) : sign c = (((c.toNat : Int) == 43) || ((c.toNat : Int) == 45)) := by
  unfold sign
  rw [show (c == 43) = ((c.toNat : Int) == 43) from u8_beq c 43 (by decide), show (c == 45) = ((c.toNat : Int) == 45) from u8_beq c 45 (by decide)]
theorem exp_no {t : T} {k : Nat} {c : UInt8} (h : (isExp c && sgAt t (k + 1)) = false) : ∀ d, t[k + 1]? = some d → (isExp c && sign d) = false := by
  intro d hd; unfold sgAt at h; rw [hd] at h; exact h
theorem exp_yes {t : T} {k : Nat} {c : UInt8} (hk : t[k]? = some c) (h : (isExp c && sgAt t (k + 1)) = true) : nmE t k = nmE t (k + 2) ∧ k + 2 ≤ t.length := by
  rw [Bool.and_eq_true] at h
  unfold sgAt at h
  cases hd : t[k + 1]? with
  | none => rw [hd] at h; exact absurd h.2 (by simp)
  | some d => rw [hd] at h; exact ⟨nmE_exp hk hd h.1 h.2, by have := (List.getElem?_eq_some_iff.1 hd).1; omega⟩
end Tp

set_option maxRecDepth 100000 in
set_option maxHeartbeats 8000000 in
theorem numberEnd_any (t : Tp.T) (a : Nat) (w : World) (ha : a < t.length) (hl : t.length ≤ 1000000) :
    Calls Tryz.prog 99 #[.string (bs t), .int .i64 a] w fun e w' => e = .returned (.int .i64 (Tp.numberEnd t a : Nat)) ∧ w' = w := by
  have hts : (bs t).size = t.length := bs_size t
  have has : a < (bs t).size := by omega
  have hg := ba_getT (bs t) a has
  rw [bs_data] at hg
  have hg2 : Tp.g t a = (bs t)[a] := by unfold Tp.g; rw [List.getD_eq_getElem?_getD, hg]; rfl
  obtain ⟨i, hi⟩ : ∃ i, i = if Tp.g t a = 46 then a + 1 else a := ⟨_, rfl⟩
  have HV0 := Lib.hid (show Tp.numberEnd t a = if i < t.length ∧ Tp.digit (Tp.g t i) = true then Tp.nmE t (i + 1) else 0 by unfold Tp.numberEnd Tp.nmE; rw [← hi])
  rw [hg2] at hi
  have HI := Lib.hid hi
  have hib : i ≤ t.length := by rw [hi]; split <;> omega
  generalize hc : (bs t)[a] = c0 at *
  clear hi hg hg2
  go_enter Tryz.func99, Tryz.ntmps99
  go_wp2
  go_step3
  go_upto_if 11 with fail
  go_cut [5] (fun s wc => s = .int .i64 i ∧ wc = w)
  case first =>
    by_cases hd : c0 = 46
    · subst hd
      have HJ := Lib.hid (show i = a + 1 by rw [HI.out]; rfl)
      go_wp2_with fail
      go_meet
      exact ⟨by rw [HJ.out]; go_num, rfl⟩
    · have HJ := Lib.hid (show i = a by rw [HI.out, if_neg hd])
      have hdN : ¬ c0.toNat = 46 := fun e => hd ((u8_eq (by decide)).2 e)
      have hdI : ¬ (c0.toNat : Int) = 46 := by omega
      clear hd
      go_wp2_with fail
      go_meet
      exact ⟨by rw [HJ.out], rfl⟩
  case rest =>
    obtain ⟨rfl, rfl⟩ := hcut
    by_cases hil : i < t.length
    · have his : i < (bs t).size := by omega
      have hnI : ¬ (i : Int) = (t.length : Int) := by omega
      have hnB : ((i : Int) == (t.length : Int)) = false := beq_eq_false_iff_ne.2 hnI
      have hgi := ba_getT (bs t) i his
      rw [bs_data] at hgi
      have hgi2 : Tp.g t i = (bs t)[i] := by unfold Tp.g; rw [List.getD_eq_getElem?_getD, hgi]; rfl
      have DGi := fun W => digit_any (bs t)[i] W
      rw [hgi2] at HV0
      cases hdg : Tp.digit (bs t)[i]
      · rw [hdg] at DGi HV0
        have HR := Lib.hid (show Tp.numberEnd t a = 0 by rw [HV0.out, if_neg (fun h => by cases h.2)])
        have DGi := Lib.hid DGi
        clear hgi hgi2 hdg HV0
        go_wp2_with (first
          | (go_at_call 114; (with_reducible refine (DGi.out _).mono ?_); rintro e w1 ⟨rfl, rfl⟩))
        (try rw [Exit.noGoto_ret])
        go_ret
        exact ⟨by rw [HR.out]; rfl, rfl⟩
      · rw [hdg] at DGi HV0
        have HV := Lib.hid (show Tp.numberEnd t a = Tp.nmE t (i + 1) by rw [HV0.out, if_pos ⟨hil, rfl⟩])
        have DGi := Lib.hid DGi
        clear hgi hgi2 hdg HV0
        go_wp2_with (first
          | (go_at_call 114; (with_reducible refine (DGi.out _).mono ?_); rintro e w1 ⟨rfl, rfl⟩))
        go_step3
        go_wp2
        go_loop [5] (fun q => ∃ k : Nat, i + 1 ≤ k ∧ k ≤ t.length ∧ q = .int .i64 k ∧ Hid (Tp.nmE t (i + 1) = Tp.nmE t k)) (fun q => t.length - (intOf q).toNat)
        case atStart => exact ⟨i + 1, Nat.le_refl _, hil, by go_num, Lib.hid rfl⟩
        case round =>
          obtain ⟨k, hk1, hk2, rfl, HE⟩ := hrel
          by_cases hkl : k < t.length
          · have hks : k < (bs t).size := by omega
            have hgk := ba_getT (bs t) k hks
            rw [bs_data] at hgk
            have DG := fun W => digit_any (bs t)[k] W
            have LT := fun W => letter_any (bs t)[k] W
            have HEX := Lib.hid (Tp.isExp_int (bs t)[k])
            have HY := fun h => Tp.exp_yes hgk h
            have HN := fun h => Tp.nmE_one hgk (Tp.exp_no h)
            generalize hck : (bs t)[k] = c at *
            have HCT := Lib.hid (show Tp.cont c = (Tp.digit c || (Tp.letter c || c == 46)) from rfl)
            have H46 := Lib.hid (show (c == 46) = ((c.toNat : Int) == 46) from Tp.u8_beq c 46 (by decide))
            have HYb := Lib.hid HY
            have HNb := Lib.hid HN
            clear hgk HY HN
            obtain ⟨b, HB⟩ : ∃ b, Hid (b = (Tp.isExp c && Tp.sgAt t (k + 1))) := ⟨_, Lib.hid rfl⟩
            go_upto_region 9 with fail
            go_cut [6, 34] from 27 to 80 (fun c6 s wc => c6 = .int .u8 c.toNat ∧ s = .bool b ∧ wc = w1)
            case first =>
              have HSG := Lib.hid (show Tp.sgAt t (k + 1) = match t[k + 1]? with | some d => Tp.sign d | none => false from rfl)
              clear DG LT HYb HNb
              by_cases hk2l : k + 1 < t.length
              · have hks2 : k + 1 < (bs t).size := by omega
                have hgk2 := ba_getT (bs t) (k + 1) hks2
                rw [bs_data] at hgk2
                generalize hdk : (bs t)[k + 1] = d at *
                have HSG2 := Lib.hid (HSG.out.trans (by rw [hgk2]))
                have HSI := Lib.hid (Tp.sign_int d)
                clear hgk2 HSG
                go_wp2_with fail
                all_goals
                  go_meet
                  refine ⟨by first | rfl | (congr 1; omega), congrArg Value.bool ?_, rfl⟩
                  rw [HB.out, HEX.out, HSG2.out]
                  simp only [HSI.out]
                  refine Bool.eq_iff_iff.2 ?_
                  simp only [Bool.or_eq_true, Bool.and_eq_true, decide_eq_true_eq, beq_iff_eq, Bool.false_eq_true, eq_self_iff_true, true_iff, false_iff]
                  try omega
              · have HSG2 := Lib.hid (HSG.out.trans (by rw [List.getElem?_eq_none (by omega)]))
                clear HSG
                go_wp2_with fail
                all_goals
                  go_meet
                  refine ⟨by first | rfl | (congr 1; omega), congrArg Value.bool ?_, rfl⟩
                  rw [HB.out, HEX.out, HSG2.out]
                  refine Bool.eq_iff_iff.2 ?_
                  simp only [Bool.or_eq_true, Bool.and_eq_true, decide_eq_true_eq, beq_iff_eq, Bool.false_eq_true, eq_self_iff_true, true_iff, false_iff, and_false]
                  try omega
            case rest =>
              obtain ⟨rfl, rfl, rfl⟩ := hcut
              cases b
              · have HN1 := HNb.out HB.out.symm
                clear HYb HNb
                rw [HCT.out, H46.out] at HN1
                have HN1 := Lib.hid HN1
                generalize Tp.digit c = bd at *
                generalize Tp.letter c = bl at *
                have DGh := Lib.hid DG
                have LTh := Lib.hid LT
                clear DG LT
                cases bd <;> cases bl <;>
                · go_wp2_with (first
                    | (go_at_call 114; (with_reducible refine (DGh.out _).mono ?_); rintro e w1 ⟨rfl, rfl⟩)
                    | (go_at_call 113; (with_reducible refine (LTh.out _).mono ?_); rintro e w1 ⟨rfl, rfl⟩))
                  all_goals first
                    | (refine ⟨⟨k + 1, by omega, by omega, by go_num, Lib.hid (HE.out.trans (HN1.out.trans (if_pos ?_)))⟩, by simp [intOf]; omega⟩
                       simp only [Bool.true_or, Bool.or_true, Bool.false_or, *]; done)
                    | ((try rw [Exit.noGoto_ret])
                       go_ret
                       refine ⟨?_, rfl⟩
                       rw [HV.out, HE.out, HN1.out, if_neg (by simp only [Bool.false_or, *]; decide)]
                       rfl)
              · obtain ⟨HY1, HY2⟩ := HYb.out HB.out.symm
                have HY1 := Lib.hid HY1
                clear DG LT HYb HNb
                go_wp2
                exact ⟨⟨k + 2, by omega, by omega, by go_num, Lib.hid (HE.out.trans HY1.out)⟩, by simp [intOf]; omega⟩
          · obtain rfl : k = t.length := by omega
            have HR := Lib.hid (show Tp.numberEnd t a = t.length by rw [HV.out, HE.out, Tp.nmE_end (Nat.le_refl _)])
            go_wp2
            (try rw [Exit.noGoto_ret])
            go_ret
            exact ⟨by rw [HR.out]; rfl, rfl⟩
    · obtain rfl : i = t.length := by omega
      have HR := Lib.hid (show Tp.numberEnd t a = 0 by rw [HV0.out, if_neg (fun h => hil h.1)])
      clear HV0 hil
      go_wp2
      (try rw [Exit.noGoto_ret])
      go_ret
      exact ⟨by rw [HR.out]; rfl, rfl⟩

end Go.Proofs.YtffjblamfbmoeaaGreatDoor
