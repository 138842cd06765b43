/- Walks of small functions: lines and columns of places; lists held against each other; texts' ends. -/
import Derived.Test.YtnijaleedbmljaaBase
import Derived.Test.YtnijaleedbmljaaBld
import Derived.Test.YtnijaleedbmljaaPlE
set_option linter.unusedVariables false
set_option linter.unusedSimpArgs false
namespace Go.Proofs.Ytnijaleedbmljaa
open Go Go.RowKit

theorem take_succ_eq {α : Type} {l m : List α} {k : Nat} (h : l.take k = m.take k) (hl : k < l.length) (hm : k < m.length) (e : l[k] = m[k]) : l.take (k + 1) = m.take (k + 1) := by
  rw [List.take_succ_eq_append_getElem hl, List.take_succ_eq_append_getElem hm, h, e]

set_option maxHeartbeats 400000 in
theorem same18_any (A B : Option Addr) (c d : Nat) (l m : List Pl.Ed) (w : World) (h : Rd w 3 A l.length (edcs l)) (g : Rd w 3 B m.length (edcs m)) (hl : l.length ≤ 1000000000) (hm : m.length ≤ 1000000000) :
    Calls Try.prog 31 #[.slice A l.length c, .slice B m.length d] w fun e w' => e = .returned (.bool (decide (l = m))) ∧ Below w.heap.size w w' := by
  by_cases hlm : l.length = m.length
  · have HL := Lib.hid hlm
    go_enter Try.func31, Try.ntmps31
    go_wp2
    go_loopw [5] (fun i wr => ∃ k : Nat, k ≤ l.length ∧ i = .int .i64 k ∧ l.take k = m.take k ∧ Below w.heap.size w wr) (fun i _ => l.length - (intOf i).toNat)
    case atStart => exact ⟨0, Nat.zero_le _, rfl, by simp, Below.refl _ _⟩
    case round =>
      obtain ⟨k, hk, rfl, ht, hb⟩ := hrel
      have HT := Lib.hid ht; clear ht
      by_cases hlt : k < l.length
      · have hltm : k < m.length := by omega
        obtain ⟨b1, o1, rfl, _, c1, c2, c3⟩ := (h.later hb).ed (k := k) (List.getElem?_eq_getElem hlt)
        obtain ⟨b2, o2, rfl, _, d1, d2, d3⟩ := (g.later hb).ed (k := k) (List.getElem?_eq_getElem hltm)
        have hq := fun w => neq_ed l[k] m[k] w
        by_cases he : l[k] = m[k]
        · have hq2 : decide (l[k] ≠ m[k]) = false := by simpa using he
          simp only [hq2] at hq
          have HE := Lib.hid he
          clear he hq2
          go_wp2
          go_quiet (fail)
          go_wp2
          go_roundw
          case rel => exact ⟨k + 1, by omega, by go_num, take_succ_eq HT.out (by omega) hltm HE.out, below_drewN hb _⟩
          case measure => simp [intOf]; omega
        · have hq2 : decide (l[k] ≠ m[k]) = true := by simpa using he
          simp only [hq2] at hq
          have HE := Lib.hid he
          clear he hq2
          go_wp2
          go_quiet (fail)
          go_wp2
          go_ret
          exact ⟨ret_bool (by symm; rw [decide_eq_false_iff_not]; intro e; subst e; exact HE.out rfl), below_drewN hb _⟩
      · go_wp2
        go_ret
        exact ⟨ret_bool (by
          have h1 := HT.out
          have h2 := HL.out
          rw [List.take_of_length_le (by omega), List.take_of_length_le (by omega)] at h1
          simpa using h1), hb⟩
  · have hlm' : ((l.length : Int) == (m.length : Int)) = false := by rw [beq_eq_false_iff_ne]; omega
    go_enter Try.func31, Try.ntmps31
    go_wp2
    go_ret
    exact ⟨ret_bool (by symm; rw [decide_eq_false_iff_not]; intro e; subst e; exact hlm rfl), Below.refl _ _⟩
set_option maxHeartbeats 400000 in
theorem same19_any (A B : Option Addr) (c d : Nat) (l m : List (Int × Int)) (w : World) (h : Rd w 2 A l.length (rgcs l)) (g : Rd w 2 B m.length (rgcs m)) (hl : l.length ≤ 1000000000) (hm : m.length ≤ 1000000000) :
    Calls Try.prog 24 #[.slice A l.length c, .slice B m.length d] w fun e w' => e = .returned (.bool (decide (l = m))) ∧ Below w.heap.size w w' := by
  by_cases hlm : l.length = m.length
  · have HL := Lib.hid hlm
    go_enter Try.func24, Try.ntmps24
    go_wp2
    go_loopw [5] (fun i wr => ∃ k : Nat, k ≤ l.length ∧ i = .int .i64 k ∧ l.take k = m.take k ∧ Below w.heap.size w wr) (fun i _ => l.length - (intOf i).toNat)
    case atStart => exact ⟨0, Nat.zero_le _, rfl, by simp, Below.refl _ _⟩
    case round =>
      obtain ⟨k, hk, rfl, ht, hb⟩ := hrel
      have HT := Lib.hid ht; clear ht
      by_cases hlt : k < l.length
      · have hltm : k < m.length := by omega
        obtain ⟨b1, o1, rfl, _, c1, c2⟩ := (h.later hb).rg (k := k) (List.getElem?_eq_getElem hlt)
        obtain ⟨b2, o2, rfl, _, d1, d2⟩ := (g.later hb).rg (k := k) (List.getElem?_eq_getElem hltm)
        have hq := fun w => neq_rg l[k] m[k] w
        by_cases he : l[k] = m[k]
        · have hq2 : decide (l[k] ≠ m[k]) = false := by simpa using he
          simp only [hq2] at hq
          have HE := Lib.hid he
          clear he hq2
          go_wp2
          go_quiet (fail)
          go_wp2
          go_roundw
          case rel => exact ⟨k + 1, by omega, by go_num, take_succ_eq HT.out (by omega) hltm HE.out, below_drewN hb _⟩
          case measure => simp [intOf]; omega
        · have hq2 : decide (l[k] ≠ m[k]) = true := by simpa using he
          simp only [hq2] at hq
          have HE := Lib.hid he
          clear he hq2
          go_wp2
          go_quiet (fail)
          go_wp2
          go_ret
          exact ⟨ret_bool (by symm; rw [decide_eq_false_iff_not]; intro e; subst e; exact HE.out rfl), below_drewN hb _⟩
      · go_wp2
        go_ret
        exact ⟨ret_bool (by
          have h1 := HT.out
          have h2 := HL.out
          rw [List.take_of_length_le (by omega), List.take_of_length_le (by omega)] at h1
          simpa using h1), hb⟩
  · have hlm' : ((l.length : Int) == (m.length : Int)) = false := by rw [beq_eq_false_iff_ne]; omega
    go_enter Try.func24, Try.ntmps24
    go_wp2
    go_ret
    exact ⟨ret_bool (by symm; rw [decide_eq_false_iff_not]; intro e; subst e; exact hlm rfl), Below.refl _ _⟩
def endB (u : Pl.T) : Bool := decide (u.getLast? = some 10)

theorem hasSuffix_10 (u : Pl.T) : Lib.hasSuffix u [10] = endB u := by
  rw [Bool.eq_iff_iff]
  unfold Lib.hasSuffix endB
  rw [List.isSuffixOf_iff_suffix, decide_eq_true_eq]
  constructor
  · rintro ⟨t, rfl⟩; simp
  · intro h
    obtain ⟨hne, hl⟩ := List.getLast?_eq_some_iff.1 h
    exact ⟨hne, hl.symm⟩

theorem ba_get (s : ByteArray) (k : Nat) (h : k < s.size) : s.data.toList[k]? = some s[k] := by
  rw [List.getElem?_eq_getElem (by rw [← Lib.size_eq]; exact h)]; rfl
theorem ba_last (s : ByteArray) (h : 1 ≤ s.size) : s.data.toList.getLast? = some (s[s.size - 1]'(by omega)) := by
  rw [List.getLast?_eq_getElem?, ← Lib.size_eq, ba_get s (s.size - 1) (by omega)]
theorem u8_10 (c : UInt8) : ((c.toNat : Int) == 10) = decide (c = 10) := by
  rw [Bool.eq_iff_iff, beq_iff_eq, decide_eq_true_eq]
  constructor
  · intro h; apply UInt8.toNat_inj.1; show c.toNat = 10; omega
  · rintro rfl; rfl
theorem ba_empty (s : ByteArray) : s = ByteArray.empty ↔ s.data.toList = [] := by
  constructor
  · rintro rfl; rfl
  · intro h; rw [← bs_of s, h]; rfl

set_option maxHeartbeats 400000 in
theorem ended_any (s : ByteArray) (w : World) (hs : s.size ≤ 1000000000) :
    Calls Try.prog 63 #[.string s] w fun e w' => e = .returned (.bool (endB s.data.toList)) ∧ w = w' := by
  go_enter Try.func63, Try.ntmps63
  go_wp2_with (go_at_call 74; refine (Try.strings_HasSuffix _ _ _ (by omega)).mono ?_; rintro e w' ⟨rfl, rfl⟩)
  go_ret
  exact ⟨ret_bool (hasSuffix_10 _), rfl⟩

/-- A text is empty or ends with a byte 10. -/
def wholeB (u : Pl.T) : Bool := u.isEmpty || endB u

set_option maxHeartbeats 400000 in
theorem whole_any (s : ByteArray) (w : World) (hs : s.size ≤ 1000000000) :
    Calls Try.prog 62 #[.string s] w fun e w' => e = .returned (.bool (wholeB s.data.toList)) ∧ w = w' := by
  by_cases h0 : s = ByteArray.empty
  · subst h0
    go_enter Try.func62, Try.ntmps62
    go_wp2
    go_ret
    exact ⟨rfl, rfl⟩
  · have h1 : 1 ≤ s.size := by
      have := mt (ba_empty s).2 h0
      rw [Lib.size_eq]
      exact List.length_pos_iff.2 this
    have h2 : ((s.size : Int) == 0) = false := by rw [beq_eq_false_iff_ne]; omega
    have hf : wholeB s.data.toList = decide (s[s.size - 1]'(by omega) = 10) := by
      unfold wholeB endB
      rw [ba_last s h1]
      have : s.data.toList.isEmpty = false := by rw [List.isEmpty_eq_false_iff]; exact mt (ba_empty s).2 h0
      rw [this]; simp
    have HF := Lib.hid hf; clear hf
    have hu := u8_10 (s[s.size - 1]'(by omega))
    cases hd : decide (s[s.size - 1]'(by omega) = 10)
    all_goals
      rw [hd] at hu
      have HD := Lib.hid hd; clear hd
      go_enter Try.func62, Try.ntmps62
      go_wp2
      go_ret
      exact ⟨ret_bool (by rw [HF.out, HD.out]), rfl⟩

set_option maxHeartbeats 400000 in
theorem count_any (s : ByteArray) (w : World) (hs : s.size ≤ 1000000000) :
    Calls Try.prog 52 #[.string s] w fun e w' => e = .returned (.int .i64 (Pl.count s.data.toList)) ∧ w = w' := by
  by_cases h0 : s = ByteArray.empty
  · subst h0
    go_enter Try.func52, Try.ntmps52
    go_wp2_with (go_at_call 65; refine (Try.strings_Count_one _ _ _).mono ?_; rintro e w' ⟨rfl, rfl⟩)
    go_ret
    exact ⟨rfl, rfl⟩
  · have hne : s.data.toList ≠ [] := mt (ba_empty s).2 h0
    have h1 : 1 ≤ s.size := by
      rw [Lib.size_eq]
      exact List.length_pos_iff.2 hne
    have ht : (!s.toList.isEmpty) = true := by rw [Lib.toList_data, Bool.not_eq_true', List.isEmpty_eq_false_iff]; exact hne
    have ht2 : ¬ (s.toList = []) := by rw [Lib.toList_data]; exact hne
    have hcl : s.data.toList.count 10 ≤ 1000000000 := by
      have := List.count_le_length (a := (10 : UInt8)) (l := s.data.toList)
      rw [← Lib.size_eq] at this; omega
    have hcb : Lib.countByte s.data.toList 10 = s.data.toList.count 10 := rfl
    have hf : Pl.count s.data.toList = Lib.countByte s.data.toList 10 + if decide (s[s.size - 1]'(by omega) = 10) then 0 else 1 := by
      unfold Pl.count
      rw [ba_last s h1, hcb]
      simp [hne]
    have HF := Lib.hid hf; clear hf
    rw [← hcb] at hcl
    clear hcb
    have hu := u8_10 (s[s.size - 1]'(by omega))
    cases hd : decide (s[s.size - 1]'(by omega) = 10)
    all_goals
      rw [hd] at hu
      have hu2 : ((s[s.size - 1]'(by omega)).toNat != (10 : Int)) = !((s[s.size - 1]'(by omega)).toNat == (10 : Int)) := rfl
      rw [hu] at hu2
      have HD := Lib.hid hd; clear hd
      go_enter Try.func52, Try.ntmps52
      go_wp2_with (go_at_call 65; refine (Try.strings_Count_one _ _ _).mono ?_; rintro e w' ⟨rfl, rfl⟩)
      go_ret
      exact ⟨ret_int (by rw [HF.out, HD.out]; simp), rfl⟩

/-! ### Lines and columns -/
theorem lc_succ (s : ByteArray) (k : Nat) (h : k < s.size) : Pl.lc (s.data.toList.take (k + 1)) = Pl.lcStep (Pl.lc (s.data.toList.take k)) s[k] := by
  rw [List.take_succ_eq_append_getElem (by rw [← Lib.size_eq]; exact h), Pl.lc_snoc]; rfl

def ofRes (s : Pl.T) (n : Int) : Value :=
  if n < 0 ∨ (s.length : Int) < n then .tuple #[.int .i64 0, .int .i64 0, .int .i64 2]
  else .tuple #[.int .i64 (Pl.lc (s.take n.toNat)).1, .int .i64 (Pl.lc (s.take n.toNat)).2, .int .i64 0]

theorem lc_le (s : Pl.T) : (Pl.lc s).1 ≤ s.length ∧ (Pl.lc s).2 ≤ s.length := Pl.lc_le s

set_option maxHeartbeats 1000000 in
theorem refOf_any (s : ByteArray) (n : Int) (w : World) (hs : s.size ≤ 1000000000) :
    Calls Try.prog 38 #[.string s, .int .i64 n] w fun e w' => e = .returned (ofRes s.data.toList n) ∧ w = w' := by
  by_cases hn : n < 0 ∨ (s.size : Int) < n
  · have hf : ofRes s.data.toList n = .tuple #[.int .i64 0, .int .i64 0, .int .i64 2] := by
      unfold ofRes; rw [if_pos (by rw [← Lib.size_eq]; exact hn)]
    have HF := Lib.hid hf; clear hf
    rcases hn with hn | hn
    · go_enter Try.func38, Try.ntmps38
      go_wp2
      go_ret3
      exact ⟨by rw [HF.out]; rfl, rfl⟩
    · have hn0 : ¬ n < 0 := by omega
      go_enter Try.func38, Try.ntmps38
      go_wp2
      go_ret3
      exact ⟨by rw [HF.out]; rfl, rfl⟩
  · have hn0 : ¬ n < 0 := by omega
    have hn1 : ¬ (s.size : Int) < n := by omega
    obtain ⟨m, rfl⟩ : ∃ m : Nat, n = m := ⟨n.toNat, by omega⟩
    have hm : m ≤ s.size := by omega
    have hf : ofRes s.data.toList m = .tuple #[.int .i64 (Pl.lc (s.data.toList.take m)).1, .int .i64 (Pl.lc (s.data.toList.take m)).2, .int .i64 0] := by
      unfold ofRes; rw [if_neg (by rw [← Lib.size_eq]; exact hn)]; rfl
    have HF := Lib.hid hf; clear hf hn
    go_enter Try.func38, Try.ntmps38
    go_wp2
    go_loop [7, 8, 9] (fun a b i => ∃ k : Nat, k ≤ m ∧ i = .int .i64 k ∧ a = .int .i64 (Pl.lc (s.data.toList.take k)).1 ∧ b = .int .i64 (Pl.lc (s.data.toList.take k)).2) (fun _ _ i => m - (intOf i).toNat)
    case atStart => exact ⟨0, Nat.zero_le _, rfl, by simp [Pl.lc], by simp [Pl.lc]⟩
    case round =>
      obtain ⟨k, hk, rfl, rfl, rfl⟩ := hrel
      have hle := lc_le (s.data.toList.take k)
      have hll : (s.data.toList.take k).length ≤ k := List.length_take_le _ _
      by_cases hlt : k < m
      · have hks : k < s.size := by omega
        have hu := u8_10 (s[k]'hks)
        have HS := Lib.hid (lc_succ s k hks)
        cases hd : decide (s[k]'hks = 10)
        all_goals
          rw [hd] at hu
          have HD := Lib.hid hd; clear hd
          go_wp2
          go_round
          case rel => exact ⟨k + 1, by omega, by go_num, by rw [HS.out]; have := HD.out; simp at this; simp [Pl.lcStep, this], by rw [HS.out]; have := HD.out; simp at this; simp [Pl.lcStep, this]⟩
          case measure => simp [intOf]; omega
      · obtain rfl : k = m := by omega
        go_wp2
        go_ret3
        exact ⟨by rw [HF.out]; rfl, rfl⟩

end Go.Proofs.Ytnijaleedbmljaa
