/- Walks: a text cut at its first '='; the document's white space around a text. -/
import Derived.Test.YtliabgcpciekpaaDoorYrE
set_option linter.unusedVariables false
set_option linter.unusedSimpArgs false
namespace Go.Proofs.YtliabgcpciekpaaDoor
open Go Go.RowKit

namespace St
/-- A line, cut at its first '='. -/
def cutA (t : T) : T := if Lib.indexByte t 61 = -1 then t else t.take (Lib.indexByte t 61).toNat
def cutB (t : T) : T := if Lib.indexByte t 61 = -1 then [] else t.drop ((Lib.indexByte t 61).toNat + 1)
def cutT (t : T) : Bool := !(Lib.indexByte t 61 == -1)
theorem trimL_at {t : T} : ∀ {k : Nat}, (t.take k).all blk = true → (k = t.length ∨ ∃ c, t[k]? = some c ∧ blk c = false) → trimL t = t.drop k := by
  induction t with
  | nil => intro k _ _; simp [trimL]
  | cons x r ih =>
    intro k h1 h2
    cases k with
    | zero =>
      rcases h2 with h | ⟨c, hc, hb⟩
      · simp at h
      · simp at hc; subst hc; rw [trimL_no hb]; rfl
    | succ k =>
      simp only [List.take_succ_cons, List.all_cons, Bool.and_eq_true] at h1
      rw [trimL_yes h1.1, ih h1.2 (by
        rcases h2 with h | ⟨c, hc, hb⟩
        · left; simp at h; omega
        · right; exact ⟨c, by simpa using hc, hb⟩)]
      rfl
def mid (t : T) (a e : Nat) : T := (t.drop a).take (e - a)
theorem mid_succ {t : T} {a e : Nat} {c : UInt8} (h : a ≤ e) (hc : t[e]? = some c) : mid t a (e + 1) = mid t a e ++ [c] := by
  unfold mid
  have hl : e < t.length := (List.getElem?_eq_some_iff.1 hc).1
  have h1 : e - a < (t.drop a).length := by simp; omega
  rw [show e + 1 - a = (e - a) + 1 by omega, List.take_succ_eq_append_getElem h1]
  congr 1
  have : (t.drop a)[e - a]? = some c := by rw [List.getElem?_drop, show a + (e - a) = e by omega, hc]
  rw [List.getElem?_eq_getElem h1] at this
  simpa using this
theorem mid_self (t : T) (a : Nat) : mid t a a = [] := by simp [mid]
theorem mid_all {t : T} {a e : Nat} (h : t.length ≤ e) : mid t a e = t.drop a := by unfold mid; exact List.take_of_length_le (by simp; omega)
end St

theorem idxj {s : ByteArray} (h : ¬ Lib.indexByte s.data.toList 61 = -1) : ∃ j : Nat, Lib.indexByte s.data.toList 61 = j ∧ j < s.size := by
  obtain ⟨j, hj⟩ : ∃ j : Nat, Lib.indexByte s.data.toList 61 = j := ⟨(Lib.indexByte s.data.toList 61).toNat, by have := Lib.indexByte_ge s.data.toList 61; omega⟩
  exact ⟨j, hj, by rw [Lib.size_eq]; exact (St.idx_some hj).1⟩

set_option maxRecDepth 100000 in
set_option maxHeartbeats 2000000 in
theorem liteCut_any (s : ByteArray) (w : World) (hs : s.size ≤ 1000000000) :
    Calls Tryd.prog 94 #[.string s, .string ⟨#[61]⟩] w fun e w' => e = .returned (.tuple #[.string (bs (St.cutA s.data.toList)), .string (bs (St.cutB s.data.toList)), .bool (St.cutT s.data.toList)]) ∧ ∃ n, w' = w.drewN n := by
  have hsep : (⟨#[61]⟩ : ByteArray).size = 1 := rfl
  have hC := Lib.hid (Tryd.stringslite_Index_one s 61 w)
  by_cases hi : Lib.indexByte s.data.toList 61 = -1
  · have HA := Lib.hid (show bs (St.cutA s.data.toList) = s by unfold St.cutA; rw [if_pos hi, bs_of])
    have HB := Lib.hid (show bs (St.cutB s.data.toList) = ⟨#[]⟩ by unfold St.cutB; rw [if_pos hi]; rfl)
    have HT := Lib.hid (show St.cutT s.data.toList = false by unfold St.cutT; rw [hi]; rfl)
    rw [hi] at hC
    clear hi
    go_enter Tryd.func94, Tryd.ntmps94
    go_wp2_with (go_at_call 118; refine hC.out.mono ?_; rintro e w' ⟨rfl, rfl⟩)
    go_ret3
    exact ⟨by rw [HA.out, HB.out, HT.out]; rfl, 0, rfl⟩
  · obtain ⟨j, hj, hj1⟩ := idxj hi
    have HA := Lib.hid (show bs (St.cutA s.data.toList) = s.extract 0 j by unfold St.cutA; rw [if_neg hi, hj, Lib.extract_eq]; simp [bs])
    have HB := Lib.hid (show bs (St.cutB s.data.toList) = s.extract (j + 1) s.size by
      unfold St.cutB; rw [if_neg hi, hj]
      apply ByteArray.ext
      apply Array.toList_inj.1
      rw [bs_data, Lib.extract_data, Int.toNat_natCast, List.take_of_length_le (by rw [List.length_drop, Lib.size_eq]; omega)])
    have HT := Lib.hid (show St.cutT s.data.toList = true by unfold St.cutT; rw [hj]; simp)
    rw [hj] at hC
    clear hi hj
    have e1 : IntKind.i64.wrap ((j : Int) + 1) = (j : Int) + 1 := IntWalk.i64_in _ (by omega)
    have e2 : (0 : Int) ≤ (j : Int) + 1 := by omega
    have e3 : ((j : Int) + 1).toNat = j + 1 := by omega
    have e4 : (j : Int) + 1 ≤ (s.size : Int) := by omega
    have e5 : (j : Int) ≤ (s.size : Int) := by omega
    have e6 : (0 : Int) ≤ (j : Int) := by omega
    go_enter Tryd.func94, Tryd.ntmps94
    go_wp2_with (go_at_call 118; refine hC.out.mono ?_; rintro e w' ⟨rfl, rfl⟩)
    go_quiet (fail)
    go_wp2
    go_ret3
    exact ⟨by rw [HA.out, HB.out, HT.out]; rfl, _, rfl⟩

set_option maxHeartbeats 400000 in
theorem Cut_any (s : ByteArray) (w : World) (hs : s.size ≤ 1000000000) :
    Calls Tryd.prog 77 #[.string s, .string ⟨#[61]⟩] w fun e w' => e = .returned (.tuple #[.string (bs (St.cutA s.data.toList)), .string (bs (St.cutB s.data.toList)), .bool (St.cutT s.data.toList)]) ∧ ∃ n, w' = w.drewN n := by
  have hC := Lib.hid (liteCut_any s w hs)
  generalize bs (St.cutA s.data.toList) = a at *
  generalize bs (St.cutB s.data.toList) = b at *
  generalize St.cutT s.data.toList = c at *
  go_enter Tryd.func77, Tryd.ntmps77
  go_wp2_with (go_at_call 94; refine hC.out.mono ?_; rintro e w' ⟨rfl, n, rfl⟩)
  go_ret3
  exact ⟨rfl, n, rfl⟩

theorem ba_midS (s : ByteArray) (a e : Nat) : s.extract a e = bs (St.mid s.data.toList a e) := by
  rw [Lib.extract_eq]
  simp [bs, St.mid]
set_option maxRecDepth 100000 in
theorem blank_any (c : UInt8) (w : World) : Calls Tryd.prog 79 #[.int .u8 (c.toNat : Int)] w fun e w' => e = .returned (.bool (St.blk c)) ∧ w = w' := by
  have q1 : ((c.toNat : Int) == 32) = decide (c = 32) := u8_eq c 32
  have q2 : ((c.toNat : Int) == 9) = decide (c = 9) := u8_eq c 9
  have q3 : ((c.toNat : Int) == 13) = decide (c = 13) := u8_eq c 13
  by_cases h1 : c = 32
  · have HR := Lib.hid (show St.blk c = true by simp [St.blk, h1])
    rw [decide_eq_true h1] at q1
    clear h1 q2 q3
    go_enter Tryd.func79, Tryd.ntmps79
    go_wp2
    go_ret
    exact ⟨by rw [HR.out]; rfl, rfl⟩
  · rw [decide_eq_false h1] at q1
    by_cases h2 : c = 9
    · have HR := Lib.hid (show St.blk c = true by simp [St.blk, h2])
      rw [decide_eq_true h2] at q2
      clear h1 h2 q3
      go_enter Tryd.func79, Tryd.ntmps79
      go_wp2
      go_ret
      exact ⟨by rw [HR.out]; rfl, rfl⟩
    · rw [decide_eq_false h2] at q2
      have HR := Lib.hid (show St.blk c = decide (c = 13) by simp [St.blk, h1, h2])
      clear h1 h2
      go_enter Tryd.func79, Tryd.ntmps79
      go_wp2
      go_ret
      exact ⟨by rw [HR.out]; rfl, rfl⟩

set_option maxRecDepth 100000 in
set_option maxHeartbeats 4000000 in
theorem trim_any (s : ByteArray) (w : World) (hs : s.size ≤ 1000000000) :
    Calls Tryd.prog 50 #[.string s] w fun e w' => e = .returned (.tuple #[.string (bs (St.trimR (St.trimL s.data.toList))), .int .i64 ((s.size : Int) - ((St.trimL s.data.toList).length : Int))]) ∧ w = w' := by
  have HSZ := Lib.hid (Lib.size_eq s)
  go_enter Tryd.func50, Tryd.ntmps50
  go_wp2
  go_loop [4] (fun n => ∃ k : Nat, k ≤ s.size ∧ n = .int .i64 k ∧ Hid ((s.data.toList.take k).all St.blk = true)) (fun n => s.size - (intOf n).toNat)
  case atStart => exact ⟨0, Nat.zero_le _, rfl, Lib.hid (by simp)⟩
  case round =>
    obtain ⟨k, hk, rfl, HK⟩ := hrel
    by_cases hgo : ∃ h : k < s.size, St.blk s[k] = true
    · obtain ⟨hlt, hb⟩ := hgo
      have B := blank_any (s[k]'hlt) w
      rw [hb] at B
      have B := Lib.hid B
      have HK2 := Lib.hid (show (s.data.toList.take (k + 1)).all St.blk = true by rw [ba_take_succ s k hlt, List.all_append, HK.out]; simp [hb])
      clear hb
      go_wp2_with (go_at_call 79; (with_reducible refine B.out.mono ?_); rintro e w' ⟨rfl, rfl⟩)
      go_round
      case rel => exact ⟨k + 1, by omega, by go_num, HK2⟩
      case measure => simp [intOf]; omega
    · have hex : k = s.size ∨ ∃ h : k < s.size, St.blk s[k] = false := by
        by_cases h : k < s.size
        · right
          refine ⟨h, ?_⟩
          cases hb : St.blk s[k]
          · rfl
          · exact absurd ⟨h, hb⟩ hgo
        · left; omega
      have HT := Lib.hid (show St.trimL s.data.toList = s.data.toList.drop k from St.trimL_at HK.out (by
        rcases hex with h | ⟨h, hb⟩
        · left; rw [← HSZ.out]; exact h
        · right; exact ⟨_, ba_get s k h, hb⟩))
      have HN := Lib.hid (show (s.size : Int) - ((St.trimL s.data.toList).length : Int) = (k : Int) by rw [HT.out, List.length_drop, ← HSZ.out]; omega)
      have hex2 : ¬ k < s.size ∨ ∃ h : k < s.size, St.blk s[k] = false := by
        rcases hex with h | h
        · left; omega
        · exact .inr h
      clear hgo hex
      rcases hex2 with hnl | ⟨hlt, hb⟩
      · go_wp2
        go_loop [5] (fun e => ∃ m : Nat, k ≤ m ∧ m ≤ s.size ∧ e = .int .i64 m ∧ Hid (St.trimR (s.data.toList.drop k) = St.trimR (St.mid s.data.toList k m))) (fun e => (intOf e).toNat - k)
        case atStart => exact ⟨s.size, by omega, by omega, rfl, Lib.hid (by rw [St.mid_all (by rw [← HSZ.out]; exact Nat.le_refl _)])⟩
        case round =>
          obtain ⟨m, hkm, hms, rfl, HM⟩ := hrel
          by_cases hg : k < m
          · exfalso; omega
          · obtain rfl : m = k := by omega
            have HR := Lib.hid (show St.trimR (St.trimL s.data.toList) = St.mid s.data.toList m m by rw [HT.out, HM.out, St.mid_self, St.trimR_nil])
            go_wp2
            go_ret2
            exact ⟨by rw [HR.out, HN.out, St.mid_self]; rfl, rfl⟩
      · have B := blank_any (s[k]'hlt) w
        rw [hb] at B
        have B := Lib.hid B
        clear hb
        go_wp2_with (go_at_call 79; (with_reducible refine B.out.mono ?_); rintro e w' ⟨rfl, rfl⟩)
        go_loop [5] (fun e => ∃ m : Nat, k ≤ m ∧ m ≤ s.size ∧ e = .int .i64 m ∧ Hid (St.trimR (s.data.toList.drop k) = St.trimR (St.mid s.data.toList k m))) (fun e => (intOf e).toNat - k)
        case atStart => exact ⟨s.size, by omega, by omega, rfl, Lib.hid (by rw [St.mid_all (by rw [← HSZ.out]; exact Nat.le_refl _)])⟩
        case round =>
          obtain ⟨m, hkm, hms, rfl, HM⟩ := hrel
          by_cases hg : k < m
          · obtain ⟨j, rfl⟩ : ∃ j, m = j + 1 := ⟨m - 1, by omega⟩
            have hj : j < s.size := by omega
            have hmid := St.mid_succ (t := s.data.toList) (a := k) (e := j) (by omega) (ba_get s j hj)
            have B2 := blank_any (s[j]'hj) w
            have hwr : IntKind.i64.wrap (((j + 1 : Nat) : Int) - 1) = (j : Int) := by
              rw [show ((j + 1 : Nat) : Int) - 1 = (j : Int) by omega]
              exact IntWalk.i64_in _ (by omega)
            have hwr2 : IntKind.i64.wrap ((j : Int) + 1 - 1) = (j : Int) := by
              rw [show (j : Int) + 1 - 1 = (j : Int) by omega]
              exact IntWalk.i64_in _ (by omega)
            cases hb2 : St.blk (s[j]'hj)
            · rw [hb2] at B2
              have B2 := Lib.hid B2
              have HR := Lib.hid (show St.trimR (St.trimL s.data.toList) = St.mid s.data.toList k (j + 1) by rw [HT.out, HM.out, hmid, St.trimR_no hb2])
              clear hmid hb2
              go_wp2_with (go_at_call 79; (with_reducible refine B2.out.mono ?_); rintro e w' ⟨rfl, rfl⟩)
              go_ret2
              exact ⟨by rw [HR.out, HN.out, ← ba_midS]; rfl, rfl⟩
            · rw [hb2] at B2
              have B2 := Lib.hid B2
              have HM2 := Lib.hid (show St.trimR (s.data.toList.drop k) = St.trimR (St.mid s.data.toList k j) by rw [HM.out, hmid, St.trimR_yes hb2])
              clear hmid hb2
              go_wp2_with (go_at_call 79; (with_reducible refine B2.out.mono ?_); rintro e w' ⟨rfl, rfl⟩)
              go_round
              case rel => exact ⟨j, by omega, by omega, by go_num, HM2⟩
              case measure => simp [intOf]; omega
          · obtain rfl : m = k := by omega
            have HR := Lib.hid (show St.trimR (St.trimL s.data.toList) = St.mid s.data.toList m m by rw [HT.out, HM.out, St.mid_self, St.trimR_nil])
            go_wp2
            go_ret2
            exact ⟨by rw [HR.out, HN.out, St.mid_self]; rfl, rfl⟩

end Go.Proofs.YtliabgcpciekpaaDoor
