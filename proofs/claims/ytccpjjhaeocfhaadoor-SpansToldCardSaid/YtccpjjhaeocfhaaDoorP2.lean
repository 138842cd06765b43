/- Walks: what a text is worth as a number (the program's and the document's); a text cut at its first '-'. -/
import Derived.Test.YtccpjjhaeocfhaaDoorP1
set_option linter.unusedVariables false
set_option linter.unusedSimpArgs false
namespace Go.Proofs.YtccpjjhaeocfhaaDoor
open Go Go.RowKit

theorem ba_get (s : ByteArray) (k : Nat) (h : k < s.size) : s.data.toList[k]? = some s[k] := by
  rw [List.getElem?_eq_getElem (by rw [← Lib.size_eq]; exact h)]; rfl
theorem u8_eq (c : UInt8) (d : UInt8) : ((c.toNat : Int) == (d.toNat : Int)) = decide (c = d) := by
  rw [Bool.eq_iff_iff, beq_iff_eq, decide_eq_true_eq]
  constructor
  · intro h; apply UInt8.toNat_inj.1; omega
  · rintro rfl; rfl
theorem ba_take_succ (s : ByteArray) (k : Nat) (h : k < s.size) : s.data.toList.take (k + 1) = s.data.toList.take k ++ [s[k]] := by
  rw [List.take_succ_eq_append_getElem (by rw [← Lib.size_eq]; exact h)]; rfl
theorem ba_empty (s : ByteArray) (h : s.size = 0) : s.data.toList = [] := List.eq_nil_of_length_eq_zero (by rw [← Lib.size_eq]; exact h)
theorem num_empty {t : Sp.T} (h : t = []) : Sp.num t = 0 := by unfold Sp.num; rw [if_pos (.inl h)]
theorem num_long {t : Sp.T} (h : 5 < t.length) : Sp.num t = 0 := by unfold Sp.num; rw [if_pos (.inr (.inl h))]
theorem num_zero {t : Sp.T} (h : t[0]? = some 48) : Sp.num t = 0 := by unfold Sp.num; rw [if_pos (.inr (.inr h))]
theorem num_else {t : Sp.T} (h1 : t ≠ []) (h2 : ¬ 5 < t.length) (h3 : t[0]? ≠ some 48) : Sp.num t = if t.all Sp.isDig = true then (if 65536 < Sp.worth t then 0 else Sp.worth t) else 0 := by
  unfold Sp.num; rw [if_neg (by simp [h1, h2, h3])]

def numPart (t : Sp.T) (k : Nat) : Prop := (t.take k).all Sp.isDig = true
theorem numPart_bd {t : Sp.T} {k : Nat} (h : numPart t k) (hk : k ≤ 5) : 0 ≤ Sp.worth (t.take k) ∧ Sp.worth (t.take k) ≤ 99999 := by
  have h1 := Sp.worth_bd _ _ rfl h
  have h2 : (t.take k).length ≤ 5 := by simp; omega
  have : (t.take k).length = 0 ∨ (t.take k).length = 1 ∨ (t.take k).length = 2 ∨ (t.take k).length = 3 ∨ (t.take k).length = 4 ∨ (t.take k).length = 5 := by omega
  rcases this with h | h | h | h | h | h <;> rw [h] at h1 <;> omega
theorem num_bad {t : Sp.T} {k : Nat} {c : UInt8} (hc : t[k]? = some c) (h : Sp.isDig c = false) (h1 : t ≠ []) (h2 : ¬ 5 < t.length) (h3 : t[0]? ≠ some 48) : Sp.num t = 0 := by
  rw [num_else h1 h2 h3, if_neg]
  rw [List.all_eq_true]
  intro hh
  have := hh c (List.mem_of_getElem? hc)
  rw [h] at this
  cases this


set_option maxRecDepth 100000 in
set_option maxHeartbeats 2000000 in
theorem number_any (s : ByteArray) (w : World) :
    Calls Tryd.prog 23 #[.string s] w fun e w' => e = .returned (.int .i64 (Sp.num s.data.toList)) ∧ w = w' := by
  have hsz : s.size = s.data.toList.length := Lib.size_eq s
  by_cases h0 : s.size = 0
  · have he := ba_empty s h0
    have HN := Lib.hid (num_empty he)
    have t1 : s.toList = [] := by rw [Lib.toList_data]; exact he
    have t2 : s.toList.isEmpty = true := by rw [t1]; rfl
    have t3 : ((s.size : Int) == 0) = true := by simp [h0]
    clear he hsz h0
    go_enter Tryd.func23, Tryd.ntmps23
    go_wp2
    go_ret
    exact ⟨ret_int HN.out.symm, rfl⟩
  have hp : 0 < s.size := by omega
  have hne : s.data.toList ≠ [] := by intro e; rw [e, List.length_nil] at hsz; omega
  have t1 : ¬ s.toList = [] := by rw [Lib.toList_data]; exact hne
  have t2 : s.toList.isEmpty = false := by rw [List.isEmpty_eq_false_iff]; exact t1
  have t3 : ((s.size : Int) == 0) = false := by rw [beq_eq_false_iff_ne]; omega
  have HNE := Lib.hid hne; clear hne
  by_cases h5 : 5 < s.size
  · have HN := Lib.hid (num_long (t := s.data.toList) (by omega))
    clear hsz h0
    go_enter Tryd.func23, Tryd.ntmps23
    go_wp2
    go_ret
    exact ⟨ret_int HN.out.symm, rfl⟩
  have hg0 := ba_get s 0 hp
  have hq : (((s[0]'hp).toNat : Int) == 48) = decide (s[0]'hp = 48) := u8_eq (s[0]'hp) 48
  have HSZ := Lib.hid hsz; clear hsz h0
  by_cases hz : s[0]'hp = 48
  · have HN := Lib.hid (num_zero (by rw [hg0, hz]))
    rw [decide_eq_true hz] at hq
    clear hg0 hz
    go_enter Tryd.func23, Tryd.ntmps23
    go_wp2
    go_ret
    exact ⟨ret_int HN.out.symm, rfl⟩
  have HZ := Lib.hid (show s.data.toList[0]? ≠ some 48 by rw [hg0]; simpa using hz)
  rw [decide_eq_false hz] at hq
  clear hg0 hz
  go_enter Tryd.func23, Tryd.ntmps23
  go_wp2
  go_loop [3, 19] (fun n i => ∃ k : Nat, k ≤ s.size ∧ i = .int .i64 k ∧ n = .int .i64 (Sp.worth (s.data.toList.take k)) ∧ Hid (numPart s.data.toList k)) (fun _ i => s.size - (intOf i).toNat)
  case atStart => exact ⟨0, Nat.zero_le _, rfl, by simp [Sp.worth], Lib.hid (by simp [numPart])⟩
  case round =>
    obtain ⟨k, hk, rfl, rfl, HD⟩ := hrel
    have hwb := numPart_bd HD.out (by omega)
    by_cases hlt : k < s.size
    · have hgk := ba_get s k hlt
      have htk := ba_take_succ s k hlt
      have HW : Hid (Sp.worth (s.data.toList.take (k + 1)) = 10 * Sp.worth (s.data.toList.take k) + ((s[k].toNat : Int) - 48)) := Lib.hid (by rw [htk, Sp.worth_snoc])
      by_cases c1 : s[k].toNat < 48
      · have HN := Lib.hid (num_bad hgk (by simp [Sp.isDig]; omega) HNE.out (by rw [← HSZ.out]; exact h5) HZ.out)
        clear htk hgk
        go_wp2
        go_ret
        exact ⟨ret_int HN.out.symm, rfl⟩
      by_cases c2 : 57 < s[k].toNat
      · have HN := Lib.hid (num_bad hgk (by simp [Sp.isDig]; omega) HNE.out (by rw [← HSZ.out]; exact h5) HZ.out)
        clear htk hgk
        go_wp2
        go_ret
        exact ⟨ret_int HN.out.symm, rfl⟩
      have HD2 : Hid (numPart s.data.toList (k + 1)) := Lib.hid (by
        unfold numPart
        rw [htk, List.all_append, HD.out]
        simp [Sp.isDig]; omega)
      generalize Sp.worth (s.data.toList.take k) = v at *
      clear htk hgk
      go_wp2
      go_round
      case rel => exact ⟨k + 1, by omega, by go_num, by rw [HW.out] <;> go_num, HD2⟩
      case measure => simp [intOf]; omega
    · have hkl : s.data.toList.take k = s.data.toList := List.take_of_length_le (by rw [← HSZ.out]; omega)
      have HN := num_else HNE.out (by rw [← HSZ.out]; exact h5) HZ.out
      have hd := HD.out
      unfold numPart at hd
      rw [hkl] at hd
      rw [hkl] at hwb ⊢
      rw [if_pos hd] at HN
      by_cases h6 : 65536 < Sp.worth s.data.toList
      · rw [if_pos h6] at HN
        have HN := Lib.hid HN
        clear hkl hd
        generalize Sp.worth s.data.toList = v at *
        go_wp2
        go_ret
        exact ⟨rfl, rfl⟩
      · rw [if_neg h6] at HN
        have HN := Lib.hid HN
        clear hkl hd
        go_wp2
        go_ret
        exact ⟨rfl, rfl⟩

set_option maxRecDepth 100000 in
set_option maxHeartbeats 2000000 in
theorem refnumber_any (s : ByteArray) (w : World) :
    Calls Tryd.prog 27 #[.string s] w fun e w' => e = .returned (.int .i64 (Sp.num s.data.toList)) ∧ w = w' := by
  have hsz : s.size = s.data.toList.length := Lib.size_eq s
  by_cases h0 : s.size = 0
  · have he := ba_empty s h0
    have HN := Lib.hid (num_empty he)
    have t1 : s.toList = [] := by rw [Lib.toList_data]; exact he
    have t2 : s.toList.isEmpty = true := by rw [t1]; rfl
    have t3 : ((s.size : Int) == 0) = true := by simp [h0]
    clear he hsz h0
    go_enter Tryd.func27, Tryd.ntmps27
    go_wp2
    go_ret
    exact ⟨ret_int HN.out.symm, rfl⟩
  have hp : 0 < s.size := by omega
  have hne : s.data.toList ≠ [] := by intro e; rw [e, List.length_nil] at hsz; omega
  have t1 : ¬ s.toList = [] := by rw [Lib.toList_data]; exact hne
  have t2 : s.toList.isEmpty = false := by rw [List.isEmpty_eq_false_iff]; exact t1
  have t3 : ((s.size : Int) == 0) = false := by rw [beq_eq_false_iff_ne]; omega
  have HNE := Lib.hid hne; clear hne
  by_cases h5 : 5 < s.size
  · have HN := Lib.hid (num_long (t := s.data.toList) (by omega))
    clear hsz h0
    go_enter Tryd.func27, Tryd.ntmps27
    go_wp2
    go_ret
    exact ⟨ret_int HN.out.symm, rfl⟩
  have hg0 := ba_get s 0 hp
  have hq : (((s[0]'hp).toNat : Int) == 48) = decide (s[0]'hp = 48) := u8_eq (s[0]'hp) 48
  have HSZ := Lib.hid hsz; clear hsz h0
  by_cases hz : s[0]'hp = 48
  · have HN := Lib.hid (num_zero (by rw [hg0, hz]))
    rw [decide_eq_true hz] at hq
    clear hg0 hz
    go_enter Tryd.func27, Tryd.ntmps27
    go_wp2
    go_ret
    exact ⟨ret_int HN.out.symm, rfl⟩
  have HZ := Lib.hid (show s.data.toList[0]? ≠ some 48 by rw [hg0]; simpa using hz)
  rw [decide_eq_false hz] at hq
  clear hg0 hz
  go_enter Tryd.func27, Tryd.ntmps27
  go_wp2
  go_loop [3, 4] (fun n i => ∃ k : Nat, k ≤ s.size ∧ i = .int .i64 k ∧ n = .int .i64 (Sp.worth (s.data.toList.take k)) ∧ Hid (numPart s.data.toList k)) (fun _ i => s.size - (intOf i).toNat)
  case atStart => exact ⟨0, Nat.zero_le _, rfl, by simp [Sp.worth], Lib.hid (by simp [numPart])⟩
  case round =>
    obtain ⟨k, hk, rfl, rfl, HD⟩ := hrel
    have hwb := numPart_bd HD.out (by omega)
    by_cases hlt : k < s.size
    · have hgk := ba_get s k hlt
      have htk := ba_take_succ s k hlt
      have HW : Hid (Sp.worth (s.data.toList.take (k + 1)) = 10 * Sp.worth (s.data.toList.take k) + ((s[k].toNat : Int) - 48)) := Lib.hid (by rw [htk, Sp.worth_snoc])
      by_cases c1 : s[k].toNat < 48
      · have HN := Lib.hid (num_bad hgk (by simp [Sp.isDig]; omega) HNE.out (by rw [← HSZ.out]; exact h5) HZ.out)
        clear htk hgk
        go_wp2
        go_ret
        exact ⟨ret_int HN.out.symm, rfl⟩
      by_cases c2 : 57 < s[k].toNat
      · have HN := Lib.hid (num_bad hgk (by simp [Sp.isDig]; omega) HNE.out (by rw [← HSZ.out]; exact h5) HZ.out)
        clear htk hgk
        go_wp2
        go_ret
        exact ⟨ret_int HN.out.symm, rfl⟩
      have HD2 : Hid (numPart s.data.toList (k + 1)) := Lib.hid (by
        unfold numPart
        rw [htk, List.all_append, HD.out]
        simp [Sp.isDig]; omega)
      generalize Sp.worth (s.data.toList.take k) = v at *
      clear htk hgk
      go_wp2
      go_round
      case rel => exact ⟨k + 1, by omega, by go_num, by rw [HW.out] <;> go_num, HD2⟩
      case measure => simp [intOf]; omega
    · have hkl : s.data.toList.take k = s.data.toList := List.take_of_length_le (by rw [← HSZ.out]; omega)
      have HN := num_else HNE.out (by rw [← HSZ.out]; exact h5) HZ.out
      have hd := HD.out
      unfold numPart at hd
      rw [hkl] at hd
      rw [hkl] at hwb ⊢
      rw [if_pos hd] at HN
      by_cases h6 : 65536 < Sp.worth s.data.toList
      · rw [if_pos h6] at HN
        have HN := Lib.hid HN
        clear hkl hd
        generalize Sp.worth s.data.toList = v at *
        go_wp2
        go_ret
        exact ⟨rfl, rfl⟩
      · rw [if_neg h6] at HN
        have HN := Lib.hid HN
        clear hkl hd
        go_wp2
        go_ret
        exact ⟨rfl, rfl⟩

theorem idxj {s : ByteArray} (h : ¬ Lib.indexByte s.data.toList 45 = -1) : ∃ j : Nat, Lib.indexByte s.data.toList 45 = j ∧ j < s.size := by
  obtain ⟨j, hj⟩ : ∃ j : Nat, Lib.indexByte s.data.toList 45 = j := ⟨(Lib.indexByte s.data.toList 45).toNat, by have := Lib.indexByte_ge s.data.toList 45; omega⟩
  exact ⟨j, hj, by rw [Lib.size_eq]; exact (Sp.idx_some hj).1⟩

set_option maxRecDepth 100000 in
set_option maxHeartbeats 2000000 in
theorem liteCut_any (s : ByteArray) (w : World) (hs : s.size ≤ 1000000000) :
    Calls Tryd.prog 43 #[.string s, .string ⟨#[45]⟩] w fun e w' => e = .returned (.tuple #[.string (bs (Sp.cutA s.data.toList)), .string (bs (Sp.cutB s.data.toList)), .bool (Sp.cutT s.data.toList)]) ∧ ∃ n, w' = w.drewN n := by
  have hsep : (⟨#[45]⟩ : ByteArray).size = 1 := rfl
  have hC := Lib.hid (Tryd.stringslite_Index_one s 45 w)
  by_cases hi : Lib.indexByte s.data.toList 45 = -1
  · have HA := Lib.hid (show bs (Sp.cutA s.data.toList) = s by unfold Sp.cutA; rw [if_pos hi, bs_of])
    have HB := Lib.hid (show bs (Sp.cutB s.data.toList) = ⟨#[]⟩ by unfold Sp.cutB; rw [if_pos hi]; rfl)
    have HT := Lib.hid (show Sp.cutT s.data.toList = false by unfold Sp.cutT; rw [hi]; rfl)
    rw [hi] at hC
    clear hi
    go_enter Tryd.func43, Tryd.ntmps43
    go_wp2_with (go_at_call 51; refine hC.out.mono ?_; rintro e w' ⟨rfl, rfl⟩)
    go_ret3
    exact ⟨by rw [HA.out, HB.out, HT.out]; rfl, 0, rfl⟩
  · obtain ⟨j, hj, hj1⟩ := idxj hi
    have HA := Lib.hid (show bs (Sp.cutA s.data.toList) = s.extract 0 j by unfold Sp.cutA; rw [if_neg hi, hj, Lib.extract_eq]; simp [bs])
    have HB := Lib.hid (show bs (Sp.cutB s.data.toList) = s.extract (j + 1) s.size by
      unfold Sp.cutB; rw [if_neg hi, hj]
      apply ByteArray.ext
      apply Array.toList_inj.1
      rw [bs_data, Lib.extract_data, Int.toNat_natCast, List.take_of_length_le (by rw [List.length_drop, Lib.size_eq]; omega)])
    have HT := Lib.hid (show Sp.cutT s.data.toList = true by unfold Sp.cutT; rw [hj]; simp)
    rw [hj] at hC
    clear hi hj
    have e1 : IntKind.i64.wrap ((j : Int) + 1) = (j : Int) + 1 := IntWalk.i64_in _ (by omega)
    have e2 : (0 : Int) ≤ (j : Int) + 1 := by omega
    have e3 : ((j : Int) + 1).toNat = j + 1 := by omega
    have e4 : (j : Int) + 1 ≤ (s.size : Int) := by omega
    have e5 : (j : Int) ≤ (s.size : Int) := by omega
    have e6 : (0 : Int) ≤ (j : Int) := by omega
    go_enter Tryd.func43, Tryd.ntmps43
    go_wp2_with (go_at_call 51; refine hC.out.mono ?_; rintro e w' ⟨rfl, rfl⟩)
    go_quiet (fail)
    go_wp2
    go_ret3
    exact ⟨by rw [HA.out, HB.out, HT.out]; rfl, _, rfl⟩

set_option maxHeartbeats 400000 in
theorem Cut_any (s : ByteArray) (w : World) (hs : s.size ≤ 1000000000) :
    Calls Tryd.prog 22 #[.string s, .string ⟨#[45]⟩] w fun e w' => e = .returned (.tuple #[.string (bs (Sp.cutA s.data.toList)), .string (bs (Sp.cutB s.data.toList)), .bool (Sp.cutT s.data.toList)]) ∧ ∃ n, w' = w.drewN n := by
  have hC := Lib.hid (liteCut_any s w hs)
  generalize bs (Sp.cutA s.data.toList) = a at *
  generalize bs (Sp.cutB s.data.toList) = b at *
  generalize Sp.cutT s.data.toList = c at *
  go_enter Tryd.func22, Tryd.ntmps22
  go_wp2_with (go_at_call 43; refine hC.out.mono ?_; rintro e w' ⟨rfl, n, rfl⟩)
  go_ret3
  exact ⟨rfl, n, rfl⟩

end Go.Proofs.YtccpjjhaeocfhaaDoor
