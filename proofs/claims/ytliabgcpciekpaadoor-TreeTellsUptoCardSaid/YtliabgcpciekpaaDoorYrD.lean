/- Walks: a number of one to seven digits (the program's); one line of white space and more (the document's). -/
import Derived.Test.YtliabgcpciekpaaDoorYrC
set_option linter.unusedVariables false
set_option linter.unusedSimpArgs false
namespace Go.Proofs.YtliabgcpciekpaaDoor
open Go Go.RowKit

theorem ba_take_succ (s : ByteArray) (k : Nat) (h : k < s.size) : s.data.toList.take (k + 1) = s.data.toList.take k ++ [s[k]] := by
  rw [List.take_succ_eq_append_getElem (by rw [← Lib.size_eq]; exact h)]; rfl
theorem u8_eq (c : UInt8) (d : UInt8) : ((c.toNat : Int) == (d.toNat : Int)) = decide (c = d) := by
  rw [Bool.eq_iff_iff, beq_iff_eq, decide_eq_true_eq]
  constructor
  · intro h; apply UInt8.toNat_inj.1; omega
  · rintro rfl; rfl
def numPart (t : St.T) (k : Nat) : Prop := (t.take k).all St.isDig = true
theorem numPart_bd {t : St.T} {k : Nat} (h : numPart t k) (hk : k ≤ 7) : 0 ≤ St.worth (t.take k) ∧ St.worth (t.take k) ≤ 9999999 := by
  have h1 := St.worth_bd _ _ rfl h
  have h2 : (t.take k).length ≤ 7 := by simp; omega
  have : (t.take k).length = 0 ∨ (t.take k).length = 1 ∨ (t.take k).length = 2 ∨ (t.take k).length = 3 ∨ (t.take k).length = 4 ∨ (t.take k).length = 5 ∨ (t.take k).length = 6 ∨ (t.take k).length = 7 := by omega
  rcases this with h | h | h | h | h | h | h | h <;> rw [h] at h1 <;> omega
theorem isNum_bad {t : St.T} {k : Nat} {c : UInt8} (hc : t[k]? = some c) (h : St.isDig c = false) : St.isNum t = false := by
  have : t.all St.isDig = false := by
    rw [Bool.eq_false_iff]
    intro e
    rw [List.all_eq_true] at e
    have := e c (List.mem_of_getElem? hc)
    rw [h] at this
    cases this
  simp [St.isNum, this]

/-- What digits gives. -/
def dgRes (t : St.T) : Value := .tuple #[.int .i64 (if St.isNum t = true then St.worth t else 0), .bool (St.isNum t)]
theorem dgRes_no {t : St.T} (h : St.isNum t = false) : dgRes t = .tuple #[.int .i64 0, .bool false] := by unfold dgRes; rw [h]; rfl
theorem dgRes_yes {t : St.T} (h : St.isNum t = true) : dgRes t = .tuple #[.int .i64 (St.worth t), .bool true] := by unfold dgRes; rw [h]; rfl

set_option maxRecDepth 100000 in
set_option maxHeartbeats 2000000 in
theorem digits_any (s : ByteArray) (w : World) :
    Calls Tryd.prog 78 #[.string s] w fun e w' => e = .returned (dgRes s.data.toList) ∧ w = w' := by
  have hsz : s.size = s.data.toList.length := Lib.size_eq s
  by_cases h0 : s.size < 1
  · have HN := Lib.hid (dgRes_no (t := s.data.toList) (by simp [St.isNum, ← hsz]; omega))
    clear hsz
    go_enter Tryd.func78, Tryd.ntmps78
    go_wp2
    go_ret2
    exact ⟨by rw [HN.out]; rfl, rfl⟩
  by_cases h7 : 7 < s.size
  · have HN := Lib.hid (dgRes_no (t := s.data.toList) (by simp [St.isNum, ← hsz]; omega))
    clear hsz
    go_enter Tryd.func78, Tryd.ntmps78
    go_wp2
    go_ret2
    exact ⟨by rw [HN.out]; rfl, rfl⟩
  have HSZ := Lib.hid hsz; clear hsz
  go_enter Tryd.func78, Tryd.ntmps78
  go_wp2
  go_loop [4, 16] (fun n i => ∃ k : Nat, k ≤ s.size ∧ i = .int .i64 k ∧ n = .int .i64 (St.worth (s.data.toList.take k)) ∧ Hid (numPart s.data.toList k)) (fun _ i => s.size - (intOf i).toNat)
  case atStart => exact ⟨0, Nat.zero_le _, rfl, by simp [St.worth], Lib.hid (by simp [numPart])⟩
  case round =>
    obtain ⟨k, hk, rfl, rfl, HD⟩ := hrel
    have hwb := numPart_bd HD.out (by omega)
    by_cases hlt : k < s.size
    · have hgk := ba_get s k hlt
      have htk := ba_take_succ s k hlt
      have HW : Hid (St.worth (s.data.toList.take (k + 1)) = 10 * St.worth (s.data.toList.take k) + ((s[k].toNat : Int) - 48)) := Lib.hid (by rw [htk, St.worth_snoc])
      by_cases c1 : s[k].toNat < 48
      · have HN := Lib.hid (dgRes_no (isNum_bad hgk (by simp [St.isDig]; omega)))
        clear htk hgk
        go_wp2
        go_ret2
        exact ⟨by rw [HN.out]; rfl, rfl⟩
      by_cases c2 : 57 < s[k].toNat
      · have HN := Lib.hid (dgRes_no (isNum_bad hgk (by simp [St.isDig]; omega)))
        clear htk hgk
        go_wp2
        go_ret2
        exact ⟨by rw [HN.out]; rfl, rfl⟩
      have HD2 : Hid (numPart s.data.toList (k + 1)) := Lib.hid (by
        unfold numPart
        rw [htk, List.all_append, HD.out]
        simp [St.isDig]; omega)
      generalize St.worth (s.data.toList.take k) = v at *
      clear htk hgk
      go_wp2
      go_round
      case rel => exact ⟨k + 1, by omega, by go_num, by rw [HW.out] <;> go_num, HD2⟩
      case measure => simp [intOf]; omega
    · have hkl : s.data.toList.take k = s.data.toList := List.take_of_length_le (by rw [← HSZ.out]; omega)
      have hd := HD.out
      unfold numPart at hd
      rw [hkl] at hd
      rw [hkl] at hwb ⊢
      have HN := Lib.hid (dgRes_yes (t := s.data.toList) (by simp only [St.isNum, ← HSZ.out, hd]; simp; omega))
      clear hkl hd
      go_wp2
      go_ret2
      exact ⟨by rw [HN.out]; rfl, rfl⟩

end Go.Proofs.YtliabgcpciekpaaDoor
