/- The law EditLines: lines, one behind the other, are the text; each has a byte 10 just at its end, but for the last one. -/
import Derived.Test.YtnijaleedbmljaaEditMakes
set_option linter.unusedVariables false
set_option linter.unusedSimpArgs false
namespace Go.Proofs.Ytnijaleedbmljaa
open Go Go.RowKit

theorem idx_absent {t : Pl.T} (h : (10 : UInt8) ∉ t) : Lib.indexByte t 10 = -1 := by
  induction t with
  | nil => rfl
  | cons c t ih =>
    simp only [List.mem_cons, not_or] at h
    unfold Lib.indexByte
    rw [ih h.2]
    have : (c == 10) = false := by rw [beq_eq_false_iff_ne]; exact fun e => h.1 e.symm
    simp [this]
theorem idx_last {t : Pl.T} (h : (10 : UInt8) ∉ t.dropLast) (h2 : t.getLast? = some 10) : Lib.indexByte t 10 = ((t.length - 1 : Nat) : Int) := by
  have hne : Lib.indexByte t 10 ≠ -1 := by
    intro e
    have := Pl.idx_none e
    have hm : (10 : UInt8) ∈ t := List.mem_of_getLast? h2
    exact this hm
  obtain ⟨j, hj⟩ : ∃ j : Nat, Lib.indexByte t 10 = j := ⟨(Lib.indexByte t 10).toNat, by have := Lib.indexByte_ge t 10; omega⟩
  obtain ⟨h3, _, h5⟩ := Pl.idx_some hj
  rw [hj]
  by_cases hq : j = t.length - 1
  · rw [hq]
  · exfalso
    apply h
    rw [List.dropLast_eq_take]
    exact List.mem_of_getElem? (i := j) (by rw [List.getElem?_take, if_pos (by omega)]; exact h5)

/-- What the law asks of a line. -/
theorem line_facts {L : List Pl.T} (hg : Pl.Good L) {k : Nat} {x : Pl.T} (h : L[k]? = some x) : 1 ≤ x.length ∧ ((Lib.indexByte x 10 = ((x.length - 1 : Nat) : Int)) ∨ (Lib.indexByte x 10 = -1 ∧ k + 1 = L.length)) := by
  have hk := (List.getElem?_eq_some_iff.1 h).1
  have hd := hg.drop k
  rw [List.drop_eq_getElem_cons hk, (List.getElem?_eq_some_iff.1 h).2] at hd
  obtain ⟨h1, h2⟩ := hd.head
  refine ⟨List.length_pos_iff.2 h1, ?_⟩
  by_cases hl : x.getLast? = some 10
  · exact .inl (idx_last h2 hl)
  · right
    refine ⟨idx_absent (fun hm => ?_), ?_⟩
    · rw [← List.dropLast_concat_getLast h1, List.mem_append] at hm
      rcases hm with hm | hm
      · exact h2 hm
      · apply hl
        rw [List.getLast?_eq_some_getLast h1]
        simp only [List.mem_singleton] at hm
        rw [← hm]
    · by_cases hq : k + 1 = L.length
      · exact hq
      · exfalso
        apply hl
        refine hd.ended (fun e => ?_)
        have := congrArg List.length e
        simp at this; omega

theorem flat_take {L : List Pl.T} {k : Nat} {x : Pl.T} (h : L[k]? = some x) : (L.take (k + 1)).flatten = (L.take k).flatten ++ x := by
  rw [List.take_add_one, h]; simp

set_option maxRecDepth 100000 in
set_option maxHeartbeats 4000000 in
theorem EditLines_any (s : ByteArray) (w : World) (hs : s.size ≤ maxLen) :
    Calls Try.prog 11 #[.string s] w fun e w' => e = .returned (.bool true) ∧ Below w.heap.size w w' := by
  unfold maxLen at hs
  by_cases h1 : 2000 < s.size
  · have hg : decide ((2000 : Int) < (s.size : Int)) = true := by simp; omega
    go_enter Try.func11, Try.ntmps11
    go_wp2_with (go_at_call 42; refine (alive18_any _).mono ?_; rintro e w0 ⟨rfl, hb0⟩)
    go_ret
    exact ⟨rfl, hb0⟩
  have hg1 : decide ((2000 : Int) < (s.size : Int)) = false := by simp; omega
  obtain ⟨ln, lf⟩ := lines_size (a := s) (n := 2000) (by omega)
  have K1 := Lib.hid (fun w => Lines_got s w (by omega))
  have hgood := Pl.good_lines s.data.toList
  have HF := Lib.hid (Pl.lines_flat s.data.toList)
  have HL := Lib.hid (fun k x h => line_facts hgood (k := k) (x := x) h)
  clear hgood
  generalize Pl.lines s.data.toList = L at *
  go_enter Try.func11, Try.ntmps11
  go_wp2_with (first
    | (go_at_call 42; refine (alive18_any _).mono ?_; rintro e w0 ⟨rfl, hb0⟩)
    | (go_at_call 32; with_reducible refine (K1.out _).mono ?_; rintro e w1 ⟨X, cx, rfl, hcx, hX, hb1⟩; have hB1 := hb0.trans (hb1.mono hb0.size)))
  clear hg1
  go_loop [5, 6, 7, 21] (fun a _ _ i => ∃ k : Nat, k ≤ L.length ∧ i = .int .i64 k ∧ ∃ t : ByteArray, a = .string t ∧ t.data.toList = (L.take k).flatten) (fun _ _ _ i => L.length - (intOf i).toNat)
  case atStart => exact ⟨0, Nat.zero_le _, rfl, ⟨#[]⟩, rfl, by simp⟩
  case round =>
    obtain ⟨k, hk, rfl, t, rfl, ht⟩ := hrel
    have HT := Lib.hid ht; clear ht
    by_cases hlt : k < L.length
    · have hkx := List.getElem?_eq_getElem hlt
      generalize L[k] = x at hkx
      obtain ⟨b1, o1, rfl, hbk1, c1⟩ := hX.st hkx
      obtain ⟨f1, f2⟩ := HL.out k x hkx
      have hxs : (bs x).size = x.length := bs_size x
      have hxl : x.length ≤ 2000 := by
        have := Pl.len_flat (List.mem_of_getElem? hkx); omega
      have htl : t.size ≤ 2000 := by
        rw [Lib.size_eq, HT.out]
        have := congrArg List.length (show (L.take k).flatten ++ (L.drop k).flatten = L.flatten by rw [← List.flatten_append, List.take_append_drop])
        simp only [List.length_append] at this; omega
      have H2 := Lib.hid (flat_take hkx)
      have KI := Lib.hid (fun w => Try.strings_Index_one (bs x) 10 w)
      rw [bs_data] at KI
      clear hkx
      obtain ⟨m, hm⟩ : ∃ m, m = x.length := ⟨_, rfl⟩
      rw [← hm] at f1 f2 hxs hxl
      obtain ⟨j, hj⟩ : ∃ j, j = Lib.indexByte x 10 := ⟨_, rfl⟩
      rw [← hj] at f2 KI
      clear hm hj
      have f4 : (j = (m : Int) - 1 ∧ k ≤ L.length) ∨ (j = -1 ∧ decide ((k : Int) < (L.length : Int) - 1) = false) := by
        rcases f2 with f2 | ⟨f2, f3⟩
        · exact .inl ⟨by omega, hk⟩
        · exact .inr ⟨f2, by rw [decide_eq_false_iff_not]; omega⟩
      have hz : ((m : Int) == 0) = false := by rw [beq_eq_false_iff_ne]; omega
      clear f2
      rcases f4 with ⟨f2, f3⟩ | ⟨f2, f3⟩
      all_goals
        subst f2
        go_wp2_with (go_at_call 43; refine (KI.out _).mono ?_; rintro e w' ⟨rfl, rfl⟩)
        refine ⟨⟨k + 1, by omega, by go_num, t ++ bs x, rfl, by rw [H2.out, ← HT.out]; simp [bs]⟩, ?_⟩
        simp only [intOf]; omega
    · have hkl : k = L.length := by omega
      have HE : Hid (t = s) := Lib.hid (by rw [← bs_of t, ← bs_of s, HT.out, ← HF.out, hkl, List.take_length])
      clear hkl
      obtain rfl := HE.out
      go_wp2
      go_ret
      exact ⟨rfl, hB1⟩

end Go.Proofs.Ytnijaleedbmljaa
