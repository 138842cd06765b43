/- Walks: what edits make (the document's). -/
import Derived.Test.YtnijaleedbmljaaW7
set_option linter.unusedVariables false
set_option linter.unusedSimpArgs false
namespace Go.Proofs.Ytnijaleedbmljaa
open Go Go.RowKit

theorem ref_setup {s : ByteArray} (hs : s.size ≤ 4000000) : (Pl.lines s.data.toList).length ≤ 4000000 ∧ SmallT (Pl.lines s.data.toList) ∧ (Pl.lines s.data.toList).flatten.length ≤ 4000000 := by
  refine ⟨?_, fun x hx => ?_, ?_⟩
  · have := Pl.lines_le s.data.toList; rw [← Lib.size_eq] at this; omega
  · have := Pl.mem_le hx; rw [← Lib.size_eq] at this; omega
  · rw [Pl.lines_flat, ← Lib.size_eq]; exact hs

set_option maxRecDepth 100000 in
set_option maxHeartbeats 4000000 in
theorem refApply_any (s : ByteArray) (A : Option Addr) (c : Nat) (l : List Pl.Ed) (w : World) (hs : s.size ≤ 4000000) (h : Rd w 3 A l.length (edcs l)) (hsm : Sm l) (hap : fitS s.data.toList l = true → (Pl.app (Pl.lines s.data.toList) 0 l).length ≤ 1000000000000) :
    Calls Try.prog 26 #[.string s, .slice A l.length c] w fun e w' => e = .returned (applyRes s.data.toList l) ∧ Below w.heap.size w w' := by
  obtain ⟨hln, hsT, hfl⟩ := ref_setup hs
  have hlen := hsm.len
  have fc := fun X cx w g h => refFit_any X A cx c (Pl.lines s.data.toList) l w (by omega) g h (by omega) hsT hsm.smalls
  rw [fitS_ref] at fc
  have LC := Lib.hid (fun w => refLines_got s w (by omega))
  cases hb : fitS s.data.toList l
  · rw [hb] at fc
    have FC := Lib.hid fc; clear fc
    have hr : applyRes s.data.toList l = .tuple #[.string ⟨#[]⟩, .int .i64 180] := by unfold applyRes; rw [hb]; rfl
    have HR := Lib.hid hr; clear hr hb hap
    go_enter Try.func26, Try.ntmps26
    go_wp2_with (first | (go_at_call 33; refine (LC.out _).mono ?_; rintro e w1 ⟨X, cx, rfl, hcx, hX, hb1⟩) | (go_at_call 46; refine (FC.out _ _ _ hX (h.later hb1)).mono ?_; rintro e w2 ⟨rfl, hb2⟩))
    go_ret2
    exact ⟨by rw [HR.out]; rfl, hb1.trans (hb2.mono hb1.size)⟩
  · rw [hb] at fc
    have FC := Lib.hid fc; clear fc
    have HFIT := Lib.hid ((fitS_iff _ _).1 hb)
    have hr : applyRes s.data.toList l = .tuple #[.string (bs (Pl.app (Pl.lines s.data.toList) 0 l)), .int .i64 0] := by unfold applyRes; rw [if_pos hb]
    have HR := Lib.hid hr; clear hr
    have hap' := hap hb
    clear hb hap
    generalize Pl.lines s.data.toList = L at *
    go_enter Try.func26, Try.ntmps26
    go_wp2_with (first | (go_at_call 33; refine (LC.out _).mono ?_; rintro e w1 ⟨X, cx, rfl, hcx, hX, hb1⟩) | (go_at_call 46; refine (FC.out _ _ _ hX (h.later hb1)).mono ?_; rintro e w2 ⟨rfl, hb2⟩))
    have hb12 := hb1.trans (hb2.mono hb1.size)
    have hX2 := hX.later hb2
    have hbl : ∀ {wx : World}, Below w2.heap.size w2 wx → Below w.heap.size w wx := fun h => hb12.trans (h.mono hb12.size)
    go_loopw [8, 9, 10] (fun out at_ i wr => ∃ (k a : Nat) (dn : Pl.T) (la : Int), k ≤ l.length ∧ i = .int .i64 k ∧ at_ = .int .i64 a ∧ out = .string (bs dn) ∧ Below w2.heap.size w2 wr ∧ Hid (dn ++ Pl.app L a (l.drop k) = Pl.app L 0 l) ∧ Hid (Pl.Fits L.length (endB s.data.toList = true) la (l.drop k)) ∧ (a : Int) ≤ la + 1 ∧ a ≤ L.length) (fun _ _ i _ => l.length - (intOf i).toNat)
    case atStart => exact ⟨0, 0, [], -1, Nat.zero_le _, rfl, rfl, rfl, Below.refl _ _, Lib.hid (by simp), HFIT, by omega, by omega⟩
    case round =>
      obtain ⟨k, a, dn, la, hk, rfl, rfl, rfl, hbw, H1, H2, hla, hal⟩ := hrel
      by_cases hlt : k < l.length
      · obtain ⟨b1, o1, rfl, hbk1, c1, c2, c3⟩ := ((h.later hb12).later hbw).ed (k := k) (List.getElem?_eq_getElem hlt)
        have hd := List.drop_eq_getElem_cons hlt
        have q2 := hsm.txt l[k] (List.getElem_mem hlt)
        generalize l[k] = e at c1 c2 c3 hd q2
        rw [hd] at H1 H2
        clear hd
        obtain ⟨ef, et, ex⟩ := e
        simp only at c1 c2 c3 q2
        obtain ⟨f1, f2, f3, f4, _⟩ := id H2.out
        simp only at f1 f2 f3 f4
        obtain ⟨f, rfl⟩ := Int.eq_ofNat_of_zero_le f2
        obtain ⟨t, rfl⟩ := Int.eq_ofNat_of_zero_le (show 0 ≤ et by omega)
        have H3 : Hid (dn ++ (Pl.cut L a f).flatten ++ ex ++ Pl.app L t (l.drop (k + 1)) = Pl.app L 0 l) := Lib.hid (by rw [← H1.out, app_step]; simp [List.append_assoc])
        have hap3 : (dn ++ (Pl.cut L a f).flatten ++ ex).length ≤ 1000000000000 := by
          have := congrArg List.length H3.out
          rw [List.length_append] at this; omega
        simp only [List.length_append] at hap3
        have hxz : (bs ex).size ≤ 4000000 := by rw [bs_size]; exact q2
        have hz1 : (bs dn).size ≤ 1000000000000 := by rw [bs_size]; omega
        have hz2 : (bs (Pl.cut L a f).flatten).size ≤ 1000000000000 := by rw [bs_size]; omega
        have HNx := Lib.hid H2.out.tail
        have JC := Lib.hid (fun w g => join_any X cx L a f w (by omega) (by omega) (by omega) (by omega) g)
        simp only [Int.toNat_natCast] at JC
        have hXr := hX2.later hbw
        clear H1 H2
        go_wp2
        go_quiet ((go_at_call 51; exact Calls.quiet_of_same (qs (JC.out _ hXr))))
        go_wp2
        go_outline
        go_roundw
        case rel => exact ⟨k + 1, t, dn ++ (Pl.cut L a f).flatten ++ ex, t, by omega, by go_num, rfl, by rw [bs_append, bs_append], below_drewN hbw _, H3, HNx, by omega, by omega⟩
        case measure => simp [intOf]; omega
      · have hkl : k = l.length := by omega
        have H3 : Hid (dn ++ (Pl.cut L a L.length).flatten = Pl.app L 0 l) := Lib.hid (by rw [← H1.out, hkl, Pl.cut_all L (Nat.le_refl _)]; simp [Pl.app])
        have hap3 : (dn ++ (Pl.cut L a L.length).flatten).length ≤ 1000000000000 := by rw [H3.out]; exact hap'
        simp only [List.length_append] at hap3
        have hz1 : (bs dn).size ≤ 1000000000000 := by rw [bs_size]; omega
        have hz2 : (bs (Pl.cut L a L.length).flatten).size ≤ 1000000000000 := by rw [bs_size]; omega
        have JC := Lib.hid (fun w g => join_any X cx L a L.length w (by omega) (by omega) (by omega) (by omega) g)
        simp only [Int.toNat_natCast] at JC
        have hXr := hX2.later hbw
        clear H1 H2 hkl
        go_wp2_with (go_at_call 51; refine (JC.out _ hXr).mono ?_; rintro e w' ⟨rfl, rfl⟩)
        go_ret2
        exact ⟨by rw [HR.out, ← H3.out, bs_append]; rfl, hbl hbw⟩

end Go.Proofs.Ytnijaleedbmljaa
