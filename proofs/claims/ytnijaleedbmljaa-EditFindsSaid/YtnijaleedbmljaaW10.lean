/- Walks: what takes edits back (the document's). -/
import Derived.Test.YtnijaleedbmljaaW9
import Derived.Deep.AppendLies
import Derived.RegionTactic
set_option linter.unusedVariables false
set_option linter.unusedSimpArgs false
namespace Go.Proofs.Ytnijaleedbmljaa
open Go Go.RowKit

set_option maxRecDepth 100000 in
set_option maxHeartbeats 4000000 in
theorem refBack_any (s : ByteArray) (A : Option Addr) (c : Nat) (l : List Pl.Ed) (w : World) (hs : s.size ≤ 4000000) (h : Rd w 3 A l.length (edcs l)) (hsm : Sm l) :
    Calls Try.prog 28 #[.string s, .slice A l.length c] w (BackPost s.data.toList l w) := by
  obtain ⟨hln, hsT, hfl⟩ := ref_setup hs
  obtain ⟨i0, hi, hz0, hz1, hz2⟩ := info_parts edInfo
  have hlen := hsm.len
  have fc := fun X cx w g h => refFit_any X A cx c (Pl.lines s.data.toList) l w (by omega) g h (by omega) hsT hsm.smalls
  rw [fitS_ref] at fc
  have LC := Lib.hid (fun w => refLines_got s w (by omega))
  cases hb : fitS s.data.toList l
  · rw [hb] at fc
    have FC := Lib.hid fc; clear fc
    have HR := Lib.hid (fun w' hbb => BackPost.no (w := w) (w' := w') hb hbb); clear hb
    go_enter Try.func28, Try.ntmps28
    go_wp2_with (first | (go_at_call 33; refine (LC.out _).mono ?_; rintro e w1 ⟨X, cx, rfl, hcx, hX, hb1⟩) | (go_at_call 46; refine (FC.out _ _ _ hX (h.later hb1)).mono ?_; rintro e w2 ⟨rfl, hb2⟩))
    go_ret2
    exact HR.out _ (hb1.trans (hb2.mono hb1.size))
  · rw [hb] at fc
    have FC := Lib.hid fc; clear fc
    have HFIT := Lib.hid ((fitS_iff _ _).1 hb)
    have HR : Hid (∀ (w' : World) B cb, Rd w' 3 B (Pl.backs (Pl.lines s.data.toList) 0 l).length (edcs (Pl.backs (Pl.lines s.data.toList) 0 l)) → Below w.heap.size w w' → BackPost s.data.toList l w (.returned (.tuple #[.slice B (Pl.backs (Pl.lines s.data.toList) 0 l).length cb, .int .i64 0])) w') := Lib.hid (fun w' B cb hr hbb => by
      unfold BackPost backOut backErr
      rw [if_pos hb, if_pos hb]
      exact ⟨B, cb, rfl, hr, hbb⟩)
    clear hb
    generalize Pl.lines s.data.toList = L at *
    generalize BackPost s.data.toList l w = PP at HR ⊢
    go_enter Try.func28, Try.ntmps28
    go_wp2_with (first | (go_at_call 33; refine (LC.out _).mono ?_; rintro e w1 ⟨X, cx, rfl, hcx, hX, hb1⟩) | (go_at_call 46; refine (FC.out _ _ _ hX (h.later hb1)).mono ?_; rintro e w2 ⟨rfl, hb2⟩))
    have hb12 := hb1.trans (hb2.mono hb1.size)
    have hX2 := hX.later hb2
    have hbl : ∀ {wx : World}, Below w2.heap.size w2 wx → Below w.heap.size w wx := fun h => hb12.trans (h.mono hb12.size)
    go_loopw [8, 9, 10] (fun v mo i wr => ∃ (k : Nat) (out : List Pl.Ed), k ≤ l.length ∧ i = .int .i64 k ∧ mo = .int .i64 (Pl.ins (l.take k) - Pl.outs (l.take k)) ∧ wr.ownsRow w2.heap.size 41 3 v out.length (edcs out) ∧ Below w2.heap.size w2 wr ∧ Hid (out ++ Pl.backs L (Pl.ins (l.take k) - Pl.outs (l.take k)) (l.drop k) = Pl.backs L 0 l)) (fun _ _ i _ => l.length - (intOf i).toNat)
    case atStart => exact ⟨0, [], Nat.zero_le _, rfl, rfl, World.ownsRow_nil _ _ _ _, Below.refl _ _, Lib.hid (by simp [Pl.ins, Pl.outs])⟩
    case round =>
      obtain ⟨k, out, hk, rfl, rfl, hown, hbw, H1⟩ := hrel
      have o1 := outs_small HFIT.out hln hlen k
      have o2 := ins_small hsm k
      by_cases hlt : k < l.length
      · have S1 := outs_succ (List.getElem?_eq_getElem hlt)
        have S2 := ins_succ (List.getElem?_eq_getElem hlt)
        obtain ⟨mo, hmo⟩ : ∃ m : Int, m = Pl.ins (l.take k) - Pl.outs (l.take k) := ⟨_, rfl⟩
        rw [← hmo] at H1 ⊢
        have hmb : -100000000000000 ≤ mo ∧ mo ≤ 100000000000000 := by omega
        have hol : out.length + 1 ≤ 4000000 := by
          have := congrArg List.length H1.out
          rw [List.length_append, backs_length, backs_length, List.length_drop] at this
          omega
        have HA := h.later hb12
        have hek := List.getElem?_eq_getElem hlt
        have hd := List.drop_eq_getElem_cons hlt
        have q1 := Fits_mem HFIT.out l[k] (List.getElem_mem hlt)
        have q2 := hsm.txt l[k] (List.getElem_mem hlt)
        have q3 := Pl.lines_le l[k].x
        generalize l[k] = e at hek hd q1 q2 q3 S1 S2
        rw [hd, backs_step] at H1
        clear hd
        obtain ⟨ef, et, ex⟩ := e
        simp only at hek q1 q2 q3 S1 S2 H1
        obtain ⟨f2, f3, f4⟩ := q1
        obtain ⟨f, rfl⟩ := Int.eq_ofNat_of_zero_le f2
        obtain ⟨t, rfl⟩ := Int.eq_ofNat_of_zero_le (show 0 ≤ et by omega)
        simp only [Int.toNat_natCast] at H1
        have hft : f ≤ t := by omega
        have htl : t ≤ L.length := by omega
        have CE := Lib.hid (show ∀ w, Calls Try.prog 33 #[.string (bs ex)] w fun e' w' => ∃ A c, e' = .returned (.slice A (Pl.lines ex).length c) ∧ Below w.heap.size w w' from fun w => by
          have := refLines_got (bs ex) w (by rw [bs_size]; omega)
          rw [bs_data] at this
          exact this.mono fun e w' ⟨A, c, h1, _, _, h2⟩ => ⟨A, c, h1, h2⟩)
        obtain ⟨n, hn⟩ : ∃ n : Nat, n = (Pl.lines ex).length := ⟨_, rfl⟩
        rw [← hn] at CE S2 H1 q3
        have HM : Hid (mo + ((n : Int) - ((t : Int) - f)) = Pl.ins (l.take (k + 1)) - Pl.outs (l.take (k + 1))) := Lib.hid (by rw [S1, S2]; omega)
        clear S1 S2 hmo hn o1 o2
        have JC := Lib.hid (fun w g => join_any X cx L f t w (by omega) (by omega) (by omega) (by omega) g)
        simp only [Int.toNat_natCast] at JC
        obtain ⟨y, hy⟩ : ∃ y : Pl.T, y = (Pl.cut L f t).flatten := ⟨_, rfl⟩
        rw [← hy] at JC H1
        clear hy
        have hnew : ∀ x : Pl.Ed, x = ⟨f + mo, f + mo + n, y⟩ → edcs out ++ [.int .i64 (f + mo), .int .i64 (f + mo + n), .string (bs y)] = edcs (out ++ [x]) := fun x hx => by rw [hx]; exact edcs_snoc out ⟨f + mo, f + mo + n, y⟩
        have HN := Lib.hid (hnew _ rfl); clear hnew
        have HEK := Lib.hid hek; clear hek
        obtain ⟨b1, o1', rfl, hbk1, e1, e2, e3⟩ := HA.ed HEK.out
        simp only at e1 e2 e3
        have c1 := (hbw.cell hbk1).trans e1
        have c2 := (hbw.cell hbk1).trans e2
        have c3 := (hbw.cell hbk1).trans e3
        go_wp2_with (go_at_call 33; refine (CE.out _).mono ?_; rintro e w3 ⟨A3, k3, rfl, hb3⟩; have d1 := (hb3.cell (Nat.lt_of_lt_of_le hbk1 hbw.size)).trans c1; have d2 := (hb3.cell (Nat.lt_of_lt_of_le hbk1 hbw.size)).trans c2)
        have hw1 : IntKind.i64.wrap ((f : Int) + mo + n) = f + mo + n := IntWalk.i64_in _ (by omega)
        have hown3 := own_later hown hb3
        have hbw3 := hbw.trans (hb3.mono hbw.size)
        have hX3 := (hX2.later hbw).later hb3
        have JQ := Lib.hid (JC.out w3.drew (hX3.later (below_drewN (Below.refl _ w3) 1)))
        go_region_law (first
          | (refine step_append_lies _ (by rfl) _ _ _ (by rfl) w2.heap.size 41 i0 _ 3 32 Try.underlying22 hi hz0 hz1 hz2 rfl (by decide) _ _ _ (by rfl) ((hown3.alloc _).drew) ⟨w3.heap.size, 0, none⟩ 1 1 [.int .i64 (f + mo), .int .i64 (f + mo + n), .string (bs y)] (by rfl) (by rfl) (World.news_of_block (cs := #[.int .i64 (f + mo), .int .i64 (f + mo + n), .string (bs y)]) (t := 41) (fr := (0, 0)) (heap_alloc_new w3 _)) (by simp [Value.oneCell']) (by omega) (by unfold maxLen; omega) (by omega) (by have := hbw3.size; simp; omega) (w3.heap.size + 1) (by simp) ?_; intro gg cap w4 hown4 hgrow hat hlt)
          | (go_simp; go_at_call 51; refine JQ.out.mono ?_; rintro e w' ⟨rfl, rfl⟩))
        all_goals
          have hbw4 := (hbw3.alloc hbw3.size (.cells #[.int .i64 (f + mo), .int .i64 (f + mo + n), .string (bs y)] 41)).drew.grown hgrow (by have := hbw3.size; simp; omega) (fun j hj => (hown.lt j hj).1)
          have g1 := (hbw4.cell hbk1).trans e1
          have g2 := (hbw4.cell hbk1).trans e2
          have hw2 : IntKind.i64.wrap (mo + n) = mo + n := IntWalk.i64_in _ (by omega)
          have hw3 : IntKind.i64.wrap (mo + n - t) = mo + n - t := IntWalk.i64_in _ (by omega)
          have hw4 : IntKind.i64.wrap (mo + n - t + f) = mo + n - t + f := IntWalk.i64_in _ (by omega)
          clear hw1 d1 d2 c1 c2 c3
          go_wp2
          go_quiet (fail)
          go_wp2

          go_roundw
          case rel => exact ⟨k + 1, _, by omega, by go_num, by rw [← HM.out]; congr 1; omega, by rw [List.length_append]; rw [HN.out] at hown4; exact own_later hown4 (below_drewN (Below.refl _ _) _), below_drewN hbw4 _, Lib.hid (by rw [← HM.out, List.append_assoc]; exact H1.out)⟩
          case measure => simp [intOf]; omega
      · have hkl : k = l.length := by omega
        have HE := Lib.hid (show out = Pl.backs L 0 l by rw [← H1.out, hkl]; simp [Pl.backs])
        clear H1 hkl o1 o2
        obtain ⟨B, cb, rfl, _, hRd⟩ := own_form hown
        go_wp2
        show PP (.returned (.tuple #[.slice B out.length cb, .int .i64 0])) wr
        rw [HE.out] at hRd ⊢
        exact HR.out _ _ _ hRd (hbl hbw)

end Go.Proofs.Ytnijaleedbmljaa
