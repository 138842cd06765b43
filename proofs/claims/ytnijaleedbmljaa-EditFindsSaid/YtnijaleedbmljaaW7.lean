/- Walks: what edits make (the program's). -/
import Derived.Test.YtnijaleedbmljaaW6
set_option linter.unusedVariables false
set_option linter.unusedSimpArgs false
namespace Go.Proofs.Ytnijaleedbmljaa
open Go Go.RowKit

def applyRes (s : Pl.T) (l : List Pl.Ed) : Value :=
  if fitS s l = true then .tuple #[.string (bs (Pl.app (Pl.lines s) 0 l)), .int .i64 0] else .tuple #[.string (bs []), .int .i64 180]

/-- A piece of a list of strings, as the walk cuts it. -/
theorem Rd.st_cut {w : World} {A : Option Addr} {L : List Pl.T} (h : Rd w 1 A L.length (strs L)) {a b : Nat} (hab : a < b) (hb : b ≤ L.length) :
    ∃ bk o, A = some ⟨bk, o, none⟩ ∧ bk < w.heap.size ∧ ∀ j x, (Pl.cut L a b)[j]? = some x → w.cell? ⟨bk, o + a + j, none⟩ = some (.string (bs x)) := by
  obtain ⟨bk, o, e, hlt, hc⟩ := h.2 (by omega)
  refine ⟨bk, o, e, hlt, fun j x hx => ?_⟩
  have hj : (Pl.cut L a b)[j]? = L[a + j]? := by
    have hjl : j < b - a := by
      have := (List.getElem?_eq_some_iff.1 hx).1
      rw [Pl.cut_length (by omega) hb] at this; exact this
    unfold Pl.cut
    rw [List.getElem?_take, if_pos hjl, List.getElem?_drop]
  rw [hj] at hx
  rw [Nat.add_assoc]
  exact hc _ _ (strs_at hx)

theorem bytes_append (x y : List UInt8) : Lib.byteCells x ++ Lib.strCells (bs y) = Lib.byteCells (x ++ y) := by
  rw [Lib.strCells_eq, bs_data, Lib.byteCells_append]

theorem app_step {L : List Pl.T} {a : Nat} {e : Pl.Ed} {r : List Pl.Ed} : Pl.app L a (e :: r) = (Pl.cut L a e.f.toNat).flatten ++ e.x ++ Pl.app L e.t.toNat r := rfl

set_option maxRecDepth 100000 in
set_option maxHeartbeats 4000000 in
theorem Apply_yes (s : ByteArray) (A : Option Addr) (c : Nat) (l : List Pl.Ed) (w : World) (hs : s.size ≤ 4000000) (h : Rd w 3 A l.length (edcs l)) (hsm : Sm l) (hfit : fitS s.data.toList l = true) (hap : (Pl.app (Pl.lines s.data.toList) 0 l).length ≤ 1000000000000) :
    Calls Try.prog 25 #[.string s, .slice A l.length c] w fun e w' => e = .returned (.tuple #[.string (bs (Pl.app (Pl.lines s.data.toList) 0 l)), .int .i64 0]) ∧ Below w.heap.size w w' := by
  have hln : (Pl.lines s.data.toList).length ≤ 4000000 := by have := Pl.lines_le s.data.toList; rw [← Lib.size_eq] at this; omega
  have hlen := hsm.len
  have fc := fun w h => fit_any s (Pl.lines s.data.toList).length A c l w (by omega) (by omega) h (by omega) hsm.smalls
  rw [show fitB (Pl.lines s.data.toList).length (endB s.data.toList) (-1) l = fitS s.data.toList l from rfl, hfit] at fc
  have FC := Lib.hid fc; clear fc
  have LC := Lib.hid (fun w => Lines_got s w (by omega))
  have HFIT := Lib.hid ((fitS_iff _ _).1 hfit); clear hfit
  have hLs : ∀ x ∈ Pl.lines s.data.toList, x.length ≤ 4000000 := fun x hx => by
    have := Pl.mem_le hx
    rw [← Lib.size_eq] at this; omega
  generalize Pl.lines s.data.toList = L at *
  go_enter Try.func25, Try.ntmps25
  go_wp2_with (first | (go_at_call 32; refine (LC.out _).mono ?_; rintro e w1 ⟨X, cx, rfl, hcx, hX, hb1⟩) | (go_at_call 48; refine (FC.out _ (h.later hb1)).mono ?_; rintro e w2 ⟨rfl, hb2⟩))
  have hb12 := hb1.trans (hb2.mono hb1.size)
  have hX2 := hX.later hb2
  have hB0 : IsBd w2.heap.size w2.heap.size [] (w2.alloc (.cells #[.pointer none, .slice none 0 0] 88)) := Lib.fresh_isBuilder _ _ w2
  have hbl : ∀ {wx : World}, Below w2.heap.size w2 wx → Below w.heap.size w wx := fun h => hb12.trans (h.mono hb12.size)
  go_loopw [8, 25] (fun at_ i wr => ∃ (k a : Nat) (dn : Pl.T) (la : Int), k ≤ l.length ∧ i = .int .i64 k ∧ at_ = .int .i64 a ∧ IsBd w2.heap.size w2.heap.size (Lib.byteCells dn) wr ∧ Below w2.heap.size w2 wr ∧ w2.heap.size < wr.heap.size ∧ Hid (dn ++ Pl.app L a (l.drop k) = Pl.app L 0 l) ∧ Hid (Pl.Fits L.length (endB s.data.toList = true) la (l.drop k)) ∧ (a : Int) ≤ la + 1 ∧ a ≤ L.length) (fun _ i _ => l.length - (intOf i).toNat)
  case atStart => exact ⟨0, 0, [], -1, Nat.zero_le _, rfl, rfl, hB0, (Below.refl _ _).alloc (Nat.le_refl _) _, by simp, Lib.hid (by simp), HFIT, by omega, by omega⟩
  case round =>
    obtain ⟨k, a, dn, la, hk, rfl, rfl, hBd, hbw, hsz, H1, H2, hla, hal⟩ := hrel
    by_cases hlt : k < l.length
    · obtain ⟨b1, o1, rfl, hbk1, c1, c2, c3⟩ := ((h.later hb12).later hbw).ed (k := k) (List.getElem?_eq_getElem hlt)
      have hd := List.drop_eq_getElem_cons hlt
      have q2 := hsm.txt l[k] (List.getElem_mem hlt)
      generalize l[k] = e at c1 c2 c3 hd q2
      rw [hd] at H1 H2
      clear hd
      obtain ⟨ef, et, ex⟩ := e
      simp only at c1 c2 c3 q2
      obtain ⟨f1, f2, f3, f4, _⟩ := id H2.out
      simp only at f1 f2 f3 f4
      obtain ⟨f, rfl⟩ := Int.eq_ofNat_of_zero_le f2
      obtain ⟨t, rfl⟩ := Int.eq_ofNat_of_zero_le (show 0 ≤ et by omega)
      have haf : a ≤ f := by omega
      have hfl : f ≤ L.length := by omega
      have H3 : Hid (dn ++ (Pl.cut L a f).flatten ++ ex ++ Pl.app L t (l.drop (k + 1)) = Pl.app L 0 l) := Lib.hid (by rw [← H1.out, app_step]; simp [List.append_assoc])
      have hap3 : (dn ++ (Pl.cut L a f).flatten ++ ex).length ≤ 1000000000000 := by
        have := congrArg List.length H3.out
        rw [List.length_append] at this; omega
      have hxz : (bs ex).size ≤ 4000000 := by rw [bs_size]; exact q2
      have HNx := Lib.hid H2.out.tail
      clear H1 H2
      obtain ⟨wo, rfl⟩ : ∃ wo : World, wo = wr := ⟨_, rfl⟩
      have hbx0 : (wo.alloc (.cells #[.int .i64 f, .int .i64 t, .string (bs ex)] 41)).heap[wo.heap.size]? = some (.cells #[.int .i64 f, .int .i64 t, .string (bs ex)] 41 (0, 0)) := heap_alloc_new wo _
      have hxb : wo.heap.size ≠ w2.heap.size := by omega
      have hBd1 := hBd.alloc (.cells #[.int .i64 f, .int .i64 t, .string (bs ex)] 41)
      have hbw1 := hbw.alloc hbw.size (.cells #[.int .i64 f, .int .i64 t, .string (bs ex)] 41)
      by_cases hafl : a < f
      · obtain ⟨bk, ox, rfl, hbk, hcs⟩ := hX2.st_cut hafl hfl
        have hca : ¬ cx = a := by omega
        go_wp2
        go_loopw [35] (fun i wi => ∃ m : Nat, m ≤ f - a ∧ i = .int .i64 m ∧ IsBd w2.heap.size w2.heap.size (Lib.byteCells (dn ++ (Pl.cut L a (a + m)).flatten)) wi ∧ Below w2.heap.size w2 wi ∧ w2.heap.size < wi.heap.size ∧ Hid (wi.heap[wo.heap.size]? = some (.cells #[.int .i64 f, .int .i64 t, .string (bs ex)] 41 (0, 0)))) (fun i _ => (f - a) - (intOf i).toNat)
        case atStart => exact ⟨0, Nat.zero_le _, rfl, by rw [Nat.add_zero, Pl.cut_self]; simpa using hBd1, hbw1, by simp; omega, Lib.hid hbx0⟩
        case round =>
          obtain ⟨m, hm, rfl, hBd2, hbw2, hsz2, HBX⟩ := hrel
          have hpre : (dn ++ (Pl.cut L a (a + m)).flatten).length ≤ 1000000000000 := by
            have e : (Pl.cut L a (a + m)).flatten ++ (Pl.cut L (a + m) f).flatten = (Pl.cut L a f).flatten := by rw [← List.flatten_append, Pl.cut_cut (by omega) (by omega)]
            have := congrArg List.length e
            simp only [List.length_append] at this hap3 ⊢; omega
          by_cases hml : m < f - a
          · have hkl : a + m < L.length := by omega
            have hcm : (Pl.cut L a f)[m]? = some L[a + m] := by
              unfold Pl.cut
              rw [List.getElem?_take, if_pos hml, List.getElem?_drop, List.getElem?_eq_getElem hkl]
            have cc := (hbw2.cell (p := ⟨bk, ox + a + m, none⟩) hbk).trans (hcs _ _ hcm)
            have hly : (bs L[a + m]).size ≤ 4000000 := by
              have := hLs L[a + m] (List.getElem_mem hkl); rw [bs_size]; omega
            have HS := Lib.hid (cut_snoc (Nat.le_add_right a m) (List.getElem?_eq_getElem hkl))
            have WS := Lib.hid (WriteString_any w2.heap.size w2.heap.size _ (bs L[a + m]) _ hBd2 (by rw [Lib.byteCells_length]; omega) (by omega))
            rw [bytes_append] at WS
            generalize L[a + m] = y at *
            go_wp2_with (go_at_call 49; refine WS.out.mono ?_; rintro e w3 ⟨rfl, hBd3, hbw3, hoth3⟩)
            go_roundw
            case rel => exact ⟨m + 1, by omega, by go_num, by rw [← Nat.add_assoc, HS.out, ← List.append_assoc]; exact hBd3, hbw2.trans hbw3, by have := hbw3.size; omega, Lib.hid (hoth3 _ _ _ _ HBX.out hxb (by decide))⟩
            case measure => simp [intOf]; omega
          · have hme : m = f - a := by omega
            have hBd2' : IsBd w2.heap.size w2.heap.size (Lib.byteCells (dn ++ (Pl.cut L a f).flatten)) wr := by
              rw [hme, show a + (f - a) = f by omega] at hBd2; exact hBd2
            have d0 := Lib.cell_of_heap HBX.out 0
            have d1 := Lib.cell_of_heap HBX.out 1
            have d2 := Lib.cell_of_heap HBX.out 2
            simp only [List.getElem?_toArray, List.getElem?_cons_zero, List.getElem?_cons_succ] at d0 d1 d2
            have WS := Lib.hid (WriteString_any w2.heap.size w2.heap.size _ (bs ex) _ hBd2' (by rw [Lib.byteCells_length]; simp only [List.length_append] at hap3 ⊢; omega) (by omega))
            rw [bytes_append] at WS
            have HME := Lib.hid hme; clear hme hBd2 hBd2'
            go_wp2_with (go_at_call 49; refine WS.out.mono ?_; rintro e w3 ⟨rfl, hBd3, hbw3, hoth3⟩; have d4 := Lib.cell_of_heap (hoth3 _ _ _ _ HBX.out hxb (by decide)) 1; simp only [List.getElem?_toArray, List.getElem?_cons_zero, List.getElem?_cons_succ] at d4)
            go_roundw
            case rel => exact ⟨k + 1, t, dn ++ (Pl.cut L a f).flatten ++ ex, t, by omega, by go_num, rfl, hBd3, hbw2.trans hbw3, by have := hbw3.size; omega, H3, HNx, by omega, by omega⟩
            case measure => simp [intOf]; omega
      · have hafe : a = f := by omega
        subst hafe
        have WS := Lib.hid (WriteString_any w2.heap.size w2.heap.size _ (bs ex) _ hBd1 (by rw [Lib.byteCells_length]; simp only [List.length_append] at hap3 ⊢; omega) (by simp; omega))
        rw [bytes_append] at WS
        have hce : (Pl.cut L a a).flatten = [] := by rw [Pl.cut_self]; rfl
        have HCE := Lib.hid hce; clear hce
        obtain ⟨X', hX'⟩ : ∃ X' : Option Addr, (if cx = a then X else Option.map (fun x => x.add a) X) = X' := ⟨_, rfl⟩
        go_wp2
        refine wp_loop_rounds 1 ?_
        rw [rounds_succ]
        go_wp2_with (go_at_call 49; refine WS.out.mono ?_; rintro e w3 ⟨rfl, hBd3, hbw3, hoth3⟩; have d4 := Lib.cell_of_heap (hoth3 _ _ _ _ hbx0 hxb (by decide)) 1; simp only [List.getElem?_toArray, List.getElem?_cons_zero, List.getElem?_cons_succ] at d4)
        go_roundw
        case rel => exact ⟨k + 1, t, dn ++ (Pl.cut L a a).flatten ++ ex, t, by omega, by go_num, rfl, by rw [HCE.out, List.append_nil]; exact hBd3, hbw1.trans hbw3, by have := hbw3.size; simp at this; omega, H3, HNx, by omega, by omega⟩
        case measure => simp [intOf]; omega
    · have hkl : k = l.length := by omega
      have H3 : Hid (dn ++ (L.drop a).flatten = Pl.app L 0 l) := Lib.hid (by rw [← H1.out, hkl]; simp [Pl.app])
      have hap3 : (dn ++ (L.drop a).flatten).length ≤ 1000000000000 := by rw [H3.out]; exact hap
      clear H1 H2 hkl
      obtain ⟨wo, rfl⟩ : ∃ wo : World, wo = wr := ⟨_, rfl⟩
      by_cases hafl : a < L.length
      · obtain ⟨bk, ox, rfl, hbk, hcs⟩ := hX2.st_cut hafl (Nat.le_refl _)
        have hca : ¬ cx = a := by omega
        go_wp2
        go_loopw [52] (fun i wi => ∃ m : Nat, m ≤ L.length - a ∧ i = .int .i64 m ∧ IsBd w2.heap.size w2.heap.size (Lib.byteCells (dn ++ (Pl.cut L a (a + m)).flatten)) wi ∧ Below w2.heap.size w2 wi ∧ w2.heap.size < wi.heap.size) (fun i _ => (L.length - a) - (intOf i).toNat)
        case atStart => exact ⟨0, Nat.zero_le _, rfl, by rw [Nat.add_zero, Pl.cut_self]; simpa using hBd, hbw, hsz⟩
        case round =>
          obtain ⟨m, hm, rfl, hBd2, hbw2, hsz2⟩ := hrel
          have hpre : (dn ++ (Pl.cut L a (a + m)).flatten).length ≤ 1000000000000 := by
            have e : (Pl.cut L a (a + m)).flatten ++ (L.drop (a + m)).flatten = (L.drop a).flatten := by rw [← List.flatten_append, Pl.cut_drop (by omega)]
            have := congrArg List.length e
            simp only [List.length_append] at this hap3 ⊢; omega
          by_cases hml : m < L.length - a
          · have hkl : a + m < L.length := by omega
            have hcm : (Pl.cut L a L.length)[m]? = some L[a + m] := by
              unfold Pl.cut
              rw [List.getElem?_take, if_pos hml, List.getElem?_drop, List.getElem?_eq_getElem hkl]
            have cc := (hbw2.cell (p := ⟨bk, ox + a + m, none⟩) hbk).trans (hcs _ _ hcm)
            have hly : (bs L[a + m]).size ≤ 4000000 := by
              have := hLs L[a + m] (List.getElem_mem hkl); rw [bs_size]; omega
            have HS := Lib.hid (cut_snoc (Nat.le_add_right a m) (List.getElem?_eq_getElem hkl))
            have WS := Lib.hid (WriteString_any w2.heap.size w2.heap.size _ (bs L[a + m]) _ hBd2 (by rw [Lib.byteCells_length]; omega) (by omega))
            rw [bytes_append] at WS
            generalize L[a + m] = y at *
            go_wp2_with (go_at_call 49; refine WS.out.mono ?_; rintro e w3 ⟨rfl, hBd3, hbw3, hoth3⟩)
            go_roundw
            case rel => exact ⟨m + 1, by omega, by go_num, by rw [← Nat.add_assoc, HS.out, ← List.append_assoc]; exact hBd3, hbw2.trans hbw3, by have := hbw3.size; omega⟩
            case measure => simp [intOf]; omega
          · have hme : m = L.length - a := by omega
            have hBd2' : IsBd w2.heap.size w2.heap.size (Lib.byteCells (Pl.app L 0 l)) wr := by
              rw [hme, show a + (L.length - a) = L.length by omega, Pl.cut_all L (Nat.le_refl _), H3.out] at hBd2; exact hBd2
            have SS := Lib.hid (Try.Builder_String_any w2.heap.size w2.heap.size _ _ hBd2' (by omega))
            have HME := Lib.hid hme; clear hme hBd2 hBd2'
            go_wp2_with (go_at_call 50; refine SS.out.mono ?_; rintro e w3 ⟨rfl, hbw3⟩)
            go_ret2
            exact ⟨rfl, hbl (hbw2.trans hbw3)⟩
      · have hae : a = L.length := by omega
        have hBd2' : IsBd w2.heap.size w2.heap.size (Lib.byteCells (Pl.app L 0 l)) wo := by
          rw [← H3.out, hae]; simpa using hBd
        have SS := Lib.hid (Try.Builder_String_any w2.heap.size w2.heap.size _ _ hBd2' (by omega))
        have HAE := Lib.hid hae; clear hae hBd2'
        have haL : a ≤ L.length ∧ L.length ≤ a := by omega
        obtain ⟨X', hX'⟩ : ∃ X' : Option Addr, (if cx = a then X else Option.map (fun x => x.add a) X) = X' := ⟨_, rfl⟩
        go_wp2
        refine wp_loop_rounds 1 ?_
        rw [rounds_succ]
        go_wp2_with (go_at_call 50; refine SS.out.mono ?_; rintro e w3 ⟨rfl, hbw3⟩)
        go_ret2
        exact ⟨rfl, hbl (hbw.trans hbw3)⟩

set_option maxRecDepth 100000 in
set_option maxHeartbeats 1000000 in
theorem Apply_any (s : ByteArray) (A : Option Addr) (c : Nat) (l : List Pl.Ed) (w : World) (hs : s.size ≤ 4000000) (h : Rd w 3 A l.length (edcs l)) (hsm : Sm l) (hap : fitS s.data.toList l = true → (Pl.app (Pl.lines s.data.toList) 0 l).length ≤ 1000000000000) :
    Calls Try.prog 25 #[.string s, .slice A l.length c] w fun e w' => e = .returned (applyRes s.data.toList l) ∧ Below w.heap.size w w' := by
  cases hb : fitS s.data.toList l
  · have hln : (Pl.lines s.data.toList).length ≤ 4000000 := by have := Pl.lines_le s.data.toList; rw [← Lib.size_eq] at this; omega
    have hlen := hsm.len
    have fc := fun w h => fit_any s (Pl.lines s.data.toList).length A c l w (by omega) (by omega) h (by omega) hsm.smalls
    rw [show fitB (Pl.lines s.data.toList).length (endB s.data.toList) (-1) l = fitS s.data.toList l from rfl, hb] at fc
    have FC := Lib.hid fc; clear fc
    have LC := Lib.hid (fun w => Lines_got s w (by omega))
    have hr : applyRes s.data.toList l = .tuple #[.string ⟨#[]⟩, .int .i64 180] := by unfold applyRes; rw [hb]; rfl
    have HR := Lib.hid hr; clear hr hb hap
    go_enter Try.func25, Try.ntmps25
    go_wp2_with (first | (go_at_call 32; refine (LC.out _).mono ?_; rintro e w1 ⟨X, cx, rfl, hcx, hX, hb1⟩) | (go_at_call 48; refine (FC.out _ (h.later hb1)).mono ?_; rintro e w2 ⟨rfl, hb2⟩))
    go_ret2
    exact ⟨by rw [HR.out]; rfl, hb1.trans (hb2.mono hb1.size)⟩
  · have hr : applyRes s.data.toList l = .tuple #[.string (bs (Pl.app (Pl.lines s.data.toList) 0 l)), .int .i64 0] := by unfold applyRes; rw [if_pos hb]
    rw [hr]
    exact Apply_yes s A c l w hs h hsm hb (hap hb)

end Go.Proofs.Ytnijaleedbmljaa
