/- The law SpansNames, walked: it returns true and leaves what was there. (Printed by wip/gennames.py.) -/
import Derived.Test.YtccpjjhaeocfhaaDoorSpansBack
set_option linter.unusedVariables false
set_option linter.unusedSimpArgs false
namespace Go.Proofs.YtccpjjhaeocfhaaDoor
open Go Go.RowKit

theorem RgIs.get1 {e : Sp.R} {w w' : World} {v : Value} (h : RgIs [e] w w' v) : ∃ A c, v = .slice A 1 c ∧ Rd w' 2 A 1 (rgcs [e]) ∧ Below w.heap.size w w' := h.get
theorem RgIs.get2 {e f : Sp.R} {w w' : World} {v : Value} (h : RgIs [e, f] w w' v) : ∃ A c, v = .slice A 2 c ∧ Rd w' 2 A 2 (rgcs [e, f]) ∧ Below w.heap.size w w' := h.get
theorem parse_bad (s : ByteArray) (w : World) (hs : s.size ≤ 1000000) (hne : s.data.toList ≠ []) (h : Sp.rightT s.data.toList = false) :
    Calls Tryd.prog 9 #[.string s] w (RgRes2 [] 190 w) := by
  have := Parse_any s w hs
  have h2 : ¬ Sp.rightT s.data.toList = true := by rw [h]; exact Bool.false_ne_true
  have e1 : Sp.parseL s.data.toList = [] := by unfold Sp.parseL; rw [if_neg hne, if_neg h2]
  have e2 : Sp.parseE s.data.toList = 190 := by unfold Sp.parseE; rw [if_neg hne, if_neg h2]
  rw [e1, e2] at this
  exact this
theorem parse_most (w : World) : Calls Tryd.prog 9 #[.string ⟨#[54, 53, 53, 51, 54]⟩] w (RgRes2 [(65535, 65536)] 0 w) := by
  have := Parse_any ⟨#[54, 53, 53, 51, 54]⟩ w (by show (5 : Nat) ≤ 1000000; omega)
  have e0 : (⟨#[54, 53, 53, 51, 54]⟩ : ByteArray).data.toList = [54, 53, 53, 51, 54] := rfl
  have h2 : Sp.rightT [54, 53, 53, 51, 54] = true := by kernel_rfl
  have hm : (Sp.spl 44 [54, 53, 53, 51, 54]).map Sp.pR = [(65535, 65536)] := by kernel_rfl
  have hok : Sp.ok [(65535, 65536)] = true := by kernel_rfl
  have e1 : Sp.parseL [54, 53, 53, 51, 54] = [(65535, 65536)] := by
    unfold Sp.parseL
    rw [if_neg (by simp), if_pos h2, hm]
    exact Sp.setOf_has hok
  have e2 : Sp.parseE [54, 53, 53, 51, 54] = 0 := by unfold Sp.parseE; rw [if_neg (by simp), if_pos h2]
  rw [e0, e1, e2] at this
  exact this
theorem not_names : notL [(1, 2)] 3 = [(0, 1), (2, 3)] ∧ notE [(1, 2)] 3 = 0 := by
  have h : notOk [(1, 2)] 3 := ⟨by kernel_rfl, by omega, by omega⟩
  refine ⟨?_, notE_yes h⟩
  refine set_ext (notL_ok h) (by kernel_rfl) (fun i => ?_)
  rw [notL_has h]
  simp only [Sp.has, List.any_cons, List.any_nil, Bool.or_false]
  rw [Bool.eq_iff_iff]
  simp only [Bool.and_eq_true, Bool.or_eq_true, Bool.not_eq_true', Bool.and_eq_false_iff, decide_eq_true_eq, decide_eq_false_iff_not]
  omega
theorem and_names : bothL true [(0, 3)] [(2, 5)] = [(2, 3)] ∧ bothE [(0, 3)] [(2, 5)] = 0 := by
  have h1 : Sp.ok [(0, 3)] = true := by kernel_rfl
  have h2 : Sp.ok [(2, 5)] = true := by kernel_rfl
  refine ⟨?_, bothE_yes ⟨h1, h2⟩⟩
  refine set_ext (both_ok h1 h2) (by kernel_rfl) (fun i => ?_)
  rw [both_has h1 h2]
  simp only [cmb, Sp.has, List.any_cons, List.any_nil, Bool.or_false, if_true]
  rw [Bool.eq_iff_iff]
  simp only [Bool.and_eq_true, Bool.or_eq_true, decide_eq_true_eq]
  omega
theorem or_names : bothL false [(0, 1), (1, 2)] [] = [] ∧ bothE [(0, 1), (1, 2)] [] = 2 := by
  have h : ¬ (Sp.ok [((0 : Int), (1 : Int)), (1, 2)] = true ∧ Sp.ok [] = true) := by
    have : Sp.ok [((0 : Int), (1 : Int)), (1, 2)] = false := by kernel_rfl
    rw [this]; simp
  exact ⟨bothL_no h, bothE_no h⟩
theorem of_bad : ofL [-1] = [] ∧ ofE [-1] = 2 := by
  have h : lineOk [-1] = false := by kernel_rfl
  unfold ofL ofE; rw [h]; exact ⟨rfl, rfl⟩
theorem of_names : ofL [3, 1, 2, 2] = [(1, 4)] ∧ ofE [3, 1, 2, 2] = 0 := by
  have h : lineOk [3, 1, 2, 2] = true := by kernel_rfl
  unfold ofL ofE; rw [if_pos h, if_pos h]
  refine ⟨setOf_is (by kernel_rfl) (fun i => ?_), rfl⟩
  simp only [named, Sp.has, List.any_cons, List.any_nil, Bool.or_false]
  rw [Bool.eq_iff_iff]
  simp only [Bool.and_eq_true, Bool.or_eq_true, decide_eq_true_eq, beq_iff_eq]
  omega
theorem rd_cells (w : World) (cs : Array Value) (T : TypeId) (sz n : Nat) (h : cs.toList.length = n * sz) : Rd (w.alloc (.cells cs T)) sz (some ⟨w.heap.size, 0, none⟩) n cs.toList :=
  ⟨h, fun _ => ⟨_, _, rfl, by simp, fun j u hu => by
    rw [Nat.zero_add, Lib.cell_of_heap (heap_alloc_new w _) j]
    rw [← hu]; simp⟩⟩
theorem rd_r2 (w : World) : Rd (w.alloc (.cells #[.int .i64 0, .int .i64 1, .int .i64 1, .int .i64 2] 38)) 2 (some ⟨w.heap.size, 0, none⟩) 2 (rgcs [(0, 1), (1, 2)]) := rd_cells w _ _ 2 2 rfl
theorem rd_i1 (w : World) : Rd (w.alloc (.cells #[.int .i64 (-1)] 3)) 1 (some ⟨w.heap.size, 0, none⟩) 1 (ins [-1]) := rd_cells w _ _ 1 1 rfl
theorem rd_i4 (w : World) : Rd (w.alloc (.cells #[.int .i64 3, .int .i64 1, .int .i64 2, .int .i64 2] 3)) 1 (some ⟨w.heap.size, 0, none⟩) 4 (ins [3, 1, 2, 2]) := rd_cells w _ _ 1 4 rfl
theorem rd_two (w : World) (o : Obj) (f t : Int) : Rd ((w.alloc o).alloc (.cells #[.int .i64 f, .int .i64 t] 38)) 2 (some ⟨w.heap.size + 1, 0, none⟩) 1 (rgcs [(f, t)]) := by
  have h := rd_new (w.alloc o) f t
  have e : (w.alloc o).heap.size = w.heap.size + 1 := by simp
  rw [e] at h
  exact h
theorem rd_one (w : World) (o : Obj) (f t : Int) : Rd ((w.alloc (.cells #[.int .i64 f, .int .i64 t] 38)).alloc o) 2 (some ⟨w.heap.size, 0, none⟩) 1 (rgcs [(f, t)]) := (rd_new w f t).later ((Below.refl _ _).alloc (Nat.le_refl _) _)
theorem below_k {w w' : World} {o : Obj} (h : Below (w.alloc o).heap.size (w.alloc o) w') : Below w.heap.size w w' := ((Below.refl _ w).alloc (Nat.le_refl _) o).trans (h.mono (by simp))

set_option maxRecDepth 100000 in
set_option maxHeartbeats 8000000 in
theorem SpansNames_any (w : World) :
    Calls Tryd.prog 8 #[] w fun e w' => e = .returned (.bool true) ∧ Below w.heap.size w w' := by
  have AL := Lib.hid (fun w1 => alive_any w1)
  have K1 : Hid (∀ w1, Calls Tryd.prog 9 #[.string ⟨#[48]⟩] w1 (RgRes2 [] 190 w1)) := Lib.hid (fun w1 => parse_bad _ w1 (by show (1 : Nat) ≤ 1000000; omega) (by simp) (by kernel_rfl))
  have K2 : Hid (∀ w1, Calls Tryd.prog 9 #[.string ⟨#[51, 45, 50]⟩] w1 (RgRes2 [] 190 w1)) := Lib.hid (fun w1 => parse_bad _ w1 (by show (3 : Nat) ≤ 1000000; omega) (by simp) (by kernel_rfl))
  have K3 : Hid (∀ w1, Calls Tryd.prog 9 #[.string ⟨#[49, 44]⟩] w1 (RgRes2 [] 190 w1)) := Lib.hid (fun w1 => parse_bad _ w1 (by show (2 : Nat) ≤ 1000000; omega) (by simp) (by kernel_rfl))
  have K4 : Hid (∀ w1, Calls Tryd.prog 9 #[.string ⟨#[48, 49]⟩] w1 (RgRes2 [] 190 w1)) := Lib.hid (fun w1 => parse_bad _ w1 (by show (2 : Nat) ≤ 1000000; omega) (by simp) (by kernel_rfl))
  have K5 : Hid (∀ w1, Calls Tryd.prog 9 #[.string ⟨#[54, 53, 53, 51, 55]⟩] w1 (RgRes2 [] 190 w1)) := Lib.hid (fun w1 => parse_bad _ w1 (by show (5 : Nat) ≤ 1000000; omega) (by simp) (by kernel_rfl))
  have K6 : Hid (∀ w1, Calls Tryd.prog 9 #[.string ⟨#[54, 53, 53, 51, 54]⟩] w1 (RgRes2 [(65535, 65536)] 0 w1)) := Lib.hid (parse_most)
  have K7 : Hid (∀ w1 A c, Rd w1 2 A 1 (rgcs [(1, 2)]) → Calls Tryd.prog 19 #[.slice A 1 c, .int .i64 3] w1 (RgRes2 [(0, 1), (2, 3)] 0 w1)) := Lib.hid (fun w1 A c h => by have := Not_any A c [(1, 2)] 3 w1 h (by simp); rw [not_names.1, not_names.2] at this; exact this)
  have K8 : Hid (∀ w1 A c B d, Rd w1 2 A 1 (rgcs [(0, 3)]) → Rd w1 2 B 1 (rgcs [(2, 5)]) → Calls Tryd.prog 18 #[.slice A 1 c, .slice B 1 d] w1 (RgRes2 [(2, 3)] 0 w1)) := Lib.hid (fun w1 A c B d h g => by have := And_any A B c d [(0, 3)] [(2, 5)] w1 h g (by simp) (by simp); rw [and_names.1, and_names.2] at this; exact this)
  have K9 : Hid (∀ w1 A c, Rd w1 2 A 1 (rgcs [(1, 1)]) → Calls Tryd.prog 11 #[.slice A 1 c] w1 fun e w' => e = .returned (.tuple #[.string (bs []), .int .i64 2]) ∧ Below w1.heap.size w1 w') := Lib.hid (fun w1 A c h => Text_no (l := [(1, 1)]) h (by simp) (by rw [show Sp.ok [((1 : Int), (1 : Int))] = false by kernel_rfl]; exact Bool.false_ne_true))
  have K10 : Hid (∀ w1 A c, Rd w1 2 A 2 (rgcs [(0, 1), (1, 2)]) → Calls Tryd.prog 17 #[.slice A 2 c, .slice none 0 0] w1 (RgRes2 [] 2 w1)) := Lib.hid (fun w1 A c h => by have := Or_any A none c 0 [(0, 1), (1, 2)] [] w1 h (rd0 _) (by simp) (by simp); rw [or_names.1, or_names.2] at this; exact this)
  have K11 : Hid (∀ w1 A c, Rd w1 1 A 1 (ins [-1]) → Calls Tryd.prog 15 #[.slice A 1 c] w1 (RgRes2 [] 2 w1)) := Lib.hid (fun w1 A c h => by have := Of_any A c [-1] w1 h (by simp); rw [of_bad.1, of_bad.2] at this; exact this)
  have K12 : Hid (∀ w1 A c, Rd w1 1 A 4 (ins [3, 1, 2, 2]) → Calls Tryd.prog 15 #[.slice A 4 c] w1 (RgRes2 [(1, 4)] 0 w1)) := Lib.hid (fun w1 A c h => by have := Of_any A c [3, 1, 2, 2] w1 h (by simp); rw [of_names.1, of_names.2] at this; exact this)
  have K13 : Hid (∀ w1 A c, Rd w1 2 A 1 (rgcs [(2, 3)]) → Calls Tryd.prog 20 #[.slice A 1 c, .int .i64 0, .int .i64 2] w1 fun e w' => e = .returned (.bool false) ∧ Below w1.heap.size w1 w') := Lib.hid (fun w1 A c h => by have := Meets_any A c [(2, 3)] 0 2 w1 h (by simp) (by omega) (by omega); rw [show meetsB [((2 : Int), (3 : Int))] 0 2 = false by kernel_rfl] at this; exact this)
  have K14 : Hid (∀ w1 A c, Rd w1 2 A 1 (rgcs [(2, 3)]) → Calls Tryd.prog 20 #[.slice A 1 c, .int .i64 3, .int .i64 3] w1 fun e w' => e = .returned (.bool true) ∧ Below w1.heap.size w1 w') := Lib.hid (fun w1 A c h => by have := Meets_any A c [(2, 3)] 3 3 w1 h (by simp) (by omega) (by omega); rw [show meetsB [((2 : Int), (3 : Int))] 3 3 = true by kernel_rfl] at this; exact this)
  have K15 : Hid (∀ w1 A c, Rd w1 2 A 1 (rgcs [(2, 3)]) → Calls Tryd.prog 20 #[.slice A 1 c, .int .i64 2, .int .i64 2] w1 fun e w' => e = .returned (.bool true) ∧ Below w1.heap.size w1 w') := Lib.hid (fun w1 A c h => by have := Meets_any A c [(2, 3)] 2 2 w1 h (by simp) (by omega) (by omega); rw [show meetsB [((2 : Int), (3 : Int))] 2 2 = true by kernel_rfl] at this; exact this)
  have K16 : Hid (∀ w1 A c, Rd w1 2 A 1 (rgcs [(2, 3)]) → Calls Tryd.prog 20 #[.slice A 1 c, .int .i64 1, .int .i64 1] w1 fun e w' => e = .returned (.bool false) ∧ Below w1.heap.size w1 w') := Lib.hid (fun w1 A c h => by have := Meets_any A c [(2, 3)] 1 1 w1 h (by simp) (by omega) (by omega); rw [show meetsB [((2 : Int), (3 : Int))] 1 1 = false by kernel_rfl] at this; exact this)
  have K17 : Hid (∀ w1 A c, Rd w1 2 A 1 (rgcs [(2, 3)]) → Calls Tryd.prog 20 #[.slice A 1 c, .int .i64 0, .int .i64 9] w1 fun e w' => e = .returned (.bool true) ∧ Below w1.heap.size w1 w') := Lib.hid (fun w1 A c h => by have := Meets_any A c [(2, 3)] 0 9 w1 h (by simp) (by omega) (by omega); rw [show meetsB [((2 : Int), (3 : Int))] 0 9 = true by kernel_rfl] at this; exact this)
  have K18 : Hid (∀ w1 A c, Rd w1 2 A 1 (rgcs [((2 : Int), (3 : Int))]) → Calls Tryd.prog 16 #[.slice A 1 c, .int .i64 2] w1 fun e w' => e = .returned (.bool true) ∧ Below w1.heap.size w1 w') := Lib.hid (fun w1 A c h => by have := Has_any A c [((2 : Int), (3 : Int))] 2 w1 h (by simp); rw [show hasB [((2 : Int), (3 : Int))] 2 = true by kernel_rfl] at this; exact this)
  have K19 : Hid (∀ w1 A c, Rd w1 2 A 1 (rgcs [((2 : Int), (3 : Int))]) → Calls Tryd.prog 16 #[.slice A 1 c, .int .i64 3] w1 fun e w' => e = .returned (.bool false) ∧ Below w1.heap.size w1 w') := Lib.hid (fun w1 A c h => by have := Has_any A c [((2 : Int), (3 : Int))] 3 w1 h (by simp); rw [show hasB [((2 : Int), (3 : Int))] 3 = false by kernel_rfl] at this; exact this)
  have K20 : Hid (∀ w1 A c, Rd w1 2 A 1 (rgcs [((0 : Int), (-1 : Int))]) → Calls Tryd.prog 16 #[.slice A 1 c, .int .i64 0] w1 fun e w' => e = .returned (.bool false) ∧ Below w1.heap.size w1 w') := Lib.hid (fun w1 A c h => by have := Has_any A c [((0 : Int), (-1 : Int))] 0 w1 h (by simp); rw [show hasB [((0 : Int), (-1 : Int))] 0 = false by kernel_rfl] at this; exact this)
  have q1 := fun w => eql_rg (65535, 65536) (65535, 65536) w
  have q2 := fun w => eql_rg (2, 3) (2, 3) w
  have q3 := fun w => eql_rg (1, 4) (1, 4) w
  simp only [decide_true] at q1 q2 q3
  go_enter Tryd.func8, Tryd.ntmps8
  go_wp2_with (first
    | (go_at_call 9; (with_reducible refine (K1.out _).mono ?_); rintro e w1 ⟨v1, rfl, q⟩; obtain ⟨A1, c1, rfl, r1, k1⟩ := q.get0; have b1 := k1)
    | (go_at_call 9; (with_reducible refine (K2.out _).mono ?_); rintro e w2 ⟨v2, rfl, q⟩; obtain ⟨A2, c2, rfl, r2, k2⟩ := q.get0; have b2 := b1.trans (k2.mono b1.size))
    | (go_at_call 9; (with_reducible refine (K3.out _).mono ?_); rintro e w3 ⟨v3, rfl, q⟩; obtain ⟨A3, c3, rfl, r3, k3⟩ := q.get0; have b3 := b2.trans (k3.mono b2.size))
    | (go_at_call 9; (with_reducible refine (K4.out _).mono ?_); rintro e w4 ⟨v4, rfl, q⟩; obtain ⟨A4, c4, rfl, r4, k4⟩ := q.get0; have b4 := b3.trans (k4.mono b3.size))
    | (go_at_call 9; (with_reducible refine (K5.out _).mono ?_); rintro e w5 ⟨v5, rfl, q⟩; obtain ⟨A5, c5, rfl, r5, k5⟩ := q.get0; have b5 := b4.trans (k5.mono b4.size))
    | (go_at_call 9; (with_reducible refine (K6.out _).mono ?_); rintro e w6 ⟨v6, rfl, q⟩; obtain ⟨A6, c6, rfl, r6, k6⟩ := q.get1; have b6 := b5.trans (k6.mono b5.size))
    | (go_at_call 19; (with_reducible refine (K7.out _ _ _ (rd_new _ _ _)).mono ?_); rintro e w7 ⟨v7, rfl, q⟩; obtain ⟨A7, c7, rfl, r7, k'⟩ := q.get2; have k7 := below_k k'; have b7 := b6.trans (k7.mono b6.size))
    | (go_at_call 18; (with_reducible refine (K8.out _ _ _ _ _ (rd_one _ _ _ _) (rd_two _ _ _ _)).mono ?_); rintro e w8 ⟨v8, rfl, q⟩; obtain ⟨A8, c8, rfl, r8, k'⟩ := q.get1; have k8 := below_k (below_k k'); have b8 := b7.trans (k8.mono b7.size))
    | (go_at_call 11; (with_reducible refine (K9.out _ _ _ (rd_new _ _ _)).mono ?_); rintro e w9 ⟨rfl, k'⟩; have k9 := below_k k'; have b9 := b8.trans (k9.mono b8.size))
    | (go_at_call 17; (with_reducible refine (K10.out _ _ _ (rd_r2 _)).mono ?_); rintro e w10 ⟨v10, rfl, q⟩; obtain ⟨A10, c10, rfl, r10, k'⟩ := q.get0; have k10 := below_k k'; have b10 := b9.trans (k10.mono b9.size))
    | (go_at_call 15; (with_reducible refine (K11.out _ _ _ (rd_i1 _)).mono ?_); rintro e w11 ⟨v11, rfl, q⟩; obtain ⟨A11, c11, rfl, r11, k'⟩ := q.get0; have k11 := below_k k'; have b11 := b10.trans (k11.mono b10.size))
    | (go_at_call 15; (with_reducible refine (K12.out _ _ _ (rd_i4 _)).mono ?_); rintro e w12 ⟨v12, rfl, q⟩; obtain ⟨A12, c12, rfl, r12, k'⟩ := q.get1; have k12 := below_k k'; have b12 := b11.trans (k12.mono b11.size); have s6 := (r6.later (k7.trans ((k8.trans ((k9.trans ((k10.trans ((k11.trans (k12.mono k11.size)).mono k10.size)).mono k9.size)).mono k8.size)).mono k7.size))); have s7 := (r7.later (k8.trans ((k9.trans ((k10.trans ((k11.trans (k12.mono k11.size)).mono k10.size)).mono k9.size)).mono k8.size))); have s8 := (r8.later (k9.trans ((k10.trans ((k11.trans (k12.mono k11.size)).mono k10.size)).mono k9.size))); clear r6 r7 r8; obtain ⟨g6, o6, rfl, _, x60, x61⟩ := s6.rg (k := 0) (e := (65535, 65536)) rfl; obtain ⟨g7, o7, rfl, _, x70, x71⟩ := s7.rg (k := 1) (e := (2, 3)) rfl; obtain ⟨g8, o8, rfl, _, x80, x81⟩ := s8.rg (k := 0) (e := (2, 3)) rfl; obtain ⟨g9, o9, rfl, _, x90, x91⟩ := r12.rg (k := 0) (e := (1, 4)) rfl; simp only [Nat.zero_mul, Nat.add_zero, Nat.one_mul] at x60 x61 x70 x71 x80 x81 x90 x91)
    | (go_at_call 20; (with_reducible refine (K13.out _ _ _ (rd_new _ _ _)).mono ?_); rintro e w13 ⟨rfl, k'⟩; have k13 := below_k k'; have b13 := b12.trans (k13.mono b12.size); have m13 := (rd_new w12 2 3).later k'; clear x60 x61 x70 x71 x80 x81 x90 x91)
    | (go_at_call 20; (with_reducible refine (K14.out _ _ _ m13).mono ?_); rintro e w14 ⟨rfl, k14⟩; have b14 := b13.trans (k14.mono b13.size); have m14 := m13.later k14)
    | (go_at_call 20; (with_reducible refine (K15.out _ _ _ m14).mono ?_); rintro e w15 ⟨rfl, k15⟩; have b15 := b14.trans (k15.mono b14.size); have m15 := m14.later k15)
    | (go_at_call 20; (with_reducible refine (K16.out _ _ _ m15).mono ?_); rintro e w16 ⟨rfl, k16⟩; have b16 := b15.trans (k16.mono b15.size); have m16 := m15.later k16)
    | (go_at_call 20; (with_reducible refine (K17.out _ _ _ m16).mono ?_); rintro e w17 ⟨rfl, k17⟩; have b17 := b16.trans (k17.mono b16.size); have m17 := m16.later k17)
    | (go_at_call 16; (with_reducible refine (K18.out _ _ _ m17).mono ?_); rintro e w18 ⟨rfl, k18⟩; have b18 := b17.trans (k18.mono b17.size); have m18 := m17.later k18)
    | (go_at_call 16; (with_reducible refine (K19.out _ _ _ m18).mono ?_); rintro e w19 ⟨rfl, k19⟩; have b19 := b18.trans (k19.mono b18.size); have m19 := m18.later k19)
    | (go_at_call 16; (with_reducible refine (K20.out _ _ _ (rd_new _ _ _)).mono ?_); rintro e w20 ⟨rfl, k'⟩; have k20 := below_k k'; have b20 := b19.trans (k20.mono b19.size))
    | (go_at_call 14; (with_reducible refine (AL.out _).mono ?_); rintro e w21 ⟨rfl, k21⟩; have b21 := b20.trans (k21.mono b20.size)))
  go_ret
  exact ⟨rfl, b21⟩

end Go.Proofs.YtccpjjhaeocfhaaDoor
