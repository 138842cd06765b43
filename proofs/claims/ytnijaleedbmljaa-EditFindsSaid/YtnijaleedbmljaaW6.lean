/- Walks: how many lines go out and in; what edits make. -/
import Derived.Test.YtnijaleedbmljaaW5
import Derived.Test.YtnijaleedbmljaaPlG
set_option linter.unusedVariables false
set_option linter.unusedSimpArgs false
namespace Go.Proofs.Ytnijaleedbmljaa
open Go Go.RowKit

def sizeRes (s : Pl.T) (l : List Pl.Ed) : Value :=
  if fitS s l = true then .tuple #[.int .i64 (Pl.outs l), .int .i64 (Pl.ins l), .int .i64 0] else .tuple #[.int .i64 0, .int .i64 0, .int .i64 180]

theorem outs_append (l m : List Pl.Ed) : Pl.outs (l ++ m) = Pl.outs l + Pl.outs m := by
  induction l with
  | nil => simp [Pl.outs]
  | cons e r ih => simp only [List.cons_append, Pl.outs, ih]; omega
theorem ins_append (l m : List Pl.Ed) : Pl.ins (l ++ m) = Pl.ins l + Pl.ins m := by
  induction l with
  | nil => simp [Pl.ins]
  | cons e r ih => simp only [List.cons_append, Pl.ins, ih]; omega
theorem outs_succ {l : List Pl.Ed} {k : Nat} {e : Pl.Ed} (h : l[k]? = some e) : Pl.outs (l.take (k + 1)) = Pl.outs (l.take k) + (e.t - e.f) := by
  rw [List.take_succ_eq_append_getElem (List.getElem?_eq_some_iff.1 h).1, (List.getElem?_eq_some_iff.1 h).2, outs_append]; simp [Pl.outs]
theorem ins_succ {l : List Pl.Ed} {k : Nat} {e : Pl.Ed} (h : l[k]? = some e) : Pl.ins (l.take (k + 1)) = Pl.ins (l.take k) + (Pl.lines e.x).length := by
  rw [List.take_succ_eq_append_getElem (List.getElem?_eq_some_iff.1 h).1, (List.getElem?_eq_some_iff.1 h).2, ins_append]; simp [Pl.ins]

/-- Bounds on what edits take and put. -/
theorem outs_bd {n : Nat} : ∀ {l : List Pl.Ed}, (∀ e ∈ l, 0 ≤ e.f ∧ e.f ≤ e.t ∧ e.t ≤ n) → 0 ≤ Pl.outs l ∧ Pl.outs l ≤ l.length * n := by
  intro l
  induction l with
  | nil => intro _; simp [Pl.outs]
  | cons e r ih =>
    intro h
    have h1 := h e (by simp)
    have h2 := ih (fun e' he => h e' (by simp [he]))
    simp only [Pl.outs, List.length_cons]
    have : ((r.length + 1 : Nat) : Int) * n = r.length * n + n := by rw [Int.natCast_add, Int.add_mul]; simp
    omega
theorem ins_bd {N : Nat} : ∀ {l : List Pl.Ed}, (∀ e ∈ l, e.x.length ≤ N) → 0 ≤ Pl.ins l ∧ Pl.ins l ≤ l.length * N := by
  intro l
  induction l with
  | nil => intro _; simp [Pl.ins]
  | cons e r ih =>
    intro h
    have h1 := h e (by simp)
    have h3 := Pl.lines_le e.x
    have h2 := ih (fun e' he => h e' (by simp [he]))
    simp only [Pl.ins, List.length_cons]
    have : ((r.length + 1 : Nat) : Int) * N = r.length * N + N := by rw [Int.natCast_add, Int.add_mul]; simp
    omega

/-- Texts and lists small enough for sums. -/
structure Sm (l : List Pl.Ed) : Prop where
  len : l.length ≤ 4000000
  txt : ∀ e ∈ l, e.x.length ≤ 4000000

theorem Sm.smalls {l : List Pl.Ed} (h : Sm l) : Smalls l := fun e he => by have := h.txt e he; omega
theorem Sm.take {l : List Pl.Ed} (h : Sm l) (k : Nat) : Sm (l.take k) := ⟨by have := h.len; simp; omega, fun e he => h.txt e (List.mem_of_mem_take he)⟩

theorem outs_small {n : Nat} {es : Prop} {l : List Pl.Ed} {last : Int} (h : Pl.Fits n es last l) (hn : n ≤ 4000000) (hl : l.length ≤ 4000000) (k : Nat) : 0 ≤ Pl.outs (l.take k) ∧ Pl.outs (l.take k) ≤ 100000000000000 := by
  have := outs_bd (n := n) (l := l.take k) (fun e he => Fits_mem h e (List.mem_of_mem_take he))
  have h2 : (l.take k).length ≤ 4000000 := by simp; omega
  have h3 : ((l.take k).length : Int) * n ≤ 4000000 * 4000000 := Int.mul_le_mul (by omega) (by omega) (by omega) (by omega)
  omega
theorem ins_small {l : List Pl.Ed} (h : Sm l) (k : Nat) : 0 ≤ Pl.ins (l.take k) ∧ Pl.ins (l.take k) ≤ 100000000000000 := by
  have := ins_bd (N := 4000000) (l := l.take k) (h.take k).txt
  have h2 : (l.take k).length ≤ 4000000 := (h.take k).len
  have h3 : ((l.take k).length : Int) * (4000000 : Nat) ≤ 4000000 * 4000000 := Int.mul_le_mul (by omega) (by omega) (by omega) (by omega)
  omega

set_option maxRecDepth 100000 in
set_option maxHeartbeats 2000000 in
theorem Size_any (s : ByteArray) (A : Option Addr) (c : Nat) (l : List Pl.Ed) (w : World) (hs : s.size ≤ 4000000) (h : Rd w 3 A l.length (edcs l)) (hsm : Sm l) :
    Calls Try.prog 29 #[.string s, .slice A l.length c] w fun e w' => e = .returned (sizeRes s.data.toList l) ∧ Below w.heap.size w w' := by
  have hcl : Pl.count s.data.toList = (Pl.lines s.data.toList).length := (Pl.lines_length _).symm
  have hln : (Pl.lines s.data.toList).length ≤ 4000000 := by have := Pl.lines_le s.data.toList; rw [← Lib.size_eq] at this; omega
  have hlen := hsm.len
  have fc := fun w h => fit_any s (Pl.lines s.data.toList).length A c l w (by omega) (by omega) h (by omega) hsm.smalls
  rw [show fitB (Pl.lines s.data.toList).length (endB s.data.toList) (-1) l = fitS s.data.toList l from rfl] at fc
  have cc := fun w => count_any s w (by omega)
  rw [hcl] at cc
  have HCL := Lib.hid hcl; clear hcl
  cases hb : fitS s.data.toList l
  · rw [hb] at fc
    have FC := Lib.hid fc; clear fc
    have CC := Lib.hid cc; clear cc
    have hr : sizeRes s.data.toList l = .tuple #[.int .i64 0, .int .i64 0, .int .i64 180] := by unfold sizeRes; rw [hb]; rfl
    have HR := Lib.hid hr; clear hr hb
    go_enter Try.func29, Try.ntmps29
    go_wp2_with (first | (go_at_call 52; refine (CC.out _).mono ?_; rintro e w' ⟨rfl, rfl⟩) | (go_at_call 48; refine (FC.out _ h).mono ?_; rintro e w1 ⟨rfl, hb1⟩))
    go_ret3
    exact ⟨by rw [HR.out]; rfl, hb1⟩
  · rw [hb] at fc
    have FC := Lib.hid fc; clear fc
    have CC := Lib.hid cc; clear cc
    have hfit := (fitS_iff _ _).1 hb
    have hr : sizeRes s.data.toList l = .tuple #[.int .i64 (Pl.outs l), .int .i64 (Pl.ins l), .int .i64 0] := by unfold sizeRes; rw [hb]; rfl
    have HR := Lib.hid hr; clear hr hb
    have HFIT := Lib.hid hfit; clear hfit
    go_enter Try.func29, Try.ntmps29
    go_wp2_with (first | (go_at_call 52; refine (CC.out _).mono ?_; rintro e w' ⟨rfl, rfl⟩) | (go_at_call 48; refine (FC.out _ h).mono ?_; rintro e w1 ⟨rfl, hb1⟩))
    go_loopw [4, 5, 17] (fun o n i wr => ∃ k : Nat, k ≤ l.length ∧ i = .int .i64 k ∧ o = .int .i64 (Pl.outs (l.take k)) ∧ n = .int .i64 (Pl.ins (l.take k)) ∧ Below w.heap.size w wr) (fun _ _ i _ => l.length - (intOf i).toNat)
    case atStart => exact ⟨0, Nat.zero_le _, rfl, rfl, rfl, hb1⟩
    case round =>
      obtain ⟨k, hk, rfl, rfl, rfl, hb⟩ := hrel
      have o1 := outs_small HFIT.out hln hlen k
      have o2 := ins_small hsm k
      by_cases hlt : k < l.length
      · obtain ⟨b1, o1, rfl, _, c1, c2, c3⟩ := (h.later hb).ed (k := k) (List.getElem?_eq_getElem hlt)
        have q1 := Fits_mem HFIT.out l[k] (List.getElem_mem hlt)
        have q2 := hsm.txt l[k] (List.getElem_mem hlt)
        have q3 := Pl.lines_le l[k].x
        have S1 := Lib.hid (outs_succ (List.getElem?_eq_getElem hlt))
        have S2 := Lib.hid (ins_succ (List.getElem?_eq_getElem hlt))
        generalize l[k] = e at c1 c2 c3 q1 q2 q3 S1 S2
        have CE := Lib.hid (show ∀ w, Calls Try.prog 52 #[.string (bs e.x)] w fun e' w' => e' = .returned (.int .i64 (Pl.lines e.x).length) ∧ w = w' from fun w => by
          have := count_any (bs e.x) w (by rw [bs_size]; omega)
          rwa [bs_data, ← Pl.lines_length] at this)
        obtain ⟨q11, q12, q13⟩ := q1
        go_wp2_with (go_at_call 52; refine (CE.out _).mono ?_; rintro e w' ⟨rfl, rfl⟩)
        go_roundw
        case rel => exact ⟨k + 1, by omega, by go_num, by rw [S1.out], by rw [S2.out], hb.alloc hb.size _⟩
        case measure => simp [intOf]; omega
      · have hkl : k = l.length := by omega
        have HK := Lib.hid hkl; clear hkl
        go_wp2
        go_ret3
        exact ⟨by rw [HR.out, HK.out]; simp, hb⟩

set_option maxRecDepth 100000 in
set_option maxHeartbeats 2000000 in
theorem refSize_any (s : ByteArray) (A : Option Addr) (c : Nat) (l : List Pl.Ed) (w : World) (hs : s.size ≤ 4000000) (h : Rd w 3 A l.length (edcs l)) (hsm : Sm l) :
    Calls Try.prog 30 #[.string s, .slice A l.length c] w fun e w' => e = .returned (sizeRes s.data.toList l) ∧ Below w.heap.size w w' := by
  have hln : (Pl.lines s.data.toList).length ≤ 4000000 := by have := Pl.lines_le s.data.toList; rw [← Lib.size_eq] at this; omega
  have hlen := hsm.len
  have hsT : SmallT (Pl.lines s.data.toList) := fun x hx => by
    have := Pl.mem_le hx
    rw [← Lib.size_eq] at this; omega
  have fc := fun X cx w g h => refFit_any X A cx c (Pl.lines s.data.toList) l w (by omega) g h (by omega) hsT hsm.smalls
  rw [fitS_ref] at fc
  have LC := Lib.hid (fun w => refLines_got s w (by omega))
  cases hb : fitS s.data.toList l
  · rw [hb] at fc
    have FC := Lib.hid fc; clear fc
    have hr : sizeRes s.data.toList l = .tuple #[.int .i64 0, .int .i64 0, .int .i64 180] := by unfold sizeRes; rw [hb]; rfl
    have HR := Lib.hid hr; clear hr hb
    go_enter Try.func30, Try.ntmps30
    go_wp2_with (first | (go_at_call 33; refine (LC.out _).mono ?_; rintro e w1 ⟨X, cx, rfl, hcx, hX, hb1⟩) | (go_at_call 46; refine (FC.out _ _ _ hX (h.later hb1)).mono ?_; rintro e w2 ⟨rfl, hb2⟩))
    go_ret3
    exact ⟨by rw [HR.out]; rfl, hb1.trans (hb2.mono hb1.size)⟩
  · rw [hb] at fc
    have FC := Lib.hid fc; clear fc
    have hfit := (fitS_iff _ _).1 hb
    have hr : sizeRes s.data.toList l = .tuple #[.int .i64 (Pl.outs l), .int .i64 (Pl.ins l), .int .i64 0] := by unfold sizeRes; rw [hb]; rfl
    have HR := Lib.hid hr; clear hr hb
    have HFIT := Lib.hid hfit; clear hfit
    go_enter Try.func30, Try.ntmps30
    go_wp2_with (first | (go_at_call 33; refine (LC.out _).mono ?_; rintro e w1 ⟨X, cx, rfl, hcx, hX, hb1⟩) | (go_at_call 46; refine (FC.out _ _ _ hX (h.later hb1)).mono ?_; rintro e w2 ⟨rfl, hb2⟩))
    have hb12 := hb1.trans (hb2.mono hb1.size)
    go_loopw [9, 10, 11] (fun o n i wr => ∃ k : Nat, k ≤ l.length ∧ i = .int .i64 k ∧ o = .int .i64 (Pl.outs (l.take k)) ∧ n = .int .i64 (Pl.ins (l.take k)) ∧ Below w.heap.size w wr) (fun _ _ i _ => l.length - (intOf i).toNat)
    case atStart => exact ⟨0, Nat.zero_le _, rfl, rfl, rfl, hb12⟩
    case round =>
      obtain ⟨k, hk, rfl, rfl, rfl, hb⟩ := hrel
      have o1 := outs_small HFIT.out hln hlen k
      have o2 := ins_small hsm k
      by_cases hlt : k < l.length
      · have CEd := Lib.hid ((h.later hb).ed (k := k) (List.getElem?_eq_getElem hlt))
        obtain ⟨b1, o1, rfl, hbl, c1, c2, c3⟩ := (h.later hb).ed (k := k) (List.getElem?_eq_getElem hlt)
        have q1 := Fits_mem HFIT.out l[k] (List.getElem_mem hlt)
        have q2 := hsm.txt l[k] (List.getElem_mem hlt)
        have q3 := Pl.lines_le l[k].x
        have S1 := Lib.hid (outs_succ (List.getElem?_eq_getElem hlt))
        have S2 := Lib.hid (ins_succ (List.getElem?_eq_getElem hlt))
        clear CEd
        generalize l[k] = e at c1 c2 c3 q1 q2 q3 S1 S2
        have LE := Lib.hid (show ∀ w, _ from fun w => refLines_got (bs e.x) w (by rw [bs_size]; omega))
        simp only [bs_data] at LE
        obtain ⟨q11, q12, q13⟩ := q1
        go_wp2_with (go_at_call 33; refine (LE.out _).mono ?_; rintro e w3 ⟨X3, cx3, rfl, hcx3, hX3, hb3⟩; have c1' := (hb3.cell (p := ⟨b1, o1 + k * 3, none⟩) hbl).trans c1; have c2' := (hb3.cell (p := ⟨b1, o1 + k * 3 + 1, none⟩) hbl).trans c2)
        have m1 : IntKind.i64.wrap (Pl.outs (l.take k) + e.t) = Pl.outs (l.take k) + e.t := IntWalk.i64_in _ (by omega)
        have m2 : IntKind.i64.wrap (Pl.outs (l.take k) + e.t - e.f) = Pl.outs (l.take k) + e.t - e.f := IntWalk.i64_in _ (by omega)
        go_quiet (fail)
        clear m1 m2
        go_wp2
        go_roundw
        case rel => exact ⟨k + 1, by omega, by go_num, by rw [S1.out]; go_num, by rw [S2.out], below_drewN (hb.trans (hb3.mono hb.size)) _⟩
        case measure => simp [intOf]; omega
      · have hkl : k = l.length := by omega
        have HK := Lib.hid hkl; clear hkl
        go_wp2
        go_ret3
        exact ⟨by rw [HR.out, HK.out]; simp, hb⟩

end Go.Proofs.Ytnijaleedbmljaa
