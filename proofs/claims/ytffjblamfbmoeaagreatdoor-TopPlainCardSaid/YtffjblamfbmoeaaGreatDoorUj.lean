/- Several texts in one: Walks: how a macro's body is filled, at X -> 1: the plan; Walks: sets of names: with, either; hideAll, Clip at one token; Walks: the macro that X is expanded as, where X -> 1 alone is defined; Walks: a macro's body, filled, at X -> 1: add, fill; Walks: a macro's body, filled, at X -> 1: fill. -/
import Derived.Test.YtffjblamfbmoeaaGreatDoorUi
import Derived.Test.YtffjblamfbmoeaaGreatDoorUg
import Derived.Deep.RegionHeld3
import Derived.Deep.QuietTactic
/-! Walks: how a macro's body is filled, at X -> 1: the plan. -/
set_option linter.unusedVariables false
set_option linter.unusedSimpArgs false
namespace Go.Proofs.YtffjblamfbmoeaaGreatDoor
open Go Go.RowKit
attribute [local go_sem] Oper.semAt_some

/-- The plan of X -> 1, at a block. -/
def PlanAt (W : World) (PL : Nat) : Prop := ∃ A c gi ci U cu, W.heap[PL]? = some (.cells #[.string (bs [88]), .bool false, .slice none 0 0, .bool false, .slice A 1 c, .int .i64 0, .slice (some ⟨gi, 0, none⟩) 1 ci, .slice U 1 cu] 214 (0, 0)) ∧ 1 ≤ ci ∧ Rd W 8 (some ⟨gi, 0, none⟩) 1 itc
theorem PlanAt.below {W W' : World} {PL : Nat} (h : PlanAt W PL) (hb : Below W.heap.size W W') : PlanAt W' PL := by
  obtain ⟨A, c, gi, ci, U, cu, h1, h2, h3⟩ := h
  exact ⟨A, c, gi, ci, U, cu, (hb.block PL (Array.getElem?_eq_some_iff.1 h1).1).trans h1, h2, h3.later hb⟩
theorem itemInfo : (Tryz.prog.info? 255).map (fun i => (i.zero, i.size, i.bytes)) = some (some (.agg #[.int .i64 0, .string ⟨#[]⟩, .bool false, .slice none 0 0, .int .i64 0, .bool false, .bool false, .bool false]), 8, 72) := by kernel_rfl
theorem makeBool (W : World) : (Instr.makeSlice 153 (.int .i64 1) (.int .i64 1)).run Tryz.prog W = .ok (.slice (some ⟨W.heap.size, 0, none⟩) 1 1) (W.alloc (.cells #[.bool false] 4)) := by kernel_rfl

/-- What a round starts from: n items have come. -/
def PX (w : World) (B PB PL UB : Nat) (A : Option Addr) (c n : Nat) (W : World) : Prop :=
  Bx W PB 210 (.pointer (some ⟨PL, 0, none⟩)) ∧ Below w.heap.size w W ∧ B ≤ W.heap.size ∧ PL < B ∧ PB < B ∧ PL ≠ PB ∧ w.heap.size ≤ PL ∧ w.heap.size ≤ PB ∧
    ∃ v, W.heap[PL]? = some (.cells #[.string (bs [88]), .bool false, .slice none 0 0, .bool false, .slice A 1 c, .int .i64 0, v, .slice (some ⟨UB, 0, none⟩) 1 1] 214 (0, 0)) ∧ W.ownsRow B 255 8 v n (List.replicate n itc).flatten ∧ (n = 0 → v = .slice none 0 0)
theorem PX.below {w W W' : World} {B PB PL UB c n : Nat} {A : Option Addr} (h : PX w B PB PL UB A c n W) (hb : Below W.heap.size W W') : PX w B PB PL UB A c n W' := by
  obtain ⟨h1, h2, h3, h4, h5, h6, h7, h8, v, h9, h10, h11⟩ := h
  exact ⟨h1.below hb h1.lt, h2.trans (hb.mono h2.size), Nat.le_trans h3 hb.size, h4, h5, h6, h7, h8, v, (hb.block PL (Array.getElem?_eq_some_iff.1 h9).1).trans h9, own_later h10 hb, h11⟩
theorem PX.put {w W : World} {B PB PL UB c n z : Nat} {A : Option Addr} {o : Obj} (h : PX w B PB PL UB A c n W) (o' : Obj) (hz : w.heap.size ≤ z) (hl : W.heap[z]? = some o) (ho : o.isCells = false) : PX w B PB PL UB A c n (W.putObj z o') := by
  obtain ⟨h1, h2, h3, h4, h5, h6, h7, h8, v, h9, h10, h11⟩ := h
  refine ⟨h1.put' o' hl ho, below_put h2 o' hz, by simpa using h3, h4, h5, h6, h7, h8, v, ?_, h10.kept (grownBy_putObj' W z o') (.inr (own_ne_obj h10 hl ho)), h11⟩
  refine (World.putObj_heap_other ?_).trans h9
  rintro rfl
  rw [h9] at hl; cases hl; cases ho

/-- The plan is made. -/
def PF (w w1 : World) (A : Option Addr) (c PB UB PL : Nat) (W : World) : Prop :=
  Bx W PB 210 (.pointer (some ⟨PL, 0, none⟩)) ∧ Below w1.heap.size w1 W ∧ PL < W.heap.size ∧ PB < W.heap.size ∧ PL ≠ PB ∧ w1.heap.size ≤ PL ∧ w1.heap.size ≤ PB ∧
    W.heap[PL]? = some (.cells #[.string (bs [88]), .bool false, .slice none 0 0, .bool false, .slice A 1 c, .int .i64 0, .slice none 0 0, .slice (some ⟨UB, 0, none⟩) 1 1] 214 (0, 0))
theorem pf_1 (w w1 : World) (A : Option Addr) (c : Nat) : PF w w1 A c (w1.heap.size + 1 + 1) w1.heap.size (w1.heap.size + 1) (((w1.alloc (.cells #[.bool false] 4)).alloc (.cells #[.string (bs [88]), .bool false, .slice none 0 0, .bool false, .slice A 1 c, .int .i64 0, .slice none 0 0, .slice (some ⟨w1.heap.size, 0, none⟩) 1 1] 214)).alloc (.cells #[.pointer (some ⟨w1.heap.size + 1, 0, none⟩)] 210)).drew := by
  refine ⟨?_, ((((Below.refl _ _).alloc (Nat.le_refl _) _).alloc (by simp) _).alloc (by simp; omega) _).drew, (by first | (simp; done) | (simp; omega)), (by first | (simp; done) | (simp; omega)), by omega, by omega, by omega, ?_⟩
  · have := heap_alloc_new ((w1.alloc (.cells #[.bool false] 4)).alloc (.cells #[.string (bs [88]), .bool false, .slice none 0 0, .bool false, .slice A 1 c, .int .i64 0, .slice none 0 0, .slice (some ⟨w1.heap.size, 0, none⟩) 1 1] 214)) (.cells #[.pointer (some ⟨w1.heap.size + 1, 0, none⟩)] 210)
    rw [World.size_alloc, World.size_alloc] at this
    exact this
  · have := heap_alloc_new (w1.alloc (.cells #[.bool false] 4)) (.cells #[.string (bs [88]), .bool false, .slice none 0 0, .bool false, .slice A 1 c, .int .i64 0, .slice none 0 0, .slice (some ⟨w1.heap.size, 0, none⟩) 1 1] 214)
    rw [World.size_alloc] at this
    exact (Below.heap_alloc _ _ _ (by simp)).trans this
theorem pf_2 (w w1 : World) (A : Option Addr) (c : Nat) : PF w w1 A c (w1.heap.size + 1) w1.heap.size (w1.heap.size + 1 + 1) (((w1.alloc (.cells #[.bool false] 4)).alloc (.cells #[.pointer (some ⟨w1.heap.size + 1 + 1, 0, none⟩)] 210)).alloc (.cells #[.string (bs [88]), .bool false, .slice none 0 0, .bool false, .slice A 1 c, .int .i64 0, .slice none 0 0, .slice (some ⟨w1.heap.size, 0, none⟩) 1 1] 214)).drew := by
  refine ⟨?_, ((((Below.refl _ _).alloc (Nat.le_refl _) _).alloc (by simp) _).alloc (by simp; omega) _).drew, (by first | (simp; done) | (simp; omega)), (by first | (simp; done) | (simp; omega)), by omega, by omega, by omega, ?_⟩
  · have := heap_alloc_new (w1.alloc (.cells #[.bool false] 4)) (.cells #[.pointer (some ⟨w1.heap.size + 1 + 1, 0, none⟩)] 210)
    rw [World.size_alloc] at this
    exact (Below.heap_alloc _ _ _ (by simp)).trans this
  · have := heap_alloc_new ((w1.alloc (.cells #[.bool false] 4)).alloc (.cells #[.pointer (some ⟨w1.heap.size + 1 + 1, 0, none⟩)] 210)) (.cells #[.string (bs [88]), .bool false, .slice none 0 0, .bool false, .slice A 1 c, .int .i64 0, .slice none 0 0, .slice (some ⟨w1.heap.size, 0, none⟩) 1 1] 214)
    rw [World.size_alloc, World.size_alloc] at this
    exact this
theorem pf_3 (w w1 : World) (A : Option Addr) (c : Nat) : PF w w1 A c w1.heap.size (w1.heap.size + 1) (w1.heap.size + 1 + 1) (((w1.alloc (.cells #[.pointer (some ⟨w1.heap.size + 1 + 1, 0, none⟩)] 210)).alloc (.cells #[.bool false] 4)).alloc (.cells #[.string (bs [88]), .bool false, .slice none 0 0, .bool false, .slice A 1 c, .int .i64 0, .slice none 0 0, .slice (some ⟨w1.heap.size + 1, 0, none⟩) 1 1] 214)).drew := by
  refine ⟨?_, ((((Below.refl _ _).alloc (Nat.le_refl _) _).alloc (by simp) _).alloc (by simp; omega) _).drew, (by first | (simp; done) | (simp; omega)), (by first | (simp; done) | (simp; omega)), by omega, by omega, by omega, ?_⟩
  · have := heap_alloc_new w1 (.cells #[.pointer (some ⟨w1.heap.size + 1 + 1, 0, none⟩)] 210)
    exact (Below.heap_alloc _ _ _ (by simp; omega)).trans ((Below.heap_alloc _ _ _ (by simp)).trans this)
  · have := heap_alloc_new ((w1.alloc (.cells #[.pointer (some ⟨w1.heap.size + 1 + 1, 0, none⟩)] 210)).alloc (.cells #[.bool false] 4)) (.cells #[.string (bs [88]), .bool false, .slice none 0 0, .bool false, .slice A 1 c, .int .i64 0, .slice none 0 0, .slice (some ⟨w1.heap.size + 1, 0, none⟩) 1 1] 214)
    rw [World.size_alloc, World.size_alloc] at this
    exact this

set_option maxRecDepth 100000 in
set_option maxHeartbeats 8000000 in
theorem planned_X (A : Option Addr) (c : Nat) (w : World) (hc : 1 ≤ c) (hr : Rd w 4 A 1 (ptcs [xM])) : Calls Tryz.prog 134 #[mvX A c, .int .i64 0] w fun e w' =>
    ∃ PL, e = .returned (.pointer (some ⟨PL, 0, none⟩)) ∧ PlanAt w' PL ∧ w.heap.size ≤ PL ∧ Below w.heap.size w w' := by
  obtain ⟨j0, hj, hy0, hy1, hy2⟩ := info_parts itemInfo
  have IX := Lib.hid (fun (W : World) => items_X A c W)
  unfold mvX at IX
  unfold mvX
  obtain ⟨w1, hw1⟩ : ∃ w1, w.alloc (.cells #[.string (bs [88]), .bool false, .slice none 0 0, .bool false, .slice A 1 c] 25) = w1 := ⟨_, rfl⟩
  have hb1 : Below w.heap.size w w1 := by rw [← hw1]; exact (Below.refl _ _).alloc (Nat.le_refl _) _
  have k1 : w1.heap[w.heap.size]? = some (.cells #[.string (bs [88]), .bool false, .slice none 0 0, .bool false, .slice A 1 c] 25 (0, 0)) := by rw [← hw1]; exact heap_alloc_new w _
  have hs1 : w1.heap.size = w.heap.size + 1 := by rw [← hw1]; simp
  have HW1 := Lib.hid hw1
  have hl1 : w.heap.size < w1.heap.size := by omega
  have HS1 := Lib.hid hs1
  have c0 := Lib.cell_of_heap k1 0
  have c1 := Lib.cell_of_heap k1 1
  have c2 := Lib.cell_of_heap k1 2
  have c3 := Lib.cell_of_heap k1 3
  have c4 := Lib.cell_of_heap k1 4
  simp only [List.getElem?_toArray, List.getElem?_cons_zero, List.getElem?_cons_succ] at c0 c1 c2 c3 c4
  have MB := makeBool
  have wr1 : IntKind.i64.wrap 1 = 1 := by decide
  clear hw1 hs1
  refine callsIn_wide (n := 5) |>.1 ?_
  refine callsIn_of_wp_marks Tryz.func134 rfl trivial ?_ rfl
  simp only [Tryz.ntmps134, List.size_toArray, List.length_cons, List.length_nil, Nat.reduceAdd, Nat.reduceSub, Array.replicate_succ, Array.replicate_zero, List.push_toArray, List.append_toArray, List.nil_append, List.cons_append]
  refine wpIn_wide.2 ?_
  go_wp2
  rw [HW1.out]
  have KEEP := Lib.hid (show ∀ w', Below w1.heap.size w1 w' → w'.cell? ⟨w.heap.size, 0, none⟩ = some (.string (bs [88])) ∧ w'.cell? ⟨w.heap.size, 1, none⟩ = some (.bool false) ∧ w'.cell? ⟨w.heap.size, 2, none⟩ = some (.slice none 0 0) ∧ w'.cell? ⟨w.heap.size, 3, none⟩ = some (.bool false) ∧ w'.cell? ⟨w.heap.size, 4, none⟩ = some (.slice A 1 c) from fun w' hb => ⟨(hb.cell (p := ⟨w.heap.size, 0, none⟩) hl1).trans c0, (hb.cell (p := ⟨w.heap.size, 1, none⟩) hl1).trans c1, (hb.cell (p := ⟨w.heap.size, 2, none⟩) hl1).trans c2, (hb.cell (p := ⟨w.heap.size, 3, none⟩) hl1).trans c3, (hb.cell (p := ⟨w.heap.size, 4, none⟩) hl1).trans c4⟩)
  refine Code.wp_mono (Q := fun e a W => e = .normal ∧ ∃ PB UB PL, PF w w1 A c PB UB PL W ∧ a = { tmps := #[.agg #[.string (bs [88]), .bool false, .slice none 0 0, .bool false, .slice A 1 c], .int .i64 0, .pointer (some ⟨w.heap.size, 0, none⟩), undef, .pointer none, .pointer (some ⟨PB, 0, none⟩), undef, .agg #[.string (bs [88]), .bool false, .slice none 0 0, .bool false, .slice A 1 c], .int .i64 0, .pointer (some ⟨w.heap.size, 2, none⟩), .slice none 0 0, .int .i64 0, .int .i64 1, .slice (some ⟨UB, 0, none⟩) 1 1, .agg #[.string (bs [88]), .bool false, .slice none 0 0, .bool false, .slice A 1 c, .int .i64 0, .slice none 0 0, .slice (some ⟨UB, 0, none⟩) 1 1], .pointer (some ⟨PL, 0, none⟩), undef, undef, undef, undef, undef, undef, undef, undef, undef, undef, undef, undef, undef, undef, undef, undef, undef, undef, undef, undef, undef, undef, undef, undef, undef, undef, undef, undef, undef, undef, undef, undef, undef, undef], defers := [] }) ?after ?region
  case region =>
    go_region_held3 (fun w' => w'.cell? ⟨w.heap.size, 0, none⟩ = some (.string (bs [88])) ∧ w'.cell? ⟨w.heap.size, 1, none⟩ = some (.bool false) ∧ w'.cell? ⟨w.heap.size, 2, none⟩ = some (.slice none 0 0) ∧ w'.cell? ⟨w.heap.size, 3, none⟩ = some (.bool false) ∧ w'.cell? ⟨w.heap.size, 4, none⟩ = some (.slice A 1 c)) (first | (go_keep; done) | ((try dsimp only); refine KEEP.out _ ?_; repeat (first | (with_reducible exact Below.refl _ _) | refine Below.drew ?_ | refine Below.alloc ?_ (by first | (simp; done) | (simp; omega)) _))) (fail)
    · exact ⟨rfl, _, _, _, pf_1 w w1 A c, rfl⟩
    · exact ⟨rfl, _, _, _, pf_2 w w1 A c, rfl⟩
    · exact ⟨rfl, _, _, _, pf_3 w w1 A c, rfl⟩
  case after =>
  rintro e a W ⟨rfl, PB, UB, PL, ⟨f1, f2, f3, f4, f5, f6, f7, f8⟩, rfl⟩
  obtain ⟨kc0, kc1, kc2, kc3, kc4⟩ := KEEP.out W f2
  have hbW := hb1.trans (f2.mono (by omega))
  have hlW : w.heap.size < W.heap.size := by omega
  clear KEEP c0 c1 c2 c3 c4 MB
  go_wp2_with (first
    | (go_at_call 162; (with_reducible refine (IX.out _).mono ?_); rintro e w2 ⟨rfl, hb2, hs2, q0, q1, q2⟩))
  have hbw2 := hbW.trans (hb2.mono (by omega))
  have P0 : PX w w2.heap.size PB PL UB A c 0 w2 := ⟨f1.below hb2 f1.lt, hbw2, Nat.le_refl _, by omega, by omega, f5, by omega, by omega, _, (hb2.block PL f3).trans f8, World.ownsRow_nil _ _ _ _, fun _ => rfl⟩
  have HR := Lib.hid (show ∀ W, Below w.heap.size w W → Rd W 4 A 1 (ptcs [xM]) from fun W hb => hr.below (Nat.le_refl _) hb)
  have HF5 := Lib.hid f5
  clear IX hr f1 f2 f8 kc0 kc1 kc2 kc3 kc4 f5
  obtain ⟨n2, hn2⟩ : ∃ n2, w2.heap.size = n2 := ⟨_, rfl⟩
  rw [hn2] at P0 hs2
  have hs2a : W.heap.size + 3 ≤ n2 := by omega
  have hs2b : n2 ≤ W.heap.size + 3 := by omega
  have HS2 := Lib.hid hs2
  clear hs2
  have hn0 : w.heap.size ≤ n2 := by omega
  have hbw := hbw2
  refine (wpIn_wide (n := 5)).1 ?_
  refine rangeLaw2 (gf := 174) (lb := #[.pointer (some ⟨W.heap.size, 0, none⟩), .pointer (some ⟨W.heap.size + 2, 0, none⟩)]) rfl (enters_of Tryz.func174 (by kernel_rfl) rfl)
    (fun W1 hs1' hbb => items1_seq_X (5 - 1) W.heap.size (W.heap.size + 1) (W.heap.size + 2) PL n2 c A W1 ((hbb.block _ (by omega)).trans q0) (q2.below hbb (by omega)) ((hbb.block _ (by omega)).trans q1) (HR.out _ (hbw2.trans (hbb.mono (by omega)))) (by omega) (by omega) (by omega) hc)
    (fun X Y z o hg hk ho _ => (hg.block z (Array.getElem?_eq_some_iff.1 ho).1).trans ho)
    (fun h1 h2 => h1.trans h2) (fun W z o o' hl ho hc _ => ⟨by simp, fun k h1 h2 => World.putObj_heap_other (by omega)⟩) (fun _ => rfl)
    (fun pre W => PX w n2 PB PL UB A c pre.length W) (fun _ _ _ => False)
    (fun pre X Y h hg => h.below hg)
    (fun pre W z o o' h hl ho hc => h.put o' (by omega) ho hc)
    (fun c pre W z o o' h => h.elim)
    (fun W1 hs1 hbb => P0.below hbb)
    (fun pre x a' V => ∃ IB, a' = { tmps := #[.agg #[.string (bs [88]), .bool false, .slice none 0 0, .bool false, .slice A 1 c], .int .i64 0, .pointer (some ⟨w.heap.size, 0, none⟩), undef, .pointer none, .pointer (some ⟨PB, 0, none⟩), .pointer (some ⟨IB, 0, none⟩), .agg #[.string (bs [88]), .bool false, .slice none 0 0, .bool false, .slice A 1 c], .int .i64 0, .pointer (some ⟨w.heap.size, 2, none⟩), .slice none 0 0, .int .i64 0, .int .i64 1, .slice (some ⟨UB, 0, none⟩) 1 1, .agg #[.string (bs [88]), .bool false, .slice none 0 0, .bool false, .slice A 1 c, .int .i64 0, .slice none 0 0, .slice (some ⟨UB, 0, none⟩) 1 1], .pointer (some ⟨PL, 0, none⟩), .agg #[.string (bs [88]), .bool false, .slice none 0 0, .bool false, .slice A 1 c], .func (.func 174) #[] #[.pointer (some ⟨W.heap.size, 0, none⟩), .pointer (some ⟨W.heap.size + 2, 0, none⟩)], .agg itc.toArray, undef, undef, undef, undef, undef, undef, undef, undef, undef, undef, undef, undef, undef, undef, undef, undef, undef, undef, undef, undef, undef, undef, undef, undef, undef, undef, undef, undef, undef, undef, undef], defers := [] } ∧ n2 ≤ IB ∧ V.heap[IB]? = some (.cells itc.toArray 255 (0, 0)) ∧ PX w n2 PB PL UB A c pre.length V)
    (fun pre x a' W z o o' ⟨IB, h0, h1, h2, h3⟩ hl ho hc => ⟨IB, h0, h1, (World.putObj_heap_other (by rintro rfl; rw [h2] at ho; cases ho; cases hc)).trans h2, h3.put o' (by omega) ho hc⟩) ?assign ?body ?done ?stop
  case assign =>
    intro y pre x W4 K hi hgo hsz hK
    have hB4 := (Below.refl W4.heap.size W4).alloc (Nat.le_refl _) (.cells itc.toArray 255)
    have HK := Lib.hid (hK _ _ ((keepsO_below hB4).from _) ⟨hB4.size, fun k h1 h2 => hB4.block k (by have := hi.2.2.1; omega)⟩ ⟨W4.heap.size, rfl, by have := hi.2.2.1; omega, heap_alloc_new W4 _, hi.below hB4⟩)
    unfold itc at HK
    unfold itc
    clear hK hi hB4
    gi_wp2
    exact HK.out
  case body =>
    rintro y pre x a' W4 ⟨IB, rfl, hIB, hIc, hI⟩ hgo hsz
    obtain rfl : pre = [] := by cases pre with | nil => rfl | cons a b => simp at hgo
    obtain ⟨g1, g2, g3, g4, g5, g6, g7, g8, v, g9, g10, g11⟩ := hI
    obtain rfl := g11 rfl
    clear g11
    have HI := Lib.hid hIc
    have i0 := Lib.cell_of_heap hIc 0
    have i1 := Lib.cell_of_heap hIc 1
    have i2 := Lib.cell_of_heap hIc 2
    have i3 := Lib.cell_of_heap hIc 3
    have i4 := Lib.cell_of_heap hIc 4
    have i5 := Lib.cell_of_heap hIc 5
    have i6 := Lib.cell_of_heap hIc 6
    have i7 := Lib.cell_of_heap hIc 7
    have k6 := Lib.cell_of_heap g9 6
    have kp := g1.cell
    simp only [itc, List.getElem?_toArray, List.getElem?_cons_zero, List.getElem?_cons_succ] at i0 i1 i2 i3 i4 i5 i6 i7 k6
    have hlI := (Array.getElem?_eq_some_iff.1 hIc).1
    have hlP := (Array.getElem?_eq_some_iff.1 g9).1
    have G9 := Lib.hid g9
    have G1 := Lib.hid g1
    have G2 := Lib.hid g2
    have G10 := Lib.hid g10
    unfold itc
    clear hIc g9 g1 g2 g10
    gi_wp2
    obtain ⟨S, hS⟩ : ∃ S : World → Prop, S = (fun w' => w'.cell? ⟨PB, 0, none⟩ = some (.pointer (some ⟨PL, 0, none⟩)) ∧ w'.cell? ⟨PL, 6, none⟩ = some (.slice none 0 0) ∧ w'.cell? ⟨IB, 0, none⟩ = some (.int .i64 2) ∧ w'.cell? ⟨IB, 1, none⟩ = some (.string (bs [49])) ∧ w'.cell? ⟨IB, 2, none⟩ = some (.bool false) ∧ w'.cell? ⟨IB, 3, none⟩ = some (.slice none 0 0) ∧ w'.cell? ⟨IB, 4, none⟩ = some (.int .i64 (-1)) ∧ w'.cell? ⟨IB, 5, none⟩ = some (.bool false) ∧ w'.cell? ⟨IB, 6, none⟩ = some (.bool false) ∧ w'.cell? ⟨IB, 7, none⟩ = some (.bool false)) := ⟨_, rfl⟩
    have HS := Lib.hid hS
    clear hS
    refine wpIn_round_G S 8 (by kernel_rfl) (by rintro ⟨a', w', h⟩; exact h) (by kernel_rfl) (by rw [HS.out]; exact ⟨kp, k6, i0, i1, i2, i3, i4, i5, i6, i7⟩) (fun hHeld => ?_)
    refine wpAnyG_take (i := 0) (v := ?_) rfl (by kernel_rfl) (by kernel_rfl) (by kernel_rfl) (by kernel_rfl) (by decide) (by kernel_rfl) (fun _ _ _ h => h) (Or.inl ⟨by rfl, ?_⟩) (by assumption) ?_
    rotate_left
    · intro w hSw
      rw [HS.out] at hSw
      (try dsimp only at hSw)
      go_simp
      all_goals (with_reducible rfl)
    try simp only [List.getElem_toArray, List.getElem_cons_succ, List.getElem_cons_zero, Act.put, List.setIfInBounds_toArray, List.set_cons_zero, List.set_cons_succ]
    refine wpAnyG_take (i := 1) (v := ?_) rfl (by kernel_rfl) (by kernel_rfl) (by kernel_rfl) (by kernel_rfl) (by decide) (by kernel_rfl) (fun _ _ _ h => h) (Or.inl ⟨by rfl, ?_⟩) (by assumption) ?_
    rotate_left
    · intro w hSw
      rw [HS.out] at hSw
      (try dsimp only at hSw)
      go_simp
      all_goals (with_reducible rfl)
    try simp only [List.getElem_toArray, List.getElem_cons_succ, List.getElem_cons_zero, Act.put, List.setIfInBounds_toArray, List.set_cons_zero, List.set_cons_succ]
    refine wpAnyG_take (i := 2) (v := ?_) rfl (by kernel_rfl) (by kernel_rfl) (by kernel_rfl) (by kernel_rfl) (by decide) (by kernel_rfl) (fun _ _ _ h => h) (Or.inl ⟨by rfl, ?_⟩) (by assumption) ?_
    rotate_left
    · intro w hSw
      rw [HS.out] at hSw
      (try dsimp only at hSw)
      go_simp
      all_goals (with_reducible rfl)
    try simp only [List.getElem_toArray, List.getElem_cons_succ, List.getElem_cons_zero, Act.put, List.setIfInBounds_toArray, List.set_cons_zero, List.set_cons_succ]
    refine wpAnyG_take (i := 3) (v := ?_) rfl (by kernel_rfl) (by kernel_rfl) (by kernel_rfl) (by kernel_rfl) (by decide) (by kernel_rfl) (fun _ _ _ h => h) (Or.inl ⟨by rfl, ?_⟩) (by assumption) ?_
    rotate_left
    · intro w hSw
      rw [HS.out] at hSw
      (try dsimp only at hSw)
      go_simp
      all_goals (with_reducible rfl)
    try simp only [List.getElem_toArray, List.getElem_cons_succ, List.getElem_cons_zero, Act.put, List.setIfInBounds_toArray, List.set_cons_zero, List.set_cons_succ]
    refine wpAnyG_take (i := 4) (v := ?_) rfl (by kernel_rfl) (by kernel_rfl) (by kernel_rfl) (by kernel_rfl) (by decide) (by kernel_rfl) (fun _ _ _ h => h) (Or.inl ⟨by rfl, ?_⟩) (by assumption) ?_
    rotate_left
    · intro w hSw
      rw [HS.out] at hSw
      (try dsimp only at hSw)
      go_simp
      all_goals (with_reducible rfl)
    try simp only [List.getElem_toArray, List.getElem_cons_succ, List.getElem_cons_zero, Act.put, List.setIfInBounds_toArray, List.set_cons_zero, List.set_cons_succ]
    refine wpAnyG_take (i := 5) (v := ?_) rfl (by kernel_rfl) (by kernel_rfl) (by kernel_rfl) (by kernel_rfl) (by decide) (by kernel_rfl) (fun _ _ _ h => h) (Or.inl ⟨by rfl, ?_⟩) (by assumption) ?_
    rotate_left
    · intro w hSw
      rw [HS.out] at hSw
      (try dsimp only at hSw)
      go_simp
      all_goals (with_reducible rfl)
    try simp only [List.getElem_toArray, List.getElem_cons_succ, List.getElem_cons_zero, Act.put, List.setIfInBounds_toArray, List.set_cons_zero, List.set_cons_succ]
    have aT := (Below.refl W4.drew.heap.size W4.drew).alloc (Nat.le_refl _) (.cells #[.int .i64 2, .string (bs [49]), .bool false, .slice none 0 0, .int .i64 (-1), .bool false, .bool false, .bool false] 255)
    have hs4 : W4.drew.heap.size = W4.heap.size := rfl
    have b4 : Below W4.heap.size W4 W4.drew := (Below.refl _ _).drew
    have hld : ∀ W', Below W4.heap.size W4 W' → W'.cell? ⟨PB, 0, none⟩ = some (.pointer (some ⟨PL, 0, none⟩)) ∧ W'.cell? ⟨PL, 6, none⟩ = some (.slice none 0 0) ∧ W'.cell? ⟨IB, 0, none⟩ = some (.int .i64 2) ∧ W'.cell? ⟨IB, 1, none⟩ = some (.string (bs [49])) ∧ W'.cell? ⟨IB, 2, none⟩ = some (.bool false) ∧ W'.cell? ⟨IB, 3, none⟩ = some (.slice none 0 0) ∧ W'.cell? ⟨IB, 4, none⟩ = some (.int .i64 (-1)) ∧ W'.cell? ⟨IB, 5, none⟩ = some (.bool false) ∧ W'.cell? ⟨IB, 6, none⟩ = some (.bool false) ∧ W'.cell? ⟨IB, 7, none⟩ = some (.bool false) := fun W' hb =>
      ⟨(hb.cell (p := ⟨PB, 0, none⟩) (show PB < W4.heap.size by omega)).trans kp, (hb.cell (p := ⟨PL, 6, none⟩) hlP).trans k6, (hb.cell (p := ⟨IB, 0, none⟩) hlI).trans i0, (hb.cell (p := ⟨IB, 1, none⟩) hlI).trans i1, (hb.cell (p := ⟨IB, 2, none⟩) hlI).trans i2, (hb.cell (p := ⟨IB, 3, none⟩) hlI).trans i3, (hb.cell (p := ⟨IB, 4, none⟩) hlI).trans i4, (hb.cell (p := ⟨IB, 5, none⟩) hlI).trans i5, (hb.cell (p := ⟨IB, 6, none⟩) hlI).trans i6, (hb.cell (p := ⟨IB, 7, none⟩) hlI).trans i7⟩
    have b4T : Below W4.heap.size W4 (W4.drew.alloc (.cells #[.int .i64 2, .string (bs [49]), .bool false, .slice none 0 0, .int .i64 (-1), .bool false, .bool false, .bool false] 255)) := b4.trans aT
    have cT := cellsN_new W4.drew 255 [.int .i64 2, .string (bs [49]), .bool false, .slice none 0 0, .int .i64 (-1), .bool false, .bool false, .bool false]
    have oT : (W4.drew.alloc (.cells #[.int .i64 2, .string (bs [49]), .bool false, .slice none 0 0, .int .i64 (-1), .bool false, .bool false, .bool false] 255)).ownsRow n2 255 8 (.slice none 0 0) 0 (List.replicate 0 itc).flatten := own_later G10.out b4T
    refine G_one (i := 6) rfl (by kernel_rfl) (by rfl) ?_
    try simp only [List.getElem_toArray, List.getElem_cons_succ, List.getElem_cons_zero]
    go_simp
    refine ⟨by rw [HS.out]; exact hld _ b4T, ?_⟩
    refine G_one (i := 7) rfl (by kernel_rfl) (by rfl) ?_
    refine wp_append_own _ (.tmp 43) (.tmp 45) 212 rfl n2 255 j0 _ 8 72 Tryz.underlying212 hj hy0 hy1 hy2 rfl (by decide) (.slice none 0 0) 0 _ rfl oT ⟨W4.heap.size, 0, none⟩ 1 1 [.int .i64 2, .string (bs [49]), .bool false, .slice none 0 0, .int .i64 (-1), .bool false, .bool false, .bool false] rfl rfl cT (by simp [Value.oneCell']) (by unfold maxLen; omega) (by omega) (by simp; omega) ?_
    intro v' w5 hown5 hgrow _
    obtain ⟨A5, cp5, rfl, _, _⟩ := own_form hown5
    have hbn : ∀ b : Nat, some b ≠ (Value.slice none 0 0).ownBlock := fun b e => by cases e
    have b45 : Below W4.heap.size W4 w5 := b4T.grown hgrow (by simp) (fun z hz => by cases hz)
    have K5 := fun (k : Nat) (hk : k < W4.heap.size) => b45.block k hk
    have gP5 := (K5 PL hlP).trans G9.out
    have gI5 := (K5 IB hlI).trans HI.out
    have gB5 := (K5 PB (by omega)).trans G1.out
    have S5 : S w5 := by rw [HS.out]; exact hld w5 b45
    refine ⟨fun _ => S5, ?_⟩
    try simp only [List.getElem_toArray, List.getElem_cons_succ, List.getElem_cons_zero, Act.put, List.setIfInBounds_toArray, List.set_cons_zero, List.set_cons_succ]
    refine G_tail rfl (by kernel_rfl) (by kernel_rfl) ?_
    simp only [List.drop_succ_cons, List.drop_zero]
    have k5 := Lib.cell_of_heap gP5 6
    have f5 := Lib.frozen_of_heap gP5 6
    have l5 := (Array.getElem?_eq_some_iff.1 gP5).1
    simp only [List.getElem?_toArray, List.getElem?_cons_zero, List.getElem?_cons_succ] at k5
    go_wp2
    have gP6 := heap_setCell_same w5 PL 6 _ _ (.slice A5 1 cp5) gP5
    have hn6 : (Value.slice A5 (0 + 1) cp5).ownBlock ≠ some PL := by
      intro e
      have := (hown5.lt _ e).1
      omega
    refine ⟨((keepsO_below b45).trans (KeepsOthers.setCell _ _ _)).from _, ⟨by simpa [World.setCell] using b45.size, fun k h1 h2 => (Below.heap_setCell _ _ _ _ (by simpa using h2)).trans (K5 k (by omega))⟩, ?_, ?_, by simpa [World.setCell] using Nat.le_trans g3 b45.size, g4, g5, g6, g7, g8, _, gP6, ?_, fun h => by simp at h⟩
    · exact (Below.heap_setCell _ _ _ _ (by simpa using fun e => g6 e.symm)).trans gB5
    · exact (G2.out.trans (b45.mono (by omega))).setCell (p := ⟨PL, 6, none⟩) (by simpa using g7) _
    · exact hown5.kept (grownBy_setR w5 PL 6 _) (.inr hn6)
  case done =>
    rintro D xs W9 hD rfl hI hK
    obtain ⟨g1, g2, g3, g4, g5, g6, g7, g8, v, g9, g10, _⟩ := hI
    simp only [List.length_cons, List.length_nil, Nat.zero_add, List.replicate_one, List.flatten_cons, List.flatten_nil, List.append_nil] at g10
    obtain ⟨gi, cp9, rfl⟩ := ownsRow_succ (k := 0) g10
    have h19 := own_form g10
    have kp := g1.cell
    have G9 := Lib.hid g9
    clear g9
    gi_wp2
    go_wp2
    refine ⟨by simp, .inl ⟨_, _, rfl, run_takeDeferred hK, ?_⟩⟩
    refine ⟨_, show (results Tryz.f134 _).run Tryz.prog _ = .ok (.pointer (some ⟨PL, 0, none⟩)) _ by simp [results, Tryz.results134, go_sem], ?_⟩
    have hne : PL ≠ D := by omega
    obtain ⟨_, _, e, hc9, hr9⟩ := h19
    cases e
    exact ⟨PL, rfl, ⟨A, c, gi, cp9, _, _, (World.putObj_heap_other hne).trans G9.out, hc9, Rd.of_own (g10.kept (grownBy_putObj' W9 _ _) (.inr (own_ne_obj g10 hK rfl)))⟩, g7, below_put g2 _ (by omega)⟩
  case stop => intro D c' pre W4 _ _ hx _; exact hx.elim
end Go.Proofs.YtffjblamfbmoeaaGreatDoor

/-! Walks: sets of names: with, either; hideAll, Clip at one token. -/
set_option linter.unusedVariables false
set_option linter.unusedSimpArgs false
namespace Go.Proofs.YtffjblamfbmoeaaGreatDoor
open Go Go.RowKit
attribute [local go_sem] Oper.semAt_some

theorem copy0 (g : Nat) (W : World) : (Builtin.copy_ #[245, 245] 3 #[.slice (some ⟨g, 0, none⟩) 1 1, .slice none 0 0]).run Tryz.prog W = .ok (.int .i64 0) W := by kernel_rfl
theorem makeU64 (W : World) : (Instr.makeSlice 245 (.int .i64 1) (.int .i64 1)).run Tryz.prog W = .ok (.slice (some ⟨W.heap.size, 0, none⟩) 1 1) (W.alloc (.cells #[.int .u64 0] 166)) := by kernel_rfl

set_option maxRecDepth 100000 in
set_option maxHeartbeats 8000000 in
theorem with_nil (w : World) : Calls Tryz.prog 124 #[.pointer none, .int .i64 0] w fun e w' => ∃ s, e = .returned (.pointer (some ⟨s, 0, none⟩)) ∧ Below w.heap.size w w' := by
  have HN := Lib.hid (has_nil 0)
  have MU := makeU64
  have wr1 : IntKind.i64.wrap 1 = 1 := by decide
  have CP := copy0
  have wr0 : IntKind.i64.wrap 0 = 0 := by decide
  have mx1 : max (0 : Int) 1 = 1 := by decide
  go_enter Tryz.func124, Tryz.ntmps124
  go_wp2_with (first
    | (go_at_call 135; (with_reducible refine (HN.out _).mono ?_); rintro e w2 ⟨rfl, rfl⟩))
  obtain ⟨w3, hw3⟩ : ∃ w3, w2.alloc (.cells #[.int .u64 0] 166) = w3 := ⟨_, rfl⟩
  have hb3 : Below w2.heap.size w2 w3 := by rw [← hw3]; exact (Below.refl _ _).alloc (Nat.le_refl _) _
  have k3 : w3.heap[w2.heap.size]? = some (.cells #[.int .u64 0] 166) := by rw [← hw3]; exact heap_alloc_new w2 _
  rw [hw3]
  clear hw3
  have z0 := Lib.cell_of_heap k3 0
  have zf := Lib.frozen_of_heap k3 0
  have zl := (Array.getElem?_eq_some_iff.1 k3).1
  simp only [List.getElem?_toArray, List.getElem?_cons_zero, List.getElem?_cons_succ] at z0
  refine wp_region_still_tail 10 (by kernel_rfl) (by kernel_rfl) ?_
  obtain ⟨wd, hwd⟩ : ∃ wd, ({ w3 with drawn := w3.drawn + 1 } : World) = wd := ⟨_, rfl⟩
  have z0' : wd.cell? ⟨w2.heap.size, 0, none⟩ = some (.int .u64 0) := by rw [← hwd]; exact z0
  have zf' : wd.frozen? ⟨w2.heap.size, 0, none⟩ = false := by rw [← hwd]; exact zf
  have hb4 : Below w2.heap.size w2 wd := by rw [← hwd]; exact hb3.drew
  rw [hwd]
  clear hwd z0 zf hb3
  simp only [List.take_succ_cons, List.take_zero, List.drop_succ_cons, List.drop_zero]
  repeat still_step
  refine wpStill_nil ?_
  go_wp2
  go_ret
  exact ⟨_, rfl, (hb4.setCell (p := ⟨w2.heap.size, 0, none⟩) (Nat.le_refl _) _).alloc (by have := hb4.size; simpa [World.setCell] using this) _⟩

set_option maxRecDepth 100000 in
set_option maxHeartbeats 8000000 in
theorem either_nil (s : Option Addr) (w : World) : Calls Tryz.prog 143 #[.pointer none, .pointer s] w fun e w' => e = .returned (.pointer s) ∧ w' = w := by
  go_enter Tryz.func143, Tryz.ntmps143
  go_wp2
  go_ret
  exact ⟨rfl, rfl⟩

set_option maxRecDepth 100000 in
set_option maxHeartbeats 8000000 in
theorem Clip_1 (A : Option Addr) (c : Nat) (w : World) (hc : 1 ≤ c) : Calls Tryz.prog 142 #[.slice A 1 c] w fun e w' => e = .returned (.slice A 1 1) ∧ w' = w := by
  go_enter Tryz.func142, Tryz.ntmps142
  go_wp2
  go_ret
  exact ⟨rfl, rfl⟩

set_option maxRecDepth 100000 in
set_option maxHeartbeats 8000000 in
theorem hideAll_1 (g c : Nat) (s : Option Addr) (w : World) (h4 : w.cell? ⟨g, 4, none⟩ = some (.pointer none)) (hf : w.frozen? ⟨g, 4, none⟩ = false) (hl : g < w.heap.size) :
    Calls Tryz.prog 123 #[.slice (some ⟨g, 0, none⟩) 1 c, .pointer s] w fun e w' => (∃ v, e = .returned v) ∧ w' = w.setCell ⟨g, 4, none⟩ (.pointer s) := by
  have EN := Lib.hid (either_nil s)
  go_enter Tryz.func123, Tryz.ntmps123
  go_wp2
  go_loopw [10] (fun c10 wr => (c10 = .int .i64 0 ∧ wr = w) ∨ (c10 = .int .i64 1 ∧ wr = w.setCell ⟨g, 4, none⟩ (.pointer s))) (fun c _ => 1 - (intOf c).toNat)
  case atStart => exact .inl ⟨rfl, rfl⟩
  case round =>
    rcases hrel with ⟨rfl, rfl⟩ | ⟨rfl, rfl⟩
    · go_wp2_with (first
        | (go_at_call 143; (with_reducible refine (EN.out _).mono ?_); rintro e w2 ⟨rfl, rfl⟩))
      exact ⟨.inr ⟨rfl, trivial⟩, by simp [intOf]⟩
    · go_wp2
      go_end0
      exact ⟨⟨_, rfl⟩, rfl⟩
end Go.Proofs.YtffjblamfbmoeaaGreatDoor

/-! Walks: the macro that X is expanded as, where X -> 1 alone is defined. -/
set_option linter.unusedVariables false
set_option linter.unusedSimpArgs false
namespace Go.Proofs.YtffjblamfbmoeaaGreatDoor
open Go Go.RowKit
attribute [local go_sem] Oper.semAt_some

/-- The macro X -> 1 alone is defined, and nothing is planned. -/
def XM (W : World) (E Mm Mp : Nat) (left : Int) : Prop := Xp W E Mm Mp left ∧ (∃ c2, W.heap[Mp]? = some (.map #[] c2)) ∧ ∃ A c b c1, 1 ≤ c ∧ W.heap[Mm]? = some (.map #[{ key := .string (bs [88]), val := mvX A c, born := b }] c1) ∧ Rd W 4 A 1 (ptcs [xM])

theorem cell_put {W : World} {z : Nat} {o' : Obj} {p : Addr} (h : p.block ≠ z) : (W.putObj z o').cell? p = W.cell? p := by
  unfold World.cell?
  rw [World.putObj_heap_other h]
theorem Rd.put {W : World} {sz : Nat} {A : Option Addr} {n : Nat} {xs : List Value} (h : Rd W sz A n xs) (hs : 0 < sz) {z : Nat} {o : Obj} (o' : Obj) (hl : W.heap[z]? = some o) (ho : o.isCells = false) : Rd (W.putObj z o') sz A n xs := by
  refine ⟨h.1, fun hn => ?_⟩
  obtain ⟨b, o1, e, hlt, hc⟩ := h.2 hn
  have hx : 0 < xs.length := by rw [h.1]; exact Nat.mul_pos hn hs
  have hne : b ≠ z := by
    rintro rfl
    have h0 := hc 0 xs[0] (List.getElem?_eq_getElem hx)
    unfold World.cell? at h0
    simp only [hl] at h0
    cases o <;> simp_all [Obj.isCells]
  exact ⟨b, o1, e, by simpa using hlt, fun j u hj => (cell_put hne).trans (hc j u hj)⟩
theorem PlanAt.put {W : World} {PL : Nat} (h : PlanAt W PL) {z : Nat} {o : Obj} (o' : Obj) (hl : W.heap[z]? = some o) (ho : o.isCells = false) : PlanAt (W.putObj z o') PL := by
  obtain ⟨A, c, gi, ci, U, cu, h1, h2, h3⟩ := h
  refine ⟨A, c, gi, ci, U, cu, (World.putObj_heap_other ?_).trans h1, h2, h3.put (by decide) o' hl ho⟩
  rintro rfl
  rw [h1] at hl; cases hl; cases ho

set_option maxRecDepth 100000 in
set_option maxHeartbeats 8000000 in
theorem called_X (E Mm Mp : Nat) (left : Int) (ps : Bool) (w : World) (h : XM w E Mm Mp left) :
    Calls Tryz.prog 118 #[.pointer (some ⟨E, 0, none⟩), .agg #[.int .i64 1, .string (bs [88]), .bool ps, .slice none 0 0, .pointer none]] w fun e w' =>
      ∃ PL, e = .returned (.pointer (some ⟨PL, 0, none⟩)) ∧ PlanAt w' PL ∧ w.heap.size ≤ PL ∧ KpB Mp w.heap.size w w' ∧ ∀ m, m ≤ Mp → m ≤ w.heap.size → Below m w w' := by
  obtain ⟨hX, ⟨c2, h2⟩, A, c, bn, c1, hc, h1, hr⟩ := h
  obtain ⟨w0, hw0⟩ : ∃ w0, w.alloc (.cells #[.int .i64 1, .string (bs [88]), .bool ps, .slice none 0 0, .pointer none] 184) = w0 := ⟨_, rfl⟩
  have hB : Below w.heap.size w w0 := by rw [← hw0]; exact (Below.refl _ _).alloc (Nat.le_refl _) _
  have hs0 : w0.heap.size = w.heap.size + 1 := by rw [← hw0]; simp
  have hq : w0.heap[w.heap.size]? = some (.cells #[.int .i64 1, .string (bs [88]), .bool ps, .slice none 0 0, .pointer none] 184) := by rw [← hw0]; exact heap_alloc_new w _
  have u0 := Lib.cell_of_heap hq 0
  have u1 := Lib.cell_of_heap hq 1
  have u4 := Lib.cell_of_heap hq 4
  simp only [List.getElem?_toArray, List.getElem?_cons_zero, List.getElem?_cons_succ] at u0 u1 u4
  obtain ⟨x0, x1, x2, x3, x4⟩ := (hX.below hB).cells
  have m1 := (hB.block Mm (Array.getElem?_eq_some_iff.1 h1).1).trans h1
  have m2 := (hB.block Mp (Array.getElem?_eq_some_iff.1 h2).1).trans h2
  have L2 := fun n : Nat => map_none (x := bs [88]) Tryz.underlying185 Tryz.underlying9 (zeroPlan (w0.drewN n)) (show (w0.drewN n).heap[Mp]? = _ from m2)
  have L20 := L2 0
  have HW := Lib.hid hw0
  have HB := Lib.hid hB
  have M1 := Lib.hid m1
  have M2 := Lib.hid m2
  have HQ := Lib.hid hq
  have HS0 := Lib.hid hs0
  have HR := Lib.hid hr
  have lm : Mp < w.heap.size := (Array.getElem?_eq_some_iff.1 h2).1
  clear hw0 hB hq m1 m2 hX h1 h2 hs0 hr
  go_enter Tryz.func118, Tryz.ntmps118
  go_wp2
  rw [HW.out]
  go_quiet (fail)
  go_wp2
  have hml := (Array.getElem?_eq_some_iff.1 M1.out).1
  have LG := fun (W' : World) (h : W'.heap[Mm]? = some (.map #[{ key := .string (bs [88]), val := mvX A c, born := bn }] c1)) => map_hit (P := Tryz.prog) (x := bs [88]) Tryz.underlying62 Tryz.underlying9 h
  clear L2 L20
  obtain ⟨w1, hw1⟩ : ∃ w1, w0.drewN nq = w1 := ⟨_, rfl⟩
  have x0' : w1.cell? ⟨E, 0, none⟩ = some (.map (some Mm)) := by rw [← hw1]; exact x0
  have x1' : w1.cell? ⟨E, 1, none⟩ = some (.map (some Mp)) := by rw [← hw1]; exact x1
  have M2' := Lib.hid (show w1.heap[Mp]? = some (.map #[] c2) by rw [← hw1]; exact M2.out)
  have ll4 : Mp < w1.heap.size := (Array.getElem?_eq_some_iff.1 M2'.out).1
  have u4' : w1.cell? ⟨w.heap.size, 4, none⟩ = some (.pointer none) := by rw [← hw1]; exact u4
  have u1' : w1.cell? ⟨w.heap.size, 1, none⟩ = some (.string (bs [88])) := by rw [← hw1]; exact u1
  have m1' : w1.heap[Mm]? = some (.map #[{ key := .string (bs [88]), val := mvX A c, born := bn }] c1) := by rw [← hw1]; exact M1.out
  have hB1 : Below w.heap.size w w1 := by rw [← hw1]; exact below_drewN HB.out nq
  have ll1 : w.heap.size < w1.heap.size := by rw [← hw1]; exact (Array.getElem?_eq_some_iff.1 HQ.out).1
  have ll2 : E < w1.heap.size := by rw [← hw1]; exact x4
  have ll3 : Mm < w1.heap.size := by rw [← hw1]; exact hml
  rw [hw1]
  have HB1 := Lib.hid hB1
  clear hw1 x0 u1 hB1
  unfold mvX at LG m1'
  go_region_held3 (fun w' => w'.cell? ⟨E, 0, none⟩ = some (.map (some Mm)) ∧ w'.cell? ⟨w.heap.size, 1, none⟩ = some (.string (bs [88])) ∧ w'.heap[Mm]? = some (.map #[{ key := .string (bs [88]), val := .agg #[.string (bs [88]), .bool false, .slice none 0 0, .bool false, .slice A 1 c], born := bn }] c1)) (first | ((try dsimp only); (refine ⟨?_, ?_, ?_⟩ <;> first | (exact m1') | (exact (Below.heap_alloc w1.drew _ _ ll3).trans m1') | go_keep))) (fail)
  all_goals
    obtain ⟨w2, hw2⟩ : ∃ w2, (w1.alloc (.cells #[.string (bs [88]), .bool false, .slice none 0 0, .bool false, .slice A 1 c] 25)).drew = w2 := ⟨_, rfl⟩
    rw [hw2]
    have hb2 : Below w1.heap.size w1 w2 := by rw [← hw2]; exact ((Below.refl _ _).alloc (Nat.le_refl _) _).drew
    have q2 : w2.heap[w1.heap.size]? = some (.cells #[.string (bs [88]), .bool false, .slice none 0 0, .bool false, .slice A 1 c] 25) := by rw [← hw2]; exact heap_alloc_new w1 _
    have hs2 : w1.heap.size < w2.heap.size := (Array.getElem?_eq_some_iff.1 q2).1
    have s0 := Lib.cell_of_heap q2 0
    have s1 := Lib.cell_of_heap q2 1
    have s2 := Lib.cell_of_heap q2 2
    have s3 := Lib.cell_of_heap q2 3
    have s4 := Lib.cell_of_heap q2 4
    simp only [List.getElem?_toArray, List.getElem?_cons_zero, List.getElem?_cons_succ] at s0 s1 s2 s3 s4
    have HB2 := Lib.hid (HB1.out.trans (hb2.mono HB1.out.size))
    have e1 := (hb2.cell (p := ⟨E, 1, none⟩) ll2).trans x1'
    have m2 := (hb2.block Mp ll4).trans M2'.out
    have ML := fun (W : World) (h : W.heap[Mp]? = some (.map #[] c2)) => map_len (P := Tryz.prog) Tryz.underlying185 3 h
    have KEEP := Lib.hid (show ∀ w', Below w2.heap.size w2 w' → w'.cell? ⟨w1.heap.size, 0, none⟩ = some (.string (bs [88])) ∧ w'.cell? ⟨w1.heap.size, 1, none⟩ = some (.bool false) ∧ w'.cell? ⟨w1.heap.size, 2, none⟩ = some (.slice none 0 0) ∧ w'.cell? ⟨w1.heap.size, 3, none⟩ = some (.bool false) ∧ w'.cell? ⟨w1.heap.size, 4, none⟩ = some (.slice A 1 c) ∧ w'.cell? ⟨E, 1, none⟩ = some (.map (some Mp)) ∧ w'.heap[Mp]? = some (.map #[] c2) from fun w' hb =>
      ⟨(hb.cell (p := ⟨w1.heap.size, 0, none⟩) hs2).trans s0, (hb.cell (p := ⟨w1.heap.size, 1, none⟩) hs2).trans s1, (hb.cell (p := ⟨w1.heap.size, 2, none⟩) hs2).trans s2, (hb.cell (p := ⟨w1.heap.size, 3, none⟩) hs2).trans s3, (hb.cell (p := ⟨w1.heap.size, 4, none⟩) hs2).trans s4, (hb.cell (p := ⟨E, 1, none⟩) (show E < w2.heap.size by omega)).trans e1, (hb.block Mp (by omega)).trans m2⟩)
    have hbd : Below w.heap.size w w2.drew := HB2.out.drew
    have PN := Lib.hid (planned_X A c w2.drew hc (HR.out.later hbd))
    unfold mvX at PN
    have r4 := (hb2.cell (p := ⟨w.heap.size, 1, none⟩) ll1).trans u1'
    have r5 := (hb2.cell (p := ⟨w.heap.size, 4, none⟩) ll1).trans u4'
    have hsw := HB2.out.size
    clear hw2 hb2 q2
    go_wp2
    go_region_held3 (fun w' => w'.cell? ⟨w1.heap.size, 0, none⟩ = some (.string (bs [88])) ∧ w'.cell? ⟨w1.heap.size, 1, none⟩ = some (.bool false) ∧ w'.cell? ⟨w1.heap.size, 2, none⟩ = some (.slice none 0 0) ∧ w'.cell? ⟨w1.heap.size, 3, none⟩ = some (.bool false) ∧ w'.cell? ⟨w1.heap.size, 4, none⟩ = some (.slice A 1 c) ∧ w'.cell? ⟨E, 1, none⟩ = some (.map (some Mp)) ∧ w'.heap[Mp]? = some (.map #[] c2)) (first | ((try dsimp only); (refine KEEP.out _ ?_); (first | (exact (Below.refl _ _).drew) | (assumption) | (exact (Below.refl _ _).drew.trans (by assumption))))) ((first | (go_at_call 134; (with_reducible refine PN.out.mono ?_); rintro e w4 ⟨PL, rfl, hPL1, hPL2, hPL3⟩)))
    have hb4 : Below w2.heap.size w2 w4 := (Below.refl _ _).drew.trans hPL3
    obtain ⟨_, _, _, _, _, e1', e2'⟩ := KEEP.out w4 hb4
    have r4' := (hb4.cell (p := ⟨w.heap.size, 1, none⟩) (show w.heap.size < w2.heap.size by omega)).trans r4
    have r5' := (hb4.cell (p := ⟨w.heap.size, 4, none⟩) (show w.heap.size < w2.heap.size by omega)).trans r5
    have hl4 : w.heap.size < w4.heap.size := by have := hb4.size; omega
    have hlp4 : Mp < w4.heap.size := (Array.getElem?_eq_some_iff.1 e2').1
    have hd2 : w2.drew.heap.size = w2.heap.size := rfl
    have hPLs : w2.heap.size ≤ PL := hPL2
    have HPL1 := Lib.hid hPL1
    have HB4 := Lib.hid hb4
    clear hPL1 hPL2 hPL3 PN KEEP s0 s1 s2 s3 s4 ML LG hb4
    go_wp2
    refine wp_region_still_tail 8 (by kernel_rfl) (by kernel_rfl) ?_
    obtain ⟨w5, hw5⟩ : ∃ w5, ({ w4 with drawn := w4.drawn + 1 } : World) = w5 := ⟨_, rfl⟩
    have j1 : w5.cell? ⟨E, 1, none⟩ = some (.map (some Mp)) := by rw [← hw5]; exact e1'
    have j2 : w5.cell? ⟨w.heap.size, 1, none⟩ = some (.string (bs [88])) := by rw [← hw5]; exact r4'
    have j3 : w5.cell? ⟨w.heap.size, 4, none⟩ = some (.pointer none) := by rw [← hw5]; exact r5'
    have j4 := Lib.hid (show w5.heap[Mp]? = some (.map #[] c2) by rw [← hw5]; exact e2')
    have j5 := Lib.hid (show Below w2.heap.size w2 w5 by rw [← hw5]; exact HB4.out.drew)
    have j6 := Lib.hid (show PlanAt w5 PL by rw [← hw5]; exact HPL1.out.below (Below.refl _ _).drew)
    rw [hw5]
    clear hw5 e1' r4' r5' e2' HPL1
    simp only [List.take_succ_cons, List.take_zero, List.drop_succ_cons, List.drop_zero]
    repeat still_step
    refine wpStill_nil ?_
    refine wpList_mapUpdate_run w5 _ rfl (.tmp 49) (.tmp 52) (.tmp 53) 185 rfl (.map (some Mp)) (.string (bs [88])) (.pointer (some ⟨PL, 0, none⟩)) rfl rfl rfl (map_put Tryz.underlying185 Tryz.underlying9 j4.out) ?_
    simp only [Act.put]
    obtain ⟨w6, hw6⟩ : ∃ w6, w5.putObj Mp (.map #[{ key := .string (bs [88]), val := .pointer (some ⟨PL, 0, none⟩), born := c2 }] (c2 + 1)) = w6 := ⟨_, rfl⟩
    have hsz5 := j5.out.size
    have p6 := j6.out.put (.map #[{ key := .string (bs [88]), val := .pointer (some ⟨PL, 0, none⟩), born := c2 }] (c2 + 1)) j4.out rfl
    have k6 := (cell_put (W := w5) (o' := .map #[{ key := .string (bs [88]), val := .pointer (some ⟨PL, 0, none⟩), born := c2 }] (c2 + 1)) (p := ⟨w.heap.size, 4, none⟩) (show w.heap.size ≠ Mp by omega)).trans j3
    have kp6 : KpB Mp w.heap.size w w6 := by
      have hb := HB2.out.trans (j5.out.mono (by omega))
      rw [← hw6]
      exact ⟨by simpa using hb.size, fun k h1 h2 => (World.putObj_heap_other h2).trans (hb.block k h1)⟩
    have bl6 : ∀ m, m ≤ Mp → m ≤ w.heap.size → Below m w w6 := fun m h1 h2 => by
      have hb := (HB2.out.trans (j5.out.mono (by omega))).mono h2
      rw [← hw6]
      exact hb.trans ⟨rfl, rfl, rfl, by simp, fun k hk => World.putObj_heap_other (by omega)⟩
    rw [hw6] at p6 k6 ⊢
    clear hw6 j1 j2 j3
    have HP6 := Lib.hid p6
    have HK6 := Lib.hid kp6
    have HBL := Lib.hid bl6
    obtain ⟨A7, c7, gi, ci, U, cu, q1, _, _⟩ := p6
    have n5 := Lib.cell_of_heap q1 5
    simp only [List.getElem?_toArray, List.getElem?_cons_zero, List.getElem?_cons_succ] at n5
    have HN := Lib.hid (has_nil 0)
    clear q1 kp6 bl6
    have G2 := Lib.hid (show w6.drew.cell? ⟨w.heap.size, 4, none⟩ = some (.pointer none) ∧ w6.drew.cell? ⟨PL, 5, none⟩ = some (.int .i64 0) from ⟨k6, n5⟩)
    go_wp2
    go_region_held3 (fun w' => w'.cell? ⟨w.heap.size, 4, none⟩ = some (.pointer none) ∧ w'.cell? ⟨PL, 5, none⟩ = some (.int .i64 0)) (exact G2.out) ((first | (go_at_call 135; (with_reducible refine (HN.out _).mono ?_); rintro e w7 ⟨rfl, rfl⟩)))
    all_goals
      go_wp2
      go_ret
      exact ⟨PL, rfl, HP6.out.below (Below.refl _ _).drew, by omega, ⟨HK6.out.1, HK6.out.2⟩, fun m h1 h2 => (HBL.out m h1 h2).drew⟩
end Go.Proofs.YtffjblamfbmoeaaGreatDoor

/-! Walks: a macro's body, filled, at X -> 1: add, fill. -/
set_option linter.unusedVariables false
set_option linter.unusedSimpArgs false
namespace Go.Proofs.YtffjblamfbmoeaaGreatDoor
open Go Go.RowKit
attribute [local go_sem] Oper.semAt_some

theorem cells_add {w : World} {b : Nat} {l : List Value} {T : TypeId} (h : w.heap[b]? = some (.cells l.toArray T (0, 0))) : ∀ j u, l[j]? = some u → w.cell? ((⟨b, 0, none⟩ : Addr).add j) = some u := by
  intro j u hj
  have := Lib.cell_of_heap h j
  simp only [List.getElem?_toArray, hj] at this
  by_cases h0 : j = 0
  · subst h0; simpa [Addr.add] using this
  · simpa [Addr.add, h0] using this
/-- A token with the Space given. -/
def t1c (sp : Bool) : List Value := [.int .i64 2, .string (bs [49]), .bool sp, .slice none 0 0, .pointer none]

set_option maxRecDepth 100000 in
set_option maxHeartbeats 8000000 in
theorem add_1 (FB tg : Nat) (left : Int) (sp : Bool) (w : World) (hF : w.heap[FB]? = some (.cells #[.slice none 0 0, .int .i64 0, .int .i64 left, .bool false] 253 (0, 0)))
    (ht : w.heap[tg]? = some (.cells (t1c false).toArray 184 (0, 0))) (hl : 1 ≤ left) (hne : FB ≠ tg) :
    Calls Tryz.prog 140 #[.pointer (some ⟨FB, 0, none⟩), .slice (some ⟨tg, 0, none⟩) 1 1, .bool sp] w fun e w' => (∃ v, e = .returned v) ∧
      ∃ g c, w'.heap[FB]? = some (.cells #[.slice (some ⟨g, 0, none⟩) 1 c, .int .i64 1, .int .i64 left, .bool true] 253 (0, 0)) ∧ 1 ≤ c ∧ w'.ownsRow w.heap.size 184 5 (.slice (some ⟨g, 0, none⟩) 1 c) 1 (t1c sp) ∧ KpB FB w.heap.size w w' ∧ ∀ m, m ≤ FB → m ≤ w.heap.size → Below m w w' := by
  obtain ⟨i0, hi, hz0, hz1, hz2⟩ := info_parts txInfo
  have wr1 : IntKind.i64.wrap (0 + 1) = 1 := by decide
  have c0 := Lib.cell_of_heap hF 0
  have c1 := Lib.cell_of_heap hF 1
  have c2 := Lib.cell_of_heap hF 2
  have c3 := Lib.cell_of_heap hF 3
  have f1 := Lib.frozen_of_heap hF 1
  have f3 := Lib.frozen_of_heap hF 3
  have fl := (Array.getElem?_eq_some_iff.1 hF).1
  simp only [List.getElem?_toArray, List.getElem?_cons_zero, List.getElem?_cons_succ] at c0 c1 c2 c3
  have HF := Lib.hid hF
  have HT := Lib.hid ht
  have hgt : decide (left < 1) = false := by simp; omega
  clear hF ht
  go_enter Tryz.func140, Tryz.ntmps140
  go_wp2
  obtain ⟨w2, hw2⟩ : ∃ w2, (w.setCell ⟨FB, 1, none⟩ (.int .i64 1)).setCell ⟨FB, 3, none⟩ (.bool true) = w2 := ⟨_, rfl⟩
  rw [hw2]
  have k2 : w2.heap[FB]? = some (.cells #[.slice none 0 0, .int .i64 1, .int .i64 left, .bool true] 253 (0, 0)) := by rw [← hw2]; exact heap_setCell_same _ _ 3 _ _ _ (heap_setCell_same _ _ 1 _ _ _ HF.out)
  have s2 : w2.heap.size = w.heap.size := by rw [← hw2]; simp [World.setCell]
  have t2 : w2.heap[tg]? = some (.cells (t1c false).toArray 184 (0, 0)) := by rw [← hw2]; exact (Below.heap_setCell _ _ _ _ (by simpa using fun e => hne e.symm)).trans ((Below.heap_setCell _ _ _ _ (by simpa using fun e => hne e.symm)).trans HT.out)
  have kp2 : KpB FB w.heap.size w w2 := by rw [← hw2]; exact ⟨by simp [World.setCell], fun k h1 h2 => (Below.heap_setCell _ _ _ _ (by simpa using h2)).trans (Below.heap_setCell _ _ _ _ (by simpa using h2))⟩
  have bl2 : ∀ m, m ≤ FB → m ≤ w.heap.size → Below m w w2 := fun m h1 h2 => by rw [← hw2]; exact ((Below.refl m w).setCell (p := ⟨FB, 1, none⟩) h1 _).setCell (p := ⟨FB, 3, none⟩) h1 _
  clear hw2 c0 c1 c2 c3 f1 f3
  have c0 := Lib.cell_of_heap k2 0
  have c1 := Lib.cell_of_heap k2 1
  have c2 := Lib.cell_of_heap k2 2
  have f0 := Lib.frozen_of_heap k2 0
  have l2 := (Array.getElem?_eq_some_iff.1 k2).1
  simp only [List.getElem?_toArray, List.getElem?_cons_zero, List.getElem?_cons_succ] at c0 c1 c2
  have K2 := Lib.hid k2
  have T2 := Lib.hid t2
  have KP2 := Lib.hid kp2
  have BL2 := Lib.hid bl2
  clear k2 t2 kp2 bl2
  go_quiet (fail)
  obtain ⟨w3, hw3⟩ : ∃ w3, w2.drewN nq = w3 := ⟨_, rfl⟩
  have b3 : Below w2.heap.size w2 w3 := by rw [← hw3]; exact below_drewN (Below.refl _ _) nq
  have s3 : w3.heap.size = w2.heap.size := by rw [← hw3]; rfl
  have hb23 := Lib.hid (fun (k : Nat) (hk : k < w2.heap.size) => b3.block k hk)
  rw [hw3]
  clear hw3
  have k3 := Lib.hid ((b3.block FB l2).trans K2.out)
  have t3 := Lib.hid ((b3.block tg (Array.getElem?_eq_some_iff.1 T2.out).1).trans T2.out)
  have d0 := (b3.cell (p := ⟨FB, 0, none⟩) l2).trans c0
  clear c0 c1 c2
  go_wp2_with (first
    | (at_builtin
       (refine wpList_append_own _ rfl _ _ 177 rfl w3.heap.size 184 i0 _ 5 64 Tryz.underlying177 hi hz0 hz1 hz2 rfl (by decide) (.slice none 0 0) 0 [] rfl (World.ownsRow_nil _ _ _ _) ⟨tg, 0, none⟩ 1 1 (t1c false) rfl rfl (cells_add t3.out) (by simp [t1c, Value.oneCell']) (by unfold maxLen; omega) (by omega) (Nat.le_refl _) ?_)
       intro v' w4 hown hgrow hnil
       obtain ⟨g, c, rfl⟩ := ownsRow_succ (k := 0) hown
       have k4 := (hgrow.block FB (by omega) (by simp [Value.ownBlock])).trans k3.out
       have y0 := Lib.cell_of_heap k4 0
       have yf := Lib.frozen_of_heap k4 0
       have yl := (Array.getElem?_eq_some_iff.1 k4).1
       simp only [List.getElem?_toArray, List.getElem?_cons_zero, List.getElem?_cons_succ] at y0
       have K4 := Lib.hid k4
       have HG := Lib.hid hgrow
       have HO := Lib.hid hown
       clear k4 hgrow hown hnil))
  have gz := HO.out.lt g rfl
  have b34 : Below w3.heap.size w3 w4 := (Below.refl _ _).grown HG.out (Nat.le_refl _) (fun z hz => by cases hz)
  obtain ⟨w5, hw5⟩ : ∃ w5, w4.setCell ⟨FB, 0, none⟩ (.slice (some ⟨g, 0, none⟩) 1 c) = w5 := ⟨_, rfl⟩
  rw [hw5]
  have k5 : w5.heap[FB]? = some (.cells #[.slice (some ⟨g, 0, none⟩) 1 c, .int .i64 1, .int .i64 left, .bool true] 253 (0, 0)) := by rw [← hw5]; exact heap_setCell_same _ _ 0 _ _ _ K4.out
  have o5 : w5.ownsRow w3.heap.size 184 5 (.slice (some ⟨g, 0, none⟩) 1 c) 1 (t1c false) := by rw [← hw5]; exact HO.out.kept (grownBy_setR w4 FB 0 _) (.inr (by simp [Value.ownBlock]; omega))
  have s5 : w5.heap.size = w4.heap.size := by rw [← hw5]; simp [World.setCell]
  have h5 : ∀ k, k < w3.heap.size → k ≠ FB → w5.heap[k]? = w3.heap[k]? := fun k h1 h2 => by rw [← hw5]; exact (Below.heap_setCell _ _ _ _ (by simpa using h2)).trans (b34.block k h1)
  have bl5 : ∀ m, m ≤ FB → m ≤ w.heap.size → Below m w w5 := fun m h1 h2 => by
    rw [← hw5]
    exact (((BL2.out m h1 h2).trans ((b3.mono (by omega)).trans (b34.mono (by omega)))).setCell (p := ⟨FB, 0, none⟩) h1 _)
  have BL5 := Lib.hid bl5
  have H5 := Lib.hid h5
  have x0 := Lib.cell_of_heap k5 0
  have xg : w5.cell? ⟨g, 2, none⟩ = some (.bool false) := o5.cellAt 2 (by omega)
  have xf := o5.frozenAt 2
  have xl := (o5.lt g rfl).2
  simp only [List.getElem?_toArray, List.getElem?_cons_zero, List.getElem?_cons_succ] at x0
  have K5 := Lib.hid k5
  have O5 := Lib.hid o5
  have wr0 : IntKind.i64.wrap (1 - 1) = 0 := by decide
  have wr0' : IntKind.i64.wrap 0 = 0 := by decide
  have hgF : g ≠ FB := by omega
  have s45 := b34.size
  have s24 := b3.size
  clear hw5 k5 o5 h5 bl5 y0 yf yl HG HO K4 b34 d0 b3
  refine wp_region_still_tail 15 (by kernel_rfl) (by kernel_rfl) ?_
  obtain ⟨wd, hwd⟩ : ∃ wd, ({ w5 with drawn := w5.drawn + 1 } : World) = wd := ⟨_, rfl⟩
  have x0' : wd.cell? ⟨FB, 0, none⟩ = some (.slice (some ⟨g, 0, none⟩) 1 c) := by rw [← hwd]; exact x0
  have xg' : wd.cell? ⟨g, 2, none⟩ = some (.bool false) := by rw [← hwd]; exact xg
  have xf' : wd.frozen? ⟨g, 2, none⟩ = false := by rw [← hwd]; exact xf
  have xl' : g < wd.heap.size := by rw [← hwd]; exact xl
  have bd : Below w5.heap.size w5 wd := by rw [← hwd]; exact (Below.refl _ _).drew
  have sd : wd.heap.size = w5.heap.size := by rw [← hwd]
  rw [hwd]
  clear hwd x0 xg xf
  simp only [List.take_succ_cons, List.take_zero, List.drop_succ_cons, List.drop_zero]
  repeat still_step
  refine wpStill_nil ?_
  go_wp2
  go_end0
  have o6 := ((own_later O5.out bd).stored 2 (.bool sp)).1
  rw [show (t1c false).set 2 (.bool sp) = t1c sp from rfl] at o6
  have hc1 : 1 ≤ c := by obtain ⟨_, _, e, h1, _⟩ := own_form o6; cases e; exact h1
  refine ⟨⟨_, rfl⟩, g, c, (Below.heap_setCell _ _ _ _ (by simpa using fun e : FB = g => hgF e.symm)).trans ((bd.block FB (by omega)).trans K5.out), hc1, own_base o6 (by omega), ⟨by simp [World.setCell]; omega, fun k h1 h2 => ?_⟩, fun m h1 h2 => ?_⟩
  · exact (Below.heap_setCell _ _ _ _ (by simp; omega)).trans ((bd.block k (by omega)).trans ((H5.out k (by omega) h2).trans (by have := (KP2.out.2 k h1 h2); rw [← this]; exact hb23.out k (by omega))))
  · exact ((BL5.out m h1 h2).trans (bd.mono (by omega))).setCell (p := ⟨g, 2, none⟩) (by simp; omega) _
end Go.Proofs.YtffjblamfbmoeaaGreatDoor

/-! Walks: a macro's body, filled, at X -> 1: fill. -/
set_option linter.unusedVariables false
set_option linter.unusedSimpArgs false
namespace Go.Proofs.YtffjblamfbmoeaaGreatDoor
open Go Go.RowKit
attribute [local go_sem] Oper.semAt_some

theorem makeArg (W : World) : (Instr.makeSlice 249 (.int .i64 0) (.int .i64 0)).run Tryz.prog W = .ok (.slice (some ⟨W.heap.size, 0, none⟩) 0 0) (W.alloc (.cells #[] 251)) := by kernel_rfl

set_option maxRecDepth 100000 in
set_option maxHeartbeats 8000000 in
theorem fill_X (E Mm Mp PL : Nat) (left : Int) (w : World) (hX : Xp w E Mm Mp left) (hP : PlanAt w PL) (hl : 2 ≤ left ∧ left ≤ 65536) :
    Calls Tryz.prog 122 #[.pointer (some ⟨E, 0, none⟩), .pointer (some ⟨PL, 0, none⟩), .slice none 0 0] w fun e w' =>
      ∃ g c, e = .returned (.tuple #[.slice (some ⟨g, 0, none⟩) 1 1, .int .i64 0]) ∧ w'.ownsRow w.heap.size 184 5 (.slice (some ⟨g, 0, none⟩) 1 c) 1 (t1c false) ∧ KpB E w.heap.size w w' ∧ ∀ m, m ≤ E → m ≤ w.heap.size → Below m w w' := by
  have MA := makeArg
  have HX := Lib.hid hX
  have HP := Lib.hid hP
  go_enter Tryz.func122, Tryz.ntmps122
  go_wp2
  obtain ⟨w1, hw1⟩ : ∃ w1, w.alloc (.cells #[] 251) = w1 := ⟨_, rfl⟩
  have b1 : Below w.heap.size w w1 := by rw [← hw1]; exact (Below.refl _ _).alloc (Nat.le_refl _) _
  have s1 : w1.heap.size = w.heap.size + 1 := by rw [← hw1]; simp
  rw [hw1]
  have S1 := Lib.hid s1
  clear hw1 s1
  go_loopw [24] (fun c24 wr => c24 = .int .i64 0 ∧ wr = w1) (fun _ _ => 0)
  case atStart => exact ⟨rfl, rfl⟩
  case round =>
    obtain ⟨rfl, rfl⟩ := hrel
    obtain ⟨x0, x1, x2, xf2, x4⟩ := (HX.out.below b1).cells
    obtain ⟨A, c, gi, ci, U, cu, q1, q2, q3⟩ := HP.out.below b1
    have p6 := Lib.cell_of_heap q1 6
    have pl := (Array.getElem?_eq_some_iff.1 q1).1
    simp only [List.getElem?_toArray, List.getElem?_cons_zero, List.getElem?_cons_succ] at p6
    have Q1 := Lib.hid q1
    have Q3 := Lib.hid q3
    clear q1 q3
    go_wp2
    obtain ⟨w2, hw2⟩ : ∃ w2, wr.alloc (.cells #[.slice none 0 0, .int .i64 0, .int .i64 left, .bool false] 253) = w2 := ⟨_, rfl⟩
    rw [hw2]
    have b2 : Below wr.heap.size wr w2 := by rw [← hw2]; exact (Below.refl _ _).alloc (Nat.le_refl _) _
    have kF : w2.heap[wr.heap.size]? = some (.cells #[.slice none 0 0, .int .i64 0, .int .i64 left, .bool false] 253) := by rw [← hw2]; exact heap_alloc_new wr _
    have s2 : wr.heap.size < w2.heap.size := (Array.getElem?_eq_some_iff.1 kF).1
    have r3 := Q3.out.later b2
    have hX2 := HX.out.below b1
    have hX2 := Lib.hid (hX2.below b2)
    have bb2 := Lib.hid (b1.trans (b2.mono b1.size))
    have hFw := b1.size
    have hEw := HX.out.cells.2.2.2.2
    obtain ⟨b, o, e, hbl, hgc⟩ := r3.2 (by omega)
    cases e
    have g0 := hgc 0 _ rfl
    have g1 := hgc 1 _ rfl
    have g2 := hgc 2 _ rfl
    have g3 := hgc 3 _ rfl
    have g4 := hgc 4 _ rfl
    have g5 := hgc 5 _ rfl
    have g6 := hgc 6 _ rfl
    have g7 := hgc 7 _ rfl
    obtain ⟨F, hF⟩ : ∃ F, wr.heap.size = F := ⟨_, rfl⟩
    rw [hF] at kF s2 hFw ⊢
    have HFe := Lib.hid hF
    have KF := Lib.hid kF
    clear hw2 hF kF r3 hgc x0 x1 x2 xf2 x4 p6 pl
    go_loopw [66] (fun c66 wq => (c66 = .int .i64 0 ∧ wq = w2) ∨ (c66 = .int .i64 1 ∧ ∃ g c, wq.heap[F]? = some (.cells #[.slice (some ⟨g, 0, none⟩) 1 c, .int .i64 1, .int .i64 left, .bool true] 253 (0, 0)) ∧ 1 ≤ c ∧ wq.ownsRow w2.heap.size 184 5 (.slice (some ⟨g, 0, none⟩) 1 c) 1 (t1c false) ∧ KpB F w2.heap.size w2 wq ∧ ∀ m, m ≤ F → m ≤ w2.heap.size → Below m w2 wq)) (fun c66 _ => 1 - (intOf c66).toNat)
    case atStart => exact .inl ⟨rfl, rfl⟩
    case round =>
      rcases hrel with ⟨rfl, rfl⟩ | ⟨rfl, g, c', kg, hc', og, kpg, blg⟩
      · have kF := KF.out
        have k3 := Lib.cell_of_heap kF 3
        have kf3 := Lib.frozen_of_heap kF 3
        simp only [List.getElem?_toArray, List.getElem?_cons_zero, List.getElem?_cons_succ] at k3
        obtain ⟨wv, hwv⟩ : ∃ wv, wr.setCell ⟨F, 3, none⟩ (.bool false) = wv := ⟨_, rfl⟩
        have sv : wv.heap.size = wr.heap.size := by rw [← hwv]; simp [World.setCell]
        have kFv : wv.heap[F]? = some (.cells #[.slice none 0 0, .int .i64 0, .int .i64 left, .bool false] 253 (0, 0)) := by rw [← hwv]; exact heap_setCell_same _ _ 3 _ _ _ kF
        have bv : ∀ m, m ≤ F → Below m wr wv := fun m h1 => by rw [← hwv]; exact (Below.refl m wr).setCell (p := ⟨F, 3, none⟩) h1 _
        have hv : ∀ k, k ≠ F → wv.heap[k]? = wr.heap[k]? := fun k h => by rw [← hwv]; exact Below.heap_setCell _ _ _ _ (by simpa using h)
        obtain ⟨w3, hw3⟩ : ∃ w3, (wv.alloc (.cells #[.int .i64 2, .string (bs [49]), .bool false, .slice none 0 0, .int .i64 (-1), .bool false, .bool false, .bool false] 255)).alloc (.cells #[.int .i64 2, .string (bs [49]), .bool false, .slice none 0 0, .pointer none] 184) = w3 := ⟨_, rfl⟩
        have b3 : KpB F wr.heap.size wr w3 := by
          rw [← hw3]
          exact ⟨by simp; omega, fun k h1 h2 => (Below.heap_alloc _ _ _ (by simp; omega)).trans ((Below.heap_alloc _ _ _ (by omega)).trans (hv k h2))⟩
        have bl3 : ∀ m, m ≤ F → m ≤ wr.heap.size → Below m wr w3 := fun m h1 h2 => by
          rw [← hw3]
          exact ((bv m h1).alloc (by omega) _).alloc (by simp; omega) _
        have s3 : wr.heap.size < w3.heap.size := by rw [← hw3]; simp; omega
        have kF3 : w3.heap[F]? = some (.cells #[.slice none 0 0, .int .i64 0, .int .i64 left, .bool false] 253 (0, 0)) := by
          rw [← hw3]
          exact (Below.heap_alloc _ _ _ (by simp; omega)).trans ((Below.heap_alloc _ _ _ (by omega)).trans kFv)
        have kT3 : w3.heap[wr.heap.size + 1]? = some (.cells (t1c false).toArray 184 (0, 0)) := by
          rw [← hw3]
          have := heap_alloc_new (wv.alloc (.cells #[.int .i64 2, .string (bs [49]), .bool false, .slice none 0 0, .int .i64 (-1), .bool false, .bool false, .bool false] 255)) (.cells #[.int .i64 2, .string (bs [49]), .bool false, .slice none 0 0, .pointer none] 184)
          rw [World.size_alloc, sv] at this
          exact this
        have AD := Lib.hid (add_1 F (wr.heap.size + 1) left false w3 kF3 kT3 (by omega) (by omega))
        have B3 := Lib.hid b3
        have BL3 := Lib.hid bl3
        have HW3 := Lib.hid hw3
        have HWV := Lib.hid hwv
        clear kF hw3 b3 bl3 kF3 kT3 hwv sv kFv bv hv
        go_wp2_with (first
          | (go_at_call 140
             rw [HWV.out, HW3.out]
             (with_reducible refine AD.out.mono ?_)
             rintro e w4 ⟨⟨v4, rfl⟩, g, c', kg, hc', og, kpg, blg⟩))
        have hs3 := B3.out.1
        exact ⟨.inr ⟨rfl, g, c', kg, hc', own_base og (by omega), ⟨by have := kpg.1; omega, fun k h1 h2 => (kpg.2 k (by omega) h2).trans (B3.out.2 k h1 h2)⟩, fun m h1 h2 => (BL3.out m h1 h2).trans (blg m h1 (by omega))⟩, by simp [intOf]⟩
      · have hsq := kpg.1
        have hEq := (kpg.2 E (by omega) (by omega)).trans hX2.out
        have hXq : Xp wr E Mm Mp left := hEq
        obtain ⟨x0, x1, x2, xf2, x4⟩ := hXq.cells
        have f0 := Lib.cell_of_heap kg 0
        have f1 := Lib.cell_of_heap kg 1
        have fl := (Array.getElem?_eq_some_iff.1 kg).1
        simp only [List.getElem?_toArray, List.getElem?_cons_zero, List.getElem?_cons_succ] at f0 f1
        have KG := Lib.hid kg
        have OG := Lib.hid og
        have KPG := Lib.hid kpg
        have BLG := Lib.hid blg
        have HEQ := Lib.hid hEq
        have CL := Lib.hid (fun (W : World) => Clip_1 (some ⟨g, 0, none⟩) c' W hc')
        have wr2 : IntKind.i64.wrap (1 + 1) = 2 := by decide
        have wl : IntKind.i64.wrap (left - 2) = left - 2 := IntWalk.i64_in _ (by omega)
        have hlt0 : decide (left - 2 < 0) = false := by simp; omega
        have hEF : E ≠ F := by omega
        clear kg og kpg blg hEq hXq
        go_wp2
        refine wp_region_still_tail 10 (by kernel_rfl) (by kernel_rfl) ?_
        obtain ⟨wd, hwd⟩ : ∃ wd, ({ wr with drawn := wr.drawn + 1 } : World) = wd := ⟨_, rfl⟩
        have y2 : wd.cell? ⟨E, 2, none⟩ = some (.int .i64 left) := by rw [← hwd]; exact x2
        have yf2 : wd.frozen? ⟨E, 2, none⟩ = false := by rw [← hwd]; exact xf2
        have yl : E < wd.heap.size := by rw [← hwd]; exact x4
        have y1 : wd.cell? ⟨F, 1, none⟩ = some (.int .i64 1) := by rw [← hwd]; exact f1
        have y0 : wd.cell? ⟨F, 0, none⟩ = some (.slice (some ⟨g, 0, none⟩) 1 c') := by rw [← hwd]; exact f0
        have bd : Below wr.heap.size wr wd := by rw [← hwd]; exact (Below.refl _ _).drew
        rw [hwd]
        have HWD := Lib.hid hwd
        clear hwd x0 x1 x2 xf2 f0 f1
        simp only [List.take_succ_cons, List.take_zero, List.drop_succ_cons, List.drop_zero]
        repeat still_step
        refine wpStill_nil ?_
        go_wp2_with (first
          | (go_at_call 142; (with_reducible refine (CL.out _).mono ?_); rintro e w7 ⟨rfl, rfl⟩))
        go_ret2
        have gz := OG.out.lt g rfl
        have hb2s := bb2.out.size
        have hbds := bd.size
        refine ⟨g, c', rfl, own_base ((own_later OG.out bd).kept (grownBy_setR wd E 2 _) (.inr (by simp [Value.ownBlock]; omega))) hb2s, ⟨by simp [World.setCell]; omega, fun k h1 h2 => ?_⟩, fun m h1 h2 => ?_⟩
        · exact (Below.heap_setCell _ _ _ _ (by simpa using h2)).trans ((bd.block k (by omega)).trans ((KPG.out.2 k (by omega) (by omega)).trans (bb2.out.block k h1)))
        · exact (((bb2.out.mono h2).trans (BLG.out m (by omega) (by omega))).trans (bd.mono (by omega))).setCell (p := ⟨E, 2, none⟩) h1 _
end Go.Proofs.YtffjblamfbmoeaaGreatDoor
