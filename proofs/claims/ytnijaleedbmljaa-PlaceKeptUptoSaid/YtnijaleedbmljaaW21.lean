/- Walks: where a place came from, all cases (the program's). -/
import Derived.Test.YtnijaleedbmljaaW20
import Derived.WalkMore
set_option linter.unusedVariables false
set_option linter.unusedSimpArgs false
namespace Go.Proofs.Ytnijaleedbmljaa
open Go Go.RowKit Go.Shelf
attribute [local go_sem] Oper.semAt_some

set_option maxRecDepth 100000 in
set_option maxHeartbeats 4000000 in
theorem From_out (s : ByteArray) (A : Option Addr) (c : Nat) (l : List Pl.Ed) (n : Int) (w : World) (hs : s.size ≤ 4000000) (h : Rd w 3 A l.length (edcs l)) (hsm : Sm l) (hf : fitS s.data.toList l = true) (hn : n < 0 ∨ (s.size : Int) + Pl.grow (Pl.spots (Pl.lines s.data.toList) 0 l) < n) :
    Calls Try.prog 20 #[.string s, .slice A l.length c, .int .i64 n] w fun e w' => e = .returned (.tuple #[.int .i64 0, .bool false, .int .i64 2]) ∧ Below w.heap.size w w' := by
  have C1 := fun W g => pfit_any s A c l W hs g hsm
  rw [hf] at C1
  have K1 := Lib.hid C1; clear C1
  refine callsIn_wide (n := 5) |>.1 ?_
  refine callsIn_of_wp_marks Try.func20 rfl trivial ?_ rfl
  simp only [Try.ntmps20, List.size_toArray, List.length_cons, List.length_nil, Nat.reduceAdd, Nat.reduceSub, Array.replicate_succ, Array.replicate_zero, List.push_toArray, List.append_toArray, List.nil_append, List.cons_append]
  gi_wp2
  refine wpIn_scope ?_
  have hB0 : Below w.heap.size w ((((w.alloc (.cells #[.int .i64 n] 3)).alloc (.cells #[.int .i64 0] 3)).alloc (.cells #[.bool false] 4)).alloc (.cells #[.int .i64 0] 24)) := ((((Below.refl _ w).alloc (Nat.le_refl _) _).alloc (by simp) _).alloc (by simp; omega) _).alloc (by simp; omega) _
  obtain ⟨x0, x1, x2, x3⟩ := four_boxes w (.int .i64 n) (.int .i64 0) (.bool false) (.int .i64 0) 3 3 4 24
  gi_wp2_with (first
    | (refine ⟨trivial, ?_⟩; gi_at_call 44; refine (callsIn_wide.2 (K1.out _ (h.later hB0))).mono ?_; rintro e w1 ⟨rfl, hb1⟩; have y0 := x0.below hb1 x0.lt; have y1 := x1.below hb1 x1.lt; have y2 := x2.below hb1 x2.lt; have y3 := x3.below hb1 x3.lt)
    | (refine ⟨trivial, ?_⟩; gi_at_call 45; refine (callsIn_wide.2 (spots_any _ _ _ _ _)).mono ?_; rintro e w2 ⟨rfl, rfl⟩))
  have hB1 := hB0.trans (hb1.mono hB0.size)
  have hhw : w.heap.size + 4 ≤ w1.heap.size := by have := hb1.size; simpa using this
  obtain ⟨hSm, hSl⟩ := spots_ok hs hsm hf
  have hlen := hsm.len
  obtain ⟨b0, b1, b2⟩ := three_boxes w1 (.int .i64 s.size) (.string s) (.slice A l.length c) 3 9 22
  obtain ⟨hwl, hB2⟩ := three_more w1 (.int .i64 s.size) (.string s) (.slice A l.length c) 3 9 22
  have hB12 := hB1.trans (hB2.mono hB1.size)
  have SEQ := seq_at s A c l w _ _ _ _ hs h hsm hf b1 b2 hB12 hwl
  have hFx : Fx w (w1.heap.size + 3) (frB w.heap.size n) [] (((w1.alloc (.cells #[.int .i64 s.size] 3)).alloc (.cells #[.string s] 9)).alloc (.cells #[.slice A l.length c] 22)) := by
    refine ⟨fun q hq => ?_, (fun d hd => by cases hd), hB12, by rw [hwl]; exact Nat.le_refl _⟩
    simp only [frB, List.mem_cons, List.not_mem_nil, or_false] at hq
    rcases hq with rfl | rfl | rfl | rfl
    · exact y0.below hB2 y0.lt
    · exact y1.below hB2 y1.lt
    · exact y2.below hB2 y2.lt
    · exact y3.below hB2 y3.lt
  have HK := h
  obtain ⟨Sp, hSp⟩ : ∃ Sp, Sp = Pl.spots (Pl.lines s.data.toList) 0 l := ⟨_, rfl⟩
  rw [← hSp] at hSm hSl SEQ hn
  have HSP := Lib.hid hSp; clear hSp
  refine rangeLaw2 (gf := 61) (lb := #[.pointer (some ⟨w1.heap.size + 1, 0, none⟩), .pointer (some ⟨w1.heap.size + 1 + 1, 0, none⟩)]) rfl (enters_of Try.func61 (by kernel_rfl) rfl)
    SEQ (fun X Y k o hg hk ho _ => (hg.block k (Array.getElem?_eq_some_iff.1 ho).1).trans ho)
    (fun h1 h2 => h1.trans h2) (fun W l o o' hl ho hc _ => Kps.put W l o o' (by rw [hwl] at hl; omega) ho hc) (fun _ => rfl)
    (Fr1 w (w1.heap.size + 3) w1.heap.size n ((s.size : Int) + Pl.grow Sp) Sp) (fun _ _ _ => False)
    (fun pre X Y ⟨a1, m, a2, a3⟩ hg => ⟨a1.step hg, m, a2.below hg a2.lt, a3⟩)
    (fun pre W l o o' ⟨a1, m, a2, a3⟩ hl ho hc => ⟨a1.put o' (by rw [hwl] at hl; omega) (by rw [hwl] at hl; exact hl) ho hc, m, a2.put o' ho hc, a3⟩)
    (fun c pre W l o o' hi _ _ _ => hi)
    (fun W1 hs1 hbb => ⟨hFx.step hbb, s.size, b0.below hbb b0.lt, by simp, by simp; omega, by simp⟩)
    (fun pre x a' W => ∃ P, a' = { tmps := fr1Tmps s A l.length c n w.heap.size w1.heap.size (.pointer (some ⟨P, 0, none⟩)) (.agg #[.int .i64 x.b, .int .i64 x.e, .int .i64 x.to, .string (bs x.x)]), defers := [] } ∧ Sb W P x ∧ Fr1 w (w1.heap.size + 3) w1.heap.size n ((s.size : Int) + Pl.grow Sp) Sp pre W)
    (fun pre x a' W l o o' ⟨P, h1, h2, ⟨a1, m, a2, a3⟩⟩ hl ho hc => ⟨P, h1, h2.put o' ho hc, ⟨a1.put o' (by rw [hwl] at hl; omega) (by rw [hwl] at hl; exact hl) ho hc, m, a2.put o' ho hc, a3⟩⟩) ?assign ?body ?done ?stop
  case assign =>
    rintro y pre x W K ⟨a1, m, a2, a3⟩ hgo hsz hK
    simp only [spv]
    gi_wp2
    exact hK _ _ ((KeepsOthers.alloc W _).from _) (Kps.alloc _ _ W _ (by rw [hwl] at hsz; omega)) ⟨_, rfl, Sb.new W x, a1.step ((Below.refl _ W).alloc (Nat.le_refl _) _), m, a2.alloc _, a3⟩
  case body =>
    rintro y pre x a' W ⟨P, rfl, hP, ⟨a1, m, a4, m1, m2, a5⟩⟩ hgo hsz
    have hx := hSm x (Pl.pre_mem hgo)
    have hpl := Pl.pre_len hgo
    have hpx : (pre ++ [x]).length = pre.length + 1 := by simp
    obtain ⟨b0', be, e1, x1', t0, t1⟩ := hx
    have A5 : Hid (m + ((x.x.length : Int) - (x.e - x.b)) + Pl.grow (Sp.drop (pre ++ [x]).length) = (s.size : Int) + Pl.grow Sp) := Lib.hid (by rw [← a5, Pl.drop_pre hgo, grow_cons]; omega)
    obtain ⟨p0, p1, p2, p3⟩ := hP.cells
    have f4 := a4.cell
    have g4 := a4.frozen
    have hzs : (bs x.x).size = x.x.length := bs_size _
    have hpx' := Lib.hid hpx
    have hwl' := Lib.hid hwl
    clear hgo hpx SEQ hwl hSm a5
    unfold fr1Tmps
    gi_wp2
    refine ⟨(KeepsOthers.setCell _ _ _).from _, Kps.set _ _ _ (by omega) (by omega), a1.set _ a4 (by omega) (fun q hq => ?_), _, a4.set _, by rw [hpx'.out]; push_cast; omega, by rw [hpx'.out]; push_cast; omega, A5.out⟩
    simp only [frB, List.mem_cons, List.not_mem_nil, or_false] at hq
    rcases hq with rfl | rfl | rfl | rfl <;> (simp only; omega)
  case stop =>
    rintro D c' pre W hD hS hX hK
    exact hX.elim
  case done =>
    rintro D xs W hD hS ⟨a1, m, a4, m1, m2, a5⟩ hK
    have HD := Lib.hid hD; clear hD
    have A5 : m = (s.size : Int) + Pl.grow Sp := by rw [← a5, hS, List.drop_length]; simp [Pl.grow]
    subst A5
    rw [hS, hSl] at m1 m2
    have f0 := (a1.box (w.heap.size, 3, .int .i64 n) (by simp [frB])).cell
    have f4 := a4.cell
    have HF4 := Lib.hid f4
    simp only at f0
    generalize (s.size : Int) + Pl.grow Sp = z at *
    have A1 := a1.box (w.heap.size + 1, 3, .int .i64 0) (by simp [frB])
    have A2 := a1.box (w.heap.size + 1 + 1, 4, .bool false) (by simp [frB])
    have A3 := a1.box (w.heap.size + 1 + 1 + 1, 24, .int .i64 0) (by simp [frB])
    simp only at A1 A2 A3
    have f1 := A1.cell
    have f2 := A2.cell
    have f3 := A3.cell
    have g1 := A1.frozen
    have g2 := A2.frozen
    have g3 := A3.frozen
    have b5 := a1.bel
    have hd : decide (n < 0) = true ∨ (decide (n < 0) = false ∧ decide (z < n) = true) := by
      by_cases hn' : n < 0
      · exact .inl (by simp [hn'])
      · exact .inr ⟨by simp [hn'], by rcases hn with hr | hr; exact absurd hr hn'; simp [hr]⟩
    clear a5 hS hFx SEQ a1
    have HWL := Lib.hid hwl; clear hwl
    rcases hd with hd | ⟨hd, hd2⟩
    all_goals
      gi_wp2
      try rw [Exit.noGoto_ret]
      have B1 := ((A1.set (.int .i64 0)).other (k := w.heap.size + 1 + 1) (by omega) (.bool false)).other (k := w.heap.size + 1 + 1 + 1) (by omega) (.int .i64 2)
      have B2 := ((A2.other (k := w.heap.size + 1) (by omega) (.int .i64 0)).set (.bool false)).other (k := w.heap.size + 1 + 1 + 1) (by omega) (.int .i64 2)
      have B3 := ((A3.other (k := w.heap.size + 1) (by omega) (.int .i64 0)).other (k := w.heap.size + 1 + 1) (by omega) (.bool false)).set (.int .i64 2)
      have hK2 : (((W.setCell ⟨w.heap.size + 1, 0, none⟩ (.int .i64 0)).setCell ⟨w.heap.size + 1 + 1, 0, none⟩ (.bool false)).setCell ⟨w.heap.size + 1 + 1 + 1, 0, none⟩ (.int .i64 2)).heap[D]? = some (.deferred (some [])) :=
        (Below.heap_setCell _ _ _ _ (fun e => by simp at e; have := HD.out; rw [HWL.out] at this; omega)).trans ((Below.heap_setCell _ _ _ _ (fun e => by simp at e; have := HD.out; rw [HWL.out] at this; omega)).trans ((Below.heap_setCell _ _ _ _ (fun e => by simp at e; have := HD.out; rw [HWL.out] at this; omega)).trans hK))
      have z1 := (B1.put (.deferred none) hK2 rfl).cell
      have z2 := (B2.put (.deferred none) hK2 rfl).cell
      have z3 := (B3.put (.deferred none) hK2 rfl).cell
      refine ⟨by simp, .inl ⟨_, _, rfl, run_takeDeferred hK2, ?_⟩⟩
      exact ⟨_, show (results Try.f20 _).run Try.prog _ = .ok (.tuple #[.int .i64 0, .bool false, .int .i64 2]) _ by simp [results, Try.results20, go_sem, z1, z2, z3], rfl, below_putN (((b5.setCell (p := ⟨_, 0, none⟩) (by simp) _).setCell (p := ⟨_, 0, none⟩) (by simp; omega) _).setCell (p := ⟨_, 0, none⟩) (by simp; omega) _) _ (by have := HD.out; rw [HWL.out] at this; omega)⟩

set_option maxRecDepth 100000 in
set_option maxHeartbeats 2000000 in
theorem From_no (s : ByteArray) (A : Option Addr) (c : Nat) (l : List Pl.Ed) (n : Int) (w : World) (hs : s.size ≤ 4000000) (h : Rd w 3 A l.length (edcs l)) (hsm : Sm l) (hf : fitS s.data.toList l = false) :
    Calls Try.prog 20 #[.string s, .slice A l.length c, .int .i64 n] w fun e w' => e = .returned (.tuple #[.int .i64 0, .bool false, .int .i64 180]) ∧ Below w.heap.size w w' := by
  have C1 := fun W g => pfit_any s A c l W hs g hsm
  rw [hf] at C1
  have K1 := Lib.hid C1; clear C1
  have hB0 : Below w.heap.size w ((((w.alloc (.cells #[.int .i64 n] 3)).alloc (.cells #[.int .i64 0] 3)).alloc (.cells #[.bool false] 4)).alloc (.cells #[.int .i64 0] 24)) := ((((Below.refl _ w).alloc (Nat.le_refl _) _).alloc (by simp) _).alloc (by simp; omega) _).alloc (by simp; omega) _
  obtain ⟨x0, x1, x2, x3⟩ := four_boxes w (.int .i64 n) (.int .i64 0) (.bool false) (.int .i64 0) 3 3 4 24
  go_enter Try.func20, Try.ntmps20
  go_wp2
  go_step3
  go_wp2_with (go_at_call 44; refine (K1.out _ (h.later hB0)).mono ?_; rintro e w1 ⟨rfl, hb1⟩; have y1 := x1.below hb1 x1.lt; have y2 := x2.below hb1 x2.lt; have y3 := x3.below hb1 x3.lt; have c1 := y1.cell; have c2 := y2.cell; have c3 := y3.cell; have g1 := y1.frozen; have g2 := y2.frozen; have g3 := y3.frozen)
  rw [Exit.noGoto_ret]
  have B1 := ((y1.set (.int .i64 0)).other (k := w.heap.size + 1 + 1) (by omega) (.bool false)).other (k := w.heap.size + 1 + 1 + 1) (by omega) (.int .i64 180)
  have B2 := ((y2.other (k := w.heap.size + 1) (by omega) (.int .i64 0)).set (.bool false)).other (k := w.heap.size + 1 + 1 + 1) (by omega) (.int .i64 180)
  have B3 := ((y3.other (k := w.heap.size + 1) (by omega) (.int .i64 0)).other (k := w.heap.size + 1 + 1) (by omega) (.bool false)).set (.int .i64 180)
  have z1 := B1.cell
  have z2 := B2.cell
  have z3 := B3.cell
  refine bodyPost_ret (v := .tuple #[.int .i64 0, .bool false, .int .i64 180]) (by simp [results, Try.results20, go_sem, z1, z2, z3]) rfl ⟨rfl, ?_⟩
  exact (((hB0.trans (hb1.mono hB0.size)).setCell (p := ⟨_, 0, none⟩) (by simp) _).setCell (p := ⟨_, 0, none⟩) (by simp; omega) _).setCell (p := ⟨_, 0, none⟩) (by simp; omega) _

theorem From_all (s : ByteArray) (A : Option Addr) (c : Nat) (l : List Pl.Ed) (n : Int) (w : World) (hs : s.size ≤ 4000000) (h : Rd w 3 A l.length (edcs l)) (hsm : Sm l) :
    Calls Try.prog 20 #[.string s, .slice A l.length c, .int .i64 n] w fun e w' => e = .returned (frRes s.data.toList l n) ∧ Below w.heap.size w w' := by
  have hlen : (s.data.toList.length : Int) = s.size := by rw [← Lib.size_eq]
  cases hf : fitS s.data.toList l
  · have e : frRes s.data.toList l n = .tuple #[.int .i64 0, .bool false, .int .i64 180] := by unfold frRes; rw [if_neg (by rw [hf]; simp)]
    rw [e]; exact From_no s A c l n w hs h hsm hf
  · by_cases hr : n < 0 ∨ (s.size : Int) + Pl.grow (Pl.spots (Pl.lines s.data.toList) 0 l) < n
    · have e : frRes s.data.toList l n = .tuple #[.int .i64 0, .bool false, .int .i64 2] := by unfold frRes; rw [if_pos hf, if_pos (by rw [hlen]; exact hr)]
      rw [e]; exact From_out s A c l n w hs h hsm hf hr
    · have e : frRes s.data.toList l n = .tuple #[.int .i64 (Pl.fm n 0 (Pl.spots (Pl.lines s.data.toList) 0 l)).1, .bool (Pl.fm n 0 (Pl.spots (Pl.lines s.data.toList) 0 l)).2, .int .i64 0] := by unfold frRes; rw [if_pos hf, if_neg (by rw [hlen]; exact hr)]; rfl
      rw [e]; exact From_fit s A c l n w hs h hsm hf (by omega) (by omega)

end Go.Proofs.Ytnijaleedbmljaa
