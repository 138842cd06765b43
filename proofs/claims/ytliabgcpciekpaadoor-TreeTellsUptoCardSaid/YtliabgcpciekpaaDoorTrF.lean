/- Walks: is a text a path (the program's)? -/
import Derived.Test.YtliabgcpciekpaaDoorTrE
set_option linter.unusedVariables false
set_option linter.unusedSimpArgs false
namespace Go.Proofs.YtliabgcpciekpaaDoor
open Go Go.RowKit
attribute [local go_sem] Oper.semAt_some

namespace Tr
theorem isPath_yes {s : T} (h1 : (spl 47 s).length ≤ 20) (h2 : ∀ x ∈ spl 47 s, isName x = true) : isPath s = true := (isPath_iff s).2 ⟨h1, h2⟩
theorem isPath_many {s : T} (h : 20 < (spl 47 s).length) : isPath s = false := by
  have : ¬ isPath s = true := fun e => by have := ((isPath_iff s).1 e).1; omega
  simpa using this
theorem isPath_bad {s x : T} (h : x ∈ spl 47 s) (hx : isName x = false) : isPath s = false := by
  have : ¬ isPath s = true := fun e => by have := ((isPath_iff s).1 e).2 x h; rw [hx] at this; cases this
  simpa using this
end Tr

/-- In a round of Path. -/
def PtI (w : World) (pre : List Tr.T) (W : World) : Prop :=
  Bx W w.heap.size 4 (.bool false) ∧ Bx W (w.heap.size + 1) 3 (.int .i64 pre.length) ∧ pre.length ≤ 20 ∧ (∀ x ∈ pre, Tr.isName x = true) ∧ Below w.heap.size w W ∧ w.heap.size + 5 ≤ W.heap.size
def PtX (w : World) (s : Tr.T) (c : Code) (_ : List Tr.T) (W : World) : Prop := c = .ret ∧ Bx W w.heap.size 4 (.bool false) ∧ Tr.isPath s = false ∧ Below w.heap.size w W
def ptTmps (h : Nat) (s : ByteArray) (x : Tr.T) : Array Value := #[.string s, undef, .pointer (some ⟨h, 0, none⟩), .pointer (some ⟨h + 1, 0, none⟩), .string (bs x), .string s, .func (.func 96) #[] #[.pointer (some ⟨h + 1 + 1 + 1, 0, none⟩), .pointer (some ⟨h + 1 + 1, 0, none⟩), .pointer (some ⟨h + 1 + 1 + 1 + 1, 0, none⟩)], .string (bs x), undef, undef, undef, undef, undef, undef, undef, undef, undef]
theorem PtI.put {w W : World} {pre : List Tr.T} (h : PtI w pre W) {l : Nat} {o : Obj} (o' : Obj) (hl : w.heap.size ≤ l) (ho : W.heap[l]? = some o) (hc : o.isCells = false) : PtI w pre (W.putObj l o') :=
  ⟨h.1.put' o' ho hc, h.2.1.put' o' ho hc, h.2.2.1, h.2.2.2.1, below_put h.2.2.2.2.1 o' hl, by simpa using h.2.2.2.2.2⟩

set_option maxRecDepth 100000 in
set_option maxHeartbeats 4000000 in
theorem Path_any (s : ByteArray) (w : World) (hs : s.size ≤ 140737488355328) :
    Calls Tryd.prog 25 #[.string s] w fun e w' => e = .returned (.bool (Tr.isPath s.data.toList)) ∧ Below w.heap.size w w' := by
  have HSZ := Lib.hid (Lib.size_eq s)
  refine callsIn_wide (n := 5) |>.1 ?_
  refine callsIn_of_wp_marks Tryd.func25 rfl trivial ?_ rfl
  simp only [Tryd.ntmps25, List.size_toArray, List.length_cons, List.length_nil, Nat.reduceAdd, Nat.reduceSub, Array.replicate_succ, Array.replicate_zero, List.push_toArray, List.append_toArray, List.nil_append, List.cons_append]
  gi_wp2_with (refine ⟨trivial, ?_⟩; gi_at_call 55; refine (callsIn_wide.2 (SplitSeq_any _ _ _)).mono ?_; rintro e w2 ⟨rfl, rfl⟩)
  obtain ⟨wB, hwB⟩ : ∃ wB, (((((w.alloc (.cells #[.bool false] 4)).alloc (.cells #[.int .i64 0] 3)).alloc (.cells #[.string s] 9)).alloc (.cells #[.string ⟨#[47]⟩] 9)).alloc (.cells #[.int .i64 0] 3)) = wB := ⟨_, rfl⟩
  have hsB : wB.heap.size = w.heap.size + 5 := by rw [← hwB]; simp
  have hbB : Below w.heap.size w wB := by rw [← hwB]; exact (((((Below.refl _ _).alloc (Nat.le_refl _) _).alloc (by simp only [World.size_alloc]; omega) _).alloc (by simp only [World.size_alloc]; omega) _).alloc (by simp only [World.size_alloc]; omega) _).alloc (by simp only [World.size_alloc]; omega) _
  have B0 : Bx wB w.heap.size 4 (.bool false) := by
    rw [← hwB]
    exact (Bx.new w 4 (.bool false)).below (((((Below.refl _ _).alloc (Nat.le_refl _) _).alloc (by simp only [World.size_alloc]; omega) _).alloc (by simp only [World.size_alloc]; omega) _).alloc (by simp only [World.size_alloc]; omega) _) (by simp only [World.size_alloc]; omega)
  have B1 : Bx wB (w.heap.size + 1) 3 (.int .i64 0) := by
    rw [← hwB]
    have h1 := Bx.new (w.alloc (.cells #[.bool false] 4)) 3 (.int .i64 0)
    rw [World.size_alloc] at h1
    exact h1.below ((((Below.refl _ _).alloc (Nat.le_refl _) _).alloc (by simp only [World.size_alloc]; omega) _).alloc (by simp only [World.size_alloc]; omega) _) (by simp only [World.size_alloc]; omega)
  have zs : Bx wB (w.heap.size + 1 + 1) 9 (.string s) := by
    rw [← hwB]
    have h1 := Bx.new ((w.alloc (.cells #[.bool false] 4)).alloc (.cells #[.int .i64 0] 3)) 9 (.string s)
    simp only [World.size_alloc] at h1
    exact h1.below (((Below.refl _ _).alloc (Nat.le_refl _) _).alloc (by simp only [World.size_alloc]; omega) _) (by simp only [World.size_alloc]; omega)
  have zp : Bx wB (w.heap.size + 1 + 1 + 1) 9 (.string ⟨#[47]⟩) := by
    rw [← hwB]
    have h1 := Bx.new (((w.alloc (.cells #[.bool false] 4)).alloc (.cells #[.int .i64 0] 3)).alloc (.cells #[.string s] 9)) 9 (.string ⟨#[47]⟩)
    simp only [World.size_alloc] at h1
    exact h1.below ((Below.refl _ _).alloc (Nat.le_refl _) _) (by simp only [World.size_alloc]; omega)
  have zk : Bx wB (w.heap.size + 1 + 1 + 1 + 1) 3 (.int .i64 0) := by
    rw [← hwB]
    have h1 := Bx.new ((((w.alloc (.cells #[.bool false] 4)).alloc (.cells #[.int .i64 0] 3)).alloc (.cells #[.string s] 9)).alloc (.cells #[.string ⟨#[47]⟩] 9)) 3 (.int .i64 0)
    simp only [World.size_alloc] at h1
    exact h1
  rw [hwB]
  clear hwB
  refine rangeLaw (gf := 96) (lb := #[.pointer (some ⟨w.heap.size + 1 + 1 + 1, 0, none⟩), .pointer (some ⟨w.heap.size + 1 + 1, 0, none⟩), .pointer (some ⟨w.heap.size + 1 + 1 + 1 + 1, 0, none⟩)]) rfl (enters_of Tryd.func96 (by kernel_rfl) rfl)
    (fun W1 hs1 hbb => ssplit1_seq (5 - 1) (w.heap.size + 1 + 1 + 1) (w.heap.size + 1 + 1) (w.heap.size + 1 + 1 + 1 + 1) 47 s W1 hs (zp.below hbb zp.lt) (zs.below hbb zs.lt) (zk.below hbb zk.lt) (by omega))
    (fun X Y k o hg hk ho _ => (hg.block k (Array.getElem?_eq_some_iff.1 ho).1 (fun e => by rw [hsB] at hk; simp at e; omega)).trans ho)
    (fun h1 h2 => ⟨h2.1.trans h1.1, h2.2.1.trans h1.2.1, h2.2.2.trans h1.2.2⟩)
    (fun W l o o' hl _ _ _ => ⟨World.putObj_heap_other (by rw [hsB] at hl; omega), World.putObj_heap_other (by rw [hsB] at hl; omega), World.putObj_heap_other (by rw [hsB] at hl; omega)⟩) (fun _ => rfl)
    (PtI w) (PtX w s.data.toList)
    (fun pre X Y ⟨h1, h2, h3, h4, h5, h6⟩ hg => ⟨(hg.block _ h1.lt (fun e => by have := Option.some.inj e; omega)).trans h1, (hg.block _ h2.lt (fun e => by have := Option.some.inj e; omega)).trans h2, h3, h4, h5.grown hg h5.size (fun k e => by cases e; omega), Nat.le_trans h6 hg.size⟩)
    (fun pre W l o o' hi hl ho hc => hi.put o' (by rw [hsB] at hl; omega) ho hc)
    (fun c pre W l o o' ⟨h1, h2, h3, h4⟩ hl ho hc => ⟨h1, h2.put' o' ho hc, h3, below_put h4 o' (by rw [hsB] at hl; omega)⟩)
    (fun W1 hs1 hbb => ⟨B0.below hbb B0.lt, B1.below hbb B1.lt, by simp, by simp, hbB.trans (hbb.mono hbB.size), by rw [hs1, hsB]; omega⟩)
    (fun x => { tmps := ptTmps w.heap.size s x, defers := [] }) ?assign ?body ?done ?stop
  case assign =>
    intro l x W K hK
    gi_wp2
    exact hK
  case body =>
    rintro l pre x W ⟨h1, h2, h3, h4, h5, h6⟩ hgo hsz
    have hxm : x ∈ Tr.spl 47 s.data.toList := hgo.subset (by simp)
    have hxl := Tr.spl_mem hxm
    rw [← HSZ.out] at hxl
    have hpl := hgo.length_le
    simp only [List.length_append, List.length_cons, List.length_nil] at hpl
    have NM := Lib.hid (fun W => name_bs x W (by omega))
    have c1 := h2.cell
    have f1 := h2.frozen
    have c0 := h1.cell
    have f0 := h1.frozen
    have HX := Lib.hid hxm
    have H4 := Lib.hid h4
    have hpw : IntKind.i64.wrap ((pre.length : Int) + 1) = (pre.length : Int) + 1 := IntWalk.i64_in _ (by omega)
    have hb2 := h2.set (.int .i64 ((pre.length : Int) + 1))
    have h10 : Bx (W.setCell ⟨w.heap.size + 1, 0, none⟩ (.int .i64 ((pre.length : Int) + 1))) w.heap.size 4 (.bool false) := (Below.heap_setCell _ _ _ _ (by simp)).trans h1
    have hB2 : Below w.heap.size w (W.setCell ⟨w.heap.size + 1, 0, none⟩ (.int .i64 ((pre.length : Int) + 1))) := h5.setCell (p := ⟨_, 0, none⟩) (by simp) _
    have d0 := h10.cell
    have e0 := h10.frozen
    have d1 := hb2.cell
    unfold ptTmps
    have hK3 := Lib.hid (show ∀ u, KeepsFrom wB.heap.size W ((W.setCell ⟨w.heap.size + 1, 0, none⟩ (.int .i64 ((pre.length : Int) + 1))).setCell ⟨w.heap.size, 0, none⟩ u) from fun u => ((KeepsOthers.setCell W ⟨w.heap.size + 1, 0, none⟩ (.int .i64 ((pre.length : Int) + 1))).trans (KeepsOthers.setCell _ _ _)).from _)
    have hK2 := Lib.hid ((KeepsOthers.setCell W ⟨w.heap.size + 1, 0, none⟩ (.int .i64 ((pre.length : Int) + 1))).from wB.heap.size)
    have hP3 := Lib.hid (show Kp3 (w.heap.size + 1 + 1 + 1) (w.heap.size + 1 + 1) (w.heap.size + 1 + 1 + 1 + 1) W (W.setCell ⟨w.heap.size + 1, 0, none⟩ (.int .i64 ((pre.length : Int) + 1))) from ⟨Below.heap_setCell _ _ _ _ (by simp; omega), Below.heap_setCell _ _ _ _ (by simp), Below.heap_setCell _ _ _ _ (by simp; omega)⟩)
    have hS2 : (W.setCell ⟨w.heap.size + 1, 0, none⟩ (.int .i64 ((pre.length : Int) + 1))).heap.size = W.heap.size := by simp [World.setCell]
    have HS2 := Lib.hid hS2
    clear hS2
    by_cases hm : pre.length = 20
    · have HN := Lib.hid (Tr.isPath_many (s := s.data.toList) (by omega))
      have hmI : (20 : Int) < (pre.length : Int) + 1 := by omega
      clear hm
      gi_wp2_with (refine ⟨trivial, ?_⟩)
      exact ⟨hK3.out _, rfl, h10.set _, HN.out, hB2.setCell (p := ⟨_, 0, none⟩) (by simp) _⟩
    · have hmI : ¬ (20 : Int) < (pre.length : Int) + 1 := by omega
      have hml : pre.length + 1 ≤ 20 := by omega
      cases hnx : Tr.isName x
      · have HN := Lib.hid (Tr.isPath_bad HX.out hnx)
        rw [hnx] at NM
        gi_wp2_with (refine ⟨trivial, ?_⟩; gi_at_call 56; refine (CallsIn.inRound l (callsIn_wide.2 (NM.out _))).mono ?_; rintro e w3 ⟨rfl, rfl⟩)
        exact ⟨hK3.out _, rfl, h10.set _, HN.out, hB2.setCell (p := ⟨_, 0, none⟩) (by simp) _⟩
      · have H42 := Lib.hid (show ∀ y ∈ pre ++ [x], Tr.isName y = true from fun y hy => by
          rcases List.mem_append.1 hy with hy | hy
          · exact H4.out y hy
          · rw [List.mem_singleton.1 hy]; exact hnx)
        rw [hnx] at NM
        gi_wp2_with (refine ⟨trivial, ?_⟩; gi_at_call 56; refine (CallsIn.inRound l (callsIn_wide.2 (NM.out _))).mono ?_; rintro e w3 ⟨rfl, rfl⟩)
        exact ⟨hK2.out, hP3.out, h10, by simp only [List.length_append, List.length_cons, List.length_nil]; push_cast; exact hb2, by simp only [List.length_append, List.length_cons, List.length_nil]; omega, H42.out, hB2, by rw [HS2.out]; exact h6⟩
  case done =>
    rintro D xs W hD hS ⟨h1, h2, h3, h4, h5, h6⟩ hK
    obtain rfl : D = w.heap.size + 5 := by rw [hD, hsB]
    have HN := Lib.hid (Tr.isPath_yes (s := s.data.toList) (by rw [← hS]; exact h3) (by rw [← hS]; exact h4))
    have hr := h1.cell
    have hrf := h1.frozen
    clear hS h4
    gi_wp2
    have B2 := h1.set (.bool true)
    have hK2 : (W.setCell ⟨w.heap.size, 0, none⟩ (.bool true)).heap[w.heap.size + 5]? = some (.deferred (some [])) := (Below.heap_setCell _ _ _ _ (by simp)).trans hK
    have A7 : Below w.heap.size w (W.setCell ⟨w.heap.size, 0, none⟩ (.bool true)) := h5.setCell (p := ⟨_, 0, none⟩) (by simp) _
    generalize W.setCell ⟨w.heap.size, 0, none⟩ (.bool true) = W9 at *
    refine ⟨by simp, .inl ⟨_, _, rfl, run_takeDeferred hK2, ?_⟩⟩
    have z1 := (B2.put' (.deferred none) hK2 rfl).cell
    refine ⟨_, show (results Tryd.f25 _).run Tryd.prog _ = .ok (.bool true) _ by simp [results, Tryd.results25, go_sem, z1], ?_, below_put A7 _ (by omega)⟩
    rw [HN.out]
  case stop =>
    rintro D c pre W hD hS ⟨rfl, h2, h3, h4⟩ hK
    obtain rfl : D = w.heap.size + 5 := by rw [hD, hsB]
    have HN := Lib.hid h3
    clear h3 hS
    gi_wp2
    refine ⟨by simp, .inl ⟨_, _, rfl, run_takeDeferred hK, ?_⟩⟩
    have z1 := (h2.put' (.deferred none) hK rfl).cell
    refine ⟨_, show (results Tryd.f25 _).run Tryd.prog _ = .ok (.bool false) _ by simp [results, Tryd.results25, go_sem, z1], ?_, below_put h4 _ (by omega)⟩
    rw [HN.out]

end Go.Proofs.YtliabgcpciekpaaDoor
