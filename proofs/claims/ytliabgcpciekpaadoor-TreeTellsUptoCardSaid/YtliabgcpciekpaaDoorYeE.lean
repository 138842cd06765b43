/- Walks: may a style be (the program's)? -/
import Derived.Test.YtliabgcpciekpaaDoorYeA
import Derived.Test.YtliabgcpciekpaaDoorYeB
import Derived.WalkMore
import Derived.Control
import Derived.Sort.QuietTacIn
set_option linter.unusedVariables false
set_option linter.unusedSimpArgs false
namespace Go.Proofs.YtliabgcpciekpaaDoor
open Go Go.RowKit
attribute [local go_sem] Oper.semAt_some

theorem keeps_below {B : Nat} {W W' : World} (h : Below W.heap.size W W') : KeepsFrom B W W' := ⟨h.size, fun k o _ e _ => (h.block k (Array.getElem?_eq_some_iff.1 e).1).trans e⟩
theorem Sty.put {W : World} {b l : Nat} {v : Nat → Int} {o : Obj} (h : Sty W b v) (o' : Obj) (hl : W.heap[l]? = some o) (ho : o.isCells = false) : Sty (W.putObj l o') b v :=
  (World.putObj_heap_other (by rintro rfl; unfold Sty at h; rw [h] at hl; cases hl; cases ho)).trans h
theorem Bx.put' {W : World} {b l : Nat} {T : TypeId} {v : Value} {o : Obj} (h : Bx W b T v) (o' : Obj) (hl : W.heap[l]? = some o) (ho : o.isCells = false) : Bx (W.putObj l o') b T v :=
  (World.putObj_heap_other (h.ne_obj hl ho)).trans h
/-- A block of an entry. -/
def Eb (W : World) (P b x : Nat) : Prop := W.heap[P]? = some (.cells (entL b x).toArray 78 (0, 0))
theorem Eb.put {W : World} {P b x l : Nat} {o : Obj} (h : Eb W P b x) (o' : Obj) (hl : W.heap[l]? = some o) (ho : o.isCells = false) : Eb (W.putObj l o') P b x :=
  (World.putObj_heap_other (by rintro rfl; unfold Eb at h; rw [h] at hl; cases hl; cases ho)).trans h
theorem Eb.lt {W : World} {P b x : Nat} (h : Eb W P b x) : P < W.heap.size := (Array.getElem?_eq_some_iff.1 h).1
theorem Eb.later {W W' : World} {P b x : Nat} (h : Eb W P b x) (hb : Below W.heap.size W W') : Eb W' P b x := (hb.block P h.lt).trans h
theorem Eb.cells {W : World} {P b x : Nat} (h : Eb W P b x) : W.cell? ⟨P, 0, none⟩ = some (.string (bs (St.nm x))) ∧ W.cell? ⟨P, 1, none⟩ = some (.int .i64 (St.low x)) ∧ W.cell? ⟨P, 2, none⟩ = some (.int .i64 (St.high x)) ∧ W.cell? ⟨P, 3, none⟩ = some (.int .i64 (St.first x)) ∧
    W.cell? ⟨P, 4, none⟩ = some (.pointer (if St.isFl x = true then none else some ⟨b, x, none⟩)) ∧ W.cell? ⟨P, 5, none⟩ = some (.pointer (if St.isFl x = true then some ⟨b, x, none⟩ else none)) :=
  ⟨Lib.cell_of_heap h 0, Lib.cell_of_heap h 1, Lib.cell_of_heap h 2, Lib.cell_of_heap h 3, Lib.cell_of_heap h 4, Lib.cell_of_heap h 5⟩
theorem Eb.new (W : World) (b x : Nat) : Eb (W.alloc (.cells (entL b x).toArray 78)) W.heap.size b x := heap_alloc_new W _
theorem pre_lt {pre : List Nat} {x : Nat} (h : pre ++ [x] <+: List.range 18) : x < 18 := List.mem_range.1 (h.subset (by simp))

/-- In a round of Check: what has been looked at may be. -/
def CkI (w : World) (v : Nat → Int) (pre : List Nat) (W : World) : Prop := Sty W w.heap.size v ∧ Bx W (w.heap.size + 1) 24 (.int .i64 0) ∧ (∀ i ∈ pre, St.inR v i = true) ∧ Below w.heap.size w W ∧ w.heap.size + 3 ≤ W.heap.size
def CkX (w : World) (v : Nat → Int) (c : Code) (pre : List Nat) (W : World) : Prop := c = .ret ∧ Bx W (w.heap.size + 1) 24 (.int .i64 90) ∧ St.chk v = false ∧ Below w.heap.size w W
def ckTmps (cs : Array Value) (h : Nat) (p e : Value) : Array Value := #[.agg cs, .pointer (some ⟨h, 0, none⟩), .pointer (some ⟨h + 1, 0, none⟩), p, undef, .func (.func 64) #[] #[.pointer (some ⟨h + 1 + 1, 0, none⟩)], e, undef, undef, undef, undef, undef, undef, undef, undef, undef, undef, undef, undef]

set_option maxRecDepth 100000 in
set_option maxHeartbeats 4000000 in
theorem Check_any (v : Nat → Int) (hfl : St.Fl v) (w : World) :
    Calls Tryd.prog 15 #[.agg (St.stv v).toArray] w fun e w' => e = .returned (.int .i64 (if St.chk v = true then 0 else 90)) ∧ Below w.heap.size w w' := by
  have S0 := Sty.new w v
  obtain ⟨er, hER⟩ : ∃ er : Int, (if St.chk v = true then 0 else 90) = er := ⟨_, rfl⟩
  rw [hER]
  have HER := Lib.hid hER
  clear hER
  generalize hcs : (St.stv v).toArray = cs at *
  refine callsIn_wide (n := 5) |>.1 ?_
  refine callsIn_of_wp_marks Tryd.func15 rfl trivial ?_ rfl
  simp only [Tryd.ntmps15, List.size_toArray, List.length_cons, List.length_nil, Nat.reduceAdd, Nat.reduceSub, Array.replicate_succ, Array.replicate_zero, List.push_toArray, List.append_toArray, List.nil_append, List.cons_append]
  gi_wp2_with (refine ⟨trivial, ?_⟩; gi_at_call 37; refine (callsIn_wide.2 (entries_any _ _)).mono ?_; rintro e w2 ⟨rfl, rfl⟩)
  obtain ⟨wB, hwB⟩ : ∃ wB, (((w.alloc (.cells cs 23)).alloc (.cells #[.int .i64 0] 24)).alloc (.cells #[.pointer (some ⟨w.heap.size, 0, none⟩)] 74)) = wB := ⟨_, rfl⟩
  have hsB : wB.heap.size = w.heap.size + 3 := by rw [← hwB]; simp
  have hbB : Below w.heap.size w wB := by rw [← hwB]; exact (((Below.refl _ _).alloc (Nat.le_refl _) _).alloc (by simp only [World.size_alloc]; omega) _).alloc (by simp only [World.size_alloc]; omega) _
  have S1 : Sty wB w.heap.size v := by
    rw [← hwB]
    exact (S0.later ((Below.refl _ _).alloc (Nat.le_refl _) _)).later ((Below.refl _ _).alloc (Nat.le_refl _) _)
  have R1 : Bx wB (w.heap.size + 1) 24 (.int .i64 0) := by
    rw [← hwB]
    have h1 := Bx.new (w.alloc (.cells cs 23)) 24 (.int .i64 0)
    rw [World.size_alloc] at h1
    exact h1.below ((Below.refl _ _).alloc (Nat.le_refl _) _) h1.lt
  have P1 : Bx wB (w.heap.size + 1 + 1) 74 (.pointer (some ⟨w.heap.size, 0, none⟩)) := by
    rw [← hwB]
    have h1 := Bx.new ((w.alloc (.cells cs 23)).alloc (.cells #[.int .i64 0] 24)) 74 (.pointer (some ⟨w.heap.size, 0, none⟩))
    rw [World.size_alloc, World.size_alloc] at h1
    exact h1
  rw [hwB]
  clear S0 hwB
  refine rangeLaw2 (gf := 64) (lb := #[.pointer (some ⟨w.heap.size + 1 + 1, 0, none⟩)]) rfl (enters_of Tryd.func64 (by kernel_rfl) rfl)
    (fun W1 hs1 hbb => entries1_seq (5 - 1) (w.heap.size + 1 + 1) w.heap.size W1 (P1.below hbb P1.lt) (by have := (S1.below hbb S1.lt); unfold Sty at this; rw [this]; rfl))
    (fun X Y k o hg hk ho _ => (hg.block k (Array.getElem?_eq_some_iff.1 ho).1 (by simp)).trans ho)
    (fun h1 h2 => h1.trans h2) (fun W l o o' hl ho hc _ => KpE.put W l o o' ho hc) (fun _ => rfl)
    (CkI w v) (CkX w v)
    (fun pre X Y ⟨h1, h2, h3, h4, h5⟩ hg => ⟨(hg.block _ h1.lt (by simp)).trans h1, (hg.block _ h2.lt (by simp)).trans h2, h3, h4.grown hg h4.size (fun k e => by cases e), Nat.le_trans h5 hg.size⟩)
    (fun pre W l o o' ⟨h1, h2, h3, h4, h5⟩ hl ho hc => ⟨h1.put o' ho hc, h2.put' o' ho hc, h3, below_put h4 o' (by rw [hsB] at hl; omega), by simpa using h5⟩)
    (fun c pre W l o o' ⟨h1, h2, h3, h4⟩ hl ho hc => ⟨h1, h2.put' o' ho hc, h3, below_put h4 o' (by rw [hsB] at hl; omega)⟩)
    (fun W1 hs1 hbb => ⟨S1.below hbb S1.lt, R1.below hbb R1.lt, by simp, hbB.trans (hbb.mono hbB.size), by rw [hs1, hsB]; omega⟩)
    (fun pre x a' W => ∃ P, a' = { tmps := ckTmps cs w.heap.size (.pointer (some ⟨P, 0, none⟩)) (entV w.heap.size x), defers := [] } ∧ Eb W P w.heap.size x ∧ CkI w v pre W ∧ w.heap.size + 3 ≤ P)
    (fun pre x a' W l o o' ⟨P, h0, he, ⟨h1, h2, h3, h4, h5⟩, h6⟩ hl ho hc => ⟨P, h0, he.put o' ho hc, ⟨h1.put o' ho hc, h2.put' o' ho hc, h3, below_put h4 o' (by rw [hsB] at hl; omega), by simpa using h5⟩, h6⟩) ?assign ?body ?done ?stop
  case assign =>
    intro y pre x W K hi hgo hsz hK
    simp only [entV]
    have HK := Lib.hid (hK { tmps := ckTmps cs w.heap.size (.pointer (some ⟨W.heap.size, 0, none⟩)) (entV w.heap.size x), defers := [] } (W.alloc (.cells (entL w.heap.size x).toArray 78)) ((KeepsOthers.alloc W _).from _) (KpE.below (B := 0) ((Below.refl _ _).alloc (Nat.le_refl _) _))
      ⟨_, rfl, Eb.new W _ _, ⟨hi.1.later ((Below.refl _ _).alloc (Nat.le_refl _) _), hi.2.1.below ((Below.refl _ _).alloc (Nat.le_refl _) _) hi.2.1.lt, hi.2.2.1, hi.2.2.2.1.alloc hi.2.2.2.1.size _, by have := hi.2.2.2.2; simp; omega⟩, hi.2.2.2.2⟩)
    unfold ckTmps entV entL at HK
    generalize hp4 : (if St.isFl x = true then none else some (⟨w.heap.size, x, none⟩ : Addr)) = p4 at *
    generalize hp5 : (if St.isFl x = true then some (⟨w.heap.size, x, none⟩ : Addr) else none) = p5 at *
    clear hK hi hp4 hp5
    gi_wp2
    exact HK.out
  case body =>
    rintro y pre x a' W ⟨P, rfl, hP, ⟨h1, h2, h3, h4, h5⟩, hP3⟩ hgo hsz
    have hx := pre_lt hgo
    obtain ⟨c0, c1, c2, c3, c4, c5⟩ := hP.cells
    have VA := Lib.hid (value_any w.heap.size x (bs (St.nm x)) (St.low x) (St.high x) (St.first x) v W h1 hx hfl)
    have hr := h2.cell
    have hrf := h2.frozen
    have LT := Lib.hid (fun W' (hb : Below W.heap.size W W') => (hP.later hb).cells)
    unfold ckTmps
    generalize hp4 : (if St.isFl x = true then none else some (⟨w.heap.size, x, none⟩ : Addr)) = p4 at *
    generalize hp5 : (if St.isFl x = true then some (⟨w.heap.size, x, none⟩ : Addr) else none) = p5 at *
    have HIN := Lib.hid (St.inR_iff v x)
    have HNO := Lib.hid (fun h => St.chk_no (v := v) hx h)
    have HPR : ∀ h : St.inR v x = true, Hid (∀ i ∈ pre ++ [x], St.inR v i = true) := fun h => Lib.hid (fun i hi => by
      rcases List.mem_append.1 hi with hi | hi
      · exact h3 i hi
      · rw [List.mem_singleton.1 hi]; exact h)
    clear hp4 hp5 hgo
    by_cases hin : St.inR v x = true
    · have hio := HIN.out.1 hin
      have H3 := HPR hin
      clear hin HPR HNO h3
      obtain ⟨hlo, hhi⟩ := hio
      gi_wp2_with (refine ⟨trivial, ?_⟩; gi_at_call 40; refine (CallsIn.inRound y (callsIn_wide.2 VA.out)).mono ?_; rintro e w3 ⟨rfl, b3⟩; obtain ⟨e0, e1, e2, e3, e4, e5⟩ := LT.out _ b3)
      exact ⟨keeps_below b3, KpE.below (B := 0) b3, h1.later b3, h2.below b3 h2.lt, H3.out, h4.trans (b3.mono h4.size), Nat.le_trans h5 b3.size⟩
    · have hnc := HNO.out (by simpa using hin)
      have hcase : v x < St.low x ∨ (¬ v x < St.low x ∧ St.high x < v x) := by
        by_cases h : v x < St.low x
        · exact .inl h
        · refine .inr ⟨h, ?_⟩
          by_cases h' : St.high x < v x
          · exact h'
          · exact absurd (HIN.out.2 ⟨by omega, by omega⟩) hin
      have HNC := Lib.hid hnc
      clear hin HPR HNO h3 hnc
      rcases hcase with hc | ⟨hc, hd⟩
      all_goals
        gi_wp2_with (refine ⟨trivial, ?_⟩; gi_at_call 40; refine (CallsIn.inRound y (callsIn_wide.2 VA.out)).mono ?_; rintro e w3 ⟨rfl, b3⟩; obtain ⟨e0, e1, e2, e3, e4, e5⟩ := LT.out _ b3; have hr3 := (h2.below b3 h2.lt).cell; have hrf3 := (h2.below b3 h2.lt).frozen)
        exact ⟨(keeps_below b3).trans ((KeepsOthers.setCell _ _ _).from _), rfl, (h2.below b3 h2.lt).set _, HNC.out, (h4.trans (b3.mono h4.size)).setCell (p := ⟨_, 0, none⟩) (by simp) _⟩
  case done =>
    rintro D xs W hD hS ⟨h1, h2, h3, h4, h5⟩ hK
    obtain rfl : D = w.heap.size + 3 := by rw [hD, hsB]
    have hch : St.chk v = true := by
      unfold St.chk
      rw [List.all_eq_true]
      intro i hi
      exact h3 i (by rw [hS]; exact hi)
    have hr := h2.cell
    have hrf := h2.frozen
    have HCH := Lib.hid hch
    clear hch hS
    gi_wp2
    have B2 := h2.set (.int .i64 0)
    have hK2 : (W.setCell ⟨w.heap.size + 1, 0, none⟩ (.int .i64 0)).heap[w.heap.size + 3]? = some (.deferred (some [])) := (Below.heap_setCell _ _ _ _ (by simp)).trans hK
    have A7 : Below w.heap.size w (W.setCell ⟨w.heap.size + 1, 0, none⟩ (.int .i64 0)) := h4.setCell (p := ⟨_, 0, none⟩) (by simp) _
    generalize W.setCell ⟨w.heap.size + 1, 0, none⟩ (.int .i64 0) = W9 at *
    refine ⟨by simp, .inl ⟨_, _, rfl, run_takeDeferred hK2, ?_⟩⟩
    have z1 := (B2.put' (.deferred none) hK2 rfl).cell
    refine ⟨_, show (results Tryd.f15 _).run Tryd.prog _ = .ok (.int .i64 0) _ by simp [results, Tryd.results15, go_sem, z1], ?_, below_put A7 _ (by omega)⟩
    rw [← HER.out, if_pos HCH.out]
  case stop =>
    rintro D c pre W hD hS ⟨rfl, h2, h3, h4⟩ hK
    obtain rfl : D = w.heap.size + 3 := by rw [hD, hsB]
    have HCH := Lib.hid h3
    clear h3 hS
    gi_wp2
    refine ⟨by simp, .inl ⟨_, _, rfl, run_takeDeferred hK, ?_⟩⟩
    have z1 := (h2.put' (.deferred none) hK rfl).cell
    refine ⟨_, show (results Tryd.f15 _).run Tryd.prog _ = .ok (.int .i64 90) _ by simp [results, Tryd.results15, go_sem, z1], ?_, below_put h4 _ (by omega)⟩
    rw [← HER.out, HCH.out]; rfl

end Go.Proofs.YtliabgcpciekpaaDoor
