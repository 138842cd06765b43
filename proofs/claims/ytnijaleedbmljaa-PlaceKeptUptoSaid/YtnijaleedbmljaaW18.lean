/- Walks: where a place came from (the program's). -/
import Derived.Test.YtnijaleedbmljaaW17
set_option linter.unusedVariables false
set_option linter.unusedSimpArgs false
namespace Go.Proofs.Ytnijaleedbmljaa
open Go Go.RowKit Go.Shelf
attribute [local go_sem] Oper.semAt_some

/-- What stays as it is while a loop runs: boxes, blocks for deferred calls, all below. -/
structure Fx (w : World) (base : Nat) (bx : List (Nat × TypeId × Value)) (ds : List Nat) (W : World) : Prop where
  box : ∀ q ∈ bx, Bx W q.1 q.2.1 q.2.2
  dfs : ∀ d ∈ ds, W.heap[d]? = some (.deferred (some [])) ∧ d < base
  bel : Below w.heap.size w W
  sz : base ≤ W.heap.size
section
variable {w W Y : World} {base : Nat} {bx : List (Nat × TypeId × Value)} {ds : List Nat}
theorem Fx.step (h : Fx w base bx ds W) (g : Below W.heap.size W Y) : Fx w base bx ds Y :=
  ⟨fun q hq => (h.box q hq).below g (h.box q hq).lt, fun d hd => ⟨(g.block d (Array.getElem?_eq_some_iff.1 (h.dfs d hd).1).1).trans (h.dfs d hd).1, (h.dfs d hd).2⟩, h.bel.trans (g.mono h.bel.size), Nat.le_trans h.sz g.size⟩
theorem Fx.put (h : Fx w base bx ds W) {l : Nat} {o : Obj} (o' : Obj) (hN : w.heap.size ≤ l) (hl : base ≤ l) (ho : W.heap[l]? = some o) (hc : o.isCells = false) : Fx w base bx ds (W.putObj l o') :=
  ⟨fun q hq => (h.box q hq).put o' ho hc, fun d hd => ⟨(World.putObj_heap_other (by have := (h.dfs d hd).2; omega)).trans (h.dfs d hd).1, (h.dfs d hd).2⟩, below_putN h.bel o' hN, by simpa using h.sz⟩
theorem Fx.upd (h : Fx w base bx ds W) {k : Nat} {T : TypeId} {v0 : Value} (v : Value) (hk : Bx W k T v0) (hN : w.heap.size ≤ k) {bx' : List (Nat × TypeId × Value)} (hb : ∀ q ∈ bx', q = (k, T, v) ∨ (q ∈ bx ∧ q.1 ≠ k)) : Fx w base bx' ds (W.setCell ⟨k, 0, none⟩ v) := by
  refine ⟨fun q hq => ?_, fun d hd => ⟨(Below.heap_setCell _ _ _ _ (fun e => ?_)).trans (h.dfs d hd).1, (h.dfs d hd).2⟩, h.bel.setCell (p := ⟨k, 0, none⟩) hN _, by simp [World.setCell]; exact h.sz⟩
  · rcases hb q hq with rfl | ⟨h1, h2⟩
    · exact hk.set v
    · exact (h.box q h1).other h2 v
  · simp only at e
    subst e
    have := (h.dfs _ hd).1
    unfold Bx at hk
    rw [hk] at this; cases this
theorem Fx.set (h : Fx w base bx ds W) {k : Nat} {T : TypeId} {v0 : Value} (v : Value) (hk : Bx W k T v0) (hN : w.heap.size ≤ k) (hb : ∀ q ∈ bx, q.1 ≠ k) : Fx w base bx ds (W.setCell ⟨k, 0, none⟩ v) :=
  h.upd v hk hN (fun q hq => .inr ⟨hq, hb q hq⟩)
end

def fr1Tmps (s : ByteArray) (A : Option Addr) (ln c : Nat) (n : Int) (h h1 : Nat) (v10 v22 : Value) : Array Value :=
  #[.string s, .slice A ln c, .int .i64 n, undef, undef, .pointer (some ⟨h, 0, none⟩), .pointer (some ⟨h + 1, 0, none⟩), .pointer (some ⟨h + 1 + 1, 0, none⟩), .pointer (some ⟨h + 1 + 1 + 1, 0, none⟩), .pointer (some ⟨h1, 0, none⟩), v10, undef, undef, .string s, .slice A ln c, .bool true, .bool false, .string s, .int .i64 s.size, .string s, .slice A ln c, .func (.func 61) #[] #[.pointer (some ⟨h1 + 1, 0, none⟩), .pointer (some ⟨h1 + 1 + 1, 0, none⟩)], v22, undef, undef, undef, undef, undef, undef, undef, undef, undef, undef, undef, undef, undef, undef, undef, undef, undef, undef, undef, undef, undef, undef, undef, undef, undef, undef, undef, undef, undef, undef, undef, undef, undef, undef, undef, undef, undef, undef, undef, undef, undef, undef, undef, undef, undef, undef, undef, undef, undef, undef, undef, undef]
def fr2Tmps (s : ByteArray) (A : Option Addr) (ln c : Nat) (n z : Int) (h h1 h2 : Nat) (v12 v44 : Value) : Array Value :=
  #[.string s, .slice A ln c, .int .i64 n, undef, undef, .pointer (some ⟨h, 0, none⟩), .pointer (some ⟨h + 1, 0, none⟩), .pointer (some ⟨h + 1 + 1, 0, none⟩), .pointer (some ⟨h + 1 + 1 + 1, 0, none⟩), .pointer (some ⟨h1, 0, none⟩), undef, .pointer (some ⟨h2, 0, none⟩), v12, .string s, .slice A ln c, .bool true, .bool false, .string s, .int .i64 s.size, .string s, .slice A ln c, .func (.func 61) #[] #[.pointer (some ⟨h1 + 1, 0, none⟩), .pointer (some ⟨h1 + 1 + 1, 0, none⟩)], undef, undef, undef, undef, undef, undef, undef, undef, undef, undef, undef, undef, .int .i64 n, .bool false, .bool false, .int .i64 n, .int .i64 z, .bool false, .bool false, .string s, .slice A ln c, .func (.func 61) #[] #[.pointer (some ⟨h2 + 1, 0, none⟩), .pointer (some ⟨h2 + 1 + 1, 0, none⟩)], v44, undef, undef, undef, undef, undef, undef, undef, undef, undef, undef, undef, undef, undef, undef, undef, undef, undef, undef, undef, undef, undef, undef, undef, undef, undef, undef, undef, undef, undef, undef]

/-- The iterator's contract at a world where its two boxes lie. -/
theorem seq_at (s : ByteArray) (A : Option Addr) (c : Nat) (l : List Pl.Ed) (w wl : World) (b1 b2 M : Nat) (hs : s.size ≤ 4000000) (h : Rd w 3 A l.length (edcs l)) (hsm : Sm l) (hf : fitS s.data.toList l = true)
    (x1 : Bx wl b1 9 (.string s)) (x2 : Bx wl b2 22 (.slice A l.length c)) (hB : Below w.heap.size w wl) (hM : wl.heap.size = M) :
    ∀ W1 : World, W1.heap.size = wl.heap.size + 2 → Below wl.heap.size wl W1 →
      Seq (5 - 1) Try.prog 61 #[.pointer (some ⟨b1, 0, none⟩), .pointer (some ⟨b2, 0, none⟩)] spv (fun X Y => Below X.heap.size X Y) (Kps w.heap.size (M + 2))
        (fun pre => pre <+: Pl.spots (Pl.lines s.data.toList) 0 l) (fun xs => xs = Pl.spots (Pl.lines s.data.toList) 0 l) (fun pre => pre <+: Pl.spots (Pl.lines s.data.toList) 0 l) W1 := fun W1 hs1 hbb => by
  have := spots1_seq (5 - 1) b1 b2 s A c l w W1 _ hs (x1.below hbb x1.lt) (x2.below hbb x2.lt) h hsm ((fitS_iff _ _).1 hf) (Keep.below (hB.trans (hbb.mono hB.size)) (Nat.le_refl _))
  rw [hs1, hM] at this
  exact this
theorem spots_ok {s : ByteArray} {l : List Pl.Ed} (hs : s.size ≤ 4000000) (hsm : Sm l) (hf : fitS s.data.toList l = true) : (∀ p ∈ Pl.spots (Pl.lines s.data.toList) 0 l, Pl.Small p) ∧ (Pl.spots (Pl.lines s.data.toList) 0 l).length = l.length := by
  have hF := (fitS_iff _ _).1 hf
  obtain ⟨hxn, hxT, hxf⟩ := ref_setup hs
  have hlen := hsm.len
  exact ⟨Pl.spots_small (x := Pl.lines s.data.toList) hxf l 0 (fun e he => ⟨(Fits_mem hF e he).1, (Fits_mem hF e he).2.1⟩) hsm.txt hlen (by omega) (by omega), Pl.spots_length _ l 0⟩

def frB (h : Nat) (n : Int) : List (Nat × TypeId × Value) := [(h, 3, .int .i64 n), (h + 1, 3, .int .i64 0), (h + 1 + 1, 4, .bool false), (h + 1 + 1 + 1, 24, .int .i64 0)]
def frR (h : Nat) (r : Int × Bool) : List (Nat × TypeId × Value) := [(h + 1, 3, .int .i64 r.1), (h + 1 + 1, 4, .bool r.2), (h + 1 + 1 + 1, 24, .int .i64 0)]
def Fr1 (w : World) (base h1 : Nat) (n sz : Int) (Sp pre : List Pl.Spot) (W : World) : Prop :=
  Fx w base (frB w.heap.size n) [] W ∧ ∃ m : Int, Bx W h1 3 (.int .i64 m) ∧ -((pre.length : Int) * 4000000) ≤ m ∧ m ≤ 4000000 + (pre.length : Int) * 4000000 ∧ m + Pl.grow (Sp.drop pre.length) = sz
def Fr2 (w : World) (base h2 D1 : Nat) (n : Int) (Sp pre : List Pl.Spot) (W : World) : Prop :=
  Fx w base (frB w.heap.size n) [D1] W ∧ ∃ m : Int, Bx W h2 3 (.int .i64 m) ∧ -((pre.length : Int) * 4000000) ≤ m ∧ m ≤ (pre.length : Int) * 4000000 ∧ Pl.fm n m (Sp.drop pre.length) = Pl.fm n 0 Sp
def Fr2X (w : World) (base h2 D1 : Nat) (n : Int) (Sp : List Pl.Spot) (c : Code) (pre : List Pl.Spot) (W : World) : Prop :=
  (c = .exit 2 ∧ Fx w base (frB w.heap.size n) [D1] W ∧ ∃ m : Int, Bx W h2 3 (.int .i64 m) ∧ -16000000000000 ≤ m ∧ m ≤ 16000000000000 ∧ (n - m, true) = Pl.fm n 0 Sp) ∨
  (c = .ret ∧ Fx w base (frR w.heap.size (Pl.fm n 0 Sp)) [D1] W)

theorem grow_cons (p : Pl.Spot) (r : List Pl.Spot) : Pl.grow (p :: r) = ((p.x.length : Int) - (p.e - p.b)) + Pl.grow r := rfl
theorem four_boxes (w : World) (v0 v1 v2 v3 : Value) (T0 T1 T2 T3 : TypeId) :
    Bx ((((w.alloc (.cells #[v0] T0)).alloc (.cells #[v1] T1)).alloc (.cells #[v2] T2)).alloc (.cells #[v3] T3)) w.heap.size T0 v0 ∧ Bx ((((w.alloc (.cells #[v0] T0)).alloc (.cells #[v1] T1)).alloc (.cells #[v2] T2)).alloc (.cells #[v3] T3)) (w.heap.size + 1) T1 v1 ∧
    Bx ((((w.alloc (.cells #[v0] T0)).alloc (.cells #[v1] T1)).alloc (.cells #[v2] T2)).alloc (.cells #[v3] T3)) (w.heap.size + 1 + 1) T2 v2 ∧ Bx ((((w.alloc (.cells #[v0] T0)).alloc (.cells #[v1] T1)).alloc (.cells #[v2] T2)).alloc (.cells #[v3] T3)) (w.heap.size + 1 + 1 + 1) T3 v3 := by
  obtain ⟨h0, h1, h2⟩ := three_boxes w v0 v1 v2 T0 T1 T2
  have h3 := Bx.new (((w.alloc (.cells #[v0] T0)).alloc (.cells #[v1] T1)).alloc (.cells #[v2] T2)) T3 v3
  simp only [World.size_alloc] at h3
  exact ⟨h0.alloc _, h1.alloc _, h2.alloc _, h3⟩
theorem three_more (w : World) (v0 v1 v2 : Value) (T0 T1 T2 : TypeId) : (((w.alloc (.cells #[v0] T0)).alloc (.cells #[v1] T1)).alloc (.cells #[v2] T2)).heap.size = w.heap.size + 3 ∧
    Below w.heap.size w (((w.alloc (.cells #[v0] T0)).alloc (.cells #[v1] T1)).alloc (.cells #[v2] T2)) :=
  ⟨by simp, (((Below.refl _ w).alloc (Nat.le_refl _) _).alloc (by simp) _).alloc (by simp; omega) _⟩

theorem fr_leave {w V : World} {base D E : Nat} {r : Int × Bool} {tmps : Array Value} (h6 : tmps[6]?.getD undef = .pointer (some ⟨w.heap.size + 1, 0, none⟩)) (h7 : tmps[7]?.getD undef = .pointer (some ⟨w.heap.size + 1 + 1, 0, none⟩)) (h8 : tmps[8]?.getD undef = .pointer (some ⟨w.heap.size + 1 + 1 + 1, 0, none⟩))
    (h : Fx w base (frR w.heap.size r) [D] V) (hE : V.heap[E]? = some (.deferred (some []))) (hb : base ≤ E) (hw : w.heap.size ≤ D) {R : Ending → World → Prop} (hR : ∀ w', Below w.heap.size w w' → R (.returned (.tuple #[.int .i64 r.1, .bool r.2, .int .i64 0])) w') :
    LeavesInM Fence.wide 5 Try.prog Try.f20 tmps R [{ target := .collected E, args := #[] }, { target := .collected D, args := #[] }] .returning V := by
  have hD := (h.dfs D (by simp)).1
  have hDb := (h.dfs D (by simp)).2
  have hwE : w.heap.size ≤ E := by omega
  refine ⟨by simp, .inl ⟨_, _, rfl, run_takeDeferred hE, ?_⟩⟩
  have hD2 : (V.putObj E (.deferred none)).heap[D]? = some (.deferred (some [])) := (World.putObj_heap_other (by omega)).trans hD
  refine ⟨by simp, .inl ⟨_, _, rfl, run_takeDeferred hD2, ?_⟩⟩
  have A1 := ((h.box (w.heap.size + 1, 3, .int .i64 r.1) (by simp [frR])).put (.deferred none) hE rfl).put (.deferred none) hD2 rfl
  have A2 := ((h.box (w.heap.size + 1 + 1, 4, .bool r.2) (by simp [frR])).put (.deferred none) hE rfl).put (.deferred none) hD2 rfl
  have A3 := ((h.box (w.heap.size + 1 + 1 + 1, 24, .int .i64 0) (by simp [frR])).put (.deferred none) hE rfl).put (.deferred none) hD2 rfl
  have z1 := A1.cell
  have z2 := A2.cell
  have z3 := A3.cell
  simp only at z1 z2 z3
  exact ⟨_, show (results Try.f20 tmps).run Try.prog _ = .ok (.tuple #[.int .i64 r.1, .bool r.2, .int .i64 0]) _ by simp [results, Try.results20, go_sem, h6, h7, h8, z1, z2, z3], hR _ (below_putN (below_putN h.bel _ hwE) _ hw)⟩

/-- The three stores of a return. -/
theorem fr_stores {w V : World} {base D : Nat} {n : Int} (h : Fx w base (frB w.heap.size n) [D] V) (r : Int × Bool) :
    Fx w base (frR w.heap.size r) [D] (((V.setCell ⟨w.heap.size + 1, 0, none⟩ (.int .i64 r.1)).setCell ⟨w.heap.size + 1 + 1, 0, none⟩ (.bool r.2)).setCell ⟨w.heap.size + 1 + 1 + 1, 0, none⟩ (.int .i64 0)) := by
  have A1 := h.box (w.heap.size + 1, 3, .int .i64 0) (by simp [frB])
  have A2 := h.box (w.heap.size + 1 + 1, 4, .bool false) (by simp [frB])
  have A3 := h.box (w.heap.size + 1 + 1 + 1, 24, .int .i64 0) (by simp [frB])
  simp only at A1 A2 A3
  have s1 := h.upd (.int .i64 r.1) A1 (by omega) (bx' := [(w.heap.size + 1, 3, .int .i64 r.1), (w.heap.size + 1 + 1, 4, .bool false), (w.heap.size + 1 + 1 + 1, 24, .int .i64 0)]) (fun q hq => by
    simp only [List.mem_cons, List.not_mem_nil, or_false] at hq
    rcases hq with rfl | rfl | rfl
    · exact .inl rfl
    · exact .inr ⟨by simp [frB], by simp only; omega⟩
    · exact .inr ⟨by simp [frB], by simp only; omega⟩)
  have s2 := s1.upd (.bool r.2) (A2.other (k := w.heap.size + 1) (by omega) _) (by omega) (bx' := [(w.heap.size + 1, 3, .int .i64 r.1), (w.heap.size + 1 + 1, 4, .bool r.2), (w.heap.size + 1 + 1 + 1, 24, .int .i64 0)]) (fun q hq => by
    simp only [List.mem_cons, List.not_mem_nil, or_false] at hq
    rcases hq with rfl | rfl | rfl
    · exact .inr ⟨by simp, by simp only; omega⟩
    · exact .inl rfl
    · exact .inr ⟨by simp, by simp only; omega⟩)
  exact s2.upd (.int .i64 0) ((A3.other (k := w.heap.size + 1) (by omega) _).other (k := w.heap.size + 1 + 1) (by omega) _) (by omega) (fun q hq => by
    simp only [frR, List.mem_cons, List.not_mem_nil, or_false] at hq
    rcases hq with rfl | rfl | rfl
    · exact .inr ⟨by simp, by simp only; omega⟩
    · exact .inr ⟨by simp, by simp only; omega⟩
    · exact .inl rfl)

set_option maxRecDepth 100000 in
set_option maxHeartbeats 4000000 in
theorem From_fit (s : ByteArray) (A : Option Addr) (c : Nat) (l : List Pl.Ed) (n : Int) (w : World) (hs : s.size ≤ 4000000) (h : Rd w 3 A l.length (edcs l)) (hsm : Sm l) (hf : fitS s.data.toList l = true) (hn0 : 0 ≤ n) (hn1 : n ≤ (s.size : Int) + Pl.grow (Pl.spots (Pl.lines s.data.toList) 0 l)) :
    Calls Try.prog 20 #[.string s, .slice A l.length c, .int .i64 n] w fun e w' => e = .returned (.tuple #[.int .i64 (Pl.fm n 0 (Pl.spots (Pl.lines s.data.toList) 0 l)).1, .bool (Pl.fm n 0 (Pl.spots (Pl.lines s.data.toList) 0 l)).2, .int .i64 0]) ∧ Below w.heap.size w w' := by
  have C1 := fun W g => pfit_any s A c l W hs g hsm
  rw [hf] at C1
  have K1 := Lib.hid C1; clear C1
  refine callsIn_wide (n := 5) |>.1 ?_
  refine callsIn_of_wp_marks Try.func20 rfl trivial ?_ rfl
  simp only [Try.ntmps20, List.size_toArray, List.length_cons, List.length_nil, Nat.reduceAdd, Nat.reduceSub, Array.replicate_succ, Array.replicate_zero, List.push_toArray, List.append_toArray, List.nil_append, List.cons_append]
  gi_wp2
  refine wpIn_scope ?_
  have hB0 : Below w.heap.size w ((((w.alloc (.cells #[.int .i64 n] 3)).alloc (.cells #[.int .i64 0] 3)).alloc (.cells #[.bool false] 4)).alloc (.cells #[.int .i64 0] 24)) := ((((Below.refl _ w).alloc (Nat.le_refl _) _).alloc (by simp) _).alloc (by simp; omega) _).alloc (by simp; omega) _
  obtain ⟨x0, x1, x2, x3⟩ := four_boxes w (.int .i64 n) (.int .i64 0) (.bool false) (.int .i64 0) 3 3 4 24
  gi_wp2_with (first
    | (refine ⟨trivial, ?_⟩; gi_at_call 44; refine (callsIn_wide.2 (K1.out _ (h.later hB0))).mono ?_; rintro e w1 ⟨rfl, hb1⟩; have y0 := x0.below hb1 x0.lt; have y1 := x1.below hb1 x1.lt; have y2 := x2.below hb1 x2.lt; have y3 := x3.below hb1 x3.lt)
    | (refine ⟨trivial, ?_⟩; gi_at_call 45; refine (callsIn_wide.2 (spots_any _ _ _ _ _)).mono ?_; rintro e w2 ⟨rfl, rfl⟩))
  have hB1 := hB0.trans (hb1.mono hB0.size)
  have hhw : w.heap.size + 4 ≤ w1.heap.size := by have := hb1.size; simpa using this
  obtain ⟨hSm, hSl⟩ := spots_ok hs hsm hf
  have hlen := hsm.len
  obtain ⟨b0, b1, b2⟩ := three_boxes w1 (.int .i64 s.size) (.string s) (.slice A l.length c) 3 9 22
  obtain ⟨hwl, hB2⟩ := three_more w1 (.int .i64 s.size) (.string s) (.slice A l.length c) 3 9 22
  have hB12 := hB1.trans (hB2.mono hB1.size)
  have SEQ := seq_at s A c l w _ _ _ _ hs h hsm hf b1 b2 hB12 hwl
  have hFx : Fx w (w1.heap.size + 3) (frB w.heap.size n) [] (((w1.alloc (.cells #[.int .i64 s.size] 3)).alloc (.cells #[.string s] 9)).alloc (.cells #[.slice A l.length c] 22)) := by
    refine ⟨fun q hq => ?_, (fun d hd => by cases hd), hB12, by rw [hwl]; exact Nat.le_refl _⟩
    simp only [frB, List.mem_cons, List.not_mem_nil, or_false] at hq
    rcases hq with rfl | rfl | rfl | rfl
    · exact y0.below hB2 y0.lt
    · exact y1.below hB2 y1.lt
    · exact y2.below hB2 y2.lt
    · exact y3.below hB2 y3.lt
  have HK := h
  obtain ⟨Sp, hSp⟩ : ∃ Sp, Sp = Pl.spots (Pl.lines s.data.toList) 0 l := ⟨_, rfl⟩
  rw [← hSp] at hSm hSl SEQ hn1
  have HSP := Lib.hid hSp; clear hSp
  refine rangeLaw2 (gf := 61) (lb := #[.pointer (some ⟨w1.heap.size + 1, 0, none⟩), .pointer (some ⟨w1.heap.size + 1 + 1, 0, none⟩)]) rfl (enters_of Try.func61 (by kernel_rfl) rfl)
    SEQ (fun X Y k o hg hk ho _ => (hg.block k (Array.getElem?_eq_some_iff.1 ho).1).trans ho)
    (fun h1 h2 => h1.trans h2) (fun W l o o' hl ho hc _ => Kps.put W l o o' (by rw [hwl] at hl; omega) ho hc) (fun _ => rfl)
    (Fr1 w (w1.heap.size + 3) w1.heap.size n ((s.size : Int) + Pl.grow Sp) Sp) (fun _ _ _ => False)
    (fun pre X Y ⟨a1, m, a2, a3⟩ hg => ⟨a1.step hg, m, a2.below hg a2.lt, a3⟩)
    (fun pre W l o o' ⟨a1, m, a2, a3⟩ hl ho hc => ⟨a1.put o' (by rw [hwl] at hl; omega) (by rw [hwl] at hl; exact hl) ho hc, m, a2.put o' ho hc, a3⟩)
    (fun c pre W l o o' hi _ _ _ => hi)
    (fun W1 hs1 hbb => ⟨hFx.step hbb, s.size, b0.below hbb b0.lt, by simp, by simp; omega, by simp⟩)
    (fun pre x a' W => ∃ P, a' = { tmps := fr1Tmps s A l.length c n w.heap.size w1.heap.size (.pointer (some ⟨P, 0, none⟩)) (.agg #[.int .i64 x.b, .int .i64 x.e, .int .i64 x.to, .string (bs x.x)]), defers := [] } ∧ Sb W P x ∧ Fr1 w (w1.heap.size + 3) w1.heap.size n ((s.size : Int) + Pl.grow Sp) Sp pre W)
    (fun pre x a' W l o o' ⟨P, h1, h2, ⟨a1, m, a2, a3⟩⟩ hl ho hc => ⟨P, h1, h2.put o' ho hc, ⟨a1.put o' (by rw [hwl] at hl; omega) (by rw [hwl] at hl; exact hl) ho hc, m, a2.put o' ho hc, a3⟩⟩) ?assign ?body ?done ?stop
  case assign =>
    rintro y pre x W K ⟨a1, m, a2, a3⟩ hgo hsz hK
    simp only [spv]
    gi_wp2
    exact hK _ _ ((KeepsOthers.alloc W _).from _) (Kps.alloc _ _ W _ (by rw [hwl] at hsz; omega)) ⟨_, rfl, Sb.new W x, a1.step ((Below.refl _ W).alloc (Nat.le_refl _) _), m, a2.alloc _, a3⟩
  case body =>
    rintro y pre x a' W ⟨P, rfl, hP, ⟨a1, m, a4, m1, m2, a5⟩⟩ hgo hsz
    have hx := hSm x (Pl.pre_mem hgo)
    have hpl := Pl.pre_len hgo
    have hpx : (pre ++ [x]).length = pre.length + 1 := by simp
    obtain ⟨b0', be, e1, x1', t0, t1⟩ := hx
    have A5 : Hid (m + ((x.x.length : Int) - (x.e - x.b)) + Pl.grow (Sp.drop (pre ++ [x]).length) = (s.size : Int) + Pl.grow Sp) := Lib.hid (by rw [← a5, Pl.drop_pre hgo, grow_cons]; omega)
    obtain ⟨p0, p1, p2, p3⟩ := hP.cells
    have f4 := a4.cell
    have g4 := a4.frozen
    have hzs : (bs x.x).size = x.x.length := bs_size _
    have hpx' := Lib.hid hpx
    have hwl' := Lib.hid hwl
    clear hgo hpx SEQ hwl hSm a5
    unfold fr1Tmps
    gi_wp2
    refine ⟨(KeepsOthers.setCell _ _ _).from _, Kps.set _ _ _ (by omega) (by omega), a1.set _ a4 (by omega) (fun q hq => ?_), _, a4.set _, by rw [hpx'.out]; push_cast; omega, by rw [hpx'.out]; push_cast; omega, A5.out⟩
    simp only [frB, List.mem_cons, List.not_mem_nil, or_false] at hq
    rcases hq with rfl | rfl | rfl | rfl <;> (simp only; omega)
  case stop =>
    rintro D c' pre W hD hS hX hK
    exact hX.elim
  case done =>
    rintro D xs W hD hS ⟨a1, m, a4, m1, m2, a5⟩ hK
    have HD := Lib.hid hD; clear hD
    have A5 : m = (s.size : Int) + Pl.grow Sp := by rw [← a5, hS, List.drop_length]; simp [Pl.grow]
    subst A5
    rw [hS, hSl] at m1 m2
    have f0 := (a1.box (w.heap.size, 3, .int .i64 n) (by simp [frB])).cell
    have f4 := a4.cell
    have HF4 := Lib.hid f4
    simp only at f0
    generalize (s.size : Int) + Pl.grow Sp = z at *
    have hz0 : decide (n < 0) = false := by simp; omega
    have hz1 : decide (z < n) = false := by simp; omega
    clear a5 hS hFx SEQ
    gi_wp2
    refine wpIn_label ?_
    gi_wp2_with (refine ⟨trivial, ?_⟩; gi_at_call 45; refine (callsIn_wide.2 (spots_any _ _ _ _ _)).mono ?_; rintro e w2 ⟨rfl, rfl⟩)
    have b5 := a1.bel
    have hD5 : D < W.heap.size := (Array.getElem?_eq_some_iff.1 hK).1
    obtain ⟨c0, c1, c2⟩ := three_boxes W (.int .i64 0) (.string s) (.slice A l.length c) 3 9 22
    obtain ⟨hwl2, hB5⟩ := three_more W (.int .i64 0) (.string s) (.slice A l.length c) 3 9 22
    have hB6 := b5.trans (hB5.mono b5.size)
    have SEQ2 := seq_at s A c l w _ _ _ _ hs h hsm hf c1 c2 hB6 hwl2
    have hFx2 : Fx w (W.heap.size + 3) (frB w.heap.size n) [D] (((W.alloc (.cells #[.int .i64 0] 3)).alloc (.cells #[.string s] 9)).alloc (.cells #[.slice A l.length c] 22)) := by
      refine ⟨fun q hq => (a1.box q hq).below hB5 (a1.box q hq).lt, fun d hd => ?_, hB6, by rw [hwl2]; exact Nat.le_refl _⟩
      simp only [List.mem_singleton] at hd
      subst hd
      exact ⟨(hB5.block _ hD5).trans hK, by omega⟩
    rw [← HSP.out] at SEQ2
    have hww := b5.size
    have hW3 := a1.sz
    have hRu : (Pl.fm n 0 Sp) = (Pl.fm n 0 Sp) := rfl
    refine rangeLaw2 (gf := 61) (lb := #[.pointer (some ⟨W.heap.size + 1, 0, none⟩), .pointer (some ⟨W.heap.size + 1 + 1, 0, none⟩)]) rfl (enters_of Try.func61 (by kernel_rfl) rfl)
      SEQ2 (fun X Y k o hg hk ho _ => (hg.block k (Array.getElem?_eq_some_iff.1 ho).1).trans ho)
      (fun h1 h2 => h1.trans h2) (fun W' l o o' hl ho hc _ => Kps.put W' l o o' (by rw [hwl2] at hl; omega) ho hc) (fun _ => rfl)
      (Fr2 w (W.heap.size + 3) W.heap.size D n Sp) (Fr2X w (W.heap.size + 3) W.heap.size D n Sp)
      (fun pre X Y ⟨a1, m, a2, a3⟩ hg => ⟨a1.step hg, m, a2.below hg a2.lt, a3⟩)
      (fun pre W' l o o' ⟨a1, m, a2, a3⟩ hl ho hc => ⟨a1.put o' (by rw [hwl2] at hl; omega) (by rw [hwl2] at hl; exact hl) ho hc, m, a2.put o' ho hc, a3⟩)
      (fun c pre W' l o o' hi hl ho hc => by
        rcases hi with ⟨e, a1, m, a2, a3⟩ | ⟨e, a1⟩
        · exact .inl ⟨e, a1.put o' (by rw [hwl2] at hl; omega) (by rw [hwl2] at hl; exact hl) ho hc, m, a2.put o' ho hc, a3⟩
        · exact .inr ⟨e, a1.put o' (by rw [hwl2] at hl; omega) (by rw [hwl2] at hl; exact hl) ho hc⟩)
      (fun W1 hs1 hbb => ⟨hFx2.step hbb, 0, c0.below hbb c0.lt, by simp, by simp, by simp⟩)
      (fun pre x a' W' => ∃ P, a' = { tmps := fr2Tmps s A l.length c n z w.heap.size w1.heap.size W.heap.size (.pointer (some ⟨P, 0, none⟩)) (.agg #[.int .i64 x.b, .int .i64 x.e, .int .i64 x.to, .string (bs x.x)]), defers := [] } ∧ Sb W' P x ∧ Fr2 w (W.heap.size + 3) W.heap.size D n Sp pre W')
      (fun pre x a' W' l o o' ⟨P, h1, h2, ⟨a1, m, a2, a3⟩⟩ hl ho hc => ⟨P, h1, h2.put o' ho hc, ⟨a1.put o' (by rw [hwl2] at hl; omega) (by rw [hwl2] at hl; exact hl) ho hc, m, a2.put o' ho hc, a3⟩⟩) ?assign2 ?body2 ?done2 ?stop2
    case assign2 =>
      rintro y pre x W' K ⟨a1, m, a2, a3⟩ hgo hsz hK
      simp only [spv]
      gi_wp2
      exact hK _ _ ((KeepsOthers.alloc W' _).from _) (Kps.alloc _ _ W' _ (by rw [hwl2] at hsz; omega)) ⟨_, rfl, Sb.new W' x, a1.step ((Below.refl _ W').alloc (Nat.le_refl _) _), m, a2.alloc _, a3⟩
    case body2 =>
      rintro y pre x a' V ⟨P, rfl, hP, ⟨a1, m, a4, m1, m2, a5⟩⟩ hgo hsz
      have hx := hSm x (Pl.pre_mem hgo)
      have hpl := Pl.pre_len hgo
      have hpx : (pre ++ [x]).length = pre.length + 1 := by simp
      have hm3 : -16000000000000 ≤ m ∧ m ≤ 16000000000000 := by omega
      obtain ⟨b0', be, e1, x1', t0, t1⟩ := hx
      rw [Pl.drop_pre hgo] at a5
      obtain ⟨p0, p1, p2, p3⟩ := hP.cells
      have A0 := a1.box (w.heap.size, 3, .int .i64 n) (by simp [frB])
      have A1 := a1.box (w.heap.size + 1, 3, .int .i64 0) (by simp [frB])
      have A2 := a1.box (w.heap.size + 1 + 1, 4, .bool false) (by simp [frB])
      have A3 := a1.box (w.heap.size + 1 + 1 + 1, 24, .int .i64 0) (by simp [frB])
      simp only at A0 A1 A2 A3
      have f0 := A0.cell
      have f1 := A1.cell
      have f2 := A2.cell
      have f3 := A3.cell
      have g1 := A1.frozen
      have g2 := A2.frozen
      have g3 := A3.frozen
      have f4 := a4.cell
      have g4 := a4.frozen
      have hzs : (bs x.x).size = x.x.length := bs_size _
      have hpx' := Lib.hid hpx
      have hwl' := Lib.hid hwl2
      clear hgo hpx SEQ2 hwl hwl2 hSm
      unfold fr2Tmps
      by_cases h1 : n < x.to
      · have A5 := Lib.hid (a5.symm.trans (Pl.fm_far h1)); clear a5
        gi_wp2
        exact ⟨KeepsFrom.refl _ _, .inl ⟨rfl, a1, m, a4, hm3.1, hm3.2, A5.out.symm⟩⟩
      · by_cases h2 : n < x.to + x.x.length
        · have A5 := Lib.hid (a5.symm.trans (Pl.fm_in h1 h2)); clear a5
          gi_wp2
          refine ⟨(((KeepsOthers.setCell _ _ _).trans (KeepsOthers.setCell _ _ _)).trans (KeepsOthers.setCell _ _ _)).from _, .inr ⟨rfl, ?_⟩⟩
          rw [A5.out]
          exact fr_stores a1 (x.b, false)
        · have A5 := Lib.hid (a5.symm.trans (Pl.fm_on h1 h2)); clear a5
          gi_wp2
          refine ⟨(KeepsOthers.setCell _ _ _).from _, Kps.set _ _ _ (by omega) (by omega), a1.set _ a4 (by omega) (fun q hq => ?_), _, a4.set _, by rw [hpx'.out]; push_cast; omega, by rw [hpx'.out]; push_cast; omega, A5.out.symm⟩
          simp only [frB, List.mem_cons, List.not_mem_nil, or_false] at hq
          rcases hq with rfl | rfl | rfl | rfl <;> (simp only; omega)
    case done2 =>
      rintro E xs V hE hS ⟨a1, m, a4, m1, m2, a5⟩ hKE
      have hm3 : -16000000000000 ≤ m ∧ m ≤ 16000000000000 := by rw [hS, hSl] at m1 m2; omega
      have A5 : Hid (Pl.fm n 0 Sp = (n - m, true)) := Lib.hid (by rw [← a5, hS, List.drop_length]; rfl)
      clear a5 hS m1 m2
      have HEq := Lib.hid hE; clear hE
      have A0 := a1.box (w.heap.size, 3, .int .i64 n) (by simp [frB])
      have A1 := a1.box (w.heap.size + 1, 3, .int .i64 0) (by simp [frB])
      have A2 := a1.box (w.heap.size + 1 + 1, 4, .bool false) (by simp [frB])
      have A3 := a1.box (w.heap.size + 1 + 1 + 1, 24, .int .i64 0) (by simp [frB])
      simp only at A0 A1 A2 A3
      have f0 := A0.cell
      have f1 := A1.cell
      have f2 := A2.cell
      have f3 := A3.cell
      have g1 := A1.frozen
      have g2 := A2.frozen
      have g3 := A3.frozen
      have f4 := a4.cell
      have HWL := Lib.hid hwl2
      have HDB := Lib.hid hwl
      clear SEQ2 hFx2 hwl2 hwl hSm
      gi_wp2
      try rw [Exit.noGoto_ret]
      have hKE2 : (((V.setCell ⟨w.heap.size + 1, 0, none⟩ (.int .i64 (n - m))).setCell ⟨w.heap.size + 1 + 1, 0, none⟩ (.bool true)).setCell ⟨w.heap.size + 1 + 1 + 1, 0, none⟩ (.int .i64 0)).heap[E]? = some (.deferred (some [])) :=
        (Below.heap_setCell _ _ _ _ (fun e => by simp at e; have := HEq.out; rw [HWL.out] at this; omega)).trans ((Below.heap_setCell _ _ _ _ (fun e => by simp at e; have := HEq.out; rw [HWL.out] at this; omega)).trans ((Below.heap_setCell _ _ _ _ (fun e => by simp at e; have := HEq.out; rw [HWL.out] at this; omega)).trans hKE))
      exact fr_leave rfl rfl rfl (fr_stores a1 (n - m, true)) hKE2 (by have := HEq.out; rw [HWL.out] at this; omega) (by have := HD.out; rw [HDB.out] at this; omega) (fun w' hb => ⟨by rw [← HSP.out, A5.out], hb⟩)
    case stop2 =>
      rintro E c' pre V hE hS hX hKE
      rcases hX with ⟨rfl, a1, m, a4, m1, m2, a5⟩ | ⟨rfl, a1⟩
      · have A5 := Lib.hid a5.symm
        clear a5 hS
        have HEq := Lib.hid hE; clear hE
        have A0 := a1.box (w.heap.size, 3, .int .i64 n) (by simp [frB])
        have A1 := a1.box (w.heap.size + 1, 3, .int .i64 0) (by simp [frB])
        have A2 := a1.box (w.heap.size + 1 + 1, 4, .bool false) (by simp [frB])
        have A3 := a1.box (w.heap.size + 1 + 1 + 1, 24, .int .i64 0) (by simp [frB])
        simp only at A0 A1 A2 A3
        have f0 := A0.cell
        have f1 := A1.cell
        have f2 := A2.cell
        have f3 := A3.cell
        have g1 := A1.frozen
        have g2 := A2.frozen
        have g3 := A3.frozen
        have f4 := a4.cell
        have HWL := Lib.hid hwl2
        have HDB := Lib.hid hwl
        clear SEQ2 hFx2 hwl2 hwl hSm
        gi_wp2
        try rw [Exit.noGoto_ret]
        have hKE2 : (((V.setCell ⟨w.heap.size + 1, 0, none⟩ (.int .i64 (n - m))).setCell ⟨w.heap.size + 1 + 1, 0, none⟩ (.bool true)).setCell ⟨w.heap.size + 1 + 1 + 1, 0, none⟩ (.int .i64 0)).heap[E]? = some (.deferred (some [])) :=
          (Below.heap_setCell _ _ _ _ (fun e => by simp at e; have := HEq.out; rw [HWL.out] at this; omega)).trans ((Below.heap_setCell _ _ _ _ (fun e => by simp at e; have := HEq.out; rw [HWL.out] at this; omega)).trans ((Below.heap_setCell _ _ _ _ (fun e => by simp at e; have := HEq.out; rw [HWL.out] at this; omega)).trans hKE))
        exact fr_leave rfl rfl rfl (fr_stores a1 (n - m, true)) hKE2 (by have := HEq.out; rw [HWL.out] at this; omega) (by have := HD.out; rw [HDB.out] at this; omega) (fun w' hb => ⟨by rw [← HSP.out, A5.out], hb⟩)
      · have HEq := Lib.hid hE; clear hE
        gi_wp2
        try rw [Exit.noGoto_ret]
        exact fr_leave rfl rfl rfl a1 hKE (by have := HEq.out; rw [hwl2] at this; omega) (by have := HD.out; rw [hwl] at this; omega) (fun w' hb => ⟨by rw [← HSP.out], hb⟩)

end Go.Proofs.Ytnijaleedbmljaa
