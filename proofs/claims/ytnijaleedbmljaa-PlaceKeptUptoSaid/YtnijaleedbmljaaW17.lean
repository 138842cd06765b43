/- Walks: where a place stands behind edits (the program's). -/
import Derived.Test.YtnijaleedbmljaaW16
import Derived.Test.YtnijaleedbmljaaPlM
import Derived.WalkMore
import Derived.Control
set_option linter.unusedVariables false
set_option linter.unusedSimpArgs false
namespace Go.Proofs.Ytnijaleedbmljaa
open Go Go.RowKit Go.Shelf
attribute [local go_sem] Oper.semAt_some

set_option maxHeartbeats 400000 in
theorem pfit_any (s : ByteArray) (A : Option Addr) (c : Nat) (l : List Pl.Ed) (w : World) (hs : s.size ≤ 4000000) (h : Rd w 3 A l.length (edcs l)) (hsm : Sm l) :
    Calls Try.prog 44 #[.string s, .slice A l.length c] w fun e w' => e = .returned (.bool (fitS s.data.toList l)) ∧ Below w.heap.size w w' := by
  have C1 := Size_any s A c l w hs h hsm
  unfold sizeRes at C1
  cases hb : fitS s.data.toList l
  · rw [hb, if_neg (by simp)] at C1
    have K1 := Lib.hid C1; clear C1 hb
    go_enter Try.func44, Try.ntmps44
    go_wp2_with (go_at_call 29; refine K1.out.mono ?_; rintro e w1 ⟨rfl, hb1⟩)
    go_ret
    exact ⟨rfl, hb1⟩
  · rw [hb, if_pos rfl] at C1
    have K1 := Lib.hid C1; clear C1 hb
    go_enter Try.func44, Try.ntmps44
    go_wp2_with (go_at_call 29; refine K1.out.mono ?_; rintro e w1 ⟨rfl, hb1⟩)
    go_ret
    exact ⟨rfl, hb1⟩

set_option maxHeartbeats 400000 in
theorem spots_any (s : ByteArray) (A : Option Addr) (n c : Nat) (w : World) :
    Calls Try.prog 45 #[.string s, .slice A n c] w fun e w' => e = .returned (.func (.func 61) #[] #[.pointer (some ⟨w.heap.size, 0, none⟩), .pointer (some ⟨w.heap.size + 1, 0, none⟩)]) ∧
      w' = (w.alloc (.cells #[.string s] 9)).alloc (.cells #[.slice A n c] 22) := by
  go_enter Try.func45, Try.ntmps45
  go_wp2
  go_ret
  exact ⟨by simp, rfl⟩

theorem wpIn_scope {n : Nat} {P : Program} {c : Code} {Q : Exit → Act → World → Prop} {a : Act} {w : World} (h : c.wpIn Fence.wide n P (Exit.noGoto Q) a w) : (Code.scope c).wpIn Fence.wide n P Q a w :=
  wpIn_wide.2 (wp_scope_straight (wpIn_wide.1 h))
theorem wpIn_label {n l : Nat} {P : Program} {Q : Exit → Act → World → Prop} {a : Act} {w : World} (h : Q .normal a w) : (Code.label l).wpIn Fence.wide n P Q a w := wpIn_wide.2 (wp_label h)

theorem Kps.refl (N S : Nat) (A : World) : Kps N S A A := ⟨Keep.refl _ _, fun _ _ _ h _ => h⟩
theorem Kps.trans {N S : Nat} {A B C : World} (h : Kps N S A B) (g : Kps N S B C) : Kps N S A C :=
  ⟨h.1.trans g.1, fun k o hk ho ht => g.2 k o hk (h.2 k o hk ho ht) ht⟩
theorem Kps.put {N S : Nat} (W : World) (l : Nat) (o o' : Obj) (hl : N ≤ l) (ho : W.heap[l]? = some o) (hc : o.isCells = false) : Kps N S W (W.putObj l o') := by
  refine ⟨⟨by simp, fun k hk => World.putObj_heap_other (by omega)⟩, fun k o2 hk h2 ⟨c, f, ht⟩ => ?_⟩
  have : k ≠ l := by
    rintro rfl
    rw [ho] at h2
    simp only [Option.some.injEq] at h2
    subst h2
    rcases ht with rfl | rfl <;> cases hc
  exact (World.putObj_heap_other this).trans h2
theorem Kps.alloc (N S : Nat) (W : World) (o : Obj) (hN : N ≤ W.heap.size) : Kps N S W (W.alloc o) :=
  ⟨Keep.below ((Below.refl W.heap.size W).alloc (Nat.le_refl _) o) hN, fun k o2 _ h2 _ => (Below.heap_alloc W o k (Array.getElem?_eq_some_iff.1 h2).1).trans h2⟩
theorem Kps.set {N S : Nat} (W : World) (k : Nat) (v : Value) (h1 : N ≤ k) (h2 : k < S) : Kps N S W (W.setCell ⟨k, 0, none⟩ v) :=
  ⟨⟨by simp [World.setCell], fun j hj => Below.heap_setCell _ _ _ _ (fun e => by simp at e; omega)⟩, fun j o hj ho _ => (Below.heap_setCell _ _ _ _ (fun e => by simp at e; omega)).trans ho⟩

theorem Bx.put {w : World} {b : Nat} {T : TypeId} {v : Value} (h : Bx w b T v) {l : Nat} {o : Obj} (o' : Obj) (hl : w.heap[l]? = some o) (ho : o.isCells = false) : Bx (w.putObj l o') b T v :=
  (World.putObj_heap_other (h.ne_obj hl ho)).trans h
theorem Bx.other {w : World} {b k : Nat} {T : TypeId} {v : Value} (h : Bx w b T v) (hk : b ≠ k) (u : Value) : Bx (w.setCell ⟨k, 0, none⟩ u) b T v := (Below.heap_setCell _ _ _ _ (fun e => hk (by simpa using e))).trans h
theorem Bx.alloc {w : World} {b : Nat} {T : TypeId} {v : Value} (h : Bx w b T v) (o : Obj) : Bx (w.alloc o) b T v := (Below.heap_alloc w o b h.lt).trans h
theorem below_putN {N : Nat} {w W : World} (h : Below N w W) {l : Nat} (o' : Obj) (hl : N ≤ l) : Below N w (W.putObj l o') :=
  h.trans ⟨rfl, rfl, rfl, by simp, fun k hk => World.putObj_heap_other (by omega)⟩

theorem three_boxes (w : World) (v0 v1 v2 : Value) (T0 T1 T2 : TypeId) :
    Bx (((w.alloc (.cells #[v0] T0)).alloc (.cells #[v1] T1)).alloc (.cells #[v2] T2)) w.heap.size T0 v0 ∧ Bx (((w.alloc (.cells #[v0] T0)).alloc (.cells #[v1] T1)).alloc (.cells #[v2] T2)) (w.heap.size + 1) T1 v1 ∧
    Bx (((w.alloc (.cells #[v0] T0)).alloc (.cells #[v1] T1)).alloc (.cells #[v2] T2)) (w.heap.size + 1 + 1) T2 v2 := by
  have h0 := Bx.new w T0 v0
  have h1 := Bx.new (w.alloc (.cells #[v0] T0)) T1 v1
  have h2 := Bx.new ((w.alloc (.cells #[v0] T0)).alloc (.cells #[v1] T1)) T2 v2
  simp only [World.size_alloc] at h1 h2
  exact ⟨(h0.alloc _).alloc _, h1.alloc _, h2⟩

/-- A spot's block. -/
def Sb (W : World) (P : Nat) (x : Pl.Spot) : Prop := W.heap[P]? = some (.cells #[.int .i64 x.b, .int .i64 x.e, .int .i64 x.to, .string (bs x.x)] 80 (0, 0))
theorem Sb.cells {W : World} {P : Nat} {x : Pl.Spot} (h : Sb W P x) : W.cell? ⟨P, 0, none⟩ = some (.int .i64 x.b) ∧ W.cell? ⟨P, 1, none⟩ = some (.int .i64 x.e) ∧ W.cell? ⟨P, 2, none⟩ = some (.int .i64 x.to) ∧ W.cell? ⟨P, 3, none⟩ = some (.string (bs x.x)) := by
  have y0 := Lib.cell_of_heap h 0
  have y1 := Lib.cell_of_heap h 1
  have y2 := Lib.cell_of_heap h 2
  have y3 := Lib.cell_of_heap h 3
  simp only [List.getElem?_toArray, List.getElem?_cons_zero, List.getElem?_cons_succ] at y0 y1 y2 y3
  exact ⟨y0, y1, y2, y3⟩
theorem Sb.put {W : World} {P : Nat} {x : Pl.Spot} (h : Sb W P x) {l : Nat} {o : Obj} (o' : Obj) (hl : W.heap[l]? = some o) (ho : o.isCells = false) : Sb (W.putObj l o') P x := by
  have : P ≠ l := by
    rintro rfl
    unfold Sb at h; rw [h] at hl; cases hl; cases ho
  exact (World.putObj_heap_other this).trans h
theorem Sb.new (W : World) (x : Pl.Spot) : Sb (W.alloc (.cells #[.int .i64 x.b, .int .i64 x.e, .int .i64 x.to, .string (bs x.x)] 80)) W.heap.size x := heap_alloc_new W _

theorem cells_of {W : World} {b1 b2 T1 T2 : Nat} {v1 v2 : Value} (h1 : Bx W b1 T1 v1) (h2 : Bx W b2 T2 v2) : W.cell? ⟨b1, 0, none⟩ = some v1 ∧ W.cell? ⟨b2, 0, none⟩ = some v2 := ⟨h1.cell, h2.cell⟩

def mvTmps (s : ByteArray) (A : Option Addr) (ln c : Nat) (n : Int) (h h1 : Nat) (v9 v25 : Value) : Array Value :=
  #[.string s, .slice A ln c, .int .i64 n, undef, undef, .pointer (some ⟨h, 0, none⟩), .pointer (some ⟨h + 1, 0, none⟩), .pointer (some ⟨h + 1 + 1, 0, none⟩), .pointer (some ⟨h1, 0, none⟩), v9, .string s, .slice A ln c,
    .bool true, .bool false, .int .i64 n, .bool false, .bool false, .int .i64 n, .string s, .int .i64 s.size, .bool false, .bool false, .string s, .slice A ln c, .func (.func 61) #[] #[.pointer (some ⟨h1 + 1, 0, none⟩), .pointer (some ⟨h1 + 1 + 1, 0, none⟩)], v25,
    undef, undef, undef, undef, undef, undef, undef, undef, undef, undef, undef, undef, undef, undef, undef, undef, undef, undef, undef, undef, undef, undef, undef, undef, undef, undef, undef, undef, undef, undef, undef, undef, undef, undef, undef]

/-- What holds between the rounds of Move. -/
def MvI (w : World) (h1 : Nat) (n : Int) (Sp : List Pl.Spot) (pre : List Pl.Spot) (W : World) : Prop :=
  Bx W w.heap.size 3 (.int .i64 n) ∧ Bx W (w.heap.size + 1) 3 (.int .i64 0) ∧ Bx W (w.heap.size + 1 + 1) 24 (.int .i64 0) ∧
  (∃ m : Int, Bx W h1 3 (.int .i64 m) ∧ -((pre.length : Int) * 4000000) ≤ m ∧ m ≤ (pre.length : Int) * 4000000 ∧ Pl.mv n m (Sp.drop pre.length) = Pl.mv n 0 Sp) ∧ Below w.heap.size w W ∧ h1 + 3 ≤ W.heap.size
/-- What a round leaves that ends the loop. -/
def MvX (w : World) (h1 : Nat) (n : Int) (Sp : List Pl.Spot) (c : Code) (pre : List Pl.Spot) (W : World) : Prop :=
  (c = .exit 0 ∧ Bx W w.heap.size 3 (.int .i64 n) ∧ Bx W (w.heap.size + 1) 3 (.int .i64 0) ∧ Bx W (w.heap.size + 1 + 1) 24 (.int .i64 0) ∧ (∃ m : Int, Bx W h1 3 (.int .i64 m) ∧ -16000000000000 ≤ m ∧ m ≤ 16000000000000 ∧ n + m = Pl.mv n 0 Sp) ∧ Below w.heap.size w W ∧ h1 + 3 ≤ W.heap.size) ∨
  (c = .ret ∧ Bx W (w.heap.size + 1) 3 (.int .i64 (Pl.mv n 0 Sp)) ∧ Bx W (w.heap.size + 1 + 1) 24 (.int .i64 0) ∧ Below w.heap.size w W ∧ h1 + 3 ≤ W.heap.size)

theorem MvI.step {w X Y : World} {h1 : Nat} {n : Int} {Sp pre : List Pl.Spot} (h : MvI w h1 n Sp pre X) (g : Below X.heap.size X Y) : MvI w h1 n Sp pre Y := by
  obtain ⟨a1, a2, a3, ⟨m, a4, a5⟩, a6, a7⟩ := h
  exact ⟨a1.below g a1.lt, a2.below g a2.lt, a3.below g a3.lt, ⟨m, a4.below g a4.lt, a5⟩, a6.trans (g.mono a6.size), Nat.le_trans a7 g.size⟩
theorem MvI.put {w W : World} {h1 : Nat} {n : Int} {Sp pre : List Pl.Spot} (h : MvI w h1 n Sp pre W) {l : Nat} {o : Obj} (o' : Obj) (hl : w.heap.size ≤ l) (ho : W.heap[l]? = some o) (hc : o.isCells = false) : MvI w h1 n Sp pre (W.putObj l o') := by
  obtain ⟨a1, a2, a3, ⟨m, a4, a5⟩, a6, a7⟩ := h
  exact ⟨a1.put o' ho hc, a2.put o' ho hc, a3.put o' ho hc, ⟨m, a4.put o' ho hc, a5⟩, below_putN a6 o' hl, by simpa using a7⟩
theorem MvX.put {w W : World} {h1 : Nat} {n : Int} {Sp pre : List Pl.Spot} {c : Code} (h : MvX w h1 n Sp c pre W) {l : Nat} {o : Obj} (o' : Obj) (hl : w.heap.size ≤ l) (ho : W.heap[l]? = some o) (hc : o.isCells = false) : MvX w h1 n Sp c pre (W.putObj l o') := by
  rcases h with ⟨e, a1, a2, a3, ⟨m, a4, a5⟩, a6, a7⟩ | ⟨e, a2, a3, a6, a7⟩
  · exact .inl ⟨e, a1.put o' ho hc, a2.put o' ho hc, a3.put o' ho hc, ⟨m, a4.put o' ho hc, a5⟩, below_putN a6 o' hl, by simpa using a7⟩
  · exact .inr ⟨e, a2.put o' ho hc, a3.put o' ho hc, below_putN a6 o' hl, by simpa using a7⟩

set_option maxRecDepth 100000 in
set_option maxHeartbeats 2000000 in
theorem Move_any (s : ByteArray) (A : Option Addr) (c : Nat) (l : List Pl.Ed) (n : Int) (w : World) (hs : s.size ≤ 4000000) (h : Rd w 3 A l.length (edcs l)) (hsm : Sm l) (hf : fitS s.data.toList l = true) (hn0 : 0 ≤ n) (hn1 : n ≤ s.size) :
    Calls Try.prog 18 #[.string s, .slice A l.length c, .int .i64 n] w fun e w' => e = .returned (.tuple #[.int .i64 (Pl.mv n 0 (Pl.spots (Pl.lines s.data.toList) 0 l)), .int .i64 0]) ∧ Below w.heap.size w w' := by
  have C1 := fun W g => pfit_any s A c l W hs g hsm
  rw [hf] at C1
  have K1 := Lib.hid C1; clear C1
  refine callsIn_wide (n := 5) |>.1 ?_
  refine callsIn_of_wp_marks Try.func18 rfl trivial ?_ rfl
  simp only [Try.ntmps18, List.size_toArray, List.length_cons, List.length_nil, Nat.reduceAdd, Nat.reduceSub, Array.replicate_succ, Array.replicate_zero, List.push_toArray, List.append_toArray, List.nil_append, List.cons_append]
  gi_wp2
  refine wpIn_scope ?_
  have hB0 : Below w.heap.size w (((w.alloc (.cells #[.int .i64 n] 3)).alloc (.cells #[.int .i64 0] 3)).alloc (.cells #[.int .i64 0] 24)) := (((Below.refl _ w).alloc (Nat.le_refl _) _).alloc (by simp) _).alloc (by simp; omega) _
  obtain ⟨x0, x1, x2⟩ := three_boxes w (.int .i64 n) (.int .i64 0) (.int .i64 0) 3 3 24
  have hz0 : decide (n < 0) = false := by simp; omega
  have hz1 : decide ((s.size : Int) < n) = false := by simp; omega
  gi_wp2_with (first
    | (refine ⟨trivial, ?_⟩; gi_at_call 44; refine (callsIn_wide.2 (K1.out _ (h.later hB0))).mono ?_; rintro e w1 ⟨rfl, hb1⟩; have y0 := x0.below hb1 (by simp; omega); have y1 := x1.below hb1 (by simp); have y2 := x2.below hb1 (by simp); have c0 := y0.cell))
  refine wpIn_label ?_
  gi_wp2_with (refine ⟨trivial, ?_⟩; gi_at_call 45; refine (callsIn_wide.2 (spots_any _ _ _ _ _)).mono ?_; rintro e w2 ⟨rfl, rfl⟩)
  have hF := (fitS_iff _ _).1 hf
  obtain ⟨hxn, hxT, hxf⟩ := ref_setup hs
  have hlen := hsm.len
  have hSm := Pl.spots_small (x := Pl.lines s.data.toList) hxf l 0 (fun e he => ⟨(Fits_mem hF e he).1, (Fits_mem hF e he).2.1⟩) hsm.txt hlen (by omega) (by omega)
  have hSl := Pl.spots_length (Pl.lines s.data.toList) l 0
  have hwl : (((w1.alloc (.cells #[.int .i64 0] 3)).alloc (.cells #[.string s] 9)).alloc (.cells #[.slice A l.length c] 22)).heap.size = w1.heap.size + 3 := by simp
  have hhw : w.heap.size + 3 ≤ w1.heap.size := by have := hb1.size; simpa using this
  have hB1 : Below w.heap.size w (((w1.alloc (.cells #[.int .i64 0] 3)).alloc (.cells #[.string s] 9)).alloc (.cells #[.slice A l.length c] 22)) :=
    (((hB0.trans (hb1.mono hB0.size)).alloc (by omega) _).alloc (by simp; omega) _).alloc (by simp; omega) _
  obtain ⟨b0, b1, b2⟩ := three_boxes w1 (.int .i64 0) (.string s) (.slice A l.length c) 3 9 22
  have y0' := ((y0.alloc (.cells #[.int .i64 0] 3)).alloc (.cells #[.string s] 9)).alloc (.cells #[.slice A l.length c] 22)
  have y1' := ((y1.alloc (.cells #[.int .i64 0] 3)).alloc (.cells #[.string s] 9)).alloc (.cells #[.slice A l.length c] 22)
  have y2' := ((y2.alloc (.cells #[.int .i64 0] 3)).alloc (.cells #[.string s] 9)).alloc (.cells #[.slice A l.length c] 22)
  have SEQ : ∀ W1 : World, W1.heap.size = (((w1.alloc (.cells #[.int .i64 0] 3)).alloc (.cells #[.string s] 9)).alloc (.cells #[.slice A l.length c] 22)).heap.size + 2 →
      Below (((w1.alloc (.cells #[.int .i64 0] 3)).alloc (.cells #[.string s] 9)).alloc (.cells #[.slice A l.length c] 22)).heap.size (((w1.alloc (.cells #[.int .i64 0] 3)).alloc (.cells #[.string s] 9)).alloc (.cells #[.slice A l.length c] 22)) W1 →
      Seq (5 - 1) Try.prog 61 #[.pointer (some ⟨w1.heap.size + 1, 0, none⟩), .pointer (some ⟨w1.heap.size + 1 + 1, 0, none⟩)] spv (fun X Y => Below X.heap.size X Y) (Kps w.heap.size (w1.heap.size + 3 + 2))
        (fun pre => pre <+: Pl.spots (Pl.lines s.data.toList) 0 l) (fun xs => xs = Pl.spots (Pl.lines s.data.toList) 0 l) (fun pre => pre <+: Pl.spots (Pl.lines s.data.toList) 0 l) W1 := fun W1 hs1 hbb => by
    have := spots1_seq (5 - 1) (w1.heap.size + 1) (w1.heap.size + 1 + 1) s A c l w W1 _ hs (b1.below hbb (by simp)) (b2.below hbb (by simp)) h hsm hF (Keep.below (hB1.trans (hbb.mono (by omega))) (Nat.le_refl _))
    rw [hs1, hwl] at this
    exact this
  obtain ⟨Sp, hSp⟩ : ∃ Sp, Sp = Pl.spots (Pl.lines s.data.toList) 0 l := ⟨_, rfl⟩
  rw [← hSp] at hSm hSl SEQ
  have HSP := Lib.hid hSp; clear hSp
  refine rangeLaw2 (gf := 61) (lb := #[.pointer (some ⟨w1.heap.size + 1, 0, none⟩), .pointer (some ⟨w1.heap.size + 1 + 1, 0, none⟩)]) rfl (enters_of Try.func61 (by kernel_rfl) rfl)
    SEQ (fun X Y k o hg hk ho _ => (hg.block k (Array.getElem?_eq_some_iff.1 ho).1).trans ho)
    (fun h1 h2 => h1.trans h2) (fun W l o o' hl ho hc _ => Kps.put W l o o' (by rw [hwl] at hl; omega) ho hc) (fun _ => rfl)
    (MvI w w1.heap.size n Sp) (MvX w w1.heap.size n Sp)
    (fun pre X Y hi hg => hi.step hg)
    (fun pre W l o o' hi hl ho hc => hi.put o' (by rw [hwl] at hl; omega) ho hc)
    (fun c pre W l o o' hi hl ho hc => hi.put o' (by rw [hwl] at hl; omega) ho hc)
    (fun W1 hs1 hbb => ⟨y0'.below hbb y0'.lt, y1'.below hbb y1'.lt, y2'.below hbb y2'.lt, ⟨0, b0.below hbb b0.lt, by simp, by simp, by simp⟩, hB1.trans (hbb.mono (by omega)), by rw [hs1, hwl]; omega⟩)
    (fun pre x a' W => ∃ P, a' = { tmps := mvTmps s A l.length c n w.heap.size w1.heap.size (.pointer (some ⟨P, 0, none⟩)) (.agg #[.int .i64 x.b, .int .i64 x.e, .int .i64 x.to, .string (bs x.x)]), defers := [] } ∧ Sb W P x ∧ MvI w w1.heap.size n Sp pre W)
    (fun pre x a' W l o o' ⟨P, h1, h2, h3⟩ hl ho hc => ⟨P, h1, h2.put o' ho hc, h3.put o' (by rw [hwl] at hl; omega) ho hc⟩) ?assign ?body ?done ?stop
  case assign =>
    intro y pre x W K hi hgo hsz hK
    simp only [spv]
    gi_wp2
    exact hK _ _ ((KeepsOthers.alloc W _).from _) (Kps.alloc _ _ W _ (by rw [hwl] at hsz; omega)) ⟨_, rfl, Sb.new W x, hi.step ((Below.refl _ W).alloc (Nat.le_refl _) _)⟩
  case body =>
    rintro y pre x a' W ⟨P, rfl, hP, hi⟩ hgo hsz
    have hx := hSm x (Pl.pre_mem hgo)
    have hpl := Pl.pre_len hgo
    have hd := Pl.drop_pre hgo
    have hpx : (pre ++ [x]).length = pre.length + 1 := by simp
    obtain ⟨b0', be, e1, x1', t0, t1⟩ := hx
    obtain ⟨a1, a2, a3, ⟨m, a4, m1, m2, a5⟩, a6, a7⟩ := hi
    rw [hd] at a5
    obtain ⟨p0, p1, p2, p3⟩ := hP.cells
    have f1 := a1.cell
    have f4 := a4.cell
    have g4 := a4.frozen
    have g2 := a2.frozen
    have g3 := a3.frozen
    have f2 := a2.cell
    have f3 := a3.cell
    have hzs : (bs x.x).size = x.x.length := bs_size _
    have hgo' := Lib.hid hgo
    have hpx' := Lib.hid hpx
    have hwl' := Lib.hid hwl
    clear hgo hd hpx SEQ hwl hSm
    unfold mvTmps
    have hm3 : -16000000000000 ≤ m ∧ m ≤ 16000000000000 := by omega
    by_cases h1 : n < x.b
    · have A5 := Lib.hid (a5.symm.trans (Pl.mv_far h1)); clear a5
      gi_wp2
      exact ⟨KeepsFrom.refl _ _, .inl ⟨rfl, a1, a2, a3, ⟨m, a4, hm3.1, hm3.2, A5.out.symm⟩, a6, a7⟩⟩
    · by_cases h2 : n < x.e
      · have A5 := Lib.hid (a5.symm.trans (Pl.mv_in h1 h2)); clear a5
        gi_wp2
        refine ⟨((KeepsOthers.setCell _ _ _).trans (KeepsOthers.setCell _ _ _)).from _, .inr ⟨rfl, ?_, (a3.other (by omega) _).set _, (a6.setCell (p := ⟨_, 0, none⟩) (by simp) _).setCell (p := ⟨_, 0, none⟩) (by simp; omega) _, by simp [World.setCell]; exact a7⟩⟩
        rw [A5.out]
        exact (a2.set _).other (by omega) _
      · have A5 := Lib.hid (a5.symm.trans (Pl.mv_on h1 h2)); clear a5
        gi_wp2
        refine ⟨(KeepsOthers.setCell _ _ _).from _, Kps.set _ _ _ (by omega) (by omega), a1.other (by omega) _, a2.other (by omega) _, a3.other (by omega) _, ⟨_, a4.set _, by rw [hpx'.out]; push_cast; omega, by rw [hpx'.out]; push_cast; omega, A5.out.symm⟩, a6.setCell (p := ⟨_, 0, none⟩) (by simp; omega) _, by simp [World.setCell]; exact a7⟩
  case done =>
    rintro D xs W hD hS ⟨a1, a2, a3, ⟨m, a4, m1, m2, a5⟩, a6, a7⟩ hK
    have hm3 : -16000000000000 ≤ m ∧ m ≤ 16000000000000 := by rw [hS, hSl] at m1 m2; omega
    have A5 : Hid (Pl.mv n 0 Sp = n + m) := Lib.hid (by rw [← a5, hS, List.drop_length]; rfl)
    have f1 := a1.cell
    have f4 := a4.cell
    have g2 := a2.frozen
    have g3 := a3.frozen
    have f2 := a2.cell
    have f3 := a3.cell
    clear a5 hS SEQ hSm hSl m1 m2
    gi_wp2
    rw [Exit.noGoto_ret]
    have B2 : Bx ((W.setCell ⟨w.heap.size + 1, 0, none⟩ (.int .i64 (n + m))).setCell ⟨w.heap.size + 1 + 1, 0, none⟩ (.int .i64 0)) (w.heap.size + 1) 3 (.int .i64 (n + m)) := (a2.set _).other (by omega) _
    have B3 : Bx ((W.setCell ⟨w.heap.size + 1, 0, none⟩ (.int .i64 (n + m))).setCell ⟨w.heap.size + 1 + 1, 0, none⟩ (.int .i64 0)) (w.heap.size + 1 + 1) 24 (.int .i64 0) := (a3.other (by omega) _).set _
    have hK2 : ((W.setCell ⟨w.heap.size + 1, 0, none⟩ (.int .i64 (n + m))).setCell ⟨w.heap.size + 1 + 1, 0, none⟩ (.int .i64 0)).heap[D]? = some (.deferred (some [])) :=
      (Below.heap_setCell _ _ _ _ (fun e => by simp at e; rw [hwl] at hD; omega)).trans ((Below.heap_setCell _ _ _ _ (fun e => by simp at e; rw [hwl] at hD; omega)).trans hK)
    have A7 : Below w.heap.size w ((W.setCell ⟨w.heap.size + 1, 0, none⟩ (.int .i64 (n + m))).setCell ⟨w.heap.size + 1 + 1, 0, none⟩ (.int .i64 0)) := (a6.setCell (p := ⟨_, 0, none⟩) (by simp) _).setCell (p := ⟨_, 0, none⟩) (by simp; omega) _
    generalize (W.setCell ⟨w.heap.size + 1, 0, none⟩ (.int .i64 (n + m))).setCell ⟨w.heap.size + 1 + 1, 0, none⟩ (.int .i64 0) = W9 at *
    refine ⟨by simp, .inl ⟨_, _, rfl, run_takeDeferred hK2, ?_⟩⟩
    obtain ⟨z1, z2⟩ := cells_of (B2.put (.deferred none) hK2 rfl) (B3.put (.deferred none) hK2 rfl)
    refine ⟨_, show (results Try.f18 _).run Try.prog _ = .ok (.tuple #[.int .i64 (n + m), .int .i64 0]) _ by simp [results, Try.results18, go_sem, z1, z2], ?_, below_putN A7 _ (by rw [hwl] at hD; omega)⟩
    rw [← HSP.out, A5.out]
  case stop =>
    rintro D c' pre W hD hS hX hK
    rcases hX with ⟨rfl, a1, a2, a3, ⟨m, a4, m1, m2, a5⟩, a6, a7⟩ | ⟨rfl, a2, a3, a6, a7⟩
    · have A5 := Lib.hid a5.symm
      have f1 := a1.cell
      have f4 := a4.cell
      have g2 := a2.frozen
      have g3 := a3.frozen
      have f2 := a2.cell
      have f3 := a3.cell
      clear a5 hS SEQ hSm hSl
      gi_wp2
      rw [Exit.noGoto_ret]
      have B2 : Bx ((W.setCell ⟨w.heap.size + 1, 0, none⟩ (.int .i64 (n + m))).setCell ⟨w.heap.size + 1 + 1, 0, none⟩ (.int .i64 0)) (w.heap.size + 1) 3 (.int .i64 (n + m)) := (a2.set _).other (by omega) _
      have B3 : Bx ((W.setCell ⟨w.heap.size + 1, 0, none⟩ (.int .i64 (n + m))).setCell ⟨w.heap.size + 1 + 1, 0, none⟩ (.int .i64 0)) (w.heap.size + 1 + 1) 24 (.int .i64 0) := (a3.other (by omega) _).set _
      have hK2 : ((W.setCell ⟨w.heap.size + 1, 0, none⟩ (.int .i64 (n + m))).setCell ⟨w.heap.size + 1 + 1, 0, none⟩ (.int .i64 0)).heap[D]? = some (.deferred (some [])) :=
        (Below.heap_setCell _ _ _ _ (fun e => by simp at e; rw [hwl] at hD; omega)).trans ((Below.heap_setCell _ _ _ _ (fun e => by simp at e; rw [hwl] at hD; omega)).trans hK)
      have A7 : Below w.heap.size w ((W.setCell ⟨w.heap.size + 1, 0, none⟩ (.int .i64 (n + m))).setCell ⟨w.heap.size + 1 + 1, 0, none⟩ (.int .i64 0)) := (a6.setCell (p := ⟨_, 0, none⟩) (by simp) _).setCell (p := ⟨_, 0, none⟩) (by simp; omega) _
      generalize (W.setCell ⟨w.heap.size + 1, 0, none⟩ (.int .i64 (n + m))).setCell ⟨w.heap.size + 1 + 1, 0, none⟩ (.int .i64 0) = W9 at *
      refine ⟨by simp, .inl ⟨_, _, rfl, run_takeDeferred hK2, ?_⟩⟩
      obtain ⟨z1, z2⟩ := cells_of (B2.put (.deferred none) hK2 rfl) (B3.put (.deferred none) hK2 rfl)
      refine ⟨_, show (results Try.f18 _).run Try.prog _ = .ok (.tuple #[.int .i64 (n + m), .int .i64 0]) _ by simp [results, Try.results18, go_sem, z1, z2], ?_, below_putN A7 _ (by rw [hwl] at hD; omega)⟩
      rw [← HSP.out, A5.out]
    · gi_wp2
      rw [Exit.noGoto_ret]
      refine ⟨by simp, .inl ⟨_, _, rfl, run_takeDeferred hK, ?_⟩⟩
      obtain ⟨z1, z2⟩ := cells_of (a2.put (.deferred none) hK rfl) (a3.put (.deferred none) hK rfl)
      exact ⟨_, show (results Try.f18 _).run Try.prog _ = .ok (.tuple #[.int .i64 (Pl.mv n 0 Sp), .int .i64 0]) _ by simp [results, Try.results18, go_sem, z1, z2], by rw [← HSP.out], below_putN a6 _ (by rw [hwl] at hD; omega)⟩

end Go.Proofs.Ytnijaleedbmljaa
