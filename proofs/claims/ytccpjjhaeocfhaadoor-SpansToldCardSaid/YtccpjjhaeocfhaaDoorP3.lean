/- Walks: the set that a text says (the program's). -/
import Derived.Test.YtccpjjhaeocfhaaDoorP2
import Derived.Test.YtccpjjhaeocfhaaDoorSpD
import Derived.Test.YtccpjjhaeocfhaaDoorS8Parse
import Derived.WalkMore
import Derived.Control
set_option linter.unusedVariables false
set_option linter.unusedSimpArgs false
namespace Go.Proofs.YtccpjjhaeocfhaaDoor
open Go Go.RowKit Go.Shelf
attribute [local go_sem] Oper.semAt_some

theorem inInfo : (Tryd.prog.info? 3).map (fun i => (i.zero, i.size, i.bytes)) = some (some (.int .i64 0), 1, 8) := by kernel_rfl

/-- The numbers of n lines. -/
def fi (f : Nat → Int) (n : Nat) : List Value := (List.range n).map fun i => .int .i64 (f i)
theorem fi_length (f : Nat → Int) (n : Nat) : (fi f n).length = n := by simp [fi]
theorem fi_at (f : Nat → Int) {n j : Nat} (h : j < n) : (fi f n)[j]? = some (.int .i64 (f j)) := by simp [fi, h]
theorem fi_congr {f g : Nat → Int} {n : Nat} (h : ∀ i, i < n → f i = g i) : fi f n = fi g n := List.map_congr_left (fun i hi => by simp [h i (List.mem_range.1 hi)])
theorem fi_set (f : Nat → Int) (n j : Nat) (b : Int) : (fi f n).set j (.int .i64 b) = fi (fun i => if i = j then b else f i) n := by
  apply List.ext_getElem?
  intro i
  rw [List.getElem?_set]
  by_cases hi : i < n
  · by_cases hj : j = i
    · subst hj; simp [fi, hi]
    · have : ¬ i = j := fun e => hj e.symm
      simp [fi, hi, hj, this]
  · have h2 : (fi (fun i => if i = j then b else f i) n)[i]? = none := by rw [List.getElem?_eq_none_iff, fi_length]; omega
    rw [h2]
    by_cases hj : j = i
    · subst hj; simp [fi_length, hi]
    · rw [if_neg hj, List.getElem?_eq_none_iff, fi_length]; omega
theorem made_fi (n : Nat) : (madeCells (Value.int .i64 0).cells (n * 1)).toList = fi (fun _ => 0) n := by
  rw [Nat.mul_one]
  rw [show (Value.int .i64 0).cells = #[.int .i64 0] from rfl, toList_madeCells_one]
  apply List.ext_getElem?
  intro i
  by_cases hi : i < n
  · rw [fi_at _ hi]; simp [hi]
  · rw [List.getElem?_eq_none_iff.2 (by simp; omega), List.getElem?_eq_none_iff.2 (by rw [fi_length]; omega)]
theorem bgc_set (P : List Sp.T) (x : Sp.T) {j n : Nat} (h : Sp.lo x - 1 = (j : Int)) : (fi (Sp.bgc P) n).set j (.int .i64 (Sp.bgc P j + 1)) = fi (Sp.bgc (P ++ [x])) n := by
  rw [fi_set]
  exact fi_congr (fun i _ => by
    rw [Sp.bgc_snoc]
    by_cases e : i = j
    · subst e; rw [if_pos rfl, if_pos h]
    · rw [if_neg e, if_neg (by omega)])
theorem enc_set (P : List Sp.T) (x : Sp.T) {j n : Nat} (h : Sp.hi x = (j : Int)) : (fi (Sp.enc P) n).set j (.int .i64 (Sp.enc P j + 1)) = fi (Sp.enc (P ++ [x])) n := by
  rw [fi_set]
  exact fi_congr (fun i _ => by
    rw [Sp.enc_snoc]
    by_cases e : i = j
    · subst e; rw [if_pos rfl, if_pos h]
    · rw [if_neg e, if_neg (by omega)])

set_option maxHeartbeats 400000 in
theorem Parse1_any (b1 : Nat) (A : Option Addr) (N c : Nat) (F : Nat → Bool) (i : Nat) (w : World) (x1 : Bx w b1 53 (.slice A N c)) (r1 : Rd w 1 A N (bls (fl F N))) (h1 : i < N) :
    Calls Tryd.prog 26 #[.int .i64 i, .pointer (some ⟨b1, 0, none⟩)] w fun e w' => e = .returned (.bool (F i)) ∧ w = w' := by
  have c1 := x1.cell
  obtain ⟨p1, o1, rfl, _, d1⟩ := r1.bl (fl_at F h1)
  cases hF : F i
  all_goals
    rw [hF] at d1
    clear hF
    go_enter Tryd.func26, Tryd.ntmps26
    go_wp2
    go_ret
    exact ⟨rfl, rfl⟩

theorem says_Parse {b1 : Nat} {A : Option Addr} {N c : Nat} {F : Nat → Bool} {n : Nat} {w : World} (x1 : Bx w b1 53 (.slice A N c)) (r1 : Rd w 1 A N (bls (fl F N))) (h1 : n ≤ N) :
    Says 26 #[.pointer (some ⟨b1, 0, none⟩)] (fun i => F i) n w.heap.size w :=
  fun W' hk i hi => Parse1_any b1 A N c F i W' (x1.keepN hk) (r1.keep hk) (by omega)

theorem collect_Parse {b1 : Nat} {f : Nat → Bool} {n : Nat} {z : Int} {w : World} (hn : n ≤ 65536) (hz : z = (n : Int)) (hP : Says 26 #[.pointer (some ⟨b1, 0, none⟩)] f n w.heap.size w) :
    Calls Tryd.prog 24 #[.func (.func 45) #[] #[.pointer (some ⟨w.heap.size, 0, none⟩), .pointer (some ⟨w.heap.size + 1, 0, none⟩)]] ((w.alloc (.cells #[.int .i64 z] 3)).alloc (.cells #[.func (.func 26) #[] #[.pointer (some ⟨b1, 0, none⟩)]] 58))
      (RgRes (Sp.setOf f n) ((w.alloc (.cells #[.int .i64 z] 3)).alloc (.cells #[.func (.func 26) #[] #[.pointer (some ⟨b1, 0, none⟩)]] 58))) := by
  subst hz
  obtain ⟨x0, x1⟩ := two_boxes w (.int .i64 n) (.func (.func 26) #[] #[.pointer (some ⟨b1, 0, none⟩)]) 3 58
  have hk := two_keep w (.cells #[.int .i64 n] 3) (.cells #[.func (.func 26) #[] #[.pointer (some ⟨b1, 0, none⟩)]] 58)
  refine Collect_any _ _ _ _ (by have := Sp.setOf_length f n; omega) (enters_of Tryd.func45 (by kernel_rfl) rfl) (fun W1 hk1 => ?_)
  exact rangesOf_Parse _ _ b1 f n _ W1 hn (x0.keepN hk1) (x1.keepN hk1) x0.lt x1.lt (((hP.keep (Keep.below hk (Nat.le_refl _))).mono hk.size).keep hk1)


theorem Rd.putO {w : World} {sz n : Nat} {A : Option Addr} {xs : List Value} (h : Rd w sz A n xs) (hsz : 0 < sz) {l : Nat} {o : Obj} {o' : Obj} (ho : w.heap[l]? = some o) (hc : o.isCells = false) : Rd (w.putObj l o') sz A n xs :=
  ⟨h.1, fun hn => by
    obtain ⟨b, q, e, hlt, hcl⟩ := h.2 hn
    have hne : b ≠ l := by
      rintro rfl
      have h1 : 0 < xs.length := by rw [h.1]; exact Nat.mul_pos hn hsz
      have := hcl 0 _ (List.getElem?_eq_getElem h1)
      unfold World.cell? at this
      simp only [ho] at this
      cases o <;> simp_all [Obj.isCells]
    exact ⟨b, q, e, by simpa using hlt, fun j u hu => (cell_same (p := ⟨b, q + j, none⟩) (World.putObj_heap_other hne)).trans (hcl j u hu)⟩⟩

/-- What holds between the pieces: the two rows of counts, the boxes. -/
structure PsI (w : World) (g1 b4 g2 b5 b6 N : Nat) (P : List Sp.T) (r : Bool) (W : World) : Prop where
  o1 : w.heap.size ≤ g1
  o2 : g1 < b4
  o3 : b4 < g2
  o4 : g2 < b5
  o5 : b5 < b6
  row1 : W.ownsRow w.heap.size 3 1 (.slice (some ⟨g1, 0, none⟩) N N) N (fi (Sp.bgc P) N)
  row2 : W.ownsRow w.heap.size 3 1 (.slice (some ⟨g2, 0, none⟩) N N) N (fi (Sp.enc P) N)
  x4 : Bx W b4 34 (.slice (some ⟨g1, 0, none⟩) N N)
  x5 : Bx W b5 34 (.slice (some ⟨g2, 0, none⟩) N N)
  x6 : Bx W b6 4 (.bool r)
  bel : Below w.heap.size w W

section
variable {w W W' : World} {g1 b4 g2 b5 b6 N : Nat} {P : List Sp.T} {r : Bool}
theorem Bx.other {w : World} {b k j : Nat} {T : TypeId} {v : Value} (h : Bx w b T v) (hk : b ≠ k) (u : Value) : Bx (w.setCell ⟨k, j, none⟩ u) b T v := (Below.heap_setCell _ _ _ _ (fun e => hk (by simpa using e))).trans h
theorem Bx.putO {w : World} {b : Nat} {T : TypeId} {v : Value} (h : Bx w b T v) {l : Nat} {o : Obj} (o' : Obj) (hl : w.heap[l]? = some o) (ho : o.isCells = false) : Bx (w.putObj l o') b T v :=
  (World.putObj_heap_other (h.ne_obj hl ho)).trans h
theorem PsI.grown (h : PsI w g1 b4 g2 b5 b6 N P r W) {k : Nat} (hg : W.grownBy W' (some k)) (hk : b6 < k) : PsI w g1 b4 g2 b5 b6 N P r W' := by
  have := h.o1; have := h.o2; have := h.o3; have := h.o4; have := h.o5
  exact ⟨h.o1, h.o2, h.o3, h.o4, h.o5, h.row1.kept hg (.inr (by simp [Value.ownBlock]; omega)), h.row2.kept hg (.inr (by simp [Value.ownBlock]; omega)),
    (hg.block b4 h.x4.lt (by simp; omega)).trans h.x4, (hg.block b5 h.x5.lt (by simp; omega)).trans h.x5, (hg.block b6 h.x6.lt (by simp; omega)).trans h.x6, h.bel.grown hg h.bel.size (fun j e => by cases e; omega)⟩
theorem PsI.put (h : PsI w g1 b4 g2 b5 b6 N P r W) {l : Nat} {o : Obj} (o' : Obj) (hl : w.heap.size ≤ l) (ho : W.heap[l]? = some o) (hc : o.isCells = false) : PsI w g1 b4 g2 b5 b6 N P r (W.putObj l o') :=
  ⟨h.o1, h.o2, h.o3, h.o4, h.o5, h.row1.kept (grownBy_putObj' W l o') (.inr (own_ne_obj h.row1 ho hc)), h.row2.kept (grownBy_putObj' W l o') (.inr (own_ne_obj h.row2 ho hc)),
    h.x4.putO o' ho hc, h.x5.putO o' ho hc, h.x6.putO o' ho hc, below_put h.bel o' hl⟩
theorem PsI.draw (h : PsI w g1 b4 g2 b5 b6 N P r W) (n : Nat) : PsI w g1 b4 g2 b5 b6 N P r (W.drewN n) :=
  ⟨h.o1, h.o2, h.o3, h.o4, h.o5, h.row1, h.row2, h.x4, h.x5, h.x6, below_drewN h.bel n⟩
theorem PsI.below (h : PsI w g1 b4 g2 b5 b6 N P r W) {B : Nat} (hb : Below B W W') (hB : W.heap.size ≤ B) : PsI w g1 b4 g2 b5 b6 N P r W' := by
  have hb' : Below W.heap.size W W' := hb.mono hB
  exact ⟨h.o1, h.o2, h.o3, h.o4, h.o5, own_later h.row1 hb', own_later h.row2 hb', h.x4.below hb' h.x4.lt, h.x5.below hb' h.x5.lt, h.x6.below hb' h.x6.lt, h.bel.trans (hb'.mono h.bel.size)⟩
theorem PsI.wrong (h : PsI w g1 b4 g2 b5 b6 N P r W) : PsI w g1 b4 g2 b5 b6 N P false (W.setCell ⟨b6, 0, none⟩ (.bool false)) := by
  have := h.o1; have := h.o2; have := h.o3; have := h.o4; have := h.o5
  have hg := grownBy_set W b6 (.bool false)
  exact ⟨h.o1, h.o2, h.o3, h.o4, h.o5, h.row1.kept hg (.inr (by simp [Value.ownBlock]; omega)), h.row2.kept hg (.inr (by simp [Value.ownBlock]; omega)), h.x4.other (by omega) _, h.x5.other (by omega) _, h.x6.set _, h.bel.setCell (p := ⟨b6, 0, none⟩) (by simp; omega) _⟩
theorem PsI.add (h : PsI w g1 b4 g2 b5 b6 N P r W) {x : Sp.T} {j t : Nat} (hj : Sp.lo x - 1 = (j : Int)) (ht : Sp.hi x = (t : Int)) :
    PsI w g1 b4 g2 b5 b6 N (P ++ [x]) r ((W.setCell ⟨g1, j, none⟩ (.int .i64 (Sp.bgc P j + 1))).setCell ⟨g2, t, none⟩ (.int .i64 (Sp.enc P t + 1))) := by
  have := h.o1; have := h.o2; have := h.o3; have := h.o4; have := h.o5
  have a1 := h.row1.stored j (.int .i64 (Sp.bgc P j + 1))
  have a2 := h.row2.kept a1.2 (.inr (by simp [Value.ownBlock]; omega))
  have a3 := a2.stored t (.int .i64 (Sp.enc P t + 1))
  have a4 := a1.1.kept a3.2 (.inr (by simp [Value.ownBlock]; omega))
  rw [bgc_set P x hj] at a4
  have a5 := a3.1
  rw [enc_set P x ht] at a5
  exact ⟨h.o1, h.o2, h.o3, h.o4, h.o5, a4, a5, (h.x4.other (by omega) _).other (by omega) _, (h.x5.other (by omega) _).other (by omega) _, (h.x6.other (by omega) _).other (by omega) _,
    (h.bel.setCell (p := ⟨g1, j, none⟩) (by simp; omega) _).setCell (p := ⟨g2, t, none⟩) (by simp; omega) _⟩
end

theorem keeps_drewN (W : World) (n : Nat) : KeepsOthers W (W.drewN n) := ⟨Nat.le_refl _, fun _ _ h _ => h⟩

def psTmps (s : ByteArray) (x : Sp.T) (g1 b4 g2 b5 N h : Nat) : Array Value :=
  #[.string s, undef, .slice none 0 0, .int .i64 0, .pointer (some ⟨b4, 0, none⟩), .pointer (some ⟨b5, 0, none⟩), .pointer (some ⟨b5 + 1, 0, none⟩), .string (bs x), undef, undef, undef, undef, undef, undef, undef, undef,
    .string s, .bool false, .slice (some ⟨g1, 0, none⟩) N N, .slice (some ⟨g2, 0, none⟩) N N, .string s, .func (.func 48) #[] #[.pointer (some ⟨h + 1, 0, none⟩), .pointer (some ⟨h, 0, none⟩), .pointer (some ⟨h + 1 + 1, 0, none⟩)], .string (bs x), undef, undef, undef, undef, undef, undef, undef, undef, undef, undef, undef, undef, undef, undef, undef, undef, undef, undef, undef, undef, undef, undef, undef, undef, undef, undef, undef, undef, undef, undef, undef, undef, undef, undef, undef, undef, undef, undef, undef, undef, undef, undef, undef, undef, undef, undef, undef, undef, undef, undef, undef, undef, undef, undef, undef, undef, undef, undef, undef, undef, undef, undef]

theorem wpIn_scope {n : Nat} {P : Program} {c : Code} {Q : Exit → Act → World → Prop} {a : Act} {w : World} (h : c.wpIn Fence.wide n P (Exit.noGoto Q) a w) : (Code.scope c).wpIn Fence.wide n P Q a w :=
  wpIn_wide.2 (wp_scope_straight (wpIn_wide.1 h))
theorem wpIn_label {n l : Nat} {P : Program} {Q : Exit → Act → World → Prop} {a : Act} {w : World} (h : Q .normal a w) : (Code.label l).wpIn Fence.wide n P Q a w := wpIn_wide.2 (wp_label h)

set_option maxRecDepth 100000 in
set_option maxHeartbeats 8000000 in
theorem Parse_any (s : ByteArray) (w : World) (hs : s.size ≤ 1000000) :
    Calls Tryd.prog 9 #[.string s] w (RgRes2 (Sp.parseL s.data.toList) (Sp.parseE s.data.toList) w) := by
  have hsz : s.size = s.data.toList.length := Lib.size_eq s
  by_cases h0 : s.size = 0
  · have he := ba_empty s h0
    have HL := Lib.hid (show Sp.parseL s.data.toList = [] by unfold Sp.parseL; rw [if_pos he])
    have HE := Lib.hid (show Sp.parseE s.data.toList = 0 by unfold Sp.parseE; rw [if_pos he])
    have t1 : s.toList = [] := by rw [Lib.toList_data]; exact he
    have t2 : s.toList.isEmpty = true := by rw [t1]; rfl
    clear he hsz h0
    go_enter Tryd.func9, Tryd.ntmps9
    go_wp2
    go_step3
    go_wp2
    rw [Exit.noGoto_ret]
    go_ret2
    exact ⟨_, by rw [HE.out]; rfl, by rw [HL.out]; exact RgIs.nil (Below.refl _ _)⟩
  have hne : s.data.toList ≠ [] := by intro e; rw [e, List.length_nil] at hsz; omega
  have t1 : ¬ s.toList = [] := by rw [Lib.toList_data]; exact hne
  have t2 : s.toList.isEmpty = false := by rw [List.isEmpty_eq_false_iff]; exact t1
  have HNE := Lib.hid hne; clear hne hsz h0
  obtain ⟨i0, hi, hz0, hz1, hz2⟩ := info_parts inInfo
  obtain ⟨j0, hj, hy0, hy1, hy2⟩ := info_parts blInfo
  obtain ⟨NN, hN⟩ : ∃ NN : Nat, NN = 65537 := ⟨_, rfl⟩
  have hN1 : NN ≤ 65537 := by omega
  have hN2 : 65537 ≤ NN := by omega
  have HN := Lib.hid hN; clear hN
  refine callsIn_wide (n := 5) |>.1 ?_
  refine callsIn_of_wp_marks Tryd.func9 rfl trivial ?_ rfl
  simp only [Tryd.ntmps9, List.size_toArray, List.length_cons, List.length_nil, Nat.reduceAdd, Nat.reduceSub, Array.replicate_succ, Array.replicate_zero, List.push_toArray, List.append_toArray, List.nil_append, List.cons_append]
  gi_wp2
  refine wpIn_scope ?_
  refine wpIn_wide.2 ?_
  have tok : True := trivial
  go_wp2_with (first
    | (at_make; have _t := tok; refine wpList_make_full _ rfl _ _ 34 rfl w.heap.size 3 i0 _ 1 Tryd.underlying34 hi hz0 hz1 .i64 .i64 65537 65537 NN rfl rfl (by rw [HN.out]; rfl) (by rw [HN.out]; rfl) (by rw [hz2]; omega) (by unfold maxLen; omega) (Nat.le_refl _) ?_; intro w1 hown1 hgrow1; rw [made_fi] at hown1; clear tok _t; have hw1 := hgrow1.size)
    | (at_make; refine wpList_make_full _ rfl _ _ 34 rfl w.heap.size 3 i0 _ 1 Tryd.underlying34 hi hz0 hz1 .i64 .i64 65537 65537 NN rfl rfl (by rw [HN.out]; rfl) (by rw [HN.out]; rfl) (by rw [hz2]; omega) (by unfold maxLen; omega) (by simp; omega) ?_; intro w2 hown2 hgrow2; rw [made_fi] at hown2))
  refine wp_label ?_
  go_wp2_with (go_at_call 21; refine (SplitSeq_any _ _ _).mono ?_; rintro e w3 ⟨rfl, rfl⟩)
  refine (wpIn_wide (n := 5)).1 ?_
  have hgs1 := (hown1.lt w.heap.size rfl).2
  have hW1 : Below w.heap.size w w1 := (Below.refl _ w).grown hgrow1 (Nat.le_refl _) (fun k e => by cases e)
  have hc1 := hown1.alloc (.cells #[.slice (some ⟨w.heap.size, 0, none⟩) NN NN] 34)
  have hx1 := Bx.new w1 34 (.slice (some ⟨w.heap.size, 0, none⟩) NN NN)
  simp only [World.size_alloc] at hown2
  have hgs2 := (hown2.lt (w1.heap.size + 1) rfl).2
  have hb2 : Below (w1.heap.size + 1) (w1.alloc (.cells #[.slice (some ⟨w.heap.size, 0, none⟩) NN NN] 34)) w2 := (Below.refl _ _).grown hgrow2 (by simp) (fun k e => by cases e)
  have hc2 := own_later hc1 (hb2.mono (by simp))
  have hx2 := hx1.below hb2 (by omega)
  have hW2 : Below w.heap.size w w2 := (hW1.alloc hW1.size _).trans (hb2.mono (by omega))
  have P0 : PsI w w.heap.size w1.heap.size (w1.heap.size + 1) w2.heap.size (w2.heap.size + 1) NN [] true ((w2.alloc (.cells #[.slice (some ⟨w1.heap.size + 1, 0, none⟩) NN NN] 34)).alloc (.cells #[.bool true] 4)) := by
    obtain ⟨y0, y1⟩ := two_boxes w2 (.slice (some ⟨w1.heap.size + 1, 0, none⟩) NN NN) (.bool true) 34 4
    have hk := two_keep w2 (.cells #[.slice (some ⟨w1.heap.size + 1, 0, none⟩) NN NN] 34) (.cells #[.bool true] 4)
    exact ⟨Nat.le_refl _, hgs1, by omega, hgs2, by omega, own_later hc2 hk, own_later hown2 hk, hx2.below hk hx2.lt, y0, y1, hW2.trans (hk.mono hW2.size)⟩
  clear hc1 hx1 hc2 hx2 hown1 hown2 hgrow1 hgrow2 hb2
  obtain ⟨WL, hWL⟩ : ∃ WL, (((((w2.alloc (.cells #[.slice (some ⟨w1.heap.size + 1, 0, none⟩) NN NN] 34)).alloc (.cells #[.bool true] 4)).alloc (.cells #[.string s] 9)).alloc (.cells #[.string ⟨#[44]⟩] 9)).alloc (.cells #[.int .i64 0] 3)) = WL := ⟨_, rfl⟩
  obtain ⟨WA, hWA⟩ : ∃ WA, ((w2.alloc (.cells #[.slice (some ⟨w1.heap.size + 1, 0, none⟩) NN NN] 34)).alloc (.cells #[.bool true] 4)) = WA := ⟨_, rfl⟩
  have hszA : WA.heap.size = w2.heap.size + 1 + 1 := by rw [← hWA]; simp
  rw [hWA] at P0
  have hbAL : Below WA.heap.size WA WL := by
    rw [← hWL, ← hWA]
    exact ((((Below.refl _ _).alloc (Nat.le_refl _) _).alloc (by simp) _).alloc (by simp) _)
  have hszL : WL.heap.size = w2.heap.size + 1 + 1 + 3 := by rw [← hWL]; simp
  have zs : Bx WL (w2.heap.size + 1 + 1) 9 (.string s) := by
    rw [← hWL, hWA]
    have := Bx.new WA 9 (.string s)
    rw [hszA] at this
    exact this.below ((((Below.refl _ _).alloc (Nat.le_refl _) _).alloc (by simp) _)) (by simp; omega)
  have zp : Bx WL (w2.heap.size + 1 + 1 + 1) 9 (.string ⟨#[44]⟩) := by
    rw [← hWL, hWA]
    have := Bx.new (WA.alloc (.cells #[.string s] 9)) 9 (.string ⟨#[44]⟩)
    rw [World.size_alloc, hszA] at this
    exact this.below ((Below.refl _ _).alloc (Nat.le_refl _) _) (by simp; omega)
  have zk : Bx WL (w2.heap.size + 1 + 1 + 1 + 1) 3 (.int .i64 0) := by
    rw [← hWL, hWA]
    have := Bx.new ((WA.alloc (.cells #[.string s] 9)).alloc (.cells #[.string ⟨#[44]⟩] 9)) 3 (.int .i64 0)
    rw [World.size_alloc, World.size_alloc, hszA] at this
    exact this
  have P1 := P0.below hbAL (Nat.le_refl _)
  rw [hWL]
  have hwb := hW2.size
  clear P0 hWL hWA hbAL hszA WA hW1 hW2
  refine rangeLaw (gf := 48) (lb := #[.pointer (some ⟨w2.heap.size + 1 + 1 + 1, 0, none⟩), .pointer (some ⟨w2.heap.size + 1 + 1, 0, none⟩), .pointer (some ⟨w2.heap.size + 1 + 1 + 1 + 1, 0, none⟩)]) rfl (enters_of Tryd.func48 (by kernel_rfl) rfl)
    (fun W1 hs1 hbb => split1_seq (5 - 1) (w2.heap.size + 1 + 1 + 1) (w2.heap.size + 1 + 1) (w2.heap.size + 1 + 1 + 1 + 1) 44 s W1 (by omega) (zp.below hbb zp.lt) (zs.below hbb zs.lt) (zk.below hbb zk.lt) (by omega))
    (fun X Y k o hg hk ho _ => (hg.block k (Array.getElem?_eq_some_iff.1 ho).1 (fun e => by rw [hszL] at hk; simp at e; omega)).trans ho)
    (fun h1 h2 => ⟨h2.1.trans h1.1, h2.2.1.trans h1.2.1, h2.2.2.trans h1.2.2⟩)
    (fun W l o o' hl _ _ _ => ⟨World.putObj_heap_other (by rw [hszL] at hl; omega), World.putObj_heap_other (by rw [hszL] at hl; omega), World.putObj_heap_other (by rw [hszL] at hl; omega)⟩) (fun _ => rfl)
    (fun pre W => (∀ x ∈ pre, Sp.pOk x = true) ∧ PsI w w.heap.size w1.heap.size (w1.heap.size + 1) w2.heap.size (w2.heap.size + 1) NN pre true W)
    (fun c pre W => c = .exit 0 ∧ (∃ x ∈ pre, Sp.pOk x = false) ∧ ∃ P, PsI w w.heap.size w1.heap.size (w1.heap.size + 1) w2.heap.size (w2.heap.size + 1) NN P false W)
    (fun pre X Y hi hg => ⟨hi.1, hi.2.grown hg (by omega)⟩)
    (fun pre W l o o' hi hl ho hc => ⟨hi.1, hi.2.put o' (by rw [hszL] at hl; omega) ho hc⟩)
    (fun c pre W l o o' ⟨h1, h2, P, h3⟩ hl ho hc => ⟨h1, h2, P, h3.put o' (by rw [hszL] at hl; omega) ho hc⟩)
    (fun W1 hs1 hbb => ⟨by simp, P1.below hbb (Nat.le_refl _)⟩)
    (fun x => { tmps := psTmps s x w.heap.size w1.heap.size (w1.heap.size + 1) w2.heap.size NN (w2.heap.size + 1 + 1), defers := [] }) ?assign ?body ?done ?stop
  case assign =>
    intro l x W K hK
    gi_wp2
    exact hK
  case body =>
    rintro l pre x W ⟨hall, hI⟩ hgo hsz
    have hxm : x ∈ Sp.spl 44 s.data.toList := hgo.subset (by simp)
    have hxl := Sp.spl_mem hxm
    have hpl := pre_len hgo
    have hspl := Sp.spl_length 44 s.data.toList
    rw [← Lib.size_eq] at hxl hspl
    have CUT := Lib.hid (Cut_any (bs x) W (by rw [bs_size]; omega))
    rw [bs_data] at CUT
    have NA := Lib.hid (fun W => number_any (bs (Sp.cutA x)) W)
    have NB := Lib.hid (fun W => number_any (bs (Sp.cutB x)) W)
    rw [bs_data] at NA NB
    have hlo := Sp.lo_bd x
    have hhi := Sp.hi_bd x
    have c4 := hI.x4.cell
    have c5 := hI.x5.cell
    have c6 := hI.x6.cell
    have f6 := hI.x6.frozen
    have HGO := Lib.hid hgo; clear hgo
    have HALL := Lib.hid hall; clear hall
    have HI := Lib.hid hI
    unfold psTmps
    by_cases hok : Sp.pOk x = true
    · have hok2 := (Sp.pOk_iff x).1 hok
      have HOK := Lib.hid hok; clear hok
      obtain ⟨j, hj⟩ := Int.eq_ofNat_of_zero_le (show 0 ≤ Sp.lo x - 1 by omega)
      obtain ⟨t, ht⟩ := Int.eq_ofNat_of_zero_le hhi.1
      have hjN : j < NN := by omega
      have htN : t < NN := by omega
      have d1 := hI.row1.cellAt j (by omega)
      rw [fi_at _ hjN] at d1
      have d2 := hI.row2.cellAt t (by omega)
      rw [fi_at _ htN] at d2
      have e1 := hI.row1.frozenAt j
      have e2 := hI.row2.frozenAt t
      have v1 := Sp.bgc_bd pre j
      have v2 := Sp.enc_bd pre t
      have HADD := Lib.hid (fun n => (HI.out.draw n).add hj ht)
      have HJ := Lib.hid (show Sp.lo x = (j : Int) + 1 by omega)
      have HT := Lib.hid ht
      generalize Sp.bgc pre j = vb at *
      generalize Sp.enc pre t = ve at *
      have z0 : (((j : Int) + 1) == 0) = false := by rw [beq_eq_false_iff_ne]; omega
      have z1 : ¬ (t : Int) < (j : Int) + 1 := by omega
      have RES : Hid (∀ nd, seqPost WL.heap.size (Kp3 (w2.heap.size + 1 + 1 + 1) (w2.heap.size + 1 + 1) (w2.heap.size + 1 + 1 + 1 + 1))
          (fun pre W => (∀ x ∈ pre, Sp.pOk x = true) ∧ PsI w w.heap.size w1.heap.size (w1.heap.size + 1) w2.heap.size (w2.heap.size + 1) NN pre true W)
          (fun c pre W => c = .exit 0 ∧ (∃ x ∈ pre, Sp.pOk x = false) ∧ ∃ P, PsI w w.heap.size w1.heap.size (w1.heap.size + 1) w2.heap.size (w2.heap.size + 1) NN P false W) (pre ++ [x]) W .normal { tmps := #[], defers := [] }
          (((W.drewN nd).setCell ⟨w.heap.size, j, none⟩ (.int .i64 (vb + 1))).setCell ⟨w1.heap.size + 1, t, none⟩ (.int .i64 (ve + 1)))) := Lib.hid (fun nd => by
        refine ⟨((KeepsOthers.trans (keeps_drewN W nd) (KeepsOthers.setCell (W.drewN nd) _ _)).trans (KeepsOthers.setCell _ _ _)).from _, ⟨?_, ?_, ?_⟩, ?_, HADD.out nd⟩
        · exact (Below.heap_setCell _ _ _ _ (by simp; omega)).trans (Below.heap_setCell _ _ _ _ (by simp; omega))
        · exact (Below.heap_setCell _ _ _ _ (by simp; omega)).trans (Below.heap_setCell _ _ _ _ (by simp; omega))
        · exact (Below.heap_setCell _ _ _ _ (by simp; omega)).trans (Below.heap_setCell _ _ _ _ (by simp; omega))
        · intro y hy
          rcases List.mem_append.1 hy with hy | hy
          · exact HALL.out y hy
          · simp at hy; rw [hy]; exact HOK.out)
      cases hT : Sp.cutT x
      · have ht2 : (t : Int) = (j : Int) + 1 := by rw [← HT.out, ← HJ.out]; unfold Sp.hi; rw [hT]; rfl
        obtain rfl : t = j + 1 := by omega
        rw [hT] at CUT
        have hnum : Sp.num (Sp.cutA x) = (j : Int) + 1 := HJ.out
        rw [hnum] at NA
        clear hj ht hhi hlo hok2 hT hnum ht2 hI
        gi_wp2_with (first | (refine ⟨trivial, ?_⟩; gi_at_call 22; refine (CallsIn.inRound l (callsIn_wide.2 CUT.out)).mono ?_; rintro e w4 ⟨rfl, nd, rfl⟩) | (refine ⟨trivial, ?_⟩; gi_at_call 23; (with_reducible refine (CallsIn.inRound l (callsIn_wide.2 (NA.out _))).mono ?_); rintro e w5 ⟨rfl, rfl⟩))
        exact RES.out nd
      · have hnumB : Sp.num (Sp.cutB x) = (t : Int) := by rw [← HT.out]; unfold Sp.hi; rw [hT]; rfl
        rw [hT] at CUT
        have hnum : Sp.num (Sp.cutA x) = (j : Int) + 1 := HJ.out
        rw [hnum] at NA
        rw [hnumB] at NB
        clear hj ht hhi hlo hok2 hT hnum hnumB hI
        gi_wp2_with (first | (refine ⟨trivial, ?_⟩; gi_at_call 22; refine (CallsIn.inRound l (callsIn_wide.2 CUT.out)).mono ?_; rintro e w4 ⟨rfl, nd, rfl⟩) | (refine ⟨trivial, ?_⟩; gi_at_call 23; (with_reducible refine (CallsIn.inRound l (callsIn_wide.2 (NA.out _))).mono ?_); rintro e w5 ⟨rfl, rfl⟩) | (refine ⟨trivial, ?_⟩; gi_at_call 23; (with_reducible refine (CallsIn.inRound l (callsIn_wide.2 (NB.out _))).mono ?_); rintro e w5 ⟨rfl, rfl⟩))
        exact RES.out nd
    · have hok' : Sp.pOk x = false := by simpa using hok
      have hbad : Sp.lo x = 0 ∨ (1 ≤ Sp.lo x ∧ Sp.hi x < Sp.lo x) := by
        have := (not_congr (Sp.pOk_iff x)).1 hok
        omega
      have HOK := Lib.hid hok'; clear hok hok'
      have RES : Hid (∀ nd, seqPost WL.heap.size (Kp3 (w2.heap.size + 1 + 1 + 1) (w2.heap.size + 1 + 1) (w2.heap.size + 1 + 1 + 1 + 1))
          (fun pre W => (∀ x ∈ pre, Sp.pOk x = true) ∧ PsI w w.heap.size w1.heap.size (w1.heap.size + 1) w2.heap.size (w2.heap.size + 1) NN pre true W)
          (fun c pre W => c = .exit 0 ∧ (∃ x ∈ pre, Sp.pOk x = false) ∧ ∃ P, PsI w w.heap.size w1.heap.size (w1.heap.size + 1) w2.heap.size (w2.heap.size + 1) NN P false W) (pre ++ [x]) W (.exit 0) { tmps := #[], defers := [] }
          ((W.drewN nd).setCell ⟨w2.heap.size + 1, 0, none⟩ (.bool false))) := Lib.hid (fun nd =>
        ⟨((keeps_drewN W nd).trans (KeepsOthers.setCell _ _ _)).from _, rfl, ⟨x, by simp, HOK.out⟩, pre, (HI.out.draw nd).wrong⟩)
      cases hT : Sp.cutT x
      · have hl : Sp.lo x = 0 := by
          rcases hbad with h | h
          · exact h
          · have h2 := h.2
            unfold Sp.hi at h2
            rw [hT, if_neg (by simp)] at h2
            unfold Sp.lo at h2
            omega
        have hnum : Sp.num (Sp.cutA x) = 0 := hl
        rw [hnum] at NA
        rw [hT] at CUT
        clear hl hnum hT hbad hlo hhi hI
        gi_wp2_with (first | (refine ⟨trivial, ?_⟩; gi_at_call 22; refine (CallsIn.inRound l (callsIn_wide.2 CUT.out)).mono ?_; rintro e w4 ⟨rfl, nd, rfl⟩) | (refine ⟨trivial, ?_⟩; gi_at_call 23; (with_reducible refine (CallsIn.inRound l (callsIn_wide.2 (NA.out _))).mono ?_); rintro e w5 ⟨rfl, rfl⟩))
        exact RES.out nd
      · have hnumB : Sp.num (Sp.cutB x) = Sp.hi x := by unfold Sp.hi; rw [hT]; rfl
        have hnum : Sp.num (Sp.cutA x) = Sp.lo x := rfl
        rw [hnum] at NA
        rw [hnumB] at NB
        rw [hT] at CUT
        generalize Sp.lo x = A at *
        generalize Sp.hi x = B at *
        clear hT hnum hnumB hI
        rcases hbad with rfl | ⟨b1, b2⟩
        · gi_wp2_with (first | (refine ⟨trivial, ?_⟩; gi_at_call 22; refine (CallsIn.inRound l (callsIn_wide.2 CUT.out)).mono ?_; rintro e w4 ⟨rfl, nd, rfl⟩) | (refine ⟨trivial, ?_⟩; gi_at_call 23; (with_reducible refine (CallsIn.inRound l (callsIn_wide.2 (NA.out _))).mono ?_); rintro e w5 ⟨rfl, rfl⟩) | (refine ⟨trivial, ?_⟩; gi_at_call 23; (with_reducible refine (CallsIn.inRound l (callsIn_wide.2 (NB.out _))).mono ?_); rintro e w5 ⟨rfl, rfl⟩))
          exact RES.out nd
        · have z0 : (A == 0) = false := by rw [beq_eq_false_iff_ne]; omega
          gi_wp2_with (first | (refine ⟨trivial, ?_⟩; gi_at_call 22; refine (CallsIn.inRound l (callsIn_wide.2 CUT.out)).mono ?_; rintro e w4 ⟨rfl, nd, rfl⟩) | (refine ⟨trivial, ?_⟩; gi_at_call 23; (with_reducible refine (CallsIn.inRound l (callsIn_wide.2 (NA.out _))).mono ?_); rintro e w5 ⟨rfl, rfl⟩) | (refine ⟨trivial, ?_⟩; gi_at_call 23; (with_reducible refine (CallsIn.inRound l (callsIn_wide.2 (NB.out _))).mono ?_); rintro e w5 ⟨rfl, rfl⟩))
          exact RES.out nd
  case done =>
    rintro D xs W hD hS ⟨hall, hI⟩ hK
    have HS := Lib.hid hS
    have hR : Sp.rightT s.data.toList = true := by rw [Sp.rightT_iff]; rw [hS] at hall; exact hall
    have HL := Lib.hid (show Sp.parseL s.data.toList = Sp.setOf (fun i => Sp.has (xs.map Sp.pR) (i : Int)) 65536 by unfold Sp.parseL; rw [if_neg HNE.out, if_pos hR, hS])
    have HE := Lib.hid (show Sp.parseE s.data.toList = 0 by unfold Sp.parseE; rw [if_neg HNE.out, if_pos hR])
    have hxl : xs.length ≤ 1000001 := by rw [hS]; have := Sp.spl_length 44 s.data.toList; rw [← Lib.size_eq] at this; omega
    have c6 := hI.x6.cell
    have HALL := Lib.hid hall
    have HD := Lib.hid hD
    clear hS hall hR hD
    obtain ⟨M, hM⟩ : ∃ M : Nat, M = 65536 := ⟨_, rfl⟩
    have hM1 : M ≤ 65536 := by omega
    have hM2 : 65536 ≤ M := by omega
    have HM := Lib.hid hM; clear hM
    go_wp2_with (at_make; refine wpList_make_full _ rfl _ _ 53 rfl W.heap.size 4 j0 _ 1 Tryd.underlying53 hj hy0 hy1 .i64 .i64 65536 65536 M rfl rfl (by rw [HM.out]; rfl) (by rw [HM.out]; rfl) (by rw [hy2]; omega) (by unfold maxLen; omega) (Nat.le_refl _) ?_; intro w4 hown4 hgrow4; rw [made_bls] at hown4)
    have b4 : Below W.heap.size W w4 := (Below.refl _ W).grown hgrow4 (Nat.le_refl _) (fun k e => by cases e)
    have b5 := b4.alloc b4.size (.cells #[.slice (some ⟨W.heap.size, 0, none⟩) M M] 53)
    have hgs := (hown4.lt W.heap.size rfl).2
    have hx14 := Bx.new w4 53 (.slice (some ⟨W.heap.size, 0, none⟩) M M)
    have hown5 := hown4.alloc (.cells #[.slice (some ⟨W.heap.size, 0, none⟩) M M] 53)
    rw [upTo_start (fun i => decide (0 < Sp.act xs (i + 1)))] at hown5
    have hDW : D < W.heap.size := (Array.getElem?_eq_some_iff.1 hK).1
    clear b4 hown4 hgrow4
    have HI := Lib.hid hI
    clear hI c6
    generalize hG : W.heap.size = g at *
    generalize w4.heap.size = b14 at *
    have HG := Lib.hid hG; clear hG
    go_loopw [13, 60] (fun o i wr => ∃ k : Nat, k ≤ M ∧ i = .int .i64 k ∧ o = .int .i64 (Sp.act xs k) ∧ wr.ownsRow g 4 1 (.slice (some ⟨g, 0, none⟩) M M) M (bls (fl (upTo (fun i => decide (0 < Sp.act xs (i + 1))) (fun _ => false) k) M)) ∧ Below g W wr ∧ Bx wr b14 53 (.slice (some ⟨g, 0, none⟩) M M)) (fun _ i _ => M - (intOf i).toNat)
    case atStart => exact ⟨0, Nat.zero_le _, rfl, by rw [Sp.act_zero HALL.out], hown5, b5, hx14⟩
    case round =>
      obtain ⟨k, hk, rfl, rfl, hrow, hbw, hx⟩ := hrel
      obtain ⟨wq, rfl⟩ : ∃ wq : World, wq = wr := ⟨_, rfl⟩
      have cx := hx.cell
      have hPW := HI.out.below hbw (Nat.le_of_eq HG.out)
      have hab := Sp.act_bd xs k
      by_cases hlt : k < M
      · have c4 := hPW.x4.cell
        have c5 := hPW.x5.cell
        have d1 := hPW.row1.cellAt k (by omega)
        rw [fi_at _ (by omega)] at d1
        have d2 := hPW.row2.cellAt k (by omega)
        rw [fi_at _ (by omega)] at d2
        have v1 := Sp.bgc_bd xs k
        have v2 := Sp.enc_bd xs k
        have hst := Sp.act_step HALL.out k
        have cj := hrow.cellAt k (by omega)
        rw [bls_fl_at _ hlt, upTo_at] at cj
        have fj := hrow.frozenAt k
        have HST := Lib.hid (fun n => show ((wq.drewN n).setCell ⟨g, k, none⟩ (.bool (decide (0 < Sp.act xs (k + 1))))).ownsRow g 4 1 (.slice (some ⟨g, 0, none⟩) M M) M (bls (fl (upTo (fun i => decide (0 < Sp.act xs (i + 1))) (fun _ => false) (k + 1)) M)) by
          have h1 : (wq.drewN n).ownsRow g 4 1 (.slice (some ⟨g, 0, none⟩) M M) M (bls (fl (upTo (fun i => decide (0 < Sp.act xs (i + 1))) (fun _ => false) k) M)) := hrow
          have h2 := (h1.stored k (.bool (decide (0 < Sp.act xs (k + 1))))).1
          rw [bls_fl_set] at h2
          have h3 := upTo_step (fun i => decide (0 < Sp.act xs (i + 1))) (fun _ => false) k M
          rw [h3] at h2
          exact h2)
        have HX := Lib.hid (fun n v => (show Bx (wq.drewN n) b14 53 (.slice (some ⟨g, 0, none⟩) M M) from hx).other (k := g) (j := k) (by omega) v)
        have HB := Lib.hid (fun n v => (below_drewN hbw n).setCell (p := ⟨g, k, none⟩) (by simp) v)
        have HAS : Hid (Sp.act xs (k + 1) = Sp.act xs k + (Sp.bgc xs k - Sp.enc xs k)) := Lib.hid hst
        generalize Sp.act xs k = o0 at *
        generalize Sp.bgc xs k = vb at *
        generalize Sp.enc xs k = ve at *
        have e1 : IntKind.i64.wrap (vb - ve) = vb - ve := IntWalk.i64_in _ (by omega)
        have e2 : IntKind.i64.wrap (o0 + (vb - ve)) = o0 + (vb - ve) := IntWalk.i64_in _ (by omega)
        have q1 : (0 : Int) ≤ (k : Int) := by omega
        have q2 : (k : Int) < (NN : Int) := by omega
        have q3 : k < NN := by omega
        clear hst hPW hrow hbw hx
        by_cases hp : 0 < o0 + (vb - ve)
        · have hp1 : decide (0 < Sp.act xs (k + 1)) = true := decide_eq_true (by rw [HAS.out]; exact hp)
          rw [hp1] at HST
          clear hp1
          have hp2 : decide (0 < o0 + (vb - ve)) = true := decide_eq_true hp
          go_wp2_with fail
          go_quiet (fail)
          clear e1 e2
          go_wp2_with fail
          go_roundw
          case rel => exact ⟨k + 1, by omega, by go_num, by rw [HAS.out], HST.out _, HB.out _ _, HX.out _ _⟩
          case measure => simp [intOf]; omega
        · have hp1 : decide (0 < Sp.act xs (k + 1)) = false := decide_eq_false (by rw [HAS.out]; exact hp)
          rw [hp1] at HST
          clear hp1
          have hp2 : decide (0 < o0 + (vb - ve)) = false := decide_eq_false hp
          go_wp2_with fail
          go_quiet (fail)
          clear e1 e2
          go_wp2_with fail
          go_roundw
          case rel => exact ⟨k + 1, by omega, by go_num, by rw [HAS.out], HST.out _, HB.out _ _, HX.out _ _⟩
          case measure => simp [intOf]; omega
      · obtain rfl : k = M := by omega
        rw [upTo_end] at hrow
        have hRd := Rd.of_own hrow
        have CC := (collect_Parse (n := k) (z := k) hM1 rfl (says_Parse (n := k) hx hRd (Nat.le_refl _)))
        have hk3 := two_keep wq (.cells #[.int .i64 k] 3) (.cells #[.func (.func 26) #[] #[.pointer (some ⟨b14, 0, none⟩)]] 58)
        have hgw : g ≤ wq.heap.size := by have := hbw.size; have := HG.out; omega
        have hb6 := Lib.hid (hbw.trans (hk3.mono hgw))
        have hgs6 := Lib.hid (Nat.le_trans hgw hk3.size)
        clear hrow hRd hk3 hPW hab
        go_wp2_with (go_at_call 25; refine (ranges_any _ _ _ _).mono ?_; rintro e w5 ⟨rfl, rfl⟩)
        refine CC.mono ?_
        rintro e w6 ⟨v, rfl, hv⟩
        clear CC
        go_wp2
        rw [Exit.noGoto_ret]
        obtain ⟨A, c, rfl, hcc, hr, hb7⟩ := hv
        have hb8 := hb6.out.trans (hb7.mono hgs6.out)
        have hK6 : w6.heap[D]? = some (.deferred (some [])) := (hb8.block D hDW).trans hK
        have hLL : Sp.setOf (fun i => decide (0 < Sp.act xs (i + 1))) k = Sp.parseL s.data.toList := by
          rw [HL.out, show k = 65536 by omega]
          exact Sp.setOf_congr (fun i _ => Sp.act_pos i)
        have hbA : Below w.heap.size w w6 := HI.out.bel.trans (hb8.mono (by rw [← HG.out]; exact HI.out.bel.size))
        rw [hLL] at hr hcc ⊢
        refine ⟨by simp, .inl ⟨_, _, rfl, run_takeDeferred hK6, ?_⟩⟩
        exact ⟨_, results_tmp2 (t := 2) (u := 3) rfl _ _ _, _, by rw [HE.out]; rfl, A, c, rfl, hcc, hr.putO (by omega) hK6 rfl, below_put hbA _ (by have := HD.out; rw [hszL] at this; omega)⟩
  case stop =>
    rintro D c' pre W hD hSp ⟨rfl, ⟨x, hx, hxo⟩, P, hP⟩ hK
    have hR := Sp.rightT_no (hSp.subset hx) hxo
    have HL := Lib.hid (show Sp.parseL s.data.toList = [] by unfold Sp.parseL; rw [if_neg HNE.out, hR]; rfl)
    have HE := Lib.hid (show Sp.parseE s.data.toList = 190 by unfold Sp.parseE; rw [if_neg HNE.out, hR]; rfl)
    have c6 := hP.x6.cell
    have hB := hP.bel
    clear hR hx hxo hSp
    gi_wp2
    go_wp2
    rw [Exit.noGoto_ret]
    refine ⟨by simp, .inl ⟨_, _, rfl, run_takeDeferred hK, ?_⟩⟩
    exact ⟨_, results_tmp2 (t := 2) (u := 3) rfl _ _ _, _, by rw [HE.out]; rfl, by rw [HL.out]; exact RgIs.nil (below_put hB _ (by rw [hszL] at hD; omega))⟩

end Go.Proofs.YtccpjjhaeocfhaaDoor
