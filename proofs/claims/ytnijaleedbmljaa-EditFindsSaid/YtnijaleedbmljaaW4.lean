/- Walks: a text's lines, by the program's iterator. -/
import Derived.RangeFuncNested
import Derived.RangeFuncBound
import Derived.RangeFuncCalls
import Derived.RangeFuncLeaves
import Derived.RangeFuncBox
import Derived.Shelf.Abstract
import Derived.Shelf.RegionOpen
import Derived.WalkKit
import Derived.OwnWalkIn
import Derived.TacticsInMore
import Derived.LoopNIn
import Derived.LoopIn
import Derived.Maps.AppendAt
import Derived.Test.YtnijaleedbmljaaW1
import Derived.Test.YtnijaleedbmljaaPlF
set_option linter.unusedVariables false
set_option linter.unusedSimpArgs false
namespace Go.Proofs.Ytnijaleedbmljaa
open Go Go.RowKit Go.Shelf
attribute [local go_sem] Oper.semAt_some

/-- How long the string in a box is. -/
def strAt (w : World) (b : Nat) : Nat := match w.cell? ⟨b, 0, none⟩ with
  | some (.string t) => t.size
  | _ => 0
theorem strAt_eq {w : World} {b : Nat} {t : ByteArray} (h : w.cell? ⟨b, 0, none⟩ = some (.string t)) : strAt w b = t.size := by unfold strAt; rw [h]

/-- A box: a block of one cell. -/
def Bx (w : World) (b : Nat) (T : TypeId) (v : Value) : Prop := w.heap[b]? = some (.cells #[v] T (0, 0))
theorem Bx.cell {w : World} {b : Nat} {T : TypeId} {v : Value} (h : Bx w b T v) : w.cell? ⟨b, 0, none⟩ = some v := by unfold Bx at h; simp [World.cell?, h]
theorem Bx.frozen {w : World} {b : Nat} {T : TypeId} {v : Value} (h : Bx w b T v) : w.frozen? ⟨b, 0, none⟩ = false := by unfold Bx at h; simp [World.frozen?, h]
theorem Bx.lt {w : World} {b : Nat} {T : TypeId} {v : Value} (h : Bx w b T v) : b < w.heap.size := (Array.getElem?_eq_some_iff.1 h).1
theorem Bx.set {w : World} {b : Nat} {T : TypeId} {v : Value} (h : Bx w b T v) (u : Value) : Bx (w.setCell ⟨b, 0, none⟩ u) b T u := by
  unfold Bx at h ⊢
  simp [World.setCell, Array.getElem?_modify, h]
theorem Bx.new (w : World) (T : TypeId) (v : Value) : Bx (w.alloc (.cells #[v] T)) w.heap.size T v := heap_alloc_new w _
theorem Bx.below {w w' : World} {b B : Nat} {T : TypeId} {v : Value} (h : Bx w b T v) (hb : Below B w w') (hB : b < B) : Bx w' b T v := (hb.block b hB).trans h
theorem Bx.same {w w' : World} {b : Nat} {T : TypeId} {v : Value} (h : Bx w b T v) (e : w'.heap[b]? = w.heap[b]?) : Bx w' b T v := e.trans h

theorem grownBy_set (w : World) (b : Nat) (u : Value) : w.grownBy (w.setCell ⟨b, 0, none⟩ u) (some b) :=
  ⟨rfl, rfl, rfl, by simp [World.setCell], fun k _ hk => Below.heap_setCell _ _ _ _ (fun e => hk (by rw [e]))⟩

set_option maxRecDepth 100000 in
set_option maxHeartbeats 2000000 in
theorem each1_seq (n : Nat) (Bs : Nat) (s : ByteArray) (W : World) (hs : s.size ≤ 1000000000) (hb : Bx W Bs 9 (.string s)) :
    Seq n Try.prog 67 #[.pointer (some ⟨Bs, 0, none⟩)] (fun x : Pl.T => #[.string (bs x)]) (fun X Y => X.grownBy Y (some Bs)) (fun X Y => Y.heap[Bs]? = X.heap[Bs]?)
      (fun pre => pre <+: Pl.lines s.data.toList) (fun xs => xs = Pl.lines s.data.toList) (fun pre => pre <+: Pl.lines s.data.toList) W := by
  intro l K Kx hK hY h0
  refine callsIn_of_wp Try.func67 rfl trivial ?_ rfl
  simp only [Try.ntmps67, List.size_toArray, List.length_cons, List.length_nil, Nat.reduceAdd, Nat.reduceSub, Array.replicate_succ, Array.replicate_zero, List.push_toArray, List.append_toArray, List.nil_append, List.cons_append]
  gi_wp2
  gi_loopw [3] (fun p wr => ∃ (pre : List Pl.T) (t : ByteArray), Bx wr Bs 9 (.string t) ∧ t.size ≤ 1000000000 ∧ pre ++ Pl.lines t.data.toList = Pl.lines s.data.toList ∧ K pre wr) (fun p wr => strAt wr Bs)
  case atStart => exact ⟨[], s, hb, hs, rfl, h0⟩
  case round =>
    obtain ⟨pre, t, hbx, ht, hpre, hKp⟩ := hrel
    have hc := hbx.cell
    have hf := hbx.frozen
    have hsz : t.size = t.data.toList.length := Lib.size_eq t
    by_cases hz : t.size = 0
    · have hz' : ¬ (0 : Int) < (t.size : Int) := by omega
      have HZ := Lib.hid hz; clear hz hsz
      have HP := Lib.hid hpre; clear hpre
      gi_wp2
      go_end0
      refine ⟨⟨_, rfl⟩, .inl ⟨pre, ?_, hKp⟩⟩
      have : t.data.toList = [] := List.eq_nil_of_length_eq_zero (by rw [← Lib.size_eq]; exact HZ.out)
      have hpre := HP.out
      rw [this] at hpre
      simpa [Pl.lines] using hpre
    · have hz' : 0 < t.size := by omega
      have hne : t.data.toList ≠ [] := by intro e; rw [e] at hsz; rw [hsz] at hz'; simp at hz'
      have ht0 : t.extract t.size t.size = bs [] := by apply ByteArray.ext; simp [bs]
      clear hz hsz
      by_cases hi : Lib.indexByte t.data.toList 10 = -1
      · have hl := Pl.lines_none hi hne
        obtain ⟨fn, tmps, assign, body, hy, hR⟩ := hY pre t.data.toList wr hKp ⟨[], by rw [List.append_nil, ← hpre, hl]⟩
        rw [bs_of] at hy
        have HP := Lib.hid hpre; clear hpre
        have HL := Lib.hid hl; clear hl hne
        gi_wp2_with (first | (refine ⟨trivial, (fun h => by cases h), ?_⟩; gi_at_call 59; refine (callsIn_wide.2 (Try.strings_IndexByte _ _ _)).mono ?_; rintro e w' ⟨rfl, rfl⟩))
        refine ⟨(fun h => by cases h), hR.mono ?_⟩
        rintro e W3 (⟨rfl, hJ3, hk3⟩ | ⟨rfl, hJx3⟩)
        · have hbx3 := hbx.same hk3
          have hc3 := hbx3.cell
          have hf3 := hbx3.frozen
          clear hk3
          gi_wp2
          go_roundw
          case rel => exact ⟨_, _, hbx3.set _, by simp, by rw [← HP.out, HL.out]; simp [Pl.lines], hK _ _ _ hJ3 (grownBy_set _ _ _)⟩
          case measure => rw [strAt_eq (hbx3.set _).cell, strAt_eq hc]; simp; omega
        · gi_wp2
          refine bodyPost_ret (results_none rfl _ _ _) rfl ?_
          exact ⟨⟨_, rfl⟩, .inr ⟨_, ⟨[], by rw [List.append_nil, ← HP.out, HL.out]⟩, hJx3⟩⟩
      · obtain ⟨j, hj⟩ : ∃ j : Nat, Lib.indexByte t.data.toList 10 = j := ⟨(Lib.indexByte t.data.toList 10).toNat, by have := Lib.indexByte_ge t.data.toList 10; omega⟩
        have hl := Pl.lines_some hj
        obtain ⟨hj1, _, _⟩ := Pl.idx_some hj
        rw [← Lib.size_eq] at hj1
        have hd : (t.extract (j + 1) t.size).data.toList = t.data.toList.drop (j + 1) := by rw [Lib.extract_data, Lib.size_eq]; exact List.take_of_length_le (by simp)
        have HD := Lib.hid hd; clear hd
        have hx : bs (t.data.toList.take (j + 1)) = t.extract 0 (j + 1) := by rw [Lib.extract_eq]; simp [bs]
        obtain ⟨fn, tmps, assign, body, hy, hR⟩ := hY pre (t.data.toList.take (j + 1)) wr hKp ⟨Pl.lines (t.data.toList.drop (j + 1)), by rw [List.append_assoc, ← hpre, hl]; rfl⟩
        rw [hx] at hy
        have HP := Lib.hid hpre; clear hpre
        have HL := Lib.hid hl; clear hl hne hi hx
        gi_wp2_with (first | (refine ⟨trivial, (fun h => by cases h), ?_⟩; gi_at_call 59; refine (callsIn_wide.2 (Try.strings_IndexByte _ _ _)).mono ?_; rintro e w' ⟨rfl, rfl⟩))
        refine ⟨(fun h => by cases h), hR.mono ?_⟩
        rintro e W3 (⟨rfl, hJ3, hk3⟩ | ⟨rfl, hJx3⟩)
        · have hbx3 := hbx.same hk3
          have hc3 := hbx3.cell
          have hf3 := hbx3.frozen
          clear hk3
          gi_wp2
          go_roundw
          case rel => exact ⟨_, _, hbx3.set _, by rw [Lib.size_eq, Lib.extract_data]; simp; omega, by rw [← HP.out, HL.out, HD.out, List.append_assoc]; rfl, hK _ _ _ hJ3 (grownBy_set _ _ _)⟩
          case measure => rw [strAt_eq (hbx3.set _).cell, strAt_eq hc]; simp; omega
        · gi_wp2
          refine bodyPost_ret (results_none rfl _ _ _) rfl ?_
          exact ⟨⟨_, rfl⟩, .inr ⟨_, ⟨Pl.lines (t.data.toList.drop (j + 1)), by rw [List.append_assoc, ← HP.out, HL.out]; rfl⟩, hJx3⟩⟩

set_option maxHeartbeats 400000 in
theorem each_any (s : ByteArray) (w : World) :
    Calls Try.prog 54 #[.string s] w fun e w' => e = .returned (.func (.func 67) #[] #[.pointer (some ⟨w.heap.size, 0, none⟩)]) ∧ w' = w.alloc (.cells #[.string s] 9) := by
  go_enter Try.func54, Try.ntmps54
  go_wp2
  go_ret
  exact ⟨rfl, rfl⟩

theorem infoStr : (Try.prog.info? 9).map (fun i => (i.zero, i.size, i.bytes)) = some (some (.string ⟨#[]⟩), 1, 16) := by kernel_rfl

/-- What a call that collects leaves: a slice of its own. -/
def SlOwn (w w' : World) (e : TypeId) (sz : Nat) (v : Value) (n : Nat) (xs : List Value) : Prop := w'.ownsRow w.heap.size e sz v n xs ∧ Below w.heap.size w w'

/-- A box that holds a slice of the call's own, which has been collected so far. -/
def Coll (W : World) (Bl : Nat) (Tl base : Nat) (e : TypeId) (sz n : Nat) (xs : List Value) : Prop := ∃ v, Bx W Bl Tl v ∧ W.ownsRow base e sz v n xs

theorem own_base {W : World} {base b' : Nat} {e : TypeId} {sz n : Nat} {v : Value} {xs : List Value} (h : W.ownsRow base e sz v n xs) (hb : b' ≤ base) : W.ownsRow b' e sz v n xs := by
  refine ⟨h.1, ?_⟩
  rcases h.2 with h2 | ⟨g, cap, cur, hv, hg, r⟩
  · exact .inl h2
  · exact .inr ⟨g, cap, cur, hv, Nat.le_trans hb hg, r⟩
theorem own_ne {W : World} {base : Nat} {e : TypeId} {sz n : Nat} {v : Value} {xs : List Value} (h : W.ownsRow base e sz v n xs) {j : Nat} (hj : j < base) : v.ownBlock ≠ some j := by
  intro e'
  have := (h.lt j e').1
  omega
theorem own_ne_obj {W : World} {base : Nat} {e : TypeId} {sz n : Nat} {v : Value} {xs : List Value} (h : W.ownsRow base e sz v n xs) {j : Nat} {o : Obj} (hj : W.heap[j]? = some o) (ho : o.isCells = false) : v.ownBlock ≠ some j := by
  intro e'
  rcases h.2 with ⟨rfl, _⟩ | ⟨g, cap, cur, rfl, _, hg, _⟩
  · simp [Value.ownBlock] at e'
  · simp only [Value.ownBlock, Option.some.injEq] at e'
    subst e'
    rw [hg] at hj; cases hj; cases ho
theorem Bx.ne_obj {w : World} {b : Nat} {T : TypeId} {v : Value} (h : Bx w b T v) {j : Nat} {o : Obj} (hj : w.heap[j]? = some o) (ho : o.isCells = false) : b ≠ j := by
  rintro rfl
  unfold Bx at h; rw [h] at hj; cases hj; cases ho

section
variable {W W' : World} {Bl Tl base : Nat} {e : TypeId} {sz n : Nat} {xs : List Value}
theorem Coll.grown (h : Coll W Bl Tl base e sz n xs) {k : Nat} (hg : W.grownBy W' (some k)) (h1 : k ≠ Bl) (h2 : k < base) : Coll W' Bl Tl base e sz n xs := by
  obtain ⟨v, hb, ho⟩ := h
  exact ⟨v, (hg.block Bl hb.lt (fun e => h1 (by injection e with e; exact e.symm))).trans hb, ho.kept hg (.inr (own_ne ho h2))⟩
theorem Coll.put (h : Coll W Bl Tl base e sz n xs) {l : Nat} {o : Obj} (o' : Obj) (hl : W.heap[l]? = some o) (ho : o.isCells = false) : Coll (W.putObj l o') Bl Tl base e sz n xs := by
  obtain ⟨v, hb, hr⟩ := h
  exact ⟨v, (World.putObj_heap_other (hb.ne_obj hl ho)).trans hb, hr.kept (grownBy_putObj' W l o') (.inr (own_ne_obj hr hl ho))⟩
theorem below_put {w0 : World} (h : Below w0.heap.size w0 W) {l : Nat} (o' : Obj) (hl : w0.heap.size ≤ l) : Below w0.heap.size w0 (W.putObj l o') :=
  h.trans ⟨rfl, rfl, rfl, by simp, fun k hk => World.putObj_heap_other (by omega)⟩
theorem Coll.new (w : World) (Tl base : Nat) (e : TypeId) (sz : Nat) : Coll (w.alloc (.cells #[.slice none 0 0] Tl)) w.heap.size Tl base e sz 0 [] :=
  ⟨_, Bx.new _ _ _, World.ownsRow_nil _ _ _ _⟩
theorem Coll.alloc (h : Coll W Bl Tl base e sz n xs) (o : Obj) : Coll (W.alloc o) Bl Tl base e sz n xs := by
  obtain ⟨v, hb, ho⟩ := h
  exact ⟨v, (Below.heap_alloc W o Bl hb.lt).trans hb, ho.alloc o⟩
theorem Coll.below {B : Nat} (h : Coll W Bl Tl base e sz n xs) (hb : Below B W W') (h1 : Bl < B) (h2 : W.heap.size ≤ B) : Coll W' Bl Tl base e sz n xs := by
  obtain ⟨v, hx, ho⟩ := h
  refine ⟨v, hx.below hb h1, ho.kept (row := none) ⟨hb.os, hb.tape, hb.output, hb.size, fun k hk _ => hb.block k (by omega)⟩ ?_⟩
  rcases ho.2 with ⟨rfl, _⟩ | ⟨g, cap, cur, rfl, _⟩
  · exact .inl rfl
  · exact .inr (by simp [Value.ownBlock])
end

theorem coll_app {W w1 : World} {Bl Tl base : Nat} {e : TypeId} {sz n : Nat} {v : Value} {xs : List Value} {o : Obj} (hv : Bx W Bl Tl v) (hrow : W.ownsRow base e sz v n xs) (hBl : Bl < base)
    (hgrow : (W.alloc o).grownBy w1 v.ownBlock) : Bx w1 Bl Tl v := by
  have h1 : Bx (W.alloc o) Bl Tl v := (Below.heap_alloc W o Bl hv.lt).trans hv
  exact (hgrow.block Bl h1.lt (fun e => own_ne hrow hBl e.symm)).trans h1

theorem coll_end {w W w1 : World} {B Bl Tl base : Nat} {e : TypeId} {sz n m : Nat} {v v' : Value} {xs ys : List Value} {o : Obj} (hv : Bx W Bl Tl v) (hrow : W.ownsRow base e sz v n xs) (hBl : Bl < base) (hw : w.heap.size ≤ Bl) (hsz : base ≤ W.heap.size)
    (hB : Below w.heap.size w W) (hgrow : (W.alloc o).grownBy w1 v.ownBlock) (hown' : w1.ownsRow base e sz v' m ys) :
    KeepsFrom B W (w1.setCell ⟨Bl, 0, none⟩ v') ∧ (Coll (w1.setCell ⟨Bl, 0, none⟩ v') Bl Tl base e sz m ys ∧ Below w.heap.size w (w1.setCell ⟨Bl, 0, none⟩ v') ∧ base ≤ (w1.setCell ⟨Bl, 0, none⟩ v').heap.size) ∧
    ∀ k, k < base → k ≠ Bl → (w1.setCell ⟨Bl, 0, none⟩ v').heap[k]? = W.heap[k]? := by
  have hv1 := coll_app hv hrow hBl hgrow
  have hg := grownBy_set w1 Bl v'
  have hs1 : W.heap.size + 1 ≤ w1.heap.size := by have := hgrow.size; simpa using this
  have hs2 : (w1.setCell ⟨Bl, 0, none⟩ v').heap.size = w1.heap.size := by simp [World.setCell]
  refine ⟨?_, ⟨⟨v', hv1.set v', hown'.kept hg (.inr (own_ne hown' hBl))⟩, ?_, by omega⟩, fun k hk hne => ?_⟩
  · refine (((KeepsOthers.alloc W o).trans (KeepsOthers.of_grownBy hgrow (fun j o' hj ho' => ?_))).trans (KeepsOthers.setCell _ _ _)).from B
    rcases (hrow.alloc o).2 with ⟨rfl, _⟩ | ⟨g, cap, cur, rfl, _, hg', _⟩
    · simp [Value.ownBlock] at hj
    · simp only [Value.ownBlock, Option.some.injEq] at hj
      subst hj
      rw [hg'] at ho'; cases ho'; rfl
  · exact ((hB.alloc hB.size o).grown hgrow (by have := hB.size; simp; omega) (fun k hk => by have := (hrow.lt k hk).1; omega)).setCell (p := ⟨Bl, 0, none⟩) hw _
  · rw [hg.block k (by omega) (fun e => hne (by injection e)), hgrow.block k (by simp; omega) (fun e => own_ne hrow hk e.symm)]
    exact Below.heap_alloc W o k (by omega)

set_option maxRecDepth 100000 in
set_option maxHeartbeats 2000000 in
theorem Lines_any (s : ByteArray) (w : World) (hs : s.size ≤ 1000000000) :
    Calls Try.prog 32 #[.string s] w fun e w' => ∃ v, e = .returned v ∧ SlOwn w w' 9 1 v (Pl.lines s.data.toList).length (strs (Pl.lines s.data.toList)) := by
  obtain ⟨i0, hi, hz0, hz1, hz2⟩ := info_parts infoStr
  have hlen : (Pl.lines s.data.toList).length ≤ 1000000000 := by
    have := Pl.lines_le s.data.toList
    rw [← Lib.size_eq] at this; omega
  refine callsIn_wide (n := 5) |>.1 ?_
  refine callsIn_of_wp_marks Try.func32 rfl trivial ?_ rfl
  simp only [Try.ntmps32, List.size_toArray, List.length_cons, List.length_nil, Nat.reduceAdd, Nat.reduceSub, Array.replicate_succ, Array.replicate_zero, List.push_toArray, List.append_toArray, List.nil_append, List.cons_append]
  gi_wp2_with (refine ⟨trivial, ?_⟩; gi_at_call 54; refine (callsIn_wide.2 (each_any _ _)).mono ?_; rintro e w' ⟨rfl, rfl⟩)
  have hW : ∀ W1 : World, W1.heap.size = ((w.alloc (.cells #[.slice none 0 0] 55)).alloc (.cells #[.string s] 9)).heap.size + 2 →
      Below ((w.alloc (.cells #[.slice none 0 0] 55)).alloc (.cells #[.string s] 9)).heap.size ((w.alloc (.cells #[.slice none 0 0] 55)).alloc (.cells #[.string s] 9)) W1 → Bx W1 (w.heap.size + 1) 9 (.string s) := fun W1 _ hb1 => by
    have := Bx.new (w.alloc (.cells #[.slice none 0 0] 55)) 9 (.string s)
    rw [World.size_alloc] at this
    exact this.below hb1 (by simp)
  refine rangeLaw (gf := 67) (lb := #[.pointer (some ⟨w.heap.size + 1, 0, none⟩)]) rfl (enters_of Try.func67 (by kernel_rfl) rfl)
    (fun W1 hs1 hb1 => each1_seq _ (w.heap.size + 1) s W1 hs (hW W1 hs1 hb1))
    (fun X Y k o hg hk ho _ => (hg.block k (Array.getElem?_eq_some_iff.1 ho).1 (fun e => by simp at hk e; omega)).trans ho)
    (fun h1 h2 => h2.trans h1) (fun W l o o' hl _ _ _ => World.putObj_heap_other (by simp at hl; omega)) (fun _ => rfl)
    (fun pre W => Coll W w.heap.size 55 (w.heap.size + 2) 9 1 pre.length (strs pre) ∧ Below w.heap.size w W ∧ w.heap.size + 2 ≤ W.heap.size) (fun _ _ _ => False)
    (fun pre X Y ⟨h1, h2, h3⟩ hg => ⟨h1.grown hg (by omega) (by omega), h2.grown hg h2.size (fun k e => by cases e; omega), Nat.le_trans h3 hg.size⟩)
    (fun pre W l o o' ⟨h1, h2, h3⟩ hl ho hc => ⟨h1.put o' ho hc, below_put h2 o' (by simp at hl; omega), by simpa using h3⟩)
    (fun c pre W l o o' h _ _ _ => h)
    (fun W1 hs1 hb1 => ⟨((Coll.new w _ _ _ _).alloc _).below hb1 (by simp; omega) (Nat.le_refl _), (((Below.refl _ w).alloc (Nat.le_refl _) _).alloc (by simp) _).trans (hb1.mono (by simp; omega)), by rw [hs1]; simp⟩)
    (fun x => { tmps := #[.string s, undef, .slice none 0 0, .pointer (some ⟨w.heap.size, 0, none⟩), .string (bs x), .string s, .func (.func 67) #[] #[.pointer (some ⟨w.heap.size + 1, 0, none⟩)], .string (bs x), undef, undef, undef, undef, undef], defers := [] }) ?assign ?body ?done ?stop
  case assign =>
    intro l x W K hK
    gi_wp2
    exact hK
  case body =>
    rintro l pre x W ⟨⟨v, hv, hrow⟩, hB, hsz⟩ hgo _
    have hpl : pre.length + 1 ≤ 1000000000 := by
      have := hgo.length_le
      simp at this; omega
    have hc := hv.cell
    have hf := hv.frozen
    have hlt := hv.lt
    clear hW
    gi_wp2_with (gi_at_builtin; refine wpListIn_append_own _ rfl _ _ 55 rfl (w.heap.size + 2) 9 i0 _ 1 16 Try.underlying55 hi hz0 hz1 hz2 rfl (by decide) _ _ _ rfl (hrow.alloc _) ⟨W.heap.size, 0, none⟩ 1 1 [.string (bs x)] rfl rfl (cell_one_new _ _ _) (by simp [Value.oneCell']) (by unfold maxLen; omega) (by omega) (by simp; omega) ?_; intro v' w1 hown' hgrow _; obtain ⟨g', cap', rfl⟩ := ownsRow_succ hown'; have hv1 := coll_app hv hrow (by omega) hgrow; have hc1 := hv1.cell; have hf1 := hv1.frozen)
    obtain ⟨e1, e2, e3⟩ := coll_end (w := w) (B := ((w.alloc (.cells #[.slice none 0 0] 55)).alloc (.cells #[.string s] 9)).heap.size) hv hrow (by omega) (Nat.le_refl _) hsz hB hgrow hown'
    refine ⟨e1, e3 _ (by omega) (by omega), ?_⟩
    simpa [strs] using e2
  case done =>
    rintro D ys W hD hS ⟨⟨v, hv, hrow⟩, hB, hsz⟩ hK
    have hc := hv.cell
    have HS := Lib.hid hS; clear hS
    gi_wp2
    refine ⟨by simp, .inl ⟨_, _, rfl, run_takeDeferred hK, ?_⟩⟩
    refine ⟨_, results_tmp rfl _ _ _, v, rfl, ?_, below_put hB _ (by simp at hD; omega)⟩
    rw [← HS.out]
    exact own_base (hrow.kept (grownBy_putObj' W D _) (.inr (own_ne_obj hrow hK rfl))) (by omega)
  case stop =>
    rintro D c pre W _ _ h _
    exact h.elim

end Go.Proofs.Ytnijaleedbmljaa
