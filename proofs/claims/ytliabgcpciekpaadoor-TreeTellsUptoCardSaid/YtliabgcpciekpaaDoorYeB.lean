/- Walks: an entry's number; an entry is set. -/
import Derived.Test.YtliabgcpciekpaaDoorYlA
import Derived.Deep.MidRow
set_option linter.unusedVariables false
set_option linter.unusedSimpArgs false
namespace Go.Proofs.YtliabgcpciekpaaDoor
open Go Go.RowKit

/-- The block b holds a style. -/
def Sty (w : World) (b : Nat) (v : Nat → Int) : Prop := w.heap[b]? = some (.cells (St.stv v).toArray 23 (0, 0))
theorem Sty.cell {w : World} {b : Nat} {v : Nat → Int} (h : Sty w b v) {i : Nat} (hi : i < 18) : w.cell? ⟨b, i, none⟩ = some (St.cellN i (v i)) := by
  unfold Sty at h
  simp only [World.cell?, h, Obj.cells.injEq]
  have := St.stv_at v hi
  simpa using this
theorem Sty.frozen {w : World} {b : Nat} {v : Nat → Int} (h : Sty w b v) (i : Nat) : w.frozen? ⟨b, i, none⟩ = false := by unfold Sty at h; simp [World.frozen?, h]
theorem Sty.range {w : World} {b : Nat} {v : Nat → Int} (h : Sty w b v) : w.rangeAt b 0 (St.stv v) := by
  intro j u hj
  have hl : j < 18 := by have := (List.getElem?_eq_some_iff.1 hj).1; rwa [St.stv_len] at this
  rw [St.stv_at v hl] at hj
  rw [Nat.zero_add, h.cell hl, hj]
theorem Sty.lt {w : World} {b : Nat} {v : Nat → Int} (h : Sty w b v) : b < w.heap.size := (Array.getElem?_eq_some_iff.1 h).1
theorem Sty.new (w : World) (v : Nat → Int) : Sty (w.alloc (.cells (St.stv v).toArray 23)) w.heap.size v := heap_alloc_new w _
theorem Sty.below {w w' : World} {b B : Nat} {v : Nat → Int} (h : Sty w b v) (hb : Below B w w') (hB : b < B) : Sty w' b v := (hb.block b hB).trans h
theorem Sty.later {w w' : World} {b : Nat} {v : Nat → Int} (h : Sty w b v) (hb : Below w.heap.size w w') : Sty w' b v := h.below hb h.lt
theorem Sty.set {w : World} {b : Nat} {v : Nat → Int} (h : Sty w b v) {i : Nat} (hi : i < 18) (x : Int) : Sty (w.setCell ⟨b, i, none⟩ (St.cellN i x)) b (St.sput v i x) := by
  unfold Sty at h ⊢
  rw [← St.stv_upd v hi x]
  simp [World.setCell, Array.getElem?_modify, h]

theorem cellN_int {i : Nat} (h : St.isFl i = false) (x : Int) : St.cellN i x = .int .i64 x := by unfold St.cellN; rw [h]; rfl
theorem cellN_bool {i : Nat} (h : St.isFl i = true) (x : Int) : St.cellN i x = .bool (x == 1) := by unfold St.cellN; rw [h]; rfl

set_option maxRecDepth 100000 in
set_option maxHeartbeats 4000000 in
theorem value_any (b i : Nat) (nm : ByteArray) (lo hi fi : Int) (v : Nat → Int) (w : World) (h : Sty w b v) (hi18 : i < 18) (hf : St.Fl v) :
    Calls Tryd.prog 40 #[.agg #[.string nm, .int .i64 lo, .int .i64 hi, .int .i64 fi, .pointer (if St.isFl i = true then none else some ⟨b, i, none⟩), .pointer (if St.isFl i = true then some ⟨b, i, none⟩ else none)]] w fun e w' => e = .returned (.int .i64 (v i)) ∧ Below w.heap.size w w' := by
  have hc := h.cell hi18
  have hlt := h.lt
  cases hfl : St.isFl i
  · rw [cellN_int hfl] at hc
    simp only [Bool.false_eq_true, if_false]
    clear h hf
    go_enter Tryd.func40, Tryd.ntmps40
    go_wp2
    go_ret
    exact ⟨rfl, (Below.refl _ _).alloc (Nat.le_refl _) _⟩
  · rw [cellN_bool hfl] at hc
    simp only [if_true]
    rcases hf i hi18 hfl with e | e
    · rw [e] at hc ⊢
      have hc2 : w.cell? ⟨b, i, none⟩ = some (.bool false) := hc
      clear h hf hc
      go_enter Tryd.func40, Tryd.ntmps40
      go_wp2
      go_ret
      exact ⟨rfl, (Below.refl _ _).alloc (Nat.le_refl _) _⟩
    · rw [e] at hc ⊢
      have hc2 : w.cell? ⟨b, i, none⟩ = some (.bool true) := hc
      clear h hf hc
      go_enter Tryd.func40, Tryd.ntmps40
      go_wp2
      go_ret
      exact ⟨rfl, (Below.refl _ _).alloc (Nat.le_refl _) _⟩

set_option maxRecDepth 100000 in
set_option maxHeartbeats 4000000 in
theorem set_any (b i : Nat) (nm : ByteArray) (lo hi fi x : Int) (v : Nat → Int) (w : World) (h : Sty w b v) (hi18 : i < 18) (hx : St.isFl i = true → x = 0 ∨ x = 1) :
    Calls Tryd.prog 53 #[.agg #[.string nm, .int .i64 lo, .int .i64 hi, .int .i64 fi, .pointer (if St.isFl i = true then none else some ⟨b, i, none⟩), .pointer (if St.isFl i = true then some ⟨b, i, none⟩ else none)], .int .i64 x] w fun e w' => e = .returned (.tuple #[]) ∧ Sty w' b (St.sput v i x) ∧ w.grownBy w' (some b) := by
  have hc := h.cell hi18
  have hfz := h.frozen i
  have hlt := h.lt
  have HS : ∀ o, Hid (Sty ((w.setCell ⟨b, i, none⟩ (St.cellN i x)).alloc o) b (St.sput v i x)) := fun o => Lib.hid ((h.set hi18 x).later ((Below.refl _ _).alloc (Nat.le_refl _) o))
  have HG : ∀ o u, Hid (w.grownBy ((w.setCell ⟨b, i, none⟩ u).alloc o) (some b)) := fun o u => Lib.hid ⟨rfl, rfl, rfl, by simp [World.setCell], fun k hk hne => (Below.heap_alloc _ _ _ (by simpa [World.setCell] using hk)).trans (Below.heap_setCell _ _ _ _ (fun e => hne (by rw [e])))⟩
  cases hfl : St.isFl i
  · rw [cellN_int hfl] at hc HS
    simp only [Bool.false_eq_true, if_false]
    clear h
    go_enter Tryd.func53, Tryd.ntmps53
    go_wp2
    refine bodyPost_ret (results_none rfl _ _ _) rfl ?_
    exact ⟨rfl, (HS _).out, (HG _ _).out⟩
  · rw [cellN_bool hfl] at hc HS
    simp only [if_true]
    rcases hx hfl with rfl | rfl
    · clear h
      go_enter Tryd.func53, Tryd.ntmps53
      go_wp2
      go_end0
      exact ⟨rfl, (HS _).out, (HG _ _).out⟩
    · clear h
      go_enter Tryd.func53, Tryd.ntmps53
      go_wp2
      go_end0
      exact ⟨rfl, (HS _).out, (HG _ _).out⟩

end Go.Proofs.YtliabgcpciekpaaDoor
