/- Walks: numbered. -/
import Derived.Test.YtnijaleedbmljaaW11
set_option linter.unusedVariables false
set_option linter.unusedSimpArgs false
namespace Go.Proofs.Ytnijaleedbmljaa
open Go Go.RowKit Go.Maps

/-- The numbers' table of two lists of lines. -/
def keysOf (xs ys : List Pl.T) : List Pl.T := addAll (addAll [] xs) ys
theorem keysOf_left {xs : List Pl.T} {x : Pl.T} (h : x ∈ xs) : x ∈ addAll [] xs := (addAll_mem _ _ _).2 (.inr h)
theorem ids_left (xs ys : List Pl.T) : xs.map (addAll [] xs).idxOf = xs.map (keysOf xs ys).idxOf := by
  apply List.map_congr_left
  intro x hx
  obtain ⟨t, e⟩ := addAll_prefix ys (addAll [] xs)
  simp only [keysOf, e]
  exact (idx_prefix (keysOf_left hx)).symm

theorem run_makeMapN {P : Program} {t k e : TypeId} (ht : P.underlying t = some (.map k e)) (q : IntKind) (n : Int) (w : World) : (Instr.makeMap t (some (.int q n))).run P w = .ok (.map (some w.heap.size)) (w.alloc (.map #[] 0)) := by
  simp [Instr.makeMap, run_underlying ht, asInt, asIntOf, Result.andThen]

theorem Below.of_gb {w W w' : World} {b : Nat} (hb : Below w.heap.size w W) (h : W.grownBy w' (some b)) (hlt : w.heap.size ≤ b) : Below w.heap.size w w' :=
  hb.grown h hb.size (fun j hj => by cases hj; exact hlt)

theorem below_ne {w : World} {A : Option Addr} {n : Nat} {xs : List Value} (h : Rd w 1 A n xs) (hn : 0 < n) (bb o : Nat) (e : A = some ⟨bb, o, none⟩) : bb ≠ w.heap.size := by
  obtain ⟨b', o', e', hlt, _⟩ := h.2 hn
  rw [e] at e'
  simp only [Option.some.injEq, Addr.mk.injEq] at e'
  omega

set_option maxRecDepth 100000 in
set_option maxHeartbeats 1000000 in
theorem numbered_any (A B : Option Addr) (c d : Nat) (xs ys : List Pl.T) (w : World) (h : Rd w 1 A xs.length (strs xs)) (g : Rd w 1 B ys.length (strs ys)) (hx : xs.length ≤ 4000000) (hy : ys.length ≤ 4000000) (hxs : ∀ x ∈ xs, x.length ≤ 4000000) (hys : ∀ x ∈ ys, x.length ≤ 4000000) :
    Calls Try.prog 55 #[.slice A xs.length c, .slice B ys.length d] w fun e w' => ∃ X Y, e = .returned (.tuple #[.slice X xs.length xs.length, .slice Y ys.length ys.length]) ∧
      Rd w' 1 X xs.length (ints (xs.map (keysOf xs ys).idxOf)) ∧ Rd w' 1 Y ys.length (ints (ys.map (keysOf xs ys).idxOf)) ∧ Below w.heap.size w w' := by
  have hmm := fun w => run_makeMapN Try.underlying114 .i64 (xs.length : Int) w
  obtain ⟨W, hW⟩ : ∃ W : World, W = (w.alloc (.map #[] 0)).alloc (.cells #[.map (some w.heap.size)] 114) := ⟨_, rfl⟩
  have hb0 : Below w.heap.size w W := by rw [hW]; exact ((Below.refl _ w).alloc (Nat.le_refl _) _).alloc (by simp) _
  have hbx : Bx W (w.heap.size + 1) 114 (.map (some w.heap.size)) := by
    have := Bx.new (w.alloc (.map #[] 0)) 114 (.map (some w.heap.size))
    rw [World.size_alloc] at this
    rw [hW]; exact this
  have hm : W.ownsMap Try.prog 9 (plainElem Try.prog 3) w.heap.size 0 (.map [] : DataW Unit) := by
    rw [hW]
    exact ownsMap_kept (World.ownsMap_made w _ _ _) (Below.heap_alloc _ _ _ (by simp))
  have C1 := Lib.hid (numbered1_any A c xs W (w.heap.size + 1) w.heap.size 0 _ [] (h.later hb0) hx hxs hbx hm (by omega) (by simp) MapOf.empty (by omega) (below_ne h))
  have C2 := Lib.hid (fun w1 g1 D' hbx1 hm1 hD1 => numbered1_any B d ys w1 (w.heap.size + 1) w.heap.size xs.length D' (addAll [] xs) g1 hy hys hbx1 hm1 (by omega) (by have := addAll_length xs []; simp at this; omega) hD1 (by omega))
  have hWs : W.heap.size = w.heap.size + 2 := by rw [hW]; simp
  go_enter Try.func55, Try.ntmps55
  go_wp2_with (first
    | (go_at_call 68; rw [← hW]; refine C1.out.mono ?_; rintro e w1 ⟨rfl, hg1, hB1, D', hm1, hD1⟩; have hb1 := Below.of_gb hb0 hg1 (Nat.le_refl _); have hbx1 := hbx.same (hg1.block _ hbx.lt (by simp)); have hBlt := hB1.lt)
    | (go_at_call 68; refine (C2.out w1 (g.later hb1) D' hbx1 (by simpa using hm1) hD1 (below_ne g)).mono ?_; rintro e w2 ⟨rfl, hg2, hB2, _⟩; have hb2 := Below.of_gb hb1 hg2 (Nat.le_refl _)))
  go_ret2
  refine ⟨_, _, rfl, ?_, hB2.rd (by simp [ints]), hb2⟩
  rw [← ids_left, show w.heap.size + 1 + 1 = W.heap.size by omega]
  exact (hB1.same (hg2.block _ hBlt (by simp; omega))).rd (n := xs.length) (by simp [ints])

end Go.Proofs.Ytnijaleedbmljaa
