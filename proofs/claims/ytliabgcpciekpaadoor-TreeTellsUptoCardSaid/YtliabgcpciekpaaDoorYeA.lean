/- Walks: the entries of a style, yielded in their order. -/
import Derived.Test.YtliabgcpciekpaaDoorYlA
import Derived.Deep.MidRow
import Derived.Deep.RegionHeld3
set_option linter.unusedVariables false
set_option linter.unusedSimpArgs false
namespace Go.Proofs.YtliabgcpciekpaaDoor
open Go Go.RowKit

/-- An entry's value: where its number lies. -/
def entV (b i : Nat) : Value := .agg #[.string (bs (St.nm i)), .int .i64 (St.low i), .int .i64 (St.high i), .int .i64 (St.first i), .pointer (if St.isFl i = true then none else some ⟨b, i, none⟩), .pointer (if St.isFl i = true then some ⟨b, i, none⟩ else none)]
def entL (b i : Nat) : List Value := [.string (bs (St.nm i)), .int .i64 (St.low i), .int .i64 (St.high i), .int .i64 (St.first i), .pointer (if St.isFl i = true then none else some ⟨b, i, none⟩), .pointer (if St.isFl i = true then some ⟨b, i, none⟩ else none)]
/-- The table's cells. -/
def tabL (b : Nat) : List Value := (List.range 18).flatMap (entL b)
theorem flat_at {f : Nat → List Value} (hf : ∀ i, (f i).length = 6) : ∀ (n i j : Nat), i < n → j < 6 → ((List.range n).flatMap f)[i * 6 + j]? = (f i)[j]? := by
  intro n
  induction n with
  | zero => intro i j h; omega
  | succ n ih =>
    intro i j hi hj
    have hl : ∀ m, ((List.range m).flatMap f).length = m * 6 := by
      intro m
      induction m with
      | zero => rfl
      | succ m ih2 => rw [List.range_succ, List.flatMap_append, List.length_append, ih2]; simp [hf]; omega
    rw [List.range_succ, List.flatMap_append]
    by_cases h : i < n
    · rw [List.getElem?_append_left (by rw [hl]; omega), ih i j h hj]
    · have : i = n := by omega
      subst this
      rw [List.getElem?_append_right (by rw [hl]; omega), hl]
      simp
theorem tabL_at (b : Nat) {i j : Nat} (hi : i < 18) (hj : j < 6) : (tabL b)[i * 6 + j]? = (entL b i)[j]? := flat_at (fun _ => rfl) 18 i j hi hj

theorem grown_drew {w w' : World} {r : Option Nat} (h : w.grownBy w' r) : w.grownBy w'.drew r := ⟨h.os, h.tape, h.output, h.size, h.block⟩
/-- Blocks of entries lie as they lay. -/
def KpE (A B : World) : Prop := ∀ (k : Nat) (c : Array Value) (fr : Nat × Nat), A.heap[k]? = some (.cells c 78 fr) → B.heap[k]? = some (.cells c 78 fr)
theorem KpE.trans {A B C : World} (h : KpE A B) (g : KpE B C) : KpE A C := fun k c fr e => g k c fr (h k c fr e)
theorem KpE.put (W : World) (l : Nat) (o o' : Obj) (h : W.heap[l]? = some o) (ho : o.isCells = false) : KpE W (W.putObj l o') := fun k c fr e => by
  by_cases hk : k = l
  · subst hk; rw [h] at e; cases e; cases ho
  · exact (World.putObj_heap_other hk).trans e
theorem KpE.below {B : Nat} {X Y : World} (h : Below X.heap.size X Y) : KpE X Y := fun k c fr e => (h.block k (Array.getElem?_eq_some_iff.1 e).1).trans e

set_option maxRecDepth 100000 in
set_option maxHeartbeats 4000000 in
theorem entries_any (b : Nat) (w : World) :
    Calls Tryd.prog 37 #[.pointer (some ⟨b, 0, none⟩)] w fun e w' => e = .returned (.func (.func 64) #[] #[.pointer (some ⟨w.heap.size, 0, none⟩)]) ∧ w' = w.alloc (.cells #[.pointer (some ⟨b, 0, none⟩)] 74) := by
  go_enter Tryd.func37, Tryd.ntmps37
  go_wp2
  go_ret
  exact ⟨rfl, rfl⟩

set_option maxRecDepth 100000 in
set_option maxHeartbeats 8000000 in
theorem entries1_seq (n : Nat) (Bp b : Nat) (W : World) (hbp : Bx W Bp 74 (.pointer (some ⟨b, 0, none⟩))) (hb : W.heap[b]?.isSome = true) :
    Seq n Tryd.prog 64 #[.pointer (some ⟨Bp, 0, none⟩)] (fun x : Nat => #[entV b x]) (fun X Y => X.grownBy Y none) KpE
      (fun pre => pre <+: List.range 18) (fun xs => xs = List.range 18) (fun pre => pre <+: List.range 18) W := by
  intro l K Kx hK hY h0
  refine callsIn_of_wp Tryd.func64 rfl trivial ?_ rfl
  simp only [Tryd.ntmps64, List.size_toArray, List.length_cons, List.length_nil, Nat.reduceAdd, Nat.reduceSub, Array.replicate_succ, Array.replicate_zero, List.push_toArray, List.append_toArray, List.nil_append, List.cons_append]
  have cp := hbp.cell
  gi_wp2
  refine wpIn_wide.2 ?_
  go_region_held3 (fun w' => w'.cell? ⟨Bp, 0, none⟩ = some (.pointer (some ⟨b, 0, none⟩))) (go_keep) (fail)
  gi_wp2
  gi_loopw [81] (fun i wr => ∃ k : Nat, k ≤ 18 ∧ i = .int .i64 k ∧ K (List.range k) wr ∧ wr.heap[W.heap.size]? = some (.cells (tabL b).toArray 78 (0, 0))) (fun i wr => 18 - (intOf i).toNat)
  case atStart => exact ⟨0, by omega, rfl, hK _ _ _ h0 (grown_drew (World.grownBy_alloc W _ none)), heap_alloc_new W _⟩
  case round =>
    obtain ⟨k, hk, rfl, hKk, htab⟩ := hrel
    obtain ⟨wo, rfl⟩ : ∃ wo : World, wo = wr := ⟨_, rfl⟩
    by_cases hlt : k < 18
    · have hcj : ∀ j u, j < 6 → (entL b k)[j]? = some u → wo.cell? ⟨W.heap.size, k * 6 + j, none⟩ = some u := by
        intro j u hj he
        have h1 := Lib.cell_of_heap htab (k * 6 + j)
        rw [h1, List.getElem?_toArray, tabL_at b hlt hj, he]
      have c0 := hcj 0 _ (by omega) rfl
      have c1 := hcj 1 _ (by omega) rfl
      have c2 := hcj 2 _ (by omega) rfl
      have c3 := hcj 3 _ (by omega) rfl
      have c4 := hcj 4 _ (by omega) rfl
      have c5 := hcj 5 _ (by omega) rfl
      rw [Nat.add_zero] at c0
      have hgo : List.range k ++ [k] <+: List.range 18 := by
        rw [← List.range_succ]
        refine ⟨(List.range 18).drop (k + 1), ?_⟩
        have h1 := List.take_append_drop (k + 1) (List.range 18)
        have h2 : (List.range 18).take (k + 1) = List.range (k + 1) := by rw [List.take_range, Nat.min_eq_left (by omega)]
        rw [h2] at h1
        exact h1
      have HTB := Lib.hid (fun o => (Below.heap_alloc wo o W.heap.size (Array.getElem?_eq_some_iff.1 htab).1).trans htab)
      have HGO := Lib.hid hgo
      have HY := Lib.hid (fun o => hY (List.range k) k (wo.alloc o) (hK _ _ _ hKk (World.grownBy_alloc wo o none)) hgo)
      unfold entV at HY
      generalize hp4 : Value.pointer (if St.isFl k = true then none else some ⟨b, k, none⟩) = p4 at *
      generalize hp5 : Value.pointer (if St.isFl k = true then some ⟨b, k, none⟩ else none) = p5 at *
      obtain ⟨q4, rfl⟩ : ∃ q, p4 = .pointer q := ⟨_, hp4.symm⟩
      obtain ⟨q5, rfl⟩ : ∃ q, p5 = .pointer q := ⟨_, hp5.symm⟩
      clear hcj hp4 hp5 hgo hK hY
      obtain ⟨fn, tmps, assign, body, hy, hR⟩ := HY.out (.cells #[.string (bs (St.nm k)), .int .i64 (St.low k), .int .i64 (St.high k), .int .i64 (St.first k), .pointer q4, .pointer q5] 78)
      gi_wp2
      refine ⟨(fun h => by cases h), hR.mono ?_⟩
      rintro e W3 (⟨rfl, hJ3, hk3⟩ | ⟨rfl, hJx3⟩)
      · have ht3 := hk3 _ _ _ (HTB.out _)
        clear hk3
        gi_wp2
        go_roundw
        case rel => exact ⟨k + 1, by omega, by go_num, by rw [List.range_succ]; exact hJ3, ht3⟩
        case measure => simp [intOf]; omega
      · gi_wp2
        refine bodyPost_ret (results_none rfl _ _ _) rfl ?_
        exact ⟨⟨_, rfl⟩, .inr ⟨_, HGO.out, hJx3⟩⟩
    · obtain rfl : k = 18 := by omega
      gi_wp2
      go_end0
      exact ⟨⟨_, rfl⟩, .inl ⟨_, rfl, hKk⟩⟩

end Go.Proofs.YtliabgcpciekpaaDoor
