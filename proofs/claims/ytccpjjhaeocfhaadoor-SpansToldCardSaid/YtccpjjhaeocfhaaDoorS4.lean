/- Walks: a flag for each line (the program's table and the document's Lines). -/
import Derived.Test.YtccpjjhaeocfhaaDoorS3
set_option linter.unusedVariables false
set_option linter.unusedSimpArgs false
namespace Go.Proofs.YtccpjjhaeocfhaaDoor
open Go Go.RowKit

theorem blInfo : (Tryd.prog.info? 4).map (fun i => (i.zero, i.size, i.bytes)) = some (some (.bool false), 1, 1) := by kernel_rfl

/-- The flags of n lines. -/
def fl (f : Nat → Bool) (n : Nat) : List Bool := (List.range n).map f
theorem fl_length (f : Nat → Bool) (n : Nat) : (fl f n).length = n := by simp [fl]
theorem bls_fl_length (f : Nat → Bool) (n : Nat) : (bls (fl f n)).length = n := by simp [bls, fl]
theorem bls_fl_at (f : Nat → Bool) {n j : Nat} (h : j < n) : (bls (fl f n))[j]? = some (.bool (f j)) := by simp [bls, fl, h]
theorem fl_at (f : Nat → Bool) {n j : Nat} (h : j < n) : (fl f n)[j]? = some (f j) := by simp [fl, h]
theorem bls_fl_congr {f g : Nat → Bool} {n : Nat} (h : ∀ i, i < n → f i = g i) : bls (fl f n) = bls (fl g n) := by
  unfold bls fl
  rw [List.map_map, List.map_map]
  exact List.map_congr_left (fun i hi => by simp [h i (List.mem_range.1 hi)])
theorem bls_fl_set (f : Nat → Bool) (n j : Nat) (b : Bool) : (bls (fl f n)).set j (.bool b) = bls (fl (fun i => if i = j then b else f i) n) := by
  apply List.ext_getElem?
  intro i
  rw [List.getElem?_set]
  by_cases hi : i < n
  · by_cases hj : j = i
    · subst hj; simp [bls, fl, hi]
    · have : ¬ i = j := fun e => hj e.symm
      simp [bls, fl, hi, hj, this]
  · have h2 : (bls (fl (fun i => if i = j then b else f i) n))[i]? = none := by rw [List.getElem?_eq_none_iff, bls_fl_length]; omega
    rw [h2]
    by_cases hj : j = i
    · subst hj; simp [bls_fl_length, hi]
    · rw [if_neg hj, List.getElem?_eq_none_iff, bls_fl_length]; omega
theorem made_bls (n : Nat) : (madeCells (Value.bool false).cells (n * 1)).toList = bls (fl (fun _ => false) n) := by
  rw [Nat.mul_one]
  rw [show (Value.bool false).cells = #[.bool false] from rfl, toList_madeCells_one]
  apply List.ext_getElem?
  intro i
  by_cases hi : i < n
  · rw [bls_fl_at _ hi]; simp [hi]
  · rw [List.getElem?_eq_none_iff.2 (by simp; omega), List.getElem?_eq_none_iff.2 (by rw [bls_fl_length]; omega)]

/-- Ranges that lie within the lines. -/
def In1 (l : List Sp.R) : Prop := ∀ r ∈ l, 0 ≤ r.1 ∧ r.1 < r.2 ∧ r.2 ≤ 65536
theorem In1.of_ok {l : List Sp.R} (h : Sp.ok l = true) : In1 l := fun r hr => by have := Sp.okFrom_mem h r hr; exact ⟨this.2.1, this.2.2.1, this.2.2.2⟩

theorem has_take_succ {l : List Sp.R} {k : Nat} (h : k < l.length) (i : Int) : Sp.has (l.take (k + 1)) i = (Sp.has (l.take k) i || (decide (l[k].1 ≤ i) && decide (i < l[k].2))) := by
  rw [List.take_succ_eq_append_getElem h, Sp.has_snoc]

/-- What the inner loop has marked. -/
def part (l : List Sp.R) (k : Nat) (f j : Nat) (i : Nat) : Bool := Sp.has (l.take k) (i : Int) || (decide (f ≤ i) && decide (i < j))
theorem part_start (l : List Sp.R) (k f n : Nat) : bls (fl (fun i => Sp.has (l.take k) (i : Int)) n) = bls (fl (part l k f f) n) :=
  bls_fl_congr (fun i _ => by unfold part; have : (decide (f ≤ i) && decide (i < f)) = false := by (rw [Bool.and_eq_false_iff]; simp only [decide_eq_false_iff_not]; omega)
                              rw [this, Bool.or_false])
theorem part_step (l : List Sp.R) {k f j n : Nat} (h : f ≤ j) : bls (fl (fun i => if i = j then true else part l k f j i) n) = bls (fl (part l k f (j + 1)) n) :=
  bls_fl_congr (fun i _ => by
    unfold part
    by_cases e : i = j
    · subst e; simp [h]
    · have : decide (i < j + 1) = decide (i < j) := by rw [Bool.eq_iff_iff]; simp; omega
      rw [if_neg e, this])
theorem part_end {l : List Sp.R} {k f t n : Nat} (hk : k < l.length) (h : l[k] = ((f : Int), (t : Int))) : bls (fl (part l k f t) n) = bls (fl (fun i => Sp.has (l.take (k + 1)) (i : Int)) n) :=
  bls_fl_congr (fun i _ => by
    unfold part
    rw [has_take_succ hk, h]
    have e1 : decide (f ≤ i) = decide ((f : Int) ≤ (i : Int)) := by rw [Bool.eq_iff_iff]; simp
    have e2 : decide (i < t) = decide ((i : Int) < (t : Int)) := by rw [Bool.eq_iff_iff]; simp
    rw [e1, e2])

/-- What a table's make leaves: a row of the call's own, a flag for each line. -/
def TabRes (f : Nat → Bool) (w : World) (e : Ending) (w' : World) : Prop :=
  ∃ g N, e = .returned (.slice (some ⟨g, 0, none⟩) N N) ∧ N ≤ 65536 ∧ 65536 ≤ N ∧ w'.ownsRow w.heap.size 4 1 (.slice (some ⟨g, 0, none⟩) N N) N (bls (fl f N)) ∧ Below w.heap.size w w'

theorem heap_set_other {w : World} {p : Addr} {k : Nat} (u : Value) (h : k ≠ p.block) : (w.setCell p u).heap[k]? = w.heap[k]? := Below.heap_setCell _ _ _ _ h

set_option maxRecDepth 100000 in
set_option maxHeartbeats 4000000 in
theorem table_any (A : Option Addr) (c : Nat) (l : List Sp.R) (w : World) (h : Rd w 2 A l.length (rgcs l)) (hl : l.length ≤ 1000000000) (hin : In1 l) :
    Calls Tryd.prog 38 #[.slice A l.length c] w (TabRes (fun i => Sp.has l (i : Int)) w) := by
  obtain ⟨i0, hi, hz0, hz1, hz2⟩ := info_parts blInfo
  obtain ⟨NN, hN⟩ : ∃ NN : Nat, NN = 65536 := ⟨_, rfl⟩
  have hN1 : NN ≤ 65536 := by omega
  have hN2 : 65536 ≤ NN := by omega
  have HN := Lib.hid hN; clear hN
  have HIN := Lib.hid hin; clear hin
  go_enter Tryd.func38, Tryd.ntmps38
  go_wp2_with (at_make; refine wpList_make_full _ rfl _ _ 53 rfl w.heap.size 4 i0 _ 1 Tryd.underlying53 hi hz0 hz1 .i64 .i64 65536 65536 NN rfl rfl (by rw [HN.out]; rfl) (by rw [HN.out]; rfl) (by rw [hz2]; omega) (by unfold maxLen; omega) (Nat.le_refl _) ?_; intro w1 hown1 hgrow1; rw [made_bls] at hown1)
  have hb1 : Below w.heap.size w w1 := (Below.refl _ w).grown hgrow1 (Nat.le_refl _) (fun k e => by cases e)
  generalize hg : w.heap.size = g at hown1 hb1
  go_loopw [10] (fun i wr => ∃ k : Nat, k ≤ l.length ∧ i = .int .i64 k ∧ wr.ownsRow g 4 1 (.slice (some ⟨g, 0, none⟩) NN NN) NN (bls (fl (fun i => Sp.has (l.take k) (i : Int)) NN)) ∧ Below g w wr) (fun i _ => l.length - (intOf i).toNat)
  case atStart => exact ⟨0, Nat.zero_le _, rfl, by simpa [Sp.has] using hown1, hb1⟩
  case round =>
    obtain ⟨k, hk, rfl, hrow, hb⟩ := hrel
    obtain ⟨wo, rfl⟩ : ∃ wo : World, wo = wr := ⟨_, rfl⟩
    by_cases hlt : k < l.length
    · obtain ⟨b1, o1, rfl, _, c1, c2⟩ := (h.below (Nat.le_of_eq hg) hb).rg (k := k) (List.getElem?_eq_getElem hlt)
      have q := HIN.out l[k] (List.getElem_mem hlt)
      obtain ⟨f, hf⟩ : ∃ f : Nat, l[k].1 = (f : Int) := ⟨l[k].1.toNat, by omega⟩
      obtain ⟨t, ht⟩ : ∃ t : Nat, l[k].2 = (t : Int) := ⟨l[k].2.toNat, by omega⟩
      have hkk : l[k] = ((f : Int), (t : Int)) := by rw [← hf, ← ht]
      have HE := Lib.hid (part_end (n := NN) hlt hkk)
      rw [hf] at c1 q
      rw [ht] at c2 q
      clear hkk hf ht
      have hft : f < t := by omega
      have ht2 : t ≤ 65536 := by omega
      clear q
      have hgs : g < wo.heap.size := (hrow.lt g rfl).2
      have hB := heap_alloc_new wo (.cells #[.int .i64 f, .int .i64 t] 38)
      have hrow2 := hrow.alloc (.cells #[.int .i64 f, .int .i64 t] 38)
      have hb2 := hb.alloc (by omega) (.cells #[.int .i64 f, .int .i64 t] 38)
      rw [part_start l k f NN] at hrow2
      have hW := Lib.hid hg; clear hg
      go_wp2
      generalize hwa : wo.alloc (.cells #[.int .i64 f, .int .i64 t] 38) = wa at hB hrow2 hb2
      clear hwa hrow hb
      go_loopw [6] (fun i wq => ∃ j : Nat, f ≤ j ∧ j ≤ t ∧ i = .int .i64 j ∧ wq.ownsRow g 4 1 (.slice (some ⟨g, 0, none⟩) NN NN) NN (bls (fl (part l k f j) NN)) ∧ Below g w wq ∧ wq.heap[wo.heap.size]? = some (.cells #[.int .i64 f, .int .i64 t] 38 (0, 0))) (fun i _ => t - (intOf i).toNat)
      case atStart => exact ⟨f, Nat.le_refl _, by omega, rfl, hrow2, hb2, hB⟩
      case round =>
        obtain ⟨j, hj1, hj2, rfl, hrow, hb, hB⟩ := hrel
        obtain ⟨wq, rfl⟩ : ∃ wq : World, wq = wr := ⟨_, rfl⟩
        have hx1 := Lib.cell_of_heap hB 1
        simp only [List.getElem?_toArray, List.getElem?_cons_zero, List.getElem?_cons_succ] at hx1
        by_cases hjt : j < t
        · have cj := hrow.cellAt j (by omega)
          rw [bls_fl_at _ (by omega)] at cj
          have fj := hrow.frozenAt j
          have HS := Lib.hid (hrow.stored j (.bool true))
          have hb3 := hb.setCell (p := ⟨g, j, none⟩) (Nat.le_refl _) (.bool true)
          have hB3 := Lib.hid ((heap_set_other (w := wq) (p := ⟨g, j, none⟩) (k := wo.heap.size) (.bool true) (by simp; omega)).trans hB)
          clear hrow hB hrow2 hb2
          go_wp2
          go_roundw
          case rel => exact ⟨j + 1, by omega, by omega, by go_num, by have := HS.out.1; rw [bls_fl_set, part_step l hj1] at this; exact this, hb3, hB3.out⟩
          case measure => simp [intOf]; omega
        · obtain rfl : j = t := by omega
          rw [HE.out] at hrow
          clear hB hrow2 hb2
          go_wp2
          go_roundw
          case rel => exact ⟨k + 1, by omega, by go_num, hrow, hb⟩
          case measure => simp [intOf]; omega
    · have hE : bls (fl (fun i => Sp.has (l.take k) (i : Int)) NN) = bls (fl (fun i => Sp.has l (i : Int)) NN) := by rw [List.take_of_length_le (by omega)]
      rw [hE] at hrow
      have HE := Lib.hid hE; clear hE
      have hW := Lib.hid hg; clear hg
      go_wp2
      go_ret
      have := hW.out
      subst this
      exact ⟨_, _, rfl, hN1, hN2, hrow, hb⟩

set_option maxRecDepth 100000 in
set_option maxHeartbeats 4000000 in
theorem Lines_any (A : Option Addr) (c : Nat) (l : List Sp.R) (w : World) (h : Rd w 2 A l.length (rgcs l)) (hl : l.length ≤ 1000000000) (hin : In1 l) :
    Calls Tryd.prog 28 #[.slice A l.length c] w (TabRes (fun i => Sp.has l (i : Int)) w) := by
  obtain ⟨i0, hi, hz0, hz1, hz2⟩ := info_parts blInfo
  obtain ⟨NN, hN⟩ : ∃ NN : Nat, NN = 65536 := ⟨_, rfl⟩
  have hN1 : NN ≤ 65536 := by omega
  have hN2 : 65536 ≤ NN := by omega
  have HN := Lib.hid hN; clear hN
  have HIN := Lib.hid hin; clear hin
  go_enter Tryd.func28, Tryd.ntmps28
  go_wp2_with (at_make; refine wpList_make_full _ rfl _ _ 53 rfl w.heap.size 4 i0 _ 1 Tryd.underlying53 hi hz0 hz1 .i64 .i64 65536 65536 NN rfl rfl (by rw [HN.out]; rfl) (by rw [HN.out]; rfl) (by rw [hz2]; omega) (by unfold maxLen; omega) (Nat.le_refl _) ?_; intro w1 hown1 hgrow1; rw [made_bls] at hown1)
  have hb1 : Below w.heap.size w w1 := (Below.refl _ w).grown hgrow1 (Nat.le_refl _) (fun k e => by cases e)
  generalize hg : w.heap.size = g at hown1 hb1
  go_loopw [4] (fun i wr => ∃ k : Nat, k ≤ l.length ∧ i = .int .i64 k ∧ wr.ownsRow g 4 1 (.slice (some ⟨g, 0, none⟩) NN NN) NN (bls (fl (fun i => Sp.has (l.take k) (i : Int)) NN)) ∧ Below g w wr) (fun i _ => l.length - (intOf i).toNat)
  case atStart => exact ⟨0, Nat.zero_le _, rfl, by simpa [Sp.has] using hown1, hb1⟩
  case round =>
    obtain ⟨k, hk, rfl, hrow, hb⟩ := hrel
    obtain ⟨wo, rfl⟩ : ∃ wo : World, wo = wr := ⟨_, rfl⟩
    by_cases hlt : k < l.length
    · obtain ⟨b1, o1, rfl, _, c1, c2⟩ := (h.below (Nat.le_of_eq hg) hb).rg (k := k) (List.getElem?_eq_getElem hlt)
      have q := HIN.out l[k] (List.getElem_mem hlt)
      obtain ⟨f, hf⟩ : ∃ f : Nat, l[k].1 = (f : Int) := ⟨l[k].1.toNat, by omega⟩
      obtain ⟨t, ht⟩ : ∃ t : Nat, l[k].2 = (t : Int) := ⟨l[k].2.toNat, by omega⟩
      have hkk : l[k] = ((f : Int), (t : Int)) := by rw [← hf, ← ht]
      have HE := Lib.hid (part_end (n := NN) hlt hkk)
      have HT := Lib.hid ht
      rw [hf] at c1 q
      rw [ht] at c2 q
      clear hkk hf ht
      have hft : f < t := by omega
      have ht2 : t ≤ 65536 := by omega
      clear q
      rw [part_start l k f NN] at hrow
      have hgs := Lib.hid hg
      have hR : ∀ wq, Below g w wq → wq.cell? ⟨b1, o1 + k * 2 + 1, none⟩ = some (.int .i64 t) := fun wq hbq => by
        obtain ⟨b2, o2, e2, _, _, d2⟩ := (h.below (Nat.le_of_eq hg) hbq).rg (k := k) (List.getElem?_eq_getElem hlt)
        cases e2
        rw [d2, HT.out]
      have HR := Lib.hid hR; clear hR hg
      go_wp2
      go_loopw [5] (fun i wq => ∃ j : Nat, f ≤ j ∧ j ≤ t ∧ i = .int .i64 j ∧ wq.ownsRow g 4 1 (.slice (some ⟨g, 0, none⟩) NN NN) NN (bls (fl (part l k f j) NN)) ∧ Below g w wq) (fun i _ => t - (intOf i).toNat)
      case atStart => exact ⟨f, Nat.le_refl _, by omega, rfl, hrow, hb⟩
      case round =>
        obtain ⟨j, hj1, hj2, rfl, hrow, hb⟩ := hrel
        obtain ⟨wq, rfl⟩ : ∃ wq : World, wq = wr := ⟨_, rfl⟩
        have hx1 := HR.out wq hb
        by_cases hjt : j < t
        · have cj := hrow.cellAt j (by omega)
          rw [bls_fl_at _ (by omega)] at cj
          have fj := hrow.frozenAt j
          have HS := Lib.hid (hrow.stored j (.bool true))
          have hb3 := hb.setCell (p := ⟨g, j, none⟩) (Nat.le_refl _) (.bool true)
          clear hrow c1 c2
          go_wp2
          go_roundw
          case rel => exact ⟨j + 1, by omega, by omega, by go_num, by have := HS.out.1; rw [bls_fl_set, part_step l hj1] at this; exact this, hb3⟩
          case measure => simp [intOf]; omega
        · obtain rfl : j = t := by omega
          rw [HE.out] at hrow
          clear c1 c2
          go_wp2
          go_roundw
          case rel => exact ⟨k + 1, by omega, by go_num, hrow, hb⟩
          case measure => simp [intOf]; omega
    · have hE : bls (fl (fun i => Sp.has (l.take k) (i : Int)) NN) = bls (fl (fun i => Sp.has l (i : Int)) NN) := by rw [List.take_of_length_le (by omega)]
      rw [hE] at hrow
      have HE := Lib.hid hE; clear hE
      have hW := Lib.hid hg; clear hg
      go_wp2
      go_ret
      have := hW.out
      subst this
      exact ⟨_, _, rfl, hN1, hN2, hrow, hb⟩

end Go.Proofs.YtccpjjhaeocfhaaDoor
