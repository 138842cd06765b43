/- Numbers for lines: a map of the call's own; the walk of numbered and of its closure. -/
import Derived.Maps.Own
import Derived.Maps.OwnOps
import Derived.Maps.OwnSet
import Derived.Maps.Views
import Derived.Deep.OwnRows
import Derived.StringKeys
import Derived.Carry
import Derived.Test.YtnijaleedbmljaaW10
set_option linter.unusedVariables false
set_option linter.unusedSimpArgs false
namespace Go.Proofs.Ytnijaleedbmljaa
open Go Go.RowKit Go.Maps

/-! ### The plain part -/
def addAll (ks : List Pl.T) : List Pl.T → List Pl.T
  | [] => ks
  | x :: r => addAll (if x ∈ ks then ks else ks ++ [x]) r

theorem addAll_append (ks xs ys : List Pl.T) : addAll ks (xs ++ ys) = addAll (addAll ks xs) ys := by
  induction xs generalizing ks with
  | nil => rfl
  | cons x r ih => simp only [List.cons_append, addAll, ih]

theorem addAll_snoc (ks xs : List Pl.T) (x : Pl.T) : addAll ks (xs ++ [x]) = if x ∈ addAll ks xs then addAll ks xs else addAll ks xs ++ [x] := by
  rw [addAll_append]; rfl

theorem addAll_prefix (xs : List Pl.T) : ∀ ks, ∃ t, addAll ks xs = ks ++ t := by
  induction xs with
  | nil => intro ks; exact ⟨[], by simp [addAll]⟩
  | cons x r ih =>
    intro ks
    obtain ⟨t, ht⟩ := ih (if x ∈ ks then ks else ks ++ [x])
    simp only [addAll, ht]
    split
    · exact ⟨t, rfl⟩
    · exact ⟨[x] ++ t, by simp⟩

theorem addAll_mem (xs : List Pl.T) : ∀ ks x, x ∈ addAll ks xs ↔ x ∈ ks ∨ x ∈ xs := by
  induction xs with
  | nil => intro ks x; simp [addAll]
  | cons y r ih =>
    intro ks x
    simp only [addAll, ih, List.mem_cons]
    split
    · next h => constructor
                · rintro (h1 | h1)
                  · exact .inl h1
                  · exact .inr (.inr h1)
                · rintro (h1 | h1 | h1)
                  · exact .inl h1
                  · subst h1; exact .inl h
                  · exact .inr h1
    · simp only [List.mem_append, List.mem_singleton, or_assoc]

theorem addAll_length (xs : List Pl.T) : ∀ ks, (addAll ks xs).length ≤ ks.length + xs.length := by
  induction xs with
  | nil => intro ks; simp [addAll]
  | cons x r ih =>
    intro ks
    have := ih (if x ∈ ks then ks else ks ++ [x])
    simp only [addAll, List.length_cons]
    have h2 : (if x ∈ ks then ks else ks ++ [x]).length ≤ ks.length + 1 := by split <;> simp
    omega

theorem idx_prefix {ks t : List Pl.T} {x : Pl.T} (h : x ∈ ks) : (ks ++ t).idxOf x = ks.idxOf x := by
  rw [List.idxOf_append, if_pos h]

theorem idx_inj {ks : List Pl.T} {x y : Pl.T} (hx : x ∈ ks) (hy : y ∈ ks) (h : ks.idxOf x = ks.idxOf y) : x = y := by
  have h1 := List.getElem_idxOf (List.idxOf_lt_length_iff.2 hx)
  have h2 := List.getElem_idxOf (List.idxOf_lt_length_iff.2 hy)
  rw [← h1, ← h2]
  simp only [h]

def ints (l : List Nat) : List Value := l.map fun n : Nat => .int .i64 (n : Int)

/-- The map's datum holds the numbers of ks. -/
structure MapOf (D : DataW Unit) (ks : List Pl.T) : Prop where
  tidy : Tidy D
  size : Maps.size D = ks.length
  has : ∀ x, Maps.has D (.string x) = decide (x ∈ ks)
  at_ : ∀ x, x ∈ ks → ∀ z, D.atKey (.string x) z = .lit (.int .i64 (ks.idxOf x))

theorem MapOf.empty : MapOf (.map []) [] := ⟨tidy_empty, rfl, fun x => by simp [has_eq], fun x h => by simp at h⟩

theorem MapOf.snoc {D : DataW Unit} {ks : List Pl.T} (h : MapOf D ks) {x : Pl.T} (hx : x ∉ ks) : MapOf (D.put (.string x) (.lit (.int .i64 ks.length))) (ks ++ [x]) := by
  have hk : WideAt.IsKeyLit (.string x) := trivial
  have h0 : Maps.has D (.string x) = false := by rw [h.has]; simpa using hx
  refine ⟨h.tidy.put hk _, ?_, fun y => ?_, fun y hy z => ?_⟩
  · rw [size_put h.tidy, h0, h.size]; simp
  · by_cases hyx : y = x
    · subst hyx; rw [has_put_same h.tidy.isMap hk]; simp
    · rw [has_put_other (by intro e; injection e with e; exact hyx e), h.has]; simp [hyx]
  · by_cases hyx : y = x
    · subst hyx
      rw [atKey_put_same h.tidy.isMap hk, List.idxOf_append, if_neg hx]
      simp
    · rw [atKey_put_other (by intro e; injection e with e; exact hyx e)]
      have hy' : y ∈ ks := by simpa [hyx] using hy
      rw [h.at_ y hy', idx_prefix hy']

/-! ### Rows of memory -/
/-- A block that is a row of cells. -/
def Blk (w : World) (b : Nat) (T : TypeId) (xs : List Value) : Prop := w.heap[b]? = some (.cells xs.toArray T (0, 0))
section
variable {w w' : World} {b : Nat} {T : TypeId} {xs : List Value}
theorem Blk.cell (h : Blk w b T xs) {j : Nat} {v : Value} (hj : xs[j]? = some v) : w.cell? ⟨b, j, none⟩ = some v := by unfold Blk at h; simp [World.cell?, h, hj]
theorem Blk.frozen (h : Blk w b T xs) (j : Nat) : w.frozen? ⟨b, j, none⟩ = false := by unfold Blk at h; simp [World.frozen?, h]
theorem Blk.lt (h : Blk w b T xs) : b < w.heap.size := (Array.getElem?_eq_some_iff.1 h).1
theorem Blk.set (h : Blk w b T xs) (j : Nat) (v : Value) : Blk (w.setCell ⟨b, j, none⟩ v) b T (xs.set j v) := by
  unfold Blk at h ⊢
  simp [World.setCell, Array.getElem?_modify, h, List.setIfInBounds_toArray]
theorem Blk.same (h : Blk w b T xs) (e : w'.heap[b]? = w.heap[b]?) : Blk w' b T xs := e.trans h
theorem Blk.rd (h : Blk w b T xs) {n : Nat} (hn : xs.length = n) : Rd w 1 (some ⟨b, 0, none⟩) n xs := by
  refine ⟨by omega, fun _ => ⟨b, 0, rfl, h.lt, fun j u hu => ?_⟩⟩
  rw [Nat.zero_add]; exact h.cell hu
end

theorem gb_set {W w : World} {row : Option Nat} (h : W.grownBy w row) {a : Addr} (hb : W.heap.size ≤ a.block) (u : Value) : W.grownBy (w.setCell a u) row := by
  refine ⟨h.os, h.tape, h.output, by simp [World.setCell]; exact h.size, fun k hk hr => ?_⟩
  rw [← h.block k hk hr]
  simp only [World.setCell, Array.getElem?_modify]
  rw [if_neg (by omega)]
theorem set_other {w : World} {b j k : Nat} {u : Value} (h : k ≠ b) : (w.setCell ⟨b, j, none⟩ u).heap[k]? = w.heap[k]? := by
  simp only [World.setCell, Array.getElem?_modify]
  rw [if_neg (by omega)]
theorem gb_alloc {W w : World} {row : Option Nat} (h : W.grownBy w row) (o : Obj) : W.grownBy (w.alloc o) row :=
  ⟨h.os, h.tape, h.output, by simp; have := h.size; omega, fun k hk hr => (Below.heap_alloc w o k (by have := h.size; omega)).trans (h.block k hk hr)⟩
theorem gb_refl (W : World) (row : Option Nat) : W.grownBy W row := ⟨rfl, rfl, rfl, Nat.le_refl _, fun _ _ _ => rfl⟩

theorem lawS : Keyed Try.prog 9 := string_keyed Try.underlying9
theorem zeroI (w : World) : (zeroValue 3).run Try.prog w = .ok (.int .i64 0) w := by kernel_rfl
theorem infoI : (Try.prog.info? 3).map (fun i => (i.zero, i.size, i.bytes)) = some (some (.int .i64 0), 1, 8) := by kernel_rfl

theorem ownsMap_kept {P : Program} {k : TypeId} {R : Value → Option (DataW Unit × List MemPlace)} {b n : Nat} {D : DataW Unit} {w w' : World} (h : w.ownsMap P k R b n D) (e : w'.heap[b]? = w.heap[b]?) : w'.ownsMap P k R b n D := by
  obtain ⟨es, clock, hb, r⟩ := h
  exact ⟨es, clock, e.trans hb, r⟩

theorem made_list (z : Value) (k : Nat) : madeCells #[z] k = (List.replicate k z).toArray := by
  apply Array.ext
  · simp [madeCells]
  · intro i h1 h2
    simp [madeCells, Nat.mod_one]

theorem ids_at {ks xs : List Pl.T} {k : Nat} (hk : k < xs.length) {z : Value} :
    (ints ((xs.take k).map (addAll ks (xs.take k)).idxOf) ++ List.replicate (xs.length - k) z)[k]? = some z := by
  have hl : (ints ((xs.take k).map (addAll ks (xs.take k)).idxOf)).length = k := by simp [ints]; omega
  rw [List.getElem?_append_right (by omega), hl, Nat.sub_self, List.getElem?_replicate, if_pos (by omega)]

theorem ids_step {ks xs : List Pl.T} {k : Nat} {x : Pl.T} (hk : xs[k]? = some x) (z : Value) :
    (ints ((xs.take k).map (addAll ks (xs.take k)).idxOf) ++ List.replicate (xs.length - k) z).set k (.int .i64 ((addAll ks (xs.take (k + 1))).idxOf x : Nat)) =
      ints ((xs.take (k + 1)).map (addAll ks (xs.take (k + 1))).idxOf) ++ List.replicate (xs.length - (k + 1)) z := by
  have hlt := (List.getElem?_eq_some_iff.1 hk).1
  have ht : xs.take (k + 1) = xs.take k ++ [x] := by rw [List.take_succ_eq_append_getElem hlt, (List.getElem?_eq_some_iff.1 hk).2]
  have hl : (ints ((xs.take k).map (addAll ks (xs.take k)).idxOf)).length = k := by simp [ints]; omega
  have hm : (xs.take k).map (addAll ks (xs.take (k + 1))).idxOf = (xs.take k).map (addAll ks (xs.take k)).idxOf := by
    apply List.map_congr_left
    intro y hy
    obtain ⟨t, e⟩ := addAll_prefix [x] (addAll ks (xs.take k))
    rw [ht, addAll_append, e]
    exact idx_prefix ((addAll_mem _ _ _).2 (.inr hy))
  rw [List.set_append_right _ _ (by omega), hl, Nat.sub_self, show xs.length - k = (xs.length - (k + 1)) + 1 by omega, List.replicate_succ, List.set_cons_zero]
  conv => rhs; rw [ht, List.map_append, ← ht, hm]
  simp [ints]

set_option maxRecDepth 100000 in
set_option maxHeartbeats 4000000 in
theorem numbered1_any (A : Option Addr) (c : Nat) (xs : List Pl.T) (W : World) (Bm b n : Nat) (D : DataW Unit) (ks : List Pl.T) (h : Rd W 1 A xs.length (strs xs)) (hx : xs.length ≤ 4000000) (hxs : ∀ x ∈ xs, x.length ≤ 4000000)
    (hbx : Bx W Bm 114 (.map (some b))) (hm : W.ownsMap Try.prog 9 (plainElem Try.prog 3) b n D) (hn : n ≤ 1000000000) (hks : ks.length ≤ 1000000000) (hD : MapOf D ks) (hne : b ≠ Bm)
    (hA : 0 < xs.length → ∀ bb o, A = some ⟨bb, o, none⟩ → bb ≠ b) :
    Calls Try.prog 68 #[.slice A xs.length c, .pointer (some ⟨Bm, 0, none⟩)] W fun e w' => e = .returned (.slice (some ⟨W.heap.size, 0, none⟩) xs.length xs.length) ∧ W.grownBy w' (some b) ∧
      Blk w' W.heap.size 3 (ints (xs.map (addAll ks xs).idxOf)) ∧ ∃ D', w'.ownsMap Try.prog 9 (plainElem Try.prog 3) b (n + xs.length) D' ∧ MapOf D' (addAll ks xs) := by
  have hmk := run_make_row' (P := Try.prog) 100 3 _ 8 Try.underlying100 infoI rfl .i64 .i64 xs.length (by omega) (by omega)
  have hbs : b < W.heap.size := hm.lt
  rw [made_list] at hmk
  have HMK := hmk
  have hB0 : Blk (W.alloc (.cells (List.replicate xs.length (Value.int .i64 0)).toArray 3)) W.heap.size 3 (List.replicate xs.length (Value.int .i64 0)) := heap_alloc_new W _
  have hlen' : xs.length ≤ maxLen := by unfold maxLen; omega
  have hbm := hbx.lt
  go_enter Try.func68, Try.ntmps68
  go_wp2
  go_loopw [14] (fun i wr => ∃ k, k ≤ xs.length ∧ i = .int .i64 k ∧ W.grownBy wr (some b) ∧ W.heap.size < wr.heap.size ∧ Hid (Blk wr W.heap.size 3 (ints ((xs.take k).map (addAll ks (xs.take k)).idxOf) ++ List.replicate (xs.length - k) (.int .i64 0))) ∧
    ∃ D', wr.ownsMap Try.prog 9 (plainElem Try.prog 3) b (n + k) D' ∧ MapOf D' (addAll ks (xs.take k))) (fun i _ => xs.length - (intOf i).toNat)
  case atStart => exact ⟨0, Nat.zero_le _, rfl, gb_alloc (gb_refl W _) _, by simp, Lib.hid (by simpa [ints] using hB0), D, ownsMap_kept hm (Below.heap_alloc W _ b hbs), by simpa [addAll] using hD⟩
  case round =>
    obtain ⟨k, hk, rfl, hg, hsz, HB, D', hm', hD'⟩ := hrel
    by_cases hlt : k < xs.length
    · obtain ⟨b1, o1, rfl, hbk1, e1⟩ := h.st (k := k) (List.getElem?_eq_getElem hlt)
      have c1 := (World.cell?_of_block (a := ⟨b1, o1 + k, none⟩) (hg.block b1 hbk1 (by have := hA (by omega) _ _ rfl; simpa using this))).trans e1
      have hcb := (hbx.same (hg.block Bm hbm (by simpa using fun e => hne e.symm))).cell
      have hxl := hxs xs[k] (List.getElem_mem hlt)
      have HST := Lib.hid (ids_step (ks := ks) (List.getElem?_eq_getElem hlt) (.int .i64 0))
      have hts : xs.take (k + 1) = xs.take k ++ [xs[k]] := List.take_succ_eq_append_getElem hlt
      have HTS := Lib.hid hts; clear hts
      have hKl : (addAll ks (xs.take k)).length ≤ 2000000000 := by have := addAll_length (xs.take k) ks; simp at this; omega
      have hids := ids_at (ks := ks) (z := Value.int .i64 0) hlt
      have hcell := HB.out.cell hids
      have HIDS := Lib.hid hids; clear hids
      have hfr := HB.out.frozen k
      generalize xs[k] = x at e1 c1 hxl HST HTS
      have hkey : keyOf Try.prog 9 (.string (bs x)) = some (.string x) := by
        have := Go.WideMaps.keyOf_string_mk (P := Try.prog) Try.underlying9 (s := bs x) (by rw [bs_size]; unfold maxLen; omega)
        rwa [bs_data] at this
      have hhas := hD'.has x
      obtain ⟨K, hK⟩ : ∃ K, K = addAll ks (xs.take k) := ⟨_, rfl⟩
      have hK1 : addAll ks (xs.take (k + 1)) = if x ∈ K then K else K ++ [x] := by rw [HTS.out, addAll_snoc, hK]
      rw [← hK] at hD' HB hhas hKl HST HIDS
      rw [hK1] at HST
      have HK1 := Lib.hid hK1; clear hK1
      have HK := Lib.hid hK; clear hK
      by_cases hmem : x ∈ K
      · rw [if_pos hmem] at HST HK1
        have hhas1 : Maps.has D' (.string x) = true := by rw [hhas]; simpa using hmem
        have hix : K.idxOf x ≤ 2000000000 := by have := List.idxOf_le_length (a := x) (l := K); omega
        have HAT := Lib.hid (hD'.at_ x hmem (.lit (.int .i64 0)))
        clear hhas
        go_wp2_with (at_lookup; refine wpList_lookup_own_ok_int _ rfl _ _ 114 rfl 9 3 .i64 lawS Try.underlying114 Try.underlying3 (zeroI _) b _ D' rfl hm' _ _ rfl hkey ?_; intro cc hat hwc; rw [HAT.out] at hat; simp only [DataW.lit.injEq, Lit.int.injEq, true_and] at hat; subst hat; rw [hhas1])
        go_roundw
        case rel => exact ⟨k + 1, by omega, by go_num, gb_set hg (Nat.le_refl _) _, by simpa [World.setCell] using hsz, Lib.hid (by rw [HK1.out, ← HST.out]; exact HB.out.set _ _), D', by rw [HK1.out]; exact ⟨(ownsMap_kept hm' (set_other (by omega))).mono (by omega), hD'⟩⟩
        case measure => simp [intOf]; omega
      · rw [if_neg hmem] at HST HK1
        have hhas1 : Maps.has D' (.string x) = false := by rw [hhas]; simpa using hmem
        have hsize := hD'.size
        have hixe : (K ++ [x]).idxOf x = K.length := by rw [List.idxOf_append, if_neg hmem]; simp
        rw [hixe] at HST
        have HD2 := Lib.hid (hD'.snoc hmem)
        clear hhas hixe
        go_wp2_with (first
          | (at_lookup; refine wpList_lookup_own_ok_int _ rfl _ _ 114 rfl 9 3 .i64 lawS Try.underlying114 Try.underlying3 (zeroI _) b _ D' rfl hm' _ _ rfl hkey ?_; intro cc hat hwc; clear hat; rw [hhas1])
          | (at_len; refine wpList_len_own _ rfl _ 114 rfl 9 3 Try.underlying114 _ b _ D' rfl hm' ?_; rw [hsize])
          | (at_mapUpdate; refine wpList_mapUpdate_own _ rfl _ _ _ 114 rfl 9 3 lawS Try.underlying114 _ b _ D' rfl hm' (by unfold maxLen; omega) _ _ _ rfl rfl hkey _ [] (plainElem_int Try.underlying3 (WalkArith.wf_i64 (by omega))) ?_; intro w1 hown1 hgrow1; have hB1 := HB.out.same (hgrow1.block _ hsz (by simpa using fun e => by omega)); have hcell1 := hB1.cell HIDS.out; have hfr1 := hB1.frozen k))
        go_roundw
        case rel => exact ⟨k + 1, by omega, by go_num, gb_set (hg.trans hgrow1) (Nat.le_refl _) _, by have := hgrow1.size; simp [World.setCell]; omega, Lib.hid (by rw [HK1.out, ← HST.out]; exact hB1.set _ _), _, by rw [HK1.out]; exact ⟨ownsMap_kept hown1 (set_other (by omega)), HD2.out⟩⟩
        case measure => simp [intOf]; omega
    · have hkl : k = xs.length := by omega
      subst hkl
      have hBl := HB.out
      rw [List.take_length, Nat.sub_self, List.replicate_zero, List.append_nil] at hBl
      rw [List.take_length] at hD'
      clear HB
      go_wp2
      go_ret
      exact ⟨rfl, hg, hBl, D', hm', hD'⟩

end Go.Proofs.Ytnijaleedbmljaa
