/- Walks: the set of some lines (the program's). -/
import Derived.Test.YtccpjjhaeocfhaaDoorS10
set_option linter.unusedVariables false
set_option linter.unusedSimpArgs false
namespace Go.Proofs.YtccpjjhaeocfhaaDoor
open Go Go.RowKit

/-- Is the line named? Are all that are named lines? -/
def named (l : List Int) (i : Nat) : Bool := l.any fun x => x == (i : Int)
def lineOk (l : List Int) : Bool := l.all fun x => decide (0 ≤ x) && decide (x < 65536)
def ofL (l : List Int) : List Sp.R := if lineOk l = true then Sp.setOf (named l) 65536 else []
def ofE (l : List Int) : Int := if lineOk l = true then 0 else 2
theorem named_succ {l : List Int} {k x n : Nat} (h : k < l.length) (e : l[k] = (x : Int)) : bls (fl (fun i => if i = x then true else named (l.take k) i) n) = bls (fl (named (l.take (k + 1))) n) :=
  bls_fl_congr (fun i _ => by
    unfold named
    rw [List.take_succ_eq_append_getElem h, List.any_append, e]
    by_cases hi : i = x
    · subst hi; simp
    · have : ((x : Int) == (i : Int)) = false := by rw [beq_eq_false_iff_ne]; omega
      simp [hi, this])
theorem lineOk_get {l : List Int} (h : lineOk l = true) : ∀ x ∈ l, 0 ≤ x ∧ x < 65536 := by
  intro x hx
  have := List.all_eq_true.1 h x hx
  simpa using this
theorem lineOk_no {l : List Int} {x : Int} (hx : x ∈ l) (h : x < 0 ∨ 65536 ≤ x) : lineOk l = false := by
  rw [Bool.eq_false_iff]
  intro e
  have := lineOk_get e x hx
  omega
theorem lineOk_yes {l : List Int} (h : ∀ x ∈ l, 0 ≤ x ∧ x < 65536) : lineOk l = true := by
  unfold lineOk
  rw [List.all_eq_true]
  intro x hx
  have := h x hx
  simp; omega

set_option maxRecDepth 100000 in
set_option maxHeartbeats 4000000 in
theorem Of_any (A : Option Addr) (c : Nat) (l : List Int) (w : World) (h : Rd w 1 A l.length (ins l)) (hl : l.length ≤ 1000000000) :
    Calls Tryd.prog 15 #[.slice A l.length c] w (RgRes2 (ofL l) (ofE l) w) := by
  obtain ⟨i0, hi, hz0, hz1, hz2⟩ := info_parts blInfo
  obtain ⟨NN, hN⟩ : ∃ NN : Nat, NN = 65536 := ⟨_, rfl⟩
  have hN1 : NN ≤ 65536 := by omega
  have hN2 : 65536 ≤ NN := by omega
  have HN := Lib.hid hN; clear hN
  go_enter Tryd.func15, Tryd.ntmps15
  go_wp2_with (at_make; refine wpList_make_full _ rfl _ _ 53 rfl w.heap.size 4 i0 _ 1 Tryd.underlying53 hi hz0 hz1 .i64 .i64 65536 65536 NN rfl rfl (by rw [HN.out]; rfl) (by rw [HN.out]; rfl) (by rw [hz2]; omega) (by unfold maxLen; omega) (Nat.le_refl _) ?_; intro w1 hown1 hgrow1; rw [made_bls] at hown1)
  have hb1 : Below w.heap.size w w1 := (Below.refl _ w).grown hgrow1 (Nat.le_refl _) (fun k e => by cases e)
  have hg1 := (hown1.lt w.heap.size rfl).2
  have hown2 := hown1.alloc (.cells #[.slice (some ⟨w.heap.size, 0, none⟩) NN NN] 53)
  have hb2 := hb1.alloc hb1.size (.cells #[.slice (some ⟨w.heap.size, 0, none⟩) NN NN] 53)
  have hx2 := Bx.new w1 53 (.slice (some ⟨w.heap.size, 0, none⟩) NN NN)
  generalize hg : w.heap.size = g at *
  generalize hBB : w1.heap.size = bb at *
  clear hown1 hb1 hgrow1
  go_loopw [10] (fun i wr => ∃ k : Nat, k ≤ l.length ∧ i = .int .i64 k ∧ wr.ownsRow g 4 1 (.slice (some ⟨g, 0, none⟩) NN NN) NN (bls (fl (named (l.take k)) NN)) ∧ Below g w wr ∧ Bx wr bb 53 (.slice (some ⟨g, 0, none⟩) NN NN) ∧ Hid (∀ x ∈ l.take k, 0 ≤ x ∧ x < 65536)) (fun i _ => l.length - (intOf i).toNat)
  case atStart => exact ⟨0, Nat.zero_le _, rfl, hown2, hb2, hx2, Lib.hid (by simp)⟩
  case round =>
    obtain ⟨k, hk, rfl, hrow, hb, hx, HA⟩ := hrel
    obtain ⟨wo, rfl⟩ : ∃ wo : World, wo = wr := ⟨_, rfl⟩
    have cx := hx.cell
    by_cases hlt : k < l.length
    · obtain ⟨b1, o1, rfl, _, c1⟩ := (h.below (Nat.le_of_eq hg) hb).nu (k := k) (List.getElem?_eq_getElem hlt)
      obtain ⟨x, hxx⟩ : ∃ x, l[k] = x := ⟨_, rfl⟩
      rw [hxx] at c1
      have hmem : x ∈ l := hxx ▸ List.getElem_mem hlt
      by_cases g1 : x < 0
      · have HR := Lib.hid (lineOk_no hmem (.inl g1))
        have HG := Lib.hid hg
        clear hmem hxx hg
        go_wp2
        go_ret2
        have := HG.out; subst this
        exact ⟨_, by unfold ofE; rw [HR.out]; rfl, by unfold ofL; rw [HR.out]; exact RgIs.nil hb⟩
      by_cases g2 : 65536 ≤ x
      · have HR := Lib.hid (lineOk_no hmem (.inr g2))
        have g3 : (NN : Int) ≤ x := by omega
        have HG := Lib.hid hg
        clear hmem hxx hg
        go_wp2
        go_ret2
        have := HG.out; subst this
        exact ⟨_, by unfold ofE; rw [HR.out]; rfl, by unfold ofL; rw [HR.out]; exact RgIs.nil hb⟩
      obtain ⟨m, rfl⟩ := Int.eq_ofNat_of_zero_le (show 0 ≤ x by omega)
      have hm : m < NN := by omega
      have cj := hrow.cellAt m (by omega)
      rw [bls_fl_at _ hm] at cj
      have fj := hrow.frozenAt m
      have HX := hrow.stored m (.bool true)
      rw [bls_fl_set, named_succ hlt hxx] at HX
      have HS := Lib.hid HX.1
      have hb3 := hb.setCell (p := ⟨g, m, none⟩) (Nat.le_refl _) (.bool true)
      have hx3 := Lib.hid ((heap_set_other (w := wo) (p := ⟨g, m, none⟩) (k := bb) (.bool true) (by simp; omega)).trans hx)
      have HA2 : Hid (∀ x ∈ l.take (k + 1), 0 ≤ x ∧ x < 65536) := Lib.hid (by
        intro y hy
        rw [List.take_succ_eq_append_getElem hlt, List.mem_append] at hy
        rcases hy with hy | hy
        · exact HA.out y hy
        · simp at hy; rw [hy, hxx]; omega)
      have q1 : ¬ (NN : Int) ≤ (m : Int) := by omega
      have q2 : ¬ NN ≤ m := by omega
      have hgN := Lib.hid hg
      clear hrow hx HX hmem hxx HA hg
      go_wp2
      go_roundw
      case rel => exact ⟨k + 1, by omega, by go_num, HS.out, hb3, hx3.out, HA2⟩
      case measure => simp [intOf]; omega
    · have hk2 : l.take k = l := List.take_of_length_le (by omega)
      rw [hk2] at hrow HA
      have HR := Lib.hid (lineOk_yes HA.out)
      have hRd := Rd.of_own hrow
      have hsays := says_Of (n := NN) hx hRd (Nat.le_refl _)
      have CC := (collect_Of (n := NN) (z := NN) hN1 rfl hsays)
      have hk3 := two_keep wo (.cells #[.int .i64 NN] 3) (.cells #[.func (.func 37) #[] #[.pointer (some ⟨bb, 0, none⟩)]] 58)
      have hgs : g ≤ wo.heap.size := by rw [← hg]; exact hg ▸ hb.size
      have hb4 := Lib.hid (hb.trans (hk3.mono hgs))
      have hgN := Lib.hid hg
      clear hrow hRd hsays hk3 hk2 hg
      go_wp2_with (go_at_call 25; refine (ranges_any _ _ _ _).mono ?_; rintro e w5 ⟨rfl, rfl⟩)
      refine CC.mono ?_
      rintro e w6 ⟨v, rfl, hv⟩
      clear CC
      go_wp2
      go_ret2
      have := hgN.out; subst this
      have hNN : NN = 65536 := by omega
      exact ⟨_, by unfold ofE; rw [HR.out]; rfl, hv.from hb4.out (by unfold ofL; rw [if_pos HR.out, hNN])⟩

end Go.Proofs.YtccpjjhaeocfhaaDoor
