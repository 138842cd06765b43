/- Walks: the text of a set (the program's). -/
import Derived.Test.YtccpjjhaeocfhaaDoorP3
set_option linter.unusedVariables false
set_option linter.unusedSimpArgs false
namespace Go.Proofs.YtccpjjhaeocfhaaDoor
open Go Go.RowKit

namespace Sp
/-- The text of a range; of a set. -/
def piece (r : R) : T := Lib.itoa (r.1 + 1) ++ (if 1 < r.2 - r.1 then 45 :: Lib.itoa r.2 else [])
def textL : List R → T
  | [] => []
  | r :: l => piece r ++ l.flatMap fun q => 44 :: piece q
theorem textL_snoc (l : List R) (r : R) : textL (l ++ [r]) = (if l = [] then [] else textL l ++ [44]) ++ piece r := by
  cases l with
  | nil => simp [textL]
  | cons x t => simp [textL, List.flatMap_append]
theorem decDigits_le (u : Nat) : (Lib.decDigits u).length ≤ u + 1 := by
  induction u using Nat.strongRecOn with
  | ind u ih =>
    unfold Lib.decDigits
    split
    · simp
    · have := ih (u / 10) (by omega)
      simp only [List.length_append, List.length_cons, List.length_nil]
      omega
theorem itoa_le {n : Int} (h : 0 ≤ n) (h2 : n ≤ 65536) : (Lib.itoa n).length ≤ 65537 := by
  unfold Lib.itoa
  rw [if_neg (by omega)]
  have := decDigits_le n.toNat
  omega
end Sp

/-- The library's text of a number, in every world behind w. -/
def ItC (w : World) (n : Int) : Prop := ∀ w', Below w.heap.size w w' → Calls Tryd.prog 33 #[.int .i64 n] w' fun e w'' => e = .returned (.string (bs (Lib.itoa n))) ∧ Below w'.heap.size w' w''

theorem IsBd.below {B b : Nat} {xs : List Value} {w w' : World} (h : IsBd B b xs w) (hb : Below w.heap.size w w') : IsBd B b xs w' := by
  have key : ∀ p, Lib.BuilderAt 65 5 B b p xs w → Lib.BuilderAt 65 5 B b p xs w' := by
    rintro p ⟨hB, v, hbk, hown, hne⟩
    exact ⟨hB, v, (hb.block b (Array.getElem?_eq_some_iff.1 hbk).1).trans hbk, own_later hown hb, hne⟩
  rcases h with h | h
  · exact .inl (key _ h)
  · exact .inr (key _ h)
theorem bytes_append (x y : List UInt8) : Lib.byteCells x ++ Lib.strCells (bs y) = Lib.byteCells (x ++ y) := by
  rw [Lib.strCells_eq, bs_data, Lib.byteCells_append]
theorem bytes_44 (x : List UInt8) : Lib.byteCells x ++ [.int .u8 44] = Lib.byteCells (x ++ [44]) := by rw [Lib.byteCells_append]; rfl
theorem bytes_45 (x : List UInt8) : Lib.byteCells x ++ [.int .u8 45] = Lib.byteCells (x ++ [45]) := by rw [Lib.byteCells_append]; rfl

/-- What a call of Text leaves. -/
def TxRes (l : List Sp.R) (w : World) (e : Ending) (w' : World) : Prop :=
  e = .returned (.tuple #[.string (bs (if Sp.ok l = true then Sp.textL l else [])), .int .i64 (if Sp.ok l = true then 0 else 2)]) ∧ Below w.heap.size w w'

/-- What a write leaves: the builder, what lay below it, and the range's block. -/
def TxS (w1 : World) (B rb : Nat) (f t : Int) (dn : List UInt8) (W : World) : Prop :=
  IsBd B B (Lib.byteCells dn) W ∧ Below B w1 W ∧ B < W.heap.size ∧ W.heap[rb]? = some (.cells #[.int .i64 f, .int .i64 t] 38 (0, 0)) ∧ rb ≠ B

section
variable {w1 W : World} {B rb : Nat} {f t : Int} {dn : List UInt8}
theorem TxS.cells (h : TxS w1 B rb f t dn W) : W.cell? ⟨rb, 0, none⟩ = some (.int .i64 f) ∧ W.cell? ⟨rb, 1, none⟩ = some (.int .i64 t) := by
  have y0 := Lib.cell_of_heap h.2.2.2.1 0
  have y1 := Lib.cell_of_heap h.2.2.2.1 1
  simp only [List.getElem?_toArray, List.getElem?_cons_zero, List.getElem?_cons_succ] at y0 y1
  exact ⟨y0, y1⟩
theorem TxS.byte44 (h : TxS w1 B rb f t dn W) (hl : dn.length ≤ 100000000000000) :
    Calls Tryd.prog 31 #[.pointer (some ⟨B, 0, none⟩), .int .u8 44] W fun e w' => e = .returned .nilIface ∧ TxS w1 B rb f t (dn ++ [44]) w' := by
  refine (WriteByte_any B B _ 44 W h.1 (by rw [Lib.byteCells_length]; omega) (Nat.le_of_lt h.2.2.1)).mono ?_
  rintro e w' ⟨rfl, a1, a2, a3⟩
  rw [bytes_44] at a1
  exact ⟨rfl, a1, h.2.1.trans a2, Nat.lt_of_lt_of_le h.2.2.1 a2.size, a3 _ _ _ _ h.2.2.2.1 h.2.2.2.2 (by decide), h.2.2.2.2⟩
theorem TxS.byte45 (h : TxS w1 B rb f t dn W) (hl : dn.length ≤ 100000000000000) :
    Calls Tryd.prog 31 #[.pointer (some ⟨B, 0, none⟩), .int .u8 45] W fun e w' => e = .returned .nilIface ∧ TxS w1 B rb f t (dn ++ [45]) w' := by
  refine (WriteByte_any B B _ 45 W h.1 (by rw [Lib.byteCells_length]; omega) (Nat.le_of_lt h.2.2.1)).mono ?_
  rintro e w' ⟨rfl, a1, a2, a3⟩
  rw [bytes_45] at a1
  exact ⟨rfl, a1, h.2.1.trans a2, Nat.lt_of_lt_of_le h.2.2.1 a2.size, a3 _ _ _ _ h.2.2.2.1 h.2.2.2.2 (by decide), h.2.2.2.2⟩
theorem TxS.str (h : TxS w1 B rb f t dn W) (y : List UInt8) (hl : dn.length ≤ 100000000000000) (hy : y.length ≤ 1000000) :
    Calls Tryd.prog 32 #[.pointer (some ⟨B, 0, none⟩), .string (bs y)] W fun e w' => e = .returned (.tuple #[.int .i64 (bs y).size, .nilIface]) ∧ TxS w1 B rb f t (dn ++ y) w' := by
  refine (WriteString_any B B _ (bs y) W h.1 (by rw [Lib.byteCells_length, bs_size]; omega) (Nat.le_of_lt h.2.2.1)).mono ?_
  rintro e w' ⟨rfl, a1, a2, a3⟩
  rw [bytes_append] at a1
  exact ⟨rfl, a1, h.2.1.trans a2, Nat.lt_of_lt_of_le h.2.2.1 a2.size, a3 _ _ _ _ h.2.2.2.1 h.2.2.2.2 (by decide), h.2.2.2.2⟩
theorem TxS.later {w' : World} (h : TxS w1 B rb f t dn W) (hb : Below W.heap.size W w') : TxS w1 B rb f t dn w' :=
  ⟨h.1.below hb, h.2.1.trans (hb.mono (Nat.le_of_lt h.2.2.1)), Nat.lt_of_lt_of_le h.2.2.1 hb.size, (hb.block rb (Array.getElem?_eq_some_iff.1 h.2.2.2.1).1).trans h.2.2.2.1, h.2.2.2.2⟩
end

set_option maxRecDepth 100000 in
set_option maxHeartbeats 8000000 in
theorem Text_any (A : Option Addr) (c : Nat) (l : List Sp.R) (w : World) (h : Rd w 2 A l.length (rgcs l)) (hl : l.length ≤ 1000000) (hit : ∀ r ∈ l, ItC w (r.1 + 1) ∧ ItC w r.2) :
    Calls Tryd.prog 11 #[.slice A l.length c] w (TxRes l w) := by
  have IC := Lib.hid (isSet_any A c l w h (by omega))
  by_cases hok : Sp.ok l = true
  · have HR : Hid (∀ w', Below w.heap.size w w' → TxRes l w (.returned (.tuple #[.string (bs (Sp.textL l)), .int .i64 0])) w') := Lib.hid (fun w' hb => ⟨by rw [if_pos hok, if_pos hok], hb⟩)
    have HIN := Lib.hid (In1.of_ok hok)
    have HIT := Lib.hid hit
    rw [hok] at IC
    clear hok hit
    go_enter Tryd.func11, Tryd.ntmps11
    go_wp2_with (go_at_call 30; refine IC.out.mono ?_; rintro e w1 ⟨rfl, hb1⟩)
    have hB0 : IsBd w1.heap.size w1.heap.size (Lib.byteCells []) (w1.alloc (.cells #[.pointer none, .slice none 0 0] 65)) := Lib.fresh_isBuilder _ _ w1
    have hb2 := (Below.refl w1.heap.size w1).alloc (Nat.le_refl _) (.cells #[.pointer none, .slice none 0 0] 65)
    go_loopw [12] (fun i wr => ∃ (k : Nat) (dn : List UInt8), k ≤ l.length ∧ i = .int .i64 k ∧ Hid (dn = Sp.textL (l.take k)) ∧ dn.length ≤ k * 140000 ∧ IsBd w1.heap.size w1.heap.size (Lib.byteCells dn) wr ∧ Below w1.heap.size w1 wr ∧ w1.heap.size < wr.heap.size) (fun i _ => l.length - (intOf i).toNat)
    case atStart => exact ⟨0, [], Nat.zero_le _, rfl, Lib.hid (by simp [Sp.textL]), by simp, hB0, hb2, by simp⟩
    case round =>
      obtain ⟨k, dn, hk, rfl, HDN, hdl, hBd, hbw, hsz⟩ := hrel
      obtain ⟨wo, rfl⟩ : ∃ wo : World, wo = wr := ⟨_, rfl⟩
      by_cases hlt : k < l.length
      · obtain ⟨b1, o1, rfl, _, c1, c2⟩ := (h.later (hb1.trans (hbw.mono hb1.size))).rg (k := k) (List.getElem?_eq_getElem hlt)
        have q := HIN.out l[k] (List.getElem_mem hlt)
        have it := HIT.out l[k] (List.getElem_mem hlt)
        have HTX : Hid (Sp.textL (l.take (k + 1)) = (if l.take k = [] then [] else dn ++ [44]) ++ Sp.piece l[k]) := Lib.hid (by
          rw [List.take_succ_eq_append_getElem hlt, Sp.textL_snoc, ← HDN.out])
        have HNE := Lib.hid (show l.take k = [] ↔ k = 0 by
          constructor
          · intro e
            rcases List.take_eq_nil_iff.1 e with h | h
            · exact h
            · rw [h] at hlt; simp at hlt
          · rintro rfl; rfl)
        generalize l[k] = r at c1 c2 q it HTX
        obtain ⟨f, t⟩ := r
        simp only at c1 c2 q it
        obtain ⟨q1, q2, q3⟩ := q
        have s1 := Sp.itoa_le (n := f + 1) (by omega) (by omega)
        have s2 := Sp.itoa_le (n := t) (by omega) (by omega)
        have hT0 : TxS w1 w1.heap.size wo.heap.size f t dn (wo.alloc (.cells #[.int .i64 f, .int .i64 t] 38)) :=
          ⟨hBd.alloc _, hbw.alloc hbw.size _, by simp; omega, heap_alloc_new wo _, by omega⟩
        have it1 := it.1
        have it2 := it.2
        unfold ItC at it1 it2
        have IT1 := Lib.hid it1
        have IT2 := Lib.hid it2
        clear it1 it2
        have HB := Lib.hid (fun (W : World) (dn' : List UInt8) (h : TxS w1 w1.heap.size wo.heap.size f t dn' W) => hb1.trans (h.2.1.mono hb1.size))
        clear hBd hbw it
        by_cases hk0 : 0 < k
        · by_cases hd : 1 < t - f
          · have HP : Hid (Sp.textL (l.take (k + 1)) = ((((dn ++ [44]) ++ Lib.itoa (f + 1)) ++ [45]) ++ Lib.itoa t)) := Lib.hid (by rw [HTX.out, if_neg (fun e => by have := HNE.out.1 e; omega)]; unfold Sp.piece; rw [if_pos hd]; simp)
            generalize Lib.itoa (f + 1) = p1 at *
            generalize Lib.itoa t = p2 at *
            have hl0 : dn.length ≤ 100000000000000 := by omega
            have s1 : p1.length ≤ 1000000 := by omega
            have s2 : p2.length ≤ 1000000 := by omega
            have hl1 : (dn ++ [44]).length ≤ 100000000000000 := by simp; omega
            have hl2 : ((dn ++ [44]) ++ p1).length ≤ 100000000000000 := by simp; omega
            have hl3 : (((dn ++ [44]) ++ p1) ++ [45]).length ≤ 100000000000000 := by simp; omega
            have x0 := hT0.cells
            have HX := Lib.hid HTX; clear HTX HX HNE
            go_wp2_with (first | (go_at_call 31; (with_reducible refine (hT0.byte44 hl0).mono ?_); rintro e wa ⟨rfl, hT1⟩; have x1 := hT1.cells) | (go_at_call 33; (with_reducible refine (IT1.out _ (HB.out _ _ hT1)).mono ?_); rintro e wb ⟨rfl, bb⟩; have hT2 := hT1.later bb; have x2 := hT2.cells) | (go_at_call 32; (with_reducible refine (hT2.str p1 hl1 s1).mono ?_); rintro e wc ⟨rfl, hT3⟩; have x3 := hT3.cells) | (go_at_call 31; (with_reducible refine (hT3.byte45 hl2).mono ?_); rintro e wd ⟨rfl, hT4⟩; have x4 := hT4.cells) | (go_at_call 33; (with_reducible refine (IT2.out _ (HB.out _ _ hT4)).mono ?_); rintro e we ⟨rfl, be⟩; have hT5 := hT4.later be; have x5 := hT5.cells) | (go_at_call 32; (with_reducible refine (hT5.str p2 hl3 s2).mono ?_); rintro e wf ⟨rfl, hT6⟩; have x6 := hT6.cells))
            go_roundw
            case rel => exact ⟨k + 1, ((((dn ++ [44]) ++ p1) ++ [45]) ++ p2), by omega, by go_num, Lib.hid HP.out.symm, by simp; omega, hT6.1, hT6.2.1, hT6.2.2.1⟩
            case measure => simp [intOf]; omega
          · have HP : Hid (Sp.textL (l.take (k + 1)) = ((dn ++ [44]) ++ Lib.itoa (f + 1))) := Lib.hid (by rw [HTX.out, if_neg (fun e => by have := HNE.out.1 e; omega)]; unfold Sp.piece; rw [if_neg hd]; simp)
            generalize Lib.itoa (f + 1) = p1 at *
            generalize Lib.itoa t = p2 at *
            have hl0 : dn.length ≤ 100000000000000 := by omega
            have s1 : p1.length ≤ 1000000 := by omega
            have s2 : p2.length ≤ 1000000 := by omega
            have hl1 : (dn ++ [44]).length ≤ 100000000000000 := by simp; omega
            have hd2 : t - f ≤ 1 := by omega
            have x0 := hT0.cells
            have HX := Lib.hid HTX; clear HTX HX HNE
            go_wp2_with (first | (go_at_call 31; (with_reducible refine (hT0.byte44 hl0).mono ?_); rintro e wa ⟨rfl, hT1⟩; have x1 := hT1.cells) | (go_at_call 33; (with_reducible refine (IT1.out _ (HB.out _ _ hT1)).mono ?_); rintro e wb ⟨rfl, bb⟩; have hT2 := hT1.later bb; have x2 := hT2.cells) | (go_at_call 32; (with_reducible refine (hT2.str p1 hl1 s1).mono ?_); rintro e wc ⟨rfl, hT3⟩; have x3 := hT3.cells))
            go_roundw
            case rel => exact ⟨k + 1, ((dn ++ [44]) ++ p1), by omega, by go_num, Lib.hid HP.out.symm, by simp; omega, hT3.1, hT3.2.1, hT3.2.2.1⟩
            case measure => simp [intOf]; omega
        · by_cases hd : 1 < t - f
          · have HP : Hid (Sp.textL (l.take (k + 1)) = (((dn ++ Lib.itoa (f + 1)) ++ [45]) ++ Lib.itoa t)) := Lib.hid (by rw [HTX.out, if_pos (HNE.out.2 (by omega))]; unfold Sp.piece; rw [if_pos hd]; simp [show dn = [] from by rw [HDN.out, HNE.out.2 (by omega)]; rfl])
            generalize Lib.itoa (f + 1) = p1 at *
            generalize Lib.itoa t = p2 at *
            have hl0 : dn.length ≤ 100000000000000 := by omega
            have s1 : p1.length ≤ 1000000 := by omega
            have s2 : p2.length ≤ 1000000 := by omega
            have hl2 : (dn ++ p1).length ≤ 100000000000000 := by simp; omega
            have hl3 : ((dn ++ p1) ++ [45]).length ≤ 100000000000000 := by simp; omega
            have x0 := hT0.cells
            have HX := Lib.hid HTX; clear HTX HX HNE
            go_wp2_with (first | (go_at_call 33; (with_reducible refine (IT1.out _ (HB.out _ _ hT0)).mono ?_); rintro e wb ⟨rfl, bb⟩; have hT2 := hT0.later bb; have x2 := hT2.cells) | (go_at_call 32; (with_reducible refine (hT2.str p1 hl0 s1).mono ?_); rintro e wc ⟨rfl, hT3⟩; have x3 := hT3.cells) | (go_at_call 31; (with_reducible refine (hT3.byte45 hl2).mono ?_); rintro e wd ⟨rfl, hT4⟩; have x4 := hT4.cells) | (go_at_call 33; (with_reducible refine (IT2.out _ (HB.out _ _ hT4)).mono ?_); rintro e we ⟨rfl, be⟩; have hT5 := hT4.later be; have x5 := hT5.cells) | (go_at_call 32; (with_reducible refine (hT5.str p2 hl3 s2).mono ?_); rintro e wf ⟨rfl, hT6⟩; have x6 := hT6.cells))
            go_roundw
            case rel => exact ⟨k + 1, (((dn ++ p1) ++ [45]) ++ p2), by omega, by go_num, Lib.hid HP.out.symm, by simp; omega, hT6.1, hT6.2.1, hT6.2.2.1⟩
            case measure => simp [intOf]; omega
          · have HP : Hid (Sp.textL (l.take (k + 1)) = (dn ++ Lib.itoa (f + 1))) := Lib.hid (by rw [HTX.out, if_pos (HNE.out.2 (by omega))]; unfold Sp.piece; rw [if_neg hd]; simp [show dn = [] from by rw [HDN.out, HNE.out.2 (by omega)]; rfl])
            generalize Lib.itoa (f + 1) = p1 at *
            generalize Lib.itoa t = p2 at *
            have hl0 : dn.length ≤ 100000000000000 := by omega
            have s1 : p1.length ≤ 1000000 := by omega
            have s2 : p2.length ≤ 1000000 := by omega
            have hd2 : t - f ≤ 1 := by omega
            have x0 := hT0.cells
            have HX := Lib.hid HTX; clear HTX HX HNE
            go_wp2_with (first | (go_at_call 33; (with_reducible refine (IT1.out _ (HB.out _ _ hT0)).mono ?_); rintro e wb ⟨rfl, bb⟩; have hT2 := hT0.later bb; have x2 := hT2.cells) | (go_at_call 32; (with_reducible refine (hT2.str p1 hl0 s1).mono ?_); rintro e wc ⟨rfl, hT3⟩; have x3 := hT3.cells))
            go_roundw
            case rel => exact ⟨k + 1, (dn ++ p1), by omega, by go_num, Lib.hid HP.out.symm, by simp; omega, hT3.1, hT3.2.1, hT3.2.2.1⟩
            case measure => simp [intOf]; omega
      · obtain rfl : k = l.length := by omega
        have hdn : dn = Sp.textL l := by rw [HDN.out, List.take_length]
        subst hdn
        have SS := Lib.hid (Tryd.Builder_String_any w1.heap.size w1.heap.size _ _ hBd (by omega))
        have HB := Lib.hid (hb1.trans (hbw.mono hb1.size))
        have hws := hbw.size
        generalize Sp.textL l = z at *
        go_wp2_with (go_at_call 34; refine SS.out.mono ?_; rintro e w9 ⟨rfl, hb9⟩)
        go_ret2
        exact HR.out _ (HB.out.trans (hb9.mono hb1.size))
  · have hf : Sp.ok l = false := by simpa using hok
    have HR : Hid (∀ w', Below w.heap.size w w' → TxRes l w (.returned (.tuple #[.string (bs []), .int .i64 2])) w') := Lib.hid (fun w' hb => ⟨by rw [if_neg hok, if_neg hok], hb⟩)
    rw [hf] at IC
    clear hok hf
    go_enter Tryd.func11, Tryd.ntmps11
    go_wp2_with (go_at_call 30; refine IC.out.mono ?_; rintro e w1 ⟨rfl, hb1⟩)
    go_ret2
    exact HR.out _ hb1

end Go.Proofs.YtccpjjhaeocfhaaDoor
