/- Walks: the document's text of a set. -/
import Derived.Test.YtccpjjhaeocfhaaDoorT1
import Derived.Deep.QuietTactic
set_option linter.unusedVariables false
set_option linter.unusedSimpArgs false
namespace Go.Proofs.YtccpjjhaeocfhaaDoor
open Go Go.RowKit

theorem refdig_int (n : Int) (w : World) (h0 : 0 ≤ n) (h1 : n < 1000000) :
    Calls Tryd.prog 36 #[.int .i64 n] w fun e w' => e = .returned (.string (bs (Lib.itoa n))) ∧ Below w.heap.size w w' := by
  obtain ⟨m, rfl⟩ := Int.eq_ofNat_of_zero_le h0
  have := refdigits_any m w (by omega)
  rw [← Lib.itoa_nonneg] at this
  exact this

set_option maxRecDepth 100000 in
set_option maxHeartbeats 8000000 in
theorem refText_any (A : Option Addr) (c : Nat) (l : List Sp.R) (w : World) (h : Rd w 2 A l.length (rgcs l)) (hl : l.length ≤ 1000000) :
    Calls Tryd.prog 12 #[.slice A l.length c] w (TxRes l w) := by
  have IC := Lib.hid (Valid_any A c l w h (by omega))
  by_cases hok : Sp.ok l = true
  · have HR : Hid (∀ w', Below w.heap.size w w' → TxRes l w (.returned (.tuple #[.string (bs (Sp.textL l)), .int .i64 0])) w') := Lib.hid (fun w' hb => ⟨by rw [if_pos hok, if_pos hok], hb⟩)
    have HIN := Lib.hid (In1.of_ok hok)
    rw [hok] at IC
    clear hok
    go_enter Tryd.func12, Tryd.ntmps12
    go_wp2_with (go_at_call 35; refine IC.out.mono ?_; rintro e w1 ⟨rfl, hb1⟩)
    go_loopw [5, 6] (fun s i wr => ∃ (k : Nat) (dn : List UInt8), k ≤ l.length ∧ s = .string (bs dn) ∧ i = .int .i64 k ∧ Hid (dn = Sp.textL (l.take k)) ∧ dn.length ≤ k * 140000 ∧ Below w.heap.size w wr) (fun _ i _ => l.length - (intOf i).toNat)
    case atStart => exact ⟨0, [], Nat.zero_le _, rfl, rfl, Lib.hid (by simp [Sp.textL]), by simp, hb1⟩
    case round =>
      obtain ⟨k, dn, hk, rfl, rfl, HDN, hdl, hbw⟩ := hrel
      obtain ⟨wo, rfl⟩ : ∃ wo : World, wo = wr := ⟨_, rfl⟩
      by_cases hlt : k < l.length
      · have RA := Lib.hid (fun w1 hb => h.later (w' := w1) hb)
        obtain ⟨b1, o1, rfl, _, c1, c2⟩ := (RA.out _ hbw).rg (k := k) (List.getElem?_eq_getElem hlt)
        have q := HIN.out l[k] (List.getElem_mem hlt)
        have HTX : Hid (Sp.textL (l.take (k + 1)) = (if l.take k = [] then [] else dn ++ [44]) ++ Sp.piece l[k]) := Lib.hid (by
          rw [List.take_succ_eq_append_getElem hlt, Sp.textL_snoc, ← HDN.out])
        have HNE := Lib.hid (show l.take k = [] ↔ k = 0 by
          constructor
          · intro e
            rcases List.take_eq_nil_iff.1 e with h | h
            · exact h
            · rw [h] at hlt; simp at hlt
          · rintro rfl; rfl)
        have CX := Lib.hid (fun W' (hb : Below w.heap.size w W') => (RA.out W' hb).rg (k := k) (List.getElem?_eq_getElem hlt))
        obtain ⟨r, hr⟩ : ∃ r, l[k] = r := ⟨_, rfl⟩
        have CX2 : Hid (∀ W', Below w.heap.size w W' → W'.cell? ⟨b1, o1 + k * 2, none⟩ = some (.int .i64 r.1) ∧ W'.cell? ⟨b1, o1 + k * 2 + 1, none⟩ = some (.int .i64 r.2)) := Lib.hid (by
          intro W' hb
          obtain ⟨b2, o2, e2, _, c3, c4⟩ := CX.out W' hb
          cases e2
          rw [hr] at c3 c4
          exact ⟨by simpa using c3, by simpa using c4⟩)
        rw [hr] at c1 c2 q HTX
        clear hr CX
        obtain ⟨f, t⟩ := r
        simp only at c1 c2 q CX2
        obtain ⟨q1, q2, q3⟩ := q
        have s1 := Sp.itoa_le (n := f + 1) (by omega) (by omega)
        have s2 := Sp.itoa_le (n := t) (by omega) (by omega)
        have D1 := Lib.hid (fun W => refdig_int (f + 1) W (by omega) (by omega))
        have D2 := Lib.hid (fun W => refdig_int t W (by omega) (by omega))
        have HP1 := Lib.hid (show Sp.piece (f, t) = Lib.itoa (f + 1) ++ (if 1 < t - f then 45 :: Lib.itoa t else []) from rfl)
        generalize Lib.itoa (f + 1) = p1 at *
        generalize Lib.itoa t = p2 at *
        have z0 : (bs dn).size = dn.length := bs_size dn
        have z1 : (bs p1).size = p1.length := bs_size p1
        have z2 : (bs p2).size = p2.length := bs_size p2
        by_cases hk0 : 0 < k
        · by_cases hd : 1 < t - f
          · have HP : Hid (Sp.textL (l.take (k + 1)) = ((((dn ++ [44]) ++ p1) ++ [45]) ++ p2)) := Lib.hid (by rw [HTX.out, if_neg (fun e => by have := HNE.out.1 e; omega), HP1.out, if_pos (by omega)]; simp)
            have hcat : (bs dn ++ bs [44]) = bs (dn ++ [44]) := bs_cat _ _
            clear HTX HNE HP1
            go_wp2_with (first | (go_at_call 36; (with_reducible refine (D1.out _).mono ?_); rintro e w2 ⟨rfl, d2⟩; have b2 := hbw.trans (d2.mono hbw.size); have x2 := CX2.out _ b2))
            go_quiet (fail)
            go_wp2_with (first | (go_at_call 36; (with_reducible refine (D2.out _).mono ?_); rintro e w3 ⟨rfl, d3⟩))
            go_roundw
            case rel => exact ⟨k + 1, ((((dn ++ [44]) ++ p1) ++ [45]) ++ p2), by omega, (by show Value.string (bs dn ++ bs [44] ++ bs p1 ++ bs [45] ++ bs p2) = _; rw [bs_cat, bs_cat, bs_cat, bs_cat]), by go_num, Lib.hid HP.out.symm, by simp; omega, below_drewN b2 _ |>.trans (d3.mono (below_drewN b2 _).size)⟩
            case measure => simp [intOf]; omega
          · have hd2 : t - f ≤ 1 := by omega
            have HP : Hid (Sp.textL (l.take (k + 1)) = ((dn ++ [44]) ++ p1)) := Lib.hid (by rw [HTX.out, if_neg (fun e => by have := HNE.out.1 e; omega), HP1.out, if_neg (by omega)]; simp)
            have hcat : (bs dn ++ bs [44]) = bs (dn ++ [44]) := bs_cat _ _
            clear HTX HNE HP1
            go_wp2_with (first | (go_at_call 36; (with_reducible refine (D1.out _).mono ?_); rintro e w2 ⟨rfl, d2⟩; have b2 := hbw.trans (d2.mono hbw.size); have x2 := CX2.out _ b2))
            go_quiet (fail)
            go_wp2_with (first | (go_at_call 36; (with_reducible refine (D2.out _).mono ?_); rintro e w3 ⟨rfl, d3⟩))
            go_roundw
            case rel => exact ⟨k + 1, ((dn ++ [44]) ++ p1), by omega, (by show Value.string (bs dn ++ bs [44] ++ bs p1) = _; rw [bs_cat, bs_cat]), by go_num, Lib.hid HP.out.symm, by simp; omega, below_drewN b2 _⟩
            case measure => simp [intOf]; omega
        · by_cases hd : 1 < t - f
          · have HP : Hid (Sp.textL (l.take (k + 1)) = (((dn ++ p1) ++ [45]) ++ p2)) := Lib.hid (by rw [HTX.out, if_pos (HNE.out.2 (by omega)), HP1.out, if_pos (by omega)]; simp [show dn = [] from by rw [HDN.out, HNE.out.2 (by omega)]; rfl])
            have hcat : (bs dn ++ bs [44]) = bs (dn ++ [44]) := bs_cat _ _
            clear HTX HNE HP1
            go_wp2_with (first | (go_at_call 36; (with_reducible refine (D1.out _).mono ?_); rintro e w2 ⟨rfl, d2⟩; have b2 := hbw.trans (d2.mono hbw.size); have x2 := CX2.out _ b2))
            go_quiet (fail)
            go_wp2_with (first | (go_at_call 36; (with_reducible refine (D2.out _).mono ?_); rintro e w3 ⟨rfl, d3⟩))
            go_roundw
            case rel => exact ⟨k + 1, (((dn ++ p1) ++ [45]) ++ p2), by omega, (by show Value.string (bs dn ++ bs p1 ++ bs [45] ++ bs p2) = _; rw [bs_cat, bs_cat, bs_cat]), by go_num, Lib.hid HP.out.symm, by simp; omega, below_drewN b2 _ |>.trans (d3.mono (below_drewN b2 _).size)⟩
            case measure => simp [intOf]; omega
          · have hd2 : t - f ≤ 1 := by omega
            have HP : Hid (Sp.textL (l.take (k + 1)) = (dn ++ p1)) := Lib.hid (by rw [HTX.out, if_pos (HNE.out.2 (by omega)), HP1.out, if_neg (by omega)]; simp [show dn = [] from by rw [HDN.out, HNE.out.2 (by omega)]; rfl])
            have hcat : (bs dn ++ bs [44]) = bs (dn ++ [44]) := bs_cat _ _
            clear HTX HNE HP1
            go_wp2_with (first | (go_at_call 36; (with_reducible refine (D1.out _).mono ?_); rintro e w2 ⟨rfl, d2⟩; have b2 := hbw.trans (d2.mono hbw.size); have x2 := CX2.out _ b2))
            go_quiet (fail)
            go_wp2_with (first | (go_at_call 36; (with_reducible refine (D2.out _).mono ?_); rintro e w3 ⟨rfl, d3⟩))
            go_roundw
            case rel => exact ⟨k + 1, (dn ++ p1), by omega, (by show Value.string (bs dn ++ bs p1) = _; rw [bs_cat]), by go_num, Lib.hid HP.out.symm, by simp; omega, below_drewN b2 _⟩
            case measure => simp [intOf]; omega
      · obtain rfl : k = l.length := by omega
        have hdn : dn = Sp.textL l := by rw [HDN.out, List.take_length]
        subst hdn
        generalize Sp.textL l = z at *
        go_wp2
        go_ret2
        exact HR.out _ hbw
  · have HR : Hid (∀ w', Below w.heap.size w w' → TxRes l w (.returned (.tuple #[.string (bs []), .int .i64 2])) w') := Lib.hid (fun w' hb => ⟨by rw [if_neg hok, if_neg hok], hb⟩)
    rw [Bool.not_eq_true] at hok
    rw [hok] at IC
    clear hok
    go_enter Tryd.func12, Tryd.ntmps12
    go_wp2_with (go_at_call 35; refine IC.out.mono ?_; rintro e w1 ⟨rfl, hb1⟩)
    go_ret2
    exact HR.out _ hb1

end Go.Proofs.YtccpjjhaeocfhaaDoor
