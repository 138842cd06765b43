/- Walks: what is kept (the document's). -/
import Derived.Test.YtnijaleedbmljaaW23
import Derived.Test.YtnijaleedbmljaaW19
import Derived.Deep.OwnRows
set_option linter.unusedVariables false
set_option linter.unusedSimpArgs false
namespace Go.Proofs.Ytnijaleedbmljaa
open Go Go.RowKit

theorem infoBool : (Try.prog.info? 4).map (fun i => (i.zero, i.size, i.bytes)) = some (some (.bool false), 1, 1) := by kernel_rfl

theorem marked_none (j : Nat) : Pl.marked [] j = false := rfl
theorem marked_take {Sp : List Pl.Spot} {k : Nat} {b e to : Int} {x : Pl.T} (h : Sp[k]? = some ⟨b, e, to, x⟩) (j : Nat) : Pl.marked (Sp.take (k + 1)) j = (Pl.marked (Sp.take k) j || (decide (b ≤ (j : Int)) && decide ((j : Int) < e))) := by
  unfold Pl.marked
  rw [List.take_add_one, h, List.any_append]
  simp
theorem runs_true {f : Nat → Bool} {k : Nat} (h : f k = true) : Pl.runs f (k + 1) = Pl.runs f k := by simp only [Pl.runs]; rw [if_pos h]
theorem runs_nil {f : Nat → Bool} {k : Nat} (h : f k = false) (h2 : Pl.runs f k = []) : Pl.runs f (k + 1) = [((k : Int), (k : Int) + 1)] := by simp only [Pl.runs]; rw [if_neg (by rw [h]; simp), h2]; rfl
theorem runs_ext {f : Nat → Bool} {k : Nat} {d : List (Int × Int)} {a b : Int} (h : f k = false) (h2 : Pl.runs f k = d ++ [(a, b)]) (hb : b = k) : Pl.runs f (k + 1) = d ++ [(a, (k : Int) + 1)] := by
  simp only [Pl.runs]; rw [if_neg (by rw [h]; simp), h2]; simp [hb]
theorem runs_new {f : Nat → Bool} {k : Nat} {d : List (Int × Int)} {a b : Int} (h : f k = false) (h2 : Pl.runs f k = d ++ [(a, b)]) (hb : b ≠ k) : Pl.runs f (k + 1) = (d ++ [(a, b)]) ++ [((k : Int), (k : Int) + 1)] := by
  simp only [Pl.runs]; rw [if_neg (by rw [h]; simp), h2]; simp [hb]
theorem rgcs_set (d : List (Int × Int)) (a b c : Int) : (rgcs (d ++ [(a, b)])).set (d.length * 2 + 1) (.int .i64 c) = rgcs (d ++ [(a, c)]) := by
  have e : ∀ b, rgcs (d ++ [(a, b)]) = rgcs d ++ [.int .i64 a, .int .i64 b] := fun b => by simp [rgcs, rgc, List.flatMap_append]
  rw [e, e, List.set_append_right _ _ (by rw [rgcs_length]; omega), rgcs_length]
  have : d.length * 2 + 1 - d.length * 2 = 1 := by omega
  rw [this]; rfl
theorem rgcs_snoc' (l : List (Int × Int)) (a b : Int) : rgcs l ++ [.int .i64 a, .int .i64 b] = rgcs (l ++ [(a, b)]) := by simp [rgcs, rgc, List.flatMap_append]

set_option maxRecDepth 100000 in
set_option maxHeartbeats 8000000 in
theorem refKept_all (s : ByteArray) (A : Option Addr) (c : Nat) (l : List Pl.Ed) (w : World) (hs : s.size ≤ 4000000) (h : Rd w 3 A l.length (edcs l)) (hsm : Sm l) :
    Calls Try.prog 23 #[.string s, .slice A l.length c] w (KeptPost (kpOut s.data.toList l) (kpErr s.data.toList l) w) := by
  have hszl : s.data.toList.length = s.size := by rw [← Lib.size_eq]
  obtain ⟨hln, hsT, hfl⟩ := ref_setup hs
  have hlen := hsm.len
  have fc := fun X cx w g h => refFit_any X A cx c (Pl.lines s.data.toList) l w (by omega) g h (by omega) hsT hsm.smalls
  rw [fitS_ref] at fc
  have LC := Lib.hid (fun w => refLines_got s w (by omega))
  cases hf : fitS s.data.toList l
  · rw [hf] at fc
    have FC := Lib.hid fc; clear fc
    have HR : Hid (∀ w', Below w.heap.size w w' → KeptPost (kpOut s.data.toList l) (kpErr s.data.toList l) w (.returned (.tuple #[.slice none 0 0, .int .i64 180])) w') := Lib.hid (fun w' hb => by
      unfold kpOut kpErr
      rw [if_neg (by rw [hf]; simp), if_neg (by rw [hf]; simp)]
      exact ⟨none, 0, rfl, Rd.nil _ _ _, hb⟩)
    clear hf hszl
    go_enter Try.func23, Try.ntmps23
    go_wp2_with (first | (go_at_call 33; refine (LC.out _).mono ?_; rintro e w1 ⟨X, cx, rfl, hcx, hX, hb1⟩) | (go_at_call 46; refine (FC.out _ _ _ hX (h.later hb1)).mono ?_; rintro e w2 ⟨rfl, hb2⟩))
    go_ret2
    exact HR.out _ (hb1.trans (hb2.mono hb1.size))
  · rw [hf] at fc
    have FC := Lib.hid fc; clear fc
    obtain ⟨hSm, hSl⟩ := spots_ok hs hsm hf
    obtain ⟨ho, hl, hen⟩ := spots_ord hf
    have hF := (fitS_iff _ _).1 hf
    have HAT := Lib.hid (fun (k : Nat) (e : Pl.Ed) h => @spots_at (Pl.lines s.data.toList) l 0 k e h)
    have HR : Hid (∀ (W9 : World) (B : Option Addr) (cb ln : Nat) (o9 : List (Int × Int)), o9 = Pl.runs (Pl.marked (Pl.spots (Pl.lines s.data.toList) 0 l)) s.size → o9.length = ln → Rd W9 2 B ln (rgcs o9) → Below w.heap.size w W9 → KeptPost (kpOut s.data.toList l) (kpErr s.data.toList l) w (.returned (.tuple #[.slice B ln cb, .int .i64 0])) W9) := Lib.hid (fun W9 B cb ln o9 ho9 hln hr hb => by
      subst hln
      have e : kpOut s.data.toList l = o9 := by
        unfold kpOut
        rw [if_pos hf, ho9, hszl]
        exact (Pl.runs_all ho (fun p hp => by have := hen p hp; rw [hszl] at this; exact this)).symm
      have e2 : kpErr s.data.toList l = 0 := by unfold kpErr; rw [if_pos hf]
      rw [e, e2]
      exact ⟨B, cb, rfl, hr, hb⟩)
    have HEN : Hid (∀ p ∈ Pl.spots (Pl.lines s.data.toList) 0 l, p.e ≤ (s.size : Int)) := Lib.hid (fun p hp => by have := hen p hp; rw [hszl] at this; exact this)
    have HFT := Lib.hid hF; clear hF
    have KB := Lib.hid (fun X c n w h1 g => begin_got X c (Pl.lines s.data.toList) n w h1 (by omega) (by omega) g)
    unfold spS at ho hl hen
    generalize Pl.spots (Pl.lines s.data.toList) 0 l = Sp at *
    generalize Pl.lines s.data.toList = L at *
    obtain ⟨N, hN⟩ : ∃ N, N = s.size := ⟨_, rfl⟩
    have hNb : N ≤ 4000000 := by omega
    obtain ⟨i0, hi, hz0, hz1, hz2⟩ := info_parts rgInfo
    have hmk := run_make_row' (P := Try.prog) 83 4 _ 1 Try.underlying83 infoBool rfl .i64 .i64 N (by omega) (by omega)
    have hNs : s.size = N := hN.symm
    rw [← hN] at HR HEN
    clear ho hl hf hszl hen hN
    go_enter Try.func23, Try.ntmps23
    go_wp2_with (first | (go_at_call 33; refine (LC.out _).mono ?_; rintro e w1 ⟨X, cx, rfl, hcx, hX, hb1⟩) | (go_at_call 46; refine (FC.out _ _ _ hX (h.later hb1)).mono ?_; rintro e w2 ⟨rfl, hb2⟩))
    have hb12 := hb1.trans (hb2.mono hb1.size)
    have hX2 := hX.later hb2
    have hA2 := h.later hb12
    have HR0 := Lib.hid (World.rowIs_made w2 (.bool false) N 4)
    have HB0 := (Below.refl w2.heap.size w2).alloc (Nat.le_refl _) (.cells (madeCells #[Value.bool false] N) 4)
    clear hmk
    go_loopw [9, 10, 11, 12] (fun i _ _ _ wr => ∃ k : Nat, k ≤ l.length ∧ i = .int .i64 k ∧ Below w2.heap.size w2 wr ∧ Hid (wr.rowIs w2.heap.size 4 N (fun j => .bool (Pl.marked (Sp.take k) j)))) (fun i _ _ _ _ => l.length - (intOf i).toNat)
    case atStart => exact ⟨0, Nat.zero_le _, rfl, HB0, Lib.hid HR0.out⟩
    case round =>
      obtain ⟨k, hk, rfl, hbw, HRow⟩ := hrel
      by_cases hlt : k < l.length
      · have hek := List.getElem?_eq_getElem hlt
        have q1 := Fits_mem HFT.out l[k] (List.getElem_mem hlt)
        generalize l[k] = e at hek q1
        obtain ⟨to, hsp⟩ := HAT.out k e hek
        have hx := hSm _ (List.mem_of_getElem? hsp)
        have hxe := HEN.out _ (List.mem_of_getElem? hsp)
        obtain ⟨ef, et, ex⟩ := e
        simp only at q1 hsp hx hxe
        obtain ⟨f2, f3, f4⟩ := q1
        obtain ⟨f, rfl⟩ := Int.eq_ofNat_of_zero_le f2
        obtain ⟨t, rfl⟩ := Int.eq_ofNat_of_zero_le (show 0 ≤ et by omega)
        simp only [Int.toNat_natCast] at hx hxe hsp
        obtain ⟨wo, rfl⟩ : ∃ wo : World, wo = wr := ⟨_, rfl⟩
        obtain ⟨b1, o1, rfl, hbk1, c1, c2, c3⟩ := (hA2.later hbw).ed hek
        simp only at c1 c2 c3
        have KF := Lib.hid (KB.out X cx f wo (by omega) (hX2.later hbw))
        have KT := Lib.hid (KB.out X cx t wo (by omega) (hX2.later hbw))
        obtain ⟨y1, y2, y3, y4, _, _⟩ := hx
        simp only at y1 y2 y3 y4
        clear hek
        obtain ⟨bf, hbf⟩ : ∃ b, b = Pl.beg L f := ⟨_, rfl⟩
        obtain ⟨bt, hbt⟩ : ∃ b, b = Pl.beg L t := ⟨_, rfl⟩
        rw [← hbf] at hsp KF y1 y2
        rw [← hbt] at hsp KT y2 y3 hxe
        have HMK := Lib.hid (fun j => marked_take hsp j)
        have hle1 : bf ≤ bt := by omega
        have hle2 : bt ≤ N := by omega
        clear hbf hbt hsp f2 f3 f4 y2 y3 hxe
        go_wp2_with (first | (go_at_call 47; with_reducible refine KF.out.mono ?_; rintro e w' ⟨rfl, rfl⟩) | (go_at_call 47; with_reducible refine KT.out.mono ?_; rintro e w' ⟨rfl, rfl⟩))
        go_loopw [12] (fun qv wi => ∃ q : Nat, bf ≤ q ∧ q ≤ bt ∧ qv = .int .i64 q ∧ Below w2.heap.size w2 wi ∧ Hid (wi.rowIs w2.heap.size 4 N (fun j => .bool (Pl.marked (Sp.take k) j || (decide ((bf : Int) ≤ (j : Int)) && decide ((j : Int) < (q : Int))))))) (fun qv _ => bt - (intOf qv).toNat)
        case atStart => exact ⟨bf, Nat.le_refl _, hle1, rfl, hbw, Lib.hid (HRow.out.congr (fun j hj => by
          have : (decide ((bf : Int) ≤ (j : Int)) && decide ((j : Int) < (bf : Int))) = false := by rw [Bool.and_eq_false_iff, decide_eq_false_iff_not, decide_eq_false_iff_not]; omega
          rw [this, Bool.or_false]))⟩
        case round =>
          obtain ⟨q, hq1, hq2, rfl, hbi, HRi⟩ := hrel
          by_cases hqt : q < bt
          · have hqN : q < N := by omega
            have cq := HRi.out.cell hqN
            have fq := HRi.out.frozen q
            have HS := Lib.hid (HRi.out.set q (.bool true))
            have hBs := hbi.setCell (p := ⟨w2.heap.size, q, none⟩) (by simp) (.bool true)
            go_wp2
            go_roundw
            case rel => exact ⟨q + 1, by omega, by omega, by go_num, hBs, Lib.hid (HS.out.congr (fun j hj => by
              by_cases hjq : j = q
              · rw [if_pos hjq]
                have : (decide ((bf : Int) ≤ (j : Int)) && decide ((j : Int) < ((q + 1 : Nat) : Int))) = true := by rw [Bool.and_eq_true, decide_eq_true_eq, decide_eq_true_eq]; omega
                rw [this, Bool.or_true]
              · rw [if_neg hjq]
                congr 3
                rw [decide_eq_decide]; omega))⟩
            case measure => simp [intOf]; omega
          · obtain rfl : q = bt := by omega
            go_wp2
            go_roundw
            case rel => exact ⟨k + 1, by omega, by go_num, hbi, Lib.hid (HRi.out.congr (fun j hj => by rw [HMK.out]))⟩
            case measure => simp [intOf]; omega
      · obtain rfl : k = l.length := by omega
        have htk : Sp.take l.length = Sp := List.take_of_length_le (by omega)
        rw [htk] at HRow
        clear htk
        obtain ⟨wa, rfl⟩ : ∃ wa : World, wa = wr := ⟨_, rfl⟩
        obtain ⟨F, hF⟩ : ∃ F : Nat → Bool, F = Pl.marked Sp := ⟨_, rfl⟩
        rw [← hF] at HRow HR
        have hBl : ∀ {wx : World}, Below w2.heap.size w2 wx → Below w.heap.size w wx := fun hh => hb12.trans (hh.mono hb12.size)
        have h2s : w2.heap.size < wa.heap.size := HRow.out.lt
        clear hF HEN HAT hSm KB HB0 HR0
        go_wp2
        go_loopw [13, 14, 15] (fun v kv _ wr => ∃ (q : Nat) (out : List (Int × Int)), q ≤ N ∧ kv = .int .i64 q ∧ wr.ownsRow (w2.heap.size + 1) 70 2 v out.length (rgcs out) ∧ Below w2.heap.size w2 wr ∧ w2.heap.size < wr.heap.size ∧ out.length ≤ q ∧ Hid (wr.rowIs w2.heap.size 4 N (fun j => .bool (F j))) ∧ Hid (out = Pl.runs F q)) (fun _ kv _ _ => N - (intOf kv).toNat)
        case atStart => exact ⟨0, [], Nat.zero_le _, rfl, World.ownsRow_nil _ _ _ _, hbw, h2s, by simp, HRow, Lib.hid rfl⟩
        case round =>
          obtain ⟨q, out, hq, rfl, hown, hbr, hsr, hol, HF, HO⟩ := hrel
          obtain ⟨wo, rfl⟩ : ∃ wo : World, wo = wr := ⟨_, rfl⟩
          by_cases hqN : q < N
          · have cq := HF.out.cell hqN

            cases hFq : F q
            · rw [hFq] at cq
              rcases List.eq_nil_or_concat out with rfl | ⟨d, ⟨a, b⟩, rfl⟩
              · have H2 := Lib.hid (runs_nil hFq HO.out.symm)
                obtain ⟨ra, rc, rfl, hrc, _⟩ := own_form hown
                have HS := Lib.hid (rgcs_snoc' [] (q : Int) ((q : Int) + 1))
                simp only [List.length_nil] at *
                clear HO hFq
                go_wp2_with (at_builtin; refine wpList_append_own _ rfl _ _ 33 rfl (w2.heap.size + 1) 70 i0 _ 2 16 Try.underlying33 hi hz0 hz1 hz2 rfl (by decide) _ _ _ rfl (hown.alloc _) ⟨wo.heap.size, 0, none⟩ 1 1 [.int .i64 q, .int .i64 ((q : Int) + 1)] rfl rfl (two_at _ _ _ _) (by simp [Value.oneCell']) (by unfold maxLen; omega) (by omega) (by simp; omega) ?_; intro v' w4 hown4 hgrow _)
                have hb4 := (hbr.alloc hbr.size (.cells #[.int .i64 q, .int .i64 ((q : Int) + 1)] 70)).grown hgrow (by have := hbr.size; simp; omega) (fun j hj => by have := (hown.lt j hj).1; omega)
                have hf4 : w4.heap[w2.heap.size]? = wo.heap[w2.heap.size]? := (hgrow.block _ (by simp; omega) (fun e => own_ne hown (by omega) e.symm)).trans (Below.heap_alloc wo _ _ hsr)
                go_roundw
                case rel => exact ⟨q + 1, [((q : Int), (q : Int) + 1)], by omega, by go_num, by rw [HS.out] at hown4; exact hown4, hb4, by have := hgrow.size; simp at this; omega, by simp, Lib.hid (HF.out.of_block hf4), Lib.hid H2.out.symm⟩
                case measure => simp [intOf]; omega
              · rw [List.concat_eq_append] at *
                have hdl : (d ++ [(a, b)]).length = d.length + 1 := by simp
                rw [hdl] at hown hol
                obtain ⟨g, cap, rfl⟩ := ownsRow_succ hown
                have hg2 : (rgcs (d ++ [(a, b)]))[d.length * 2 + 1]? = some (.int .i64 b) := (rgcs_at (l := d ++ [(a, b)]) (k := d.length) (e := (a, b)) (by simp)).2
                have cg := hown.cellAt (d.length * 2 + 1) (by omega)
                rw [hg2] at cg
                have fg := hown.frozenAt (d.length * 2 + 1)
                have z1 : (0 : Int) ≤ (d.length : Int) := by omega
                have z2 : (d.length : Int) < (d.length : Int) + 1 := by omega
                by_cases hbq : b = (q : Int)
                · have H2 := Lib.hid (runs_ext hFq HO.out.symm hbq)
                  have HST := hown.stored (d.length * 2 + 1) (.int .i64 ((q : Int) + 1))
                  rw [rgcs_set] at HST
                  have hgb := (hown.lt g rfl).1
                  have hbe : (b == (q : Int)) = true := by simp [hbq]
                  have HdL := Lib.hid hdl
                  clear HO hFq hg2 hdl hbq
                  have hBs := hbr.setCell (p := ⟨g, d.length * 2 + 1, none⟩) (by simp; omega) (.int .i64 ((q : Int) + 1))
                  go_wp2
                  go_roundw
                  case rel => exact ⟨q + 1, d ++ [(a, (q : Int) + 1)], by omega, by go_num, by rw [List.length_append]; exact HST.1, hBs, by simp [World.setCell]; exact hsr, by simp; omega, Lib.hid (HF.out.setOther (by simp; omega) _), Lib.hid H2.out.symm⟩
                  case measure => simp [intOf]; omega
                · have H2 := Lib.hid (runs_new hFq HO.out.symm hbq)
                  have HS := Lib.hid (rgcs_snoc' (d ++ [(a, b)]) (q : Int) ((q : Int) + 1))
                  have hbe : (b == (q : Int)) = false := by simp [hbq]
                  have HdL := Lib.hid hdl
                  clear HO hFq hg2 hdl hbq
                  go_wp2_with (at_builtin; refine wpList_append_own _ rfl _ _ 33 rfl (w2.heap.size + 1) 70 i0 _ 2 16 Try.underlying33 hi hz0 hz1 hz2 rfl (by decide) _ _ _ rfl (hown.alloc _) ⟨wo.heap.size, 0, none⟩ 1 1 [.int .i64 q, .int .i64 ((q : Int) + 1)] rfl rfl (two_at _ _ _ _) (by simp [Value.oneCell']) (by unfold maxLen; omega) (by omega) (by simp; omega) ?_; intro v' w4 hown4 hgrow _)
                  have hb4 := (hbr.alloc hbr.size (.cells #[.int .i64 q, .int .i64 ((q : Int) + 1)] 70)).grown hgrow (by have := hbr.size; simp; omega) (fun j hj => by have := (hown.lt j hj).1; omega)
                  have hf4 : w4.heap[w2.heap.size]? = wo.heap[w2.heap.size]? := (hgrow.block _ (by simp; omega) (fun e => own_ne hown (by omega) e.symm)).trans (Below.heap_alloc wo _ _ hsr)
                  go_roundw
                  case rel => exact ⟨q + 1, (d ++ [(a, b)]) ++ [((q : Int), (q : Int) + 1)], by omega, by go_num, by rw [List.length_append, HdL.out]; rw [HS.out] at hown4; exact hown4, hb4, by have := hgrow.size; simp at this; omega, by simp; omega, Lib.hid (HF.out.of_block hf4), Lib.hid H2.out.symm⟩
                  case measure => simp [intOf]; omega
            · rw [hFq] at cq
              have H2 := Lib.hid ((runs_true hFq).trans HO.out.symm)
              clear hFq HO
              go_wp2
              go_roundw
              case rel => exact ⟨q + 1, out, by omega, by go_num, hown, hbr, hsr, by omega, HF, Lib.hid H2.out.symm⟩
              case measure => simp [intOf]; omega
          · obtain rfl : q = N := by omega
            obtain ⟨ra, rc, rfl, hrc, hRd⟩ := own_form hown
            have HB := hBl hbr
            go_wp2
            go_ret2
            exact HR.out _ ra rc out.length out HO.out rfl hRd HB

end Go.Proofs.Ytnijaleedbmljaa
