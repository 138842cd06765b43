/- Walks: a style's text (the document's). -/
import Derived.Test.YtliabgcpciekpaaDoorYeG
import Derived.Test.YtliabgcpciekpaaDoorYeH
set_option linter.unusedVariables false
set_option linter.unusedSimpArgs false
namespace Go.Proofs.YtliabgcpciekpaaDoor
open Go Go.RowKit

/-- The document's numeral, called where a cell and what lies below are to stay. -/
theorem Num_keep (n : Int) (h0 : 0 ≤ n) (h1 : n ≤ 1000000) (w : World) (p : Addr) (u : Value) (W : World) (hS : W.cell? p = some u ∧ Below w.heap.size w W) :
    Calls Tryd.prog 45 #[.int .i64 n] W fun e w' => e = .returned (.string (bs (Lib.itoa n))) ∧ w'.cell? p = some u ∧ Below w.heap.size w w' := by
  obtain ⟨m, rfl⟩ := Int.eq_ofNat_of_zero_le h0
  refine (Num_any m W (by omega)).mono ?_
  rintro e w' ⟨rfl, k, rfl⟩
  refine ⟨?_, by rw [World.cell?_drewN]; exact hS.1, below_drewN hS.2 k⟩
  unfold Lib.itoa
  rw [if_neg (by omega)]
  rfl

set_option maxRecDepth 100000 in
set_option maxHeartbeats 8000000 in
theorem refPrint_any (v : Nat → Int) (hfl : St.Fl v) (w : World) :
    Calls Tryd.prog 14 #[.agg (St.stv v).toArray] w (PrRes v w) := by
  have hf0 := fld0
  have S0 := Sty.new w v
  have SR := S0.range
  have hb0 := (Below.refl w.heap.size w).alloc (Nat.le_refl _) (.cells (St.stv v).toArray 23)
  have SR2 := Lib.hid (fun W (hb : Below (w.heap.size + 1) (w.alloc (.cells (St.stv v).toArray 23)) W) => (S0.below hb (by omega)).range)
  have hs1 : (w.alloc (.cells (St.stv v).toArray 23)).heap.size = w.heap.size + 1 := by simp
  have CK := refCheck_any v hfl
  have NC := Lib.hid (numbers_any v hfl)
  have hlen := St.stv_len v
  have hinfo : (Tryd.prog.info? 23).map (·.size) = some (St.stv v).length := by rw [hlen]; kernel_rfl
  have HS1 := Lib.hid hs1
  cases hno : St.chk v
  · rw [hno] at CK
    have CK := Lib.hid CK
    have HR : Hid (∀ w', Below w.heap.size w w' → PrRes v w (.returned (.tuple #[.string (bs []), .int .i64 90])) w') := Lib.hid (fun w' hb => ⟨by rw [hno]; rfl, hb⟩)
    clear hno S0 hlen hs1
    go_enter Tryd.func14, Tryd.ntmps14
    go_wp2_with (first
      | (refine wpList_load_mid rfl _ _ rfl _ _ rfl (St.stv v) _ SR Tryd.underlying23 rfl hinfo ?_)
      | (go_at_call 16; (with_reducible refine (CK.out _).mono ?_); rintro e w1 ⟨rfl, b1⟩))
    go_ret2
    exact HR.out _ (hb0.trans (b1.mono hb0.size))
  · have HCI := Lib.hid ((St.chk_iff v).1 hno)
    rw [hno] at CK
    have CK := Lib.hid CK
    have HR : Hid (∀ w', Below w.heap.size w w' → PrRes v w (.returned (.tuple #[.string (bs (St.txt v 18)), .int .i64 0])) w') := Lib.hid (fun w' hb => ⟨by rw [hno]; rfl, hb⟩)
    clear hno S0 hlen hs1
    go_enter Tryd.func14, Tryd.ntmps14
    go_wp2_with (first
      | (refine wpList_load_mid rfl _ _ rfl _ _ rfl (St.stv v) _ SR Tryd.underlying23 rfl hinfo ?_)
      | (refine wpList_load_mid rfl _ _ rfl _ _ rfl (St.stv v) _ SRb Tryd.underlying23 rfl hinfo ?_)
      | (go_at_call 16; (with_reducible refine (CK.out _).mono ?_); rintro e w1 ⟨rfl, b1⟩; have SRb := SR2.out _ (by rw [HS1.out] at b1; exact b1); have hb1 := hb0.trans (b1.mono hb0.size))
      | (go_at_call 43; (with_reducible refine (NC.out _).mono ?_); rintro e w2 ⟨g, rfl, r1, b2⟩; have hb2 := hb1.trans (b2.mono hb1.size)))
    clear SR SRb hinfo hb0 b1 b2 hb1
    go_loopw [6, 7] (fun s i wr => ∃ (k : Nat) (dn : List UInt8), k ≤ 18 ∧ s = .string (bs dn) ∧ i = .int .i64 k ∧ Hid (dn = St.txt v k) ∧ dn.length ≤ k * 2000000 ∧ Below w2.heap.size w2 wr) (fun _ i _ => 18 - (intOf i).toNat)
    case atStart => exact ⟨0, [], by omega, rfl, rfl, Lib.hid rfl, by simp, Below.refl _ _⟩
    case round =>
      obtain ⟨k, dn, hk, rfl, rfl, HD, hdl, hbw⟩ := hrel
      obtain ⟨wo, rfl⟩ : ∃ wo : World, wo = wr := ⟨_, rfl⟩
      by_cases hlt : k < 18
      · have r2 := r1.later hbw
        obtain ⟨g', o', e', hg, hcell⟩ := r2.2 (by omega)
        cases e'
        have ck := hcell k _ (vals_at v hlt)
        rw [Nat.zero_add] at ck
        have hkI : (k : Int) < 18 := by omega
        have hk0 : (0 : Int) ≤ (k : Int) := by omega
        have hvr := HCI.out k hlt
        have hlo := St.low_bd k
        have hhi := St.high_bd k hlt
        have NK := Lib.hid (Num_keep (v k) (by omega) (by omega) w2 ⟨g, k, none⟩ (.int .i64 (v k)))
        have EK := Lib.hid (refentry_keep k hlt w2 ⟨g, k, none⟩ (.int .i64 (v k)))
        have HP := Lib.hid (show St.txt v (k + 1) = ((((dn ++ St.nm k) ++ [32, 61, 32]) ++ Lib.itoa (v k)) ++ [10]) by rw [St.txt_succ, ← HD.out]; simp [St.ln])
        have HL := Lib.hid (show (St.txt v (k + 1)).length ≤ (k + 1) * 2000000 by
          have h1 := St.ln_len hlt hvr
          rw [St.txt_succ, List.length_append, ← HD.out]
          omega)
        have hnl := St.nm_len k hlt
        have hil := St.itoa_le (n := v k) (by omega) (by omega)
        have z0 : (bs dn).size = dn.length := bs_size dn
        have z1 : (bs (St.nm k)).size = (St.nm k).length := bs_size _
        have z2 : (bs (Lib.itoa (v k))).size = (Lib.itoa (v k)).length := bs_size _
        clear hcell r2 hvr hlo hhi
        generalize Lib.itoa (v k) = p2 at *
        generalize St.nm k = p1 at *
        have q1 : ¬ 9223372036854775807 < dn.length + p1.length := by omega
        have q2 : ¬ 9223372036854775807 < dn.length + p1.length + 3 := by omega
        have q3 : ¬ 9223372036854775807 < dn.length + p1.length + 3 + p2.length := by omega
        have q4 : ¬ 9223372036854775807 < dn.length + p1.length + 3 + p2.length + 1 := by omega
        go_wp2
        go_region_held3 (fun w' => w'.cell? ⟨g, k, none⟩ = some (.int .i64 (v k)) ∧ Below w2.heap.size w2 w') (first | (refine And.intro ?_ ?_ <;> (first | assumption | (exact Below.drew (by assumption)) | go_keep)) | assumption | (exact Below.drew (by assumption)) | go_keep) (first | (go_at_call 44; refine (EK.out _ ?_).mono ?_; (first | assumption | (refine And.intro ?_ ?_ <;> (first | assumption | (exact Below.drew (by assumption)) | (simp [*])))); rintro e w' ⟨rfl, hx1, hx2⟩) | (go_at_call 45; refine (NK.out _ ?_).mono ?_; (first | assumption | (refine And.intro ?_ ?_ <;> (first | assumption | (exact Below.drew (by assumption)) | (simp [*])))); rintro e w' ⟨rfl, hy1, hy2⟩))
        all_goals go_wp2
        all_goals refine ⟨⟨k + 1, ((((dn ++ p1) ++ [32, 61, 32]) ++ p2) ++ [10]), by omega, (by show Value.string (bs dn ++ bs p1 ++ bs [32, 61, 32] ++ bs p2 ++ bs [10]) = _; rw [bs_cat, bs_cat, bs_cat, bs_cat]), by go_num, Lib.hid HP.out.symm, by have := HL.out; rw [HP.out] at this; exact this, by assumption⟩, by simp [intOf]; omega⟩
      · obtain rfl : k = 18 := by omega
        have HX := HD.out
        subst HX
        generalize St.txt v 18 = z at *
        go_wp2
        go_ret2
        exact HR.out _ (hb2.trans (hbw.mono hb2.size))

end Go.Proofs.YtliabgcpciekpaaDoor
