/- The law StyleNames, walked. -/
import Derived.Test.YtliabgcpciekpaaDoorSnA
import Derived.Test.YtliabgcpciekpaaDoorYBld
import Derived.Laws.BytesArg
import Derived.Laws.IdiomStrings
set_option linter.unusedVariables false
set_option linter.unusedSimpArgs false
namespace Go.Proofs.YtliabgcpciekpaaDoor
open Go Go.RowKit

/-- A row of bytes: blanks up to k, then noughts. -/
def bk (k n : Nat) : List Value := (List.range n).map fun i => .int .u8 (if i < k then 32 else 0)
theorem bk_length (k n : Nat) : (bk k n).length = n := by simp [bk]
theorem bk_at (k : Nat) {n j : Nat} (h : j < n) : (bk k n)[j]? = some (.int .u8 (if j < k then 32 else 0)) := by simp [bk, h]
theorem bk_set (k n : Nat) (h : k < n) : (bk k n).set k (.int .u8 32) = bk (k + 1) n := by
  apply List.ext_getElem?
  intro i
  rw [List.getElem?_set]
  by_cases hi : i < n
  · rw [bk_at _ hi, bk_at _ hi, bk_length]
    by_cases e : k = i
    · subst e; simp [hi]
    · rw [if_neg e]
      by_cases h2 : i < k
      · rw [if_pos h2, if_pos (by omega)]
      · rw [if_neg h2, if_neg (by omega)]
  · rw [List.getElem?_eq_none_iff.2 (by rw [bk_length]; omega), List.getElem?_eq_none_iff.2 (by rw [bk_length]; omega), if_neg (by omega)]
theorem made_bk (n : Nat) : (madeCells (Value.int .u8 0).cells (n * 1)).toList = bk 0 n := by
  rw [Nat.mul_one]
  rw [show (Value.int .u8 0).cells = #[.int .u8 0] from rfl, toList_madeCells_one]
  apply List.ext_getElem?
  intro i
  by_cases hi : i < n
  · rw [bk_at _ hi]; simp [hi]
  · rw [List.getElem?_eq_none_iff.2 (by simp; omega), List.getElem?_eq_none_iff.2 (by rw [bk_length]; omega)]
theorem u8Info : (Tryd.prog.info? 5).map (fun i => (i.zero, i.size, i.bytes)) = some (some (.int .u8 0), 1, 1) := by kernel_rfl
theorem info_partsB {e : TypeId} {z : Value} {size bytes : Nat} (h : (Tryd.prog.info? e).map (fun i => (i.zero, i.size, i.bytes)) = some (some z, size, bytes)) : ∃ i, Tryd.prog.info? e = some i ∧ i.zero = some z ∧ i.size = size ∧ i.bytes = bytes := by
  cases hi : Tryd.prog.info? e with
  | none => rw [hi] at h; cases h
  | some i => rw [hi] at h; simp at h; exact ⟨i, rfl, h.1, h.2.1, h.2.2⟩

set_option maxRecDepth 100000 in
set_option maxHeartbeats 16000000 in
theorem StyleNames_any (w : World) (hp : Pow w) :
    Calls Tryd.prog 9 #[] w fun e w' => e = .returned (.bool true) ∧ Below w.heap.size w w' := by
  obtain ⟨P1, hx, hsz, hpr⟩ := sn_print
  have hszI : (13 : Int) ≤ (P1.size : Int) := by omega
  obtain ⟨NN, hN⟩ : ∃ NN : Nat, NN = 65537 := ⟨_, rfl⟩
  have hN1 : NN ≤ 65537 := by omega
  have hN2 : 65537 ≤ NN := by omega
  have HN := Lib.hid hN; clear hN
  obtain ⟨i0, hi, hz0, hz1, hz2⟩ := info_partsB u8Info
  have KP := Lib.hid hpr; clear hpr
  have KP0 := Lib.hid sn_print0
  have KC := Lib.hid sn_check
  have KC0 := Lib.hid sn_check0
  have KS := Lib.hid sn_parse
  have KL := Lib.hid sn_long
  have KF := Lib.hid (fun W => First_any W)
  have AL := Lib.hid (fun W => styleAlive_any W)
  have hE := eqSt_f
  have hg := eq_guardSt
  have hinfo : (Tryd.prog.info? 23).map (·.size) = some (St.stv (fv 18)).length := by rw [St.stv_len]; kernel_rfl
  have HP0 := Lib.hid hp; clear hp
  have B0 := Lib.hid (Below.refl w.heap.size w)
  have KR0 := Lib.hid sr0
  have KR1 := Lib.hid sr1
  have KR2 := Lib.hid sr2
  have KR3 := Lib.hid sr3
  have KR4 := Lib.hid sr4
  have KR5 := Lib.hid sr5
  have KR6 := Lib.hid sr6
  have KR7 := Lib.hid sr7
  have KR8 := Lib.hid sr8
  have KR9 := Lib.hid sr9
  go_enter Tryd.func9, Tryd.ntmps9
  go_wp2_with (first
    | (go_at_call 19; (with_reducible refine (KF.out w).mono ?_); rintro e w1 ⟨rfl, b1⟩; have B1 := Lib.hid (B0.out.trans (b1.mono B0.out.size)); have HP1 := Lib.hid (HP0.out.later b1))
    | (refine wpList_store_mid rfl _ _ _ rfl _ _ (St.stv (fv 18)).toArray rfl rfl (st_there w1 (fv 18)) (sty_info (fv 18)) (sty_one (fv 18)) ?_; refine gen_world2 (Q := fun W => wpList _ _ _ _ _ W) (fun W => Sty W w1.heap.size (fv 18) ∧ Below w1.heap.size w1 W ∧ W.heap.size = w1.heap.size + 1) (st_first w1 (fv 18)) ?_; rintro w2 ⟨q2, b2, -⟩; have B2 := Lib.hid (B1.out.trans (b2.mono B1.out.size)); have HP2 := Lib.hid (HP1.out.later b2); have S_2 := Lib.hid q2; clear q2; (try dsimp only); simp only [Act.put, List.setIfInBounds_toArray, List.set_cons_zero, List.set_cons_succ])
    | (go_at_call 21; (with_reducible refine (AL.out w2).mono ?_); rintro e w3 ⟨rfl, b3⟩; have B3 := Lib.hid (B2.out.trans (b3.mono B2.out.size)); have HP3 := Lib.hid (HP2.out.later b3); have S_3 := Lib.hid (S_2.out.later b3); have SRa := S_3.out.range)
    | (refine wpList_load_guarded (by rfl) _ _ rfl _ _ rfl (St.stv (fv 18)) _ SRa Tryd.underlying23 rfl hinfo ?_)
    | (go_at_call 28; (with_reducible refine (KR0.out w3).mono ?_); rintro e w4 ⟨rfl, b4⟩; have B4 := Lib.hid (B3.out.trans (b4.mono B3.out.size)); have HP4 := Lib.hid (HP3.out.later b4); have S_4 := Lib.hid (S_3.out.later b4))
    | (go_at_call 28; (with_reducible refine (KR1.out w4).mono ?_); rintro e w5 ⟨rfl, b5⟩; have B5 := Lib.hid (B4.out.trans (b5.mono B4.out.size)); have HP5 := Lib.hid (HP4.out.later b5); have S_5 := Lib.hid (S_4.out.later b5))
    | (go_at_call 28; (with_reducible refine (KR2.out w5).mono ?_); rintro e w6 ⟨rfl, b6⟩; have B6 := Lib.hid (B5.out.trans (b6.mono B5.out.size)); have HP6 := Lib.hid (HP5.out.later b6); have S_6 := Lib.hid (S_5.out.later b6))
    | (go_at_call 28; (with_reducible refine (KR3.out w6).mono ?_); rintro e w7 ⟨rfl, b7⟩; have B7 := Lib.hid (B6.out.trans (b7.mono B6.out.size)); have HP7 := Lib.hid (HP6.out.later b7); have S_7 := Lib.hid (S_6.out.later b7))
    | (go_at_call 28; (with_reducible refine (KR4.out w7).mono ?_); rintro e w8 ⟨rfl, b8⟩; have B8 := Lib.hid (B7.out.trans (b8.mono B7.out.size)); have HP8 := Lib.hid (HP7.out.later b8); have S_8 := Lib.hid (S_7.out.later b8))
    | (go_at_call 28; (with_reducible refine (KR5.out w8).mono ?_); rintro e w9 ⟨rfl, b9⟩; have B9 := Lib.hid (B8.out.trans (b9.mono B8.out.size)); have HP9 := Lib.hid (HP8.out.later b9); have S_9 := Lib.hid (S_8.out.later b9))
    | (go_at_call 28; (with_reducible refine (KR6.out w9).mono ?_); rintro e w10 ⟨rfl, b10⟩; have B10 := Lib.hid (B9.out.trans (b10.mono B9.out.size)); have HP10 := Lib.hid (HP9.out.later b10); have S_10 := Lib.hid (S_9.out.later b10))
    | (go_at_call 28; (with_reducible refine (KR7.out w10).mono ?_); rintro e w11 ⟨rfl, b11⟩; have B11 := Lib.hid (B10.out.trans (b11.mono B10.out.size)); have HP11 := Lib.hid (HP10.out.later b11); have S_11 := Lib.hid (S_10.out.later b11))
    | (go_at_call 28; (with_reducible refine (KR8.out w11).mono ?_); rintro e w12 ⟨rfl, b12⟩; have B12 := Lib.hid (B11.out.trans (b12.mono B11.out.size)); have HP12 := Lib.hid (HP11.out.later b12); have S_12 := Lib.hid (S_11.out.later b12))
    | (go_at_call 28; (with_reducible refine (KR9.out w12).mono ?_); rintro e w13 ⟨rfl, b13⟩; have B13 := Lib.hid (B12.out.trans (b13.mono B12.out.size)); have HP13 := Lib.hid (HP12.out.later b13); have S_13 := Lib.hid (S_12.out.later b13))
    | (go_at_call 17; (with_reducible refine (KS.out w13).mono ?_); rintro e w14 ⟨rfl, b14⟩; have B14 := Lib.hid (B13.out.trans (b14.mono B13.out.size)); have HP14 := Lib.hid (HP13.out.later b14); have S_14 := Lib.hid (S_13.out.later b14))
    | (refine wpList_store_mid rfl _ _ _ rfl _ _ (St.stv snV).toArray rfl rfl (st_there w14 snV) (sty_info snV) (sty_one snV) ?_; refine gen_world2 (Q := fun W => wpList _ _ _ _ _ W) (fun W => Sty W w14.heap.size snV ∧ Below w14.heap.size w14 W ∧ W.heap.size = w14.heap.size + 1) (st_first w14 snV) ?_; rintro w15 ⟨q15, b15, -⟩; have B15 := Lib.hid (B14.out.trans (b15.mono B14.out.size)); have HP15 := Lib.hid (HP14.out.later b15); have S_15 := Lib.hid (S_14.out.later b15); have T_15 := Lib.hid q15; clear q15; have SRb := S_15.out.range; (try dsimp only); simp only [Act.put, List.setIfInBounds_toArray, List.set_cons_zero, List.set_cons_succ])
    | (refine wpList_load_mid rfl _ _ rfl _ _ rfl (St.stv (fv 18)) _ SRb Tryd.underlying23 rfl hinfo ?_)
    | (go_at_call 13; (with_reducible refine (KP.out w15 HP15.out).mono ?_); rintro e w16 ⟨rfl, b16⟩; have B16 := Lib.hid (B15.out.trans (b16.mono B15.out.size)); have HP16 := Lib.hid (HP15.out.later b16); have S_16 := Lib.hid (S_15.out.later b16); have T_16 := Lib.hid (T_15.out.later b16))
    | (go_at_call 13; (with_reducible refine (KP0.out w16 HP16.out).mono ?_); rintro e w17 ⟨rfl, b17⟩; have B17 := Lib.hid (B16.out.trans (b17.mono B16.out.size)); have HP17 := Lib.hid (HP16.out.later b17); have S_17 := Lib.hid (S_16.out.later b17); have T_17 := Lib.hid (T_16.out.later b17))
    | (at_make; refine wpList_make_full _ rfl _ _ 54 rfl w17.heap.size 5 i0 _ 1 Tryd.underlying54 hi hz0 hz1 .i64 .i64 65537 65537 NN rfl rfl (by rw [HN.out]; rfl) (by rw [HN.out]; rfl) (by rw [hz2]; omega) (by unfold maxLen; omega) (Nat.le_refl _) ?_; intro w18 hown hgrow; rw [made_bk] at hown))
  have b18 : Below w17.heap.size w17 w18 := (Below.refl _ _).grown hgrow (Nat.le_refl _) (fun k e => by cases e)
  have BB := B17.out.trans (b18.mono B17.out.size)
  have SS := S_17.out.later b18
  have TT := T_17.out.later b18
  have hbs := B17.out.size
  have hs1 := S_17.out.lt
  have ht1 := T_17.out.lt
  generalize hgg : w17.heap.size = g at hown b18
  go_loopw [12] (fun i wr => ∃ k : Nat, k ≤ NN ∧ i = .int .i64 k ∧ wr.ownsRow g 5 1 (.slice (some ⟨g, 0, none⟩) NN NN) NN (bk k NN) ∧ Below g w17 wr) (fun i _ => NN - (intOf i).toNat)
  case atStart => exact ⟨0, Nat.zero_le _, rfl, hown, b18⟩
  case round =>
    obtain ⟨k, hk, rfl, hrow, hb⟩ := hrel
    obtain ⟨wo, rfl⟩ : ∃ wo : World, wo = wr := ⟨_, rfl⟩
    by_cases hlt : k < NN
    · have ck := hrow.cellAt k (by omega)
      rw [bk_at _ hlt] at ck
      have fk := hrow.frozenAt k
      have HS := Lib.hid (hrow.stored k (.int .u8 32))
      have hb3 := Lib.hid (hb.setCell (p := ⟨g, k, none⟩) (Nat.le_refl _) (.int .u8 32))
      clear hrow hb
      go_wp2
      go_roundw
      case rel => exact ⟨k + 1, by omega, by go_num, by have := HS.out.1; rw [bk_set _ _ hlt] at this; exact this, hb3.out⟩
      case measure => simp [intOf]; omega
    · obtain rfl : k = NN := by omega
      have hcv : (convert 54 9 (.slice (some ⟨g, 0, none⟩) k k)).run Tryd.prog wo = .ok (.string ⟨(List.replicate k 32).toArray⟩) wo := by
        have := run_convert_bytes_back (P := Tryd.prog) wo 54 9 5 ⟨g, 0, none⟩ k (List.replicate k 32) Tryd.underlying54 Tryd.underlying5 Tryd.underlying9 (fun j hj => by
          rw [List.length_replicate] at hj
          have := hrow.cellAt j (by omega)
          rw [bk_at _ hj, if_pos hj] at this
          rw [List.getElem_replicate]
          rw [show (⟨g, 0, none⟩ : Addr).add j = ⟨g, 0 + j, none⟩ by unfold Addr.add; split <;> simp_all, Nat.zero_add]
          exact this)
        rwa [List.length_replicate] at this
      obtain ⟨sl, hsl⟩ : ∃ sl : ByteArray, sl = ⟨(List.replicate k 32).toArray⟩ := ⟨_, rfl⟩
      have hln : 65536 < sl.data.toList.length := by rw [hsl]; simp; omega
      rw [← hsl] at hcv
      have KL1 := Lib.hid (fun W => KL.out sl hln W)
      clear hln hsl hrow

      have hb' : Below w17.heap.size w17 wo := by rw [hgg]; exact hb
      have S_18 := Lib.hid (S_17.out.later hb')
      have T_18 := Lib.hid (T_17.out.later hb')
      have B_ := Lib.hid (B17.out.trans (hb'.mono B17.out.size))
      obtain ⟨w18', rfl⟩ : ∃ W : World, W = wo := ⟨_, rfl⟩
      have B18 := B_
      clear SS TT BB hb hb' hgrow hs1 ht1 hbs
      go_wp2_with (first
        | (go_at_call 17; (with_reducible refine (KL1.out w18').mono ?_); rintro e w19 ⟨rfl, b19⟩; have B19 := Lib.hid (B18.out.trans (b19.mono B18.out.size)); have S_19 := Lib.hid (S_18.out.later b19); have T_19 := Lib.hid (T_18.out.later b19))
        | (refine wpList_store_mid rfl _ _ _ rfl _ _ (St.stv (fv 0)).toArray rfl rfl (st_there w19 (fv 0)) (sty_info (fv 0)) (sty_one (fv 0)) ?_; refine gen_world2 (Q := fun W => wpList _ _ _ _ _ W) (fun W => Sty W w19.heap.size (fv 0) ∧ Below w19.heap.size w19 W ∧ W.heap.size = w19.heap.size + 1) (st_first w19 (fv 0)) ?_; rintro w20 ⟨q20, b20, -⟩; have B20 := Lib.hid (B19.out.trans (b20.mono B19.out.size)); have S_20 := Lib.hid (S_19.out.later b20); have T_20 := Lib.hid (T_19.out.later b20); clear q20; have SRc := S_20.out.range; have a17 := T_20.out.cell (i := 17) (by omega); rw [cellN_int rfl] at a17; have a17 := (show _ = some (Value.int .i64 1000000) from a17); have a0 := T_20.out.cell (i := 0) (by omega); rw [cellN_int rfl] at a0; have a0 := (show _ = some (Value.int .i64 4096) from a0); (try dsimp only); simp only [Act.put, List.setIfInBounds_toArray, List.set_cons_zero, List.set_cons_succ])
        | (refine wpList_load_guarded (by rfl) _ _ rfl _ _ rfl (St.stv (fv 18)) _ SRc Tryd.underlying23 rfl hinfo ?_)
        | (go_at_call 15; (with_reducible refine (KC.out w20).mono ?_); rintro e w21 ⟨rfl, b21⟩; have B21 := Lib.hid (B20.out.trans (b21.mono B20.out.size)); have S_21 := Lib.hid (S_20.out.later b21); have T_21 := Lib.hid (T_20.out.later b21))
        | (go_at_call 15; (with_reducible refine (KC0.out w21).mono ?_); rintro e w22 ⟨rfl, b22⟩; have B22 := Lib.hid (B21.out.trans (b22.mono B21.out.size)); have S_22 := Lib.hid (S_21.out.later b22); have T_22 := Lib.hid (T_21.out.later b22)))
      go_ret
      exact ⟨rfl, B22.out⟩

end Go.Proofs.YtliabgcpciekpaaDoor
