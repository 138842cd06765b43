/- The law PlaceRises: a greater place is not moved ahead of a less one; each byte that is kept stands where its place moves to, and from there it comes back. -/
import Derived.Test.YtnijaleedbmljaaPlaceMoves
import Derived.Test.YtnijaleedbmljaaPlL
import Derived.Test.YtnijaleedbmljaaEditMakes
import Derived.Deep.QuietTactic
import Derived.BigQuiet
set_option linter.unusedVariables false
set_option linter.unusedSimpArgs false
namespace Go.Proofs.Ytnijaleedbmljaa
open Go Go.RowKit

set_option maxRecDepth 100000 in
set_option maxHeartbeats 4000000 in
theorem PlaceRises_any (s : ByteArray) (A : Option Addr) (c : Nat) (l : List Pl.Ed) (pa pb : Int) (w : World) (hs : s.size ≤ maxLen) (hsb : s.size ≤ 1048576) (hl : l.length ≤ maxLen) (hlb : l.length ≤ 1048576) (hx : ∀ e ∈ l, e.x.length ≤ 1048576) (h : Rd w 3 A l.length (edcs l)) (wa : (Lit.int .i64 pa).wf = true) (wb : (Lit.int .i64 pb).wf = true) :
    Calls Try.prog 9 #[.string s, .slice A l.length c, .int .i64 pa, .int .i64 pb] w fun e w' => e = .returned (.bool true) ∧ Below w.heap.size w w' := by
  clear hl hs wa wb
  have KG := Lib.hid (fun w h => great_any s A c l w (by omega) hlb hx h _ rfl)
  by_cases hg : 2000 < grt s.size l
  · have hd : decide (2000 < grt s.size l) = true := by simpa using hg
    rw [hd] at KG
    clear hg hd hx
    go_enter Try.func9, Try.ntmps9
    go_wp2_with (first | (go_at_call 36; refine (alive20_any _).mono ?_; rintro e w0 ⟨rfl, hb0⟩) | (go_at_call 17; refine (KG.out _ (h.later hb0)).mono ?_; rintro e w' ⟨rfl, rfl⟩))
    go_ret
    exact ⟨rfl, hb0⟩
  have hd : decide (2000 < grt s.size l) = false := by simpa using hg
  rw [hd] at KG
  obtain ⟨h1, hsm, h3, h4⟩ := small_of (show grt s.size l ≤ 2000 by omega)
  have hap := small_app (show grt s.size l ≤ 2000 by omega)
  by_cases hs1 : 1000 < s.size
  · have hd1 : decide ((1000 : Int) < (s.size : Int)) = true := by simp; omega
    clear hg hd hx
    go_enter Try.func9, Try.ntmps9
    go_wp2_with (first | (go_at_call 36; refine (alive20_any _).mono ?_; rintro e w0 ⟨rfl, hb0⟩) | (go_at_call 17; refine (KG.out _ (h.later hb0)).mono ?_; rintro e w' ⟨rfl, rfl⟩))
    go_ret
    exact ⟨rfl, hb0⟩
  have hd1 : decide ((1000 : Int) < (s.size : Int)) = false := by simp; omega
  have C1 := fun w h => Apply_any s A c l w (by omega) h hsm (fun _ => by omega)
  have C2 := fun n w h => Move_all s A c l n w (by omega) h hsm
  have C3 := fun w h => Kept_all s A c l w (by omega) h hsm
  by_cases hall : fitS s.data.toList l = true ∧ (0 ≤ pa ∧ pa ≤ s.size) ∧ (0 ≤ pb ∧ pb ≤ s.size)
  rotate_left
  · -- something is refused
    obtain ⟨x1, er1, hA⟩ : ∃ (x1 : ByteArray) (er1 : Int), applyRes s.data.toList l = .tuple #[.string x1, .int .i64 er1] := by unfold applyRes; split <;> exact ⟨_, _, rfl⟩
    obtain ⟨p1, er2, hM1⟩ := mvRes_two s.data.toList l pa
    obtain ⟨p2, er3, hM2⟩ := mvRes_two s.data.toList l pb
    have hor : er1 ≠ 0 ∨ er2 ≠ 0 ∨ er3 ≠ 0 := by
      by_cases hf : fitS s.data.toList l = true
      · have hlen : (s.data.toList.length : Int) = s.size := by rw [← Lib.size_eq]
        by_cases ha : 0 ≤ pa ∧ pa ≤ s.size
        · right; right
          unfold mvRes at hM2
          have hnb : ¬ (0 ≤ pb ∧ pb ≤ s.size) := fun hb => hall ⟨hf, ha, hb⟩
          rw [if_pos hf, if_pos (by rw [hlen]; omega)] at hM2
          simp only [Value.tuple.injEq, Array.mk.injEq, List.cons.injEq, Value.int.injEq, and_true, true_and] at hM2
          omega
        · right; left
          unfold mvRes at hM1
          rw [if_pos hf, if_pos (by rw [hlen]; omega)] at hM1
          simp only [Value.tuple.injEq, Array.mk.injEq, List.cons.injEq, Value.int.injEq, and_true, true_and] at hM1
          omega
      · left
        unfold applyRes at hA
        rw [if_neg hf] at hA
        simp only [Value.tuple.injEq, Array.mk.injEq, List.cons.injEq, Value.int.injEq, and_true, true_and] at hA
        omega
    rw [hA] at C1
    have C2b := C2 pb
    have C2 := C2 pa
    rw [hM1] at C2
    rw [hM2] at C2b
    have K1 := Lib.hid C1; clear C1
    have K2 := Lib.hid C2; clear C2
    have K2b := Lib.hid C2b; clear C2b
    clear C3 hA hM1 hM2 hall hg hd hx h4 hap
    have hor2 : ((er1 != 0) = true) ∨ ((er1 != 0) = false ∧ (er2 != 0) = true) ∨ ((er1 != 0) = false ∧ (er2 != 0) = false ∧ (er3 != 0) = true) := by
      by_cases e1 : er1 = 0
      · by_cases e2 : er2 = 0
        · right; right; exact ⟨by simp [e1], by simp [e2], by rw [bne_iff_ne]; omega⟩
        · right; left; exact ⟨by simp [e1], by rw [bne_iff_ne]; exact e2⟩
      · left; rw [bne_iff_ne]; exact e1
    clear hor
    rcases hor2 with d1 | ⟨d1, d2⟩ | ⟨d1, d2, d3⟩
    all_goals
      go_enter Try.func9, Try.ntmps9
      go_wp2_with (first
        | (go_at_call 36; refine (alive20_any _).mono ?_; rintro e w0 ⟨rfl, B0⟩; have H0 := h.later B0)
        | (go_at_call 17; refine (KG.out _ H0).mono ?_; rintro e w' ⟨rfl, rfl⟩)
        | (go_at_call 25; refine (K1.out _ H0).mono ?_; rintro e w1 ⟨rfl, b⟩; have B1 := B0.trans (b.mono B0.size); have H1 := H0.later b; clear b)
        | (go_at_call 18; with_reducible refine (K2.out _ H1).mono ?_; rintro e w2 ⟨rfl, b⟩; have B2 := B1.trans (b.mono B1.size); have H2 := H1.later b; clear b)
        | (go_at_call 18; with_reducible refine (K2b.out _ H2).mono ?_; rintro e w3 ⟨rfl, b⟩; have B3 := B2.trans (b.mono B2.size); clear b))
      go_ret
      exact ⟨rfl, B3⟩
  · obtain ⟨hf, hpa, hpb⟩ := hall
    obtain ⟨na, rfl⟩ : ∃ m : Nat, pa = m := ⟨pa.toNat, by omega⟩
    obtain ⟨nb, rfl⟩ : ∃ m : Nat, pb = m := ⟨pb.toNat, by omega⟩
    have hszl : s.data.toList.length = s.size := (Lib.size_eq s).symm
    have hna : na ≤ s.data.toList.length := by omega
    have hnb : nb ≤ s.data.toList.length := by omega
    obtain ⟨v1, v2, v3⟩ := mv_both hf hna hnb
    obtain ⟨v4, v5, _⟩ := mv_both hf hnb hna
    rw [apply_fit hf] at C1
    have C2a := C2 na
    have C2b := C2 nb
    rw [mvRes_ok hf hna] at C2a
    rw [mvRes_ok hf hnb] at C2b
    generalize Pl.mv na 0 (spS s.data.toList l) = x1 at *
    generalize Pl.mv nb 0 (spS s.data.toList l) = x2 at *
    have hke : kpErr s.data.toList l = 0 := by unfold kpErr; rw [if_pos hf]
    rw [hke] at C3
    have hkl : (kpOut s.data.toList l).length ≤ 1000 := Nat.le_trans kpOut_len (by omega)
    unfold KeptPost at C3
    obtain ⟨t, ht⟩ : ∃ t : ByteArray, t = bs (Pl.app (Pl.lines s.data.toList) 0 l) := ⟨_, rfl⟩
    have htd : t.data.toList = Pl.app (Pl.lines s.data.toList) 0 l := by rw [ht, bs_data]
    have hts : t.size ≤ 1000000 := by rw [Lib.size_eq, htd]; omega
    have htl : (Pl.app (Pl.lines s.data.toList) 0 l).length = t.size := by rw [← htd, ← Lib.size_eq]
    rw [htl] at v2 v5
    rw [← ht] at C1
    have KM := Lib.hid C2; clear C2
    have KN := Lib.hid (fun (n : Int) w h => From_all s A c l n w (by omega) h hsm)
    have HB := Lib.hid (fun q hq => kept_byte hf (q := q) hq)
    rw [← htd] at HB
    generalize kpOut s.data.toList l = ko at *
    have K1 := Lib.hid C1; clear C1
    have K2 := Lib.hid C2a; clear C2a
    have K2b := Lib.hid C2b; clear C2b
    have K3 := Lib.hid C3; clear C3
    have HSZ := Lib.hid hszl
    have HTD : Hid (t.data.toList.length = t.size) := Lib.hid (Lib.size_eq t).symm
    have hd9 : (¬ na ≤ nb ∧ decide (na ≤ nb) = false) ∨ (na ≤ nb ∧ decide (na ≤ nb) = true ∧ x1 ≤ x2 ∧ decide (x2 < x1) = false) := by
      by_cases hab : na ≤ nb
      · exact .inr ⟨hab, by simpa using hab, v3 hab, by rw [decide_eq_false_iff_not]; have := v3 hab; omega⟩
      · exact .inl ⟨hab, by simpa using hab⟩
    have hv1 : decide (x1 < 0) = false := by simp; omega
    have hv2 : decide ((t.size : Int) < x1) = false := by simp; omega
    clear hf hg hd hx h4 hke ht htd htl hap hszl v1 v2 v3 v4 v5 hpa hpb hna hnb
    rcases hd9 with ⟨hd7, hd9⟩ | ⟨hd7, hd9, hd6, hd8⟩
    all_goals
      go_enter Try.func9, Try.ntmps9
      go_wp2_with (first
        | (go_at_call 36; refine (alive20_any _).mono ?_; rintro e w0 ⟨rfl, B0⟩; have H0 := h.later B0)
        | (go_at_call 17; refine (KG.out _ H0).mono ?_; rintro e w' ⟨rfl, rfl⟩)
        | (go_at_call 25; refine (K1.out _ H0).mono ?_; rintro e w1 ⟨rfl, b⟩; have B1 := B0.trans (b.mono B0.size); have H1 := H0.later b; clear b)
        | (go_at_call 18; with_reducible refine (K2.out _ H1).mono ?_; rintro e w2 ⟨rfl, b⟩; have B2 := B1.trans (b.mono B1.size); have H2 := H1.later b; clear b)
        | (go_at_call 18; with_reducible refine (K2b.out _ H2).mono ?_; rintro e w4 ⟨rfl, b⟩; have B2' := B2.trans (b.mono B2.size); have H2' := H2.later b; clear b)
        | (go_at_call 22; refine (K3.out _ H2').mono ?_; rintro e w3 ⟨Y, cy, rfl, rY, b⟩; have B3 := B2'.trans (b.mono B2'.size); have H3 := H2'.later b; clear b))
      clear hd9 hv1 hv2
      go_loopw [18, 19, 20, 21, 22, 23, 24] (fun iv _ _ _ _ _ _ wr => ∃ i : Nat, i ≤ ko.length ∧ iv = .int .i64 i ∧ Below w3.heap.size w3 wr) (fun iv _ _ _ _ _ _ _ => ko.length - (intOf iv).toNat)
      case atStart => exact ⟨0, Nat.zero_le _, rfl, Below.refl _ _⟩
      case round =>
        obtain ⟨i, hi, rfl, hbw⟩ := hrel
        by_cases hlt : i < ko.length
        · have hki := List.getElem?_eq_getElem hlt
          obtain ⟨u, v, hq, hv, HQ0⟩ := HB.out ko[i] (List.getElem_mem hlt)
          rw [hq] at hki
          have HQ := Lib.hid HQ0; clear HQ0 hq
          rw [HSZ.out] at hv
          obtain ⟨b1, o1, e1, hbk1, c1, c2⟩ := rY.rg hki
          have c1' := (hbw.cell hbk1).trans c1
          have c2' := (hbw.cell hbk1).trans c2
          simp only at c1' c2'
          clear hki c1 c2
          subst e1
          obtain ⟨wo, rfl⟩ : ∃ wo : World, wo = wr := ⟨_, rfl⟩
          go_wp2
          go_loopw [19, 20, 21, 22, 23, 24] (fun nv _ _ _ _ _ wi => ∃ n : Nat, u ≤ n ∧ (n ≤ v ∨ n = u) ∧ nv = .int .i64 n ∧ Below w3.heap.size w3 wi) (fun nv _ _ _ _ _ _ => v - (intOf nv).toNat)
          case atStart => exact ⟨u, Nat.le_refl _, .inr rfl, rfl, hbw⟩
          case round =>
            obtain ⟨n, hn1, hn2, rfl, hbi⟩ := hrel
            have d2 := (hbi.cell hbk1).trans ((hbw.cell hbk1).symm.trans c2')
            by_cases hnv : n < v
            · obtain ⟨m, hm1, hm2, hm3, hm4, hm5⟩ := HQ.out n hn1 hnv
              have KA := Lib.hid (KM.out n wr (H3.later hbi))
              have KC := Lib.hid (fun w' hb' => KN.out m w' ((H3.later hbi).later hb'))
              rw [hm1] at KA
              rw [hm4] at KC
              rw [HTD.out] at hm2
              have hns : n < s.size := by omega
              have g1 := ba_get t m hm2
              have g2 := ba_get s n hns
              rw [g1, g2] at hm3
              simp only [Option.some.injEq] at hm3
              have hbyte : (((t[m]'hm2).toNat : Int) != ((s[n]'hns).toNat : Int)) = false := by simp [hm3]
              have z1 : (0 : Int) ≤ (m : Int) := by omega
              have z2 : (m : Int) < (t.size : Int) := by omega
              have z3 : (0 : Int) ≤ (n : Int) := by omega
              have z4 : (n : Int) < (s.size : Int) := by omega
              have z5 : decide ((t.size : Int) ≤ (m : Int)) = false := by simp; omega
              clear hm1 hm3 hm4 hm5 g1 g2
              obtain ⟨wo', rfl⟩ : ∃ wo' : World, wo' = wr := ⟨_, rfl⟩
              go_wp2_with (first
                | (go_at_call 18; with_reducible refine KA.out.mono ?_; rintro e w5 ⟨rfl, hb5⟩)
                | (go_at_call 20; with_reducible refine (KC.out w5 hb5).mono ?_; rintro e w6 ⟨rfl, hb6⟩))
              have hbj := (hbi.trans (hb5.mono hbi.size))
              have hbk := hbj.trans (hb6.mono hbj.size)
              go_quiet (fail)
              go_wp2
              go_roundw
              case rel => exact ⟨n + 1, by omega, by omega, by go_num, below_drewN hbk _⟩
              case measure => simp [intOf]; omega
            · have hdn : decide ((n : Int) < (v : Int)) = false := by simp; omega
              go_wp2
              go_roundw
              case rel => exact ⟨i + 1, by omega, by go_num, hbi⟩
              case measure => simp [intOf]; omega
        · go_wp2
          go_ret
          exact ⟨rfl, B3.trans (hbw.mono B3.size)⟩

end Go.Proofs.Ytnijaleedbmljaa
