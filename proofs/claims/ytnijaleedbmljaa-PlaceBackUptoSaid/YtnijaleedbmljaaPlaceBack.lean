/- The law PlaceBack: a byte that is kept, moved on by edits and then by those that take them back, is where it was. -/
import Derived.Test.YtnijaleedbmljaaPlaceMoves
import Derived.Test.YtnijaleedbmljaaPlL
import Derived.Test.YtnijaleedbmljaaEditMakes
set_option linter.unusedVariables false
set_option linter.unusedSimpArgs false
namespace Go.Proofs.Ytnijaleedbmljaa
open Go Go.RowKit

set_option maxRecDepth 100000 in
set_option maxHeartbeats 4000000 in
theorem PlaceBack_any (s : ByteArray) (A : Option Addr) (c : Nat) (l : List Pl.Ed) (w : World) (hs : s.size ≤ maxLen) (hsb : s.size ≤ 1048576) (hl : l.length ≤ maxLen) (hlb : l.length ≤ 1048576) (hx : ∀ e ∈ l, e.x.length ≤ 1048576) (h : Rd w 3 A l.length (edcs l)) :
    Calls Try.prog 16 #[.string s, .slice A l.length c] w fun e w' => e = .returned (.bool true) ∧ Below w.heap.size w w' := by
  clear hl hs
  have KG := Lib.hid (fun w h => great_any s A c l w (by omega) hlb hx h _ rfl)
  by_cases hg : 2000 < grt s.size l
  · have hd : decide (2000 < grt s.size l) = true := by simpa using hg
    rw [hd] at KG
    clear hg hd hx
    go_enter Try.func16, Try.ntmps16
    go_wp2_with (first | (go_at_call 36; refine (alive20_any _).mono ?_; rintro e w0 ⟨rfl, hb0⟩) | (go_at_call 17; refine (KG.out _ (h.later hb0)).mono ?_; rintro e w' ⟨rfl, rfl⟩))
    go_ret
    exact ⟨rfl, hb0⟩
  have hd : decide (2000 < grt s.size l) = false := by simpa using hg
  rw [hd] at KG
  obtain ⟨h1, hsm, h3, h4⟩ := small_of (show grt s.size l ≤ 2000 by omega)
  have hap := small_app (show grt s.size l ≤ 2000 by omega)
  by_cases hs1 : 1000 < s.size
  · have hd1 : decide ((1000 : Int) < (s.size : Int)) = true := by simp; omega
    clear hg hd hx
    go_enter Try.func16, Try.ntmps16
    go_wp2_with (first | (go_at_call 36; refine (alive20_any _).mono ?_; rintro e w0 ⟨rfl, hb0⟩) | (go_at_call 17; refine (KG.out _ (h.later hb0)).mono ?_; rintro e w' ⟨rfl, rfl⟩))
    go_ret
    exact ⟨rfl, hb0⟩
  have hd1 : decide ((1000 : Int) < (s.size : Int)) = false := by simp; omega
  have C1 := fun w h => Apply_any s A c l w (by omega) h hsm (fun _ => by omega)
  have C3 := fun w h => Kept_all s A c l w (by omega) h hsm
  cases hf : fitS s.data.toList l
  · rw [apply_not hf] at C1
    have C2 := fun w h => Back_any s A c l w (by omega) h hsm
    unfold BackPost backOut backErr at C2
    rw [if_neg (by rw [hf]; simp), if_neg (by rw [hf]; simp)] at C2
    unfold KeptPost kpOut kpErr at C3
    rw [if_neg (by rw [hf]; simp), if_neg (by rw [hf]; simp)] at C3
    have K1 := Lib.hid C1; clear C1
    have K2 := Lib.hid C2; clear C2
    have K3 := Lib.hid C3; clear C3
    clear hf hg hd hx h4
    go_enter Try.func16, Try.ntmps16
    go_wp2_with (first
      | (go_at_call 36; refine (alive20_any _).mono ?_; rintro e w0 ⟨rfl, B0⟩; have H0 := h.later B0)
      | (go_at_call 17; refine (KG.out _ H0).mono ?_; rintro e w' ⟨rfl, rfl⟩)
      | (go_at_call 25; refine (K1.out _ H0).mono ?_; rintro e w1 ⟨rfl, b⟩; have B1 := B0.trans (b.mono B0.size); have H1 := H0.later b; clear b)
      | (go_at_call 27; refine (K2.out _ H1).mono ?_; rintro e w2 ⟨X, cx, rfl, _, b⟩; have B2 := B1.trans (b.mono B1.size); have H2 := H1.later b; clear b)
      | (go_at_call 22; refine (K3.out _ H2).mono ?_; rintro e w3 ⟨Y, cy, rfl, _, b⟩; have B3 := B2.trans (b.mono B2.size); clear b))
    go_ret
    exact ⟨rfl, B3⟩
  · rw [apply_fit hf] at C1
    have C2 := fun w h => Back_fit s A c l w (by omega) h hsm hf
    have hke : kpErr s.data.toList l = 0 := by unfold kpErr; rw [if_pos hf]
    rw [hke] at C3
    have hkl : (kpOut s.data.toList l).length ≤ 1000 := Nat.le_trans kpOut_len (by omega)
    unfold KeptPost at C3
    have lfs : (Pl.lines s.data.toList).flatten.length ≤ 2000 := by rw [Pl.lines_flat, ← Lib.size_eq]; omega
    have hsmb : Sm (Pl.backs (Pl.lines s.data.toList) 0 l) := backs_sm lfs (by omega) hsm
    obtain ⟨t, ht⟩ : ∃ t : ByteArray, t = bs (Pl.app (Pl.lines s.data.toList) 0 l) := ⟨_, rfl⟩
    have htd : t.data.toList = Pl.app (Pl.lines s.data.toList) 0 l := by rw [ht, bs_data]
    have hts : t.size ≤ 1000000 := by rw [Lib.size_eq, htd]; omega
    rw [← ht] at C1
    have KM := Lib.hid (fun (n : Int) w h => Move_all s A c l n w (by omega) h hsm)
    have KN := Lib.hid (fun (n : Int) X cx w h => Move_all t X cx (Pl.backs (Pl.lines s.data.toList) 0 l) n w (by omega) h hsmb)
    have HB := Lib.hid (fun q hq => kept_byte hf (q := q) hq)
    rw [← htd] at HB
    generalize kpOut s.data.toList l = ko at *
    generalize Pl.backs (Pl.lines s.data.toList) 0 l = bk at *
    have K1 := Lib.hid C1; clear C1
    have K2 := Lib.hid C2; clear C2
    have K3 := Lib.hid C3; clear C3
    have hszl : s.data.toList.length = s.size := (Lib.size_eq s).symm
    have HSZ := Lib.hid hszl
    clear hf hg hd hx h4 hke ht htd lfs hap hszl
    go_enter Try.func16, Try.ntmps16
    go_wp2_with (first
      | (go_at_call 36; refine (alive20_any _).mono ?_; rintro e w0 ⟨rfl, B0⟩; have H0 := h.later B0)
      | (go_at_call 17; refine (KG.out _ H0).mono ?_; rintro e w' ⟨rfl, rfl⟩)
      | (go_at_call 25; refine (K1.out _ H0).mono ?_; rintro e w1 ⟨rfl, b⟩; have B1 := B0.trans (b.mono B0.size); have H1 := H0.later b; clear b)
      | (go_at_call 27; refine (K2.out _ H1).mono ?_; rintro e w2 ⟨X, cx, rfl, rX, b⟩; have B2 := B1.trans (b.mono B1.size); have H2 := H1.later b; clear b)
      | (go_at_call 22; refine (K3.out _ H2).mono ?_; rintro e w3 ⟨Y, cy, rfl, rY, b⟩; have B3 := B2.trans (b.mono B2.size); have H3 := H2.later b; have rX3 := rX.later b; clear b))
    go_loopw [12, 13, 14, 15, 16, 17] (fun iv _ _ _ _ _ wr => ∃ i : Nat, i ≤ ko.length ∧ iv = .int .i64 i ∧ Below w3.heap.size w3 wr) (fun iv _ _ _ _ _ _ => ko.length - (intOf iv).toNat)
    case atStart => exact ⟨0, Nat.zero_le _, rfl, Below.refl _ _⟩
    case round =>
      obtain ⟨i, hi, rfl, hbw⟩ := hrel
      by_cases hlt : i < ko.length
      · have hki := List.getElem?_eq_getElem hlt
        obtain ⟨u, v, hq, hv, HQ0⟩ := HB.out ko[i] (List.getElem_mem hlt)
        rw [hq] at hki
        have HQ := Lib.hid HQ0; clear HQ0 hq
        rw [HSZ.out] at hv
        obtain ⟨b1, o1, e1, hbk1, c1, c2⟩ := rY.rg hki
        have c1' := (hbw.cell hbk1).trans c1
        have c2' := (hbw.cell hbk1).trans c2
        simp only at c1' c2'
        clear hki c1 c2
        subst e1
        obtain ⟨wo, rfl⟩ : ∃ wo : World, wo = wr := ⟨_, rfl⟩
        go_wp2
        go_loopw [13, 14, 15, 16, 17] (fun nv _ _ _ _ wi => ∃ n : Nat, u ≤ n ∧ (n ≤ v ∨ n = u) ∧ nv = .int .i64 n ∧ Below w3.heap.size w3 wi) (fun nv _ _ _ _ _ => v - (intOf nv).toNat)
        case atStart => exact ⟨u, Nat.le_refl _, .inr rfl, rfl, hbw⟩
        case round =>
          obtain ⟨n, hn1, hn2, rfl, hbi⟩ := hrel
          have d2 := (hbi.cell hbk1).trans ((hbw.cell hbk1).symm.trans c2')
          by_cases hnv : n < v
          · obtain ⟨m, hm1, hm2, hm3, hm4, hm5⟩ := HQ.out n hn1 hnv
            have KA := Lib.hid (KM.out n wr (H3.later hbi))
            have KC := Lib.hid (fun w' hb' => KN.out m X cx w' ((rX3.later hbi).later hb'))
            rw [hm1] at KA
            rw [hm5] at KC
            clear hm1 hm2 hm3 hm4 hm5
            obtain ⟨wo', rfl⟩ : ∃ wo' : World, wo' = wr := ⟨_, rfl⟩
            go_wp2_with (first
              | (go_at_call 18; with_reducible refine KA.out.mono ?_; rintro e w5 ⟨rfl, hb5⟩)
              | (go_at_call 18; with_reducible refine (KC.out w5 hb5).mono ?_; rintro e w6 ⟨rfl, hb6⟩))
            have hbj := (hbi.trans (hb5.mono hbi.size))
            have hbk := hbj.trans (hb6.mono hbj.size)
            go_roundw
            case rel => exact ⟨n + 1, by omega, by omega, by go_num, hbk⟩
            case measure => simp [intOf]; omega
          · have hdn : decide ((n : Int) < (v : Int)) = false := by simp; omega
            go_wp2
            go_roundw
            case rel => exact ⟨i + 1, by omega, by go_num, hbi⟩
            case measure => simp [intOf]; omega
      · go_wp2
        go_ret
        exact ⟨rfl, B3.trans (hbw.mono B3.size)⟩

end Go.Proofs.Ytnijaleedbmljaa
