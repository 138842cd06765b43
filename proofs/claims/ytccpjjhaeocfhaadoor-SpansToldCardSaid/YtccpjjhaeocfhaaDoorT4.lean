/- Walks: what a text says (the document's). -/
import Derived.Test.YtccpjjhaeocfhaaDoorT3
import Derived.Test.YtccpjjhaeocfhaaDoorP2
import Derived.Test.YtccpjjhaeocfhaaDoorS6
import Derived.Test.YtccpjjhaeocfhaaDoorP3
set_option linter.unusedVariables false
set_option linter.unusedSimpArgs false
namespace Go.Proofs.YtccpjjhaeocfhaaDoor
open Go Go.RowKit

theorem ba_part (s : ByteArray) (fr k : Nat) : (s.extract fr k).data.toList = Sp.part s.data.toList fr k := by rw [Lib.extract_data]; rfl
theorem ba_head (s : ByteArray) (j : Nat) : (s.extract 0 j).data.toList = s.data.toList.take j := by rw [Lib.extract_data]; simp
theorem ba_tail (s : ByteArray) (j : Nat) : (s.extract j s.size).data.toList = s.data.toList.drop j := by
  rw [Lib.extract_data, Lib.size_eq]; exact List.take_of_length_le (by simp)
theorem rgcs_put (P : List Sp.T) (p : Sp.T) : rgcs (P.map Sp.pR) ++ [.int .i64 (Sp.lo p - 1), .int .i64 (Sp.hi p)] = rgcs ((P ++ [p]).map Sp.pR) := by
  rw [List.map_append, rgcs_snoc]; rfl

set_option maxRecDepth 100000 in
set_option maxHeartbeats 8000000 in
theorem refParse_any (s : ByteArray) (w : World) (hs : s.size ≤ 1000000) :
    Calls Tryd.prog 10 #[.string s] w (RgRes2 (Sp.parseL s.data.toList) (Sp.parseE s.data.toList) w) := by
  have hsz : s.size = s.data.toList.length := Lib.size_eq s
  by_cases h0 : s.size = 0
  · have he := ba_empty s h0
    have HL := Lib.hid (show Sp.parseL s.data.toList = [] by unfold Sp.parseL; rw [if_pos he])
    have HE := Lib.hid (show Sp.parseE s.data.toList = 0 by unfold Sp.parseE; rw [if_pos he])
    have t1 : s.toList = [] := by rw [Lib.toList_data]; exact he
    have t2 : s.toList.isEmpty = true := by rw [t1]; rfl
    clear he hsz h0
    go_enter Tryd.func10, Tryd.ntmps10
    go_wp2
    go_ret2
    exact ⟨_, by rw [HE.out]; rfl, by rw [HL.out]; exact RgIs.nil (Below.refl _ _)⟩
  have hne : s.data.toList ≠ [] := by intro e; rw [e, List.length_nil] at hsz; omega
  have t1 : ¬ s.toList = [] := by rw [Lib.toList_data]; exact hne
  have t2 : s.toList.isEmpty = false := by rw [List.isEmpty_eq_false_iff]; exact t1
  have HNE := Lib.hid hne; clear hne h0
  have HSZ := Lib.hid hsz; clear hsz
  obtain ⟨i0, hi, hz0, hz1, hz2⟩ := info_parts rgInfo
  go_enter Tryd.func10, Tryd.ntmps10
  go_wp2
  clear t1 t2
  go_loopw [4, 5, 6] (fun l fr i wr => ∃ (P : List Sp.T) (f k : Nat), k ≤ s.size + 1 ∧ fr = .int .i64 f ∧ i = .int .i64 k ∧ wr.ownsRow w.heap.size 38 2 l P.length (rgcs (P.map Sp.pR)) ∧ Below w.heap.size w wr ∧ P.length ≤ k ∧ Hid (Sp.PIn s.data.toList P f k)) (fun _ _ i _ => s.size + 1 - (intOf i).toNat)
  case atStart => exact ⟨[], 0, 0, by omega, rfl, rfl, World.ownsRow_nil _ _ _ _, Below.refl _ _, Nat.le_refl _, Lib.hid (Sp.PIn.start _)⟩
  case round =>
    obtain ⟨P, f, k, hk, rfl, rfl, hown, hbw, hPk, HP⟩ := hrel
    obtain ⟨wo, rfl⟩ : ∃ wo : World, wo = wr := ⟨_, rfl⟩
    have hws : w.heap.size ≤ wo.heap.size := hbw.size
    by_cases hend : s.size < k
    · have HD := Lib.hid (HP.out.done (by rw [← HSZ.out]; exact hend) HNE.out)
      obtain ⟨A1, c1, rfl, hc1, hrd⟩ := own_form hown
      have hlen : (P.map Sp.pR).length = P.length := by simp
      have KL := Lines_any A1 c1 (P.map Sp.pR) wo (by rw [hlen]; exact hrd) (by rw [hlen]; omega) (Sp.pOk_in HP.out.1)
      rw [hlen] at KL
      have KL := Lib.hid KL
      clear hlen
      go_wp2_with (first
        | (go_at_call 28; (with_reducible refine KL.out.mono ?_); rintro e w2 ⟨g, N, rfl, hN1, hN2, ho2, hb2⟩; have hNN : N = 65536 := (by omega); subst hNN)
        | (go_at_call 29; (with_reducible refine (Set_any _ _ 65536 (fun i => Sp.has (P.map Sp.pR) (i : Int)) _ (by omega) (Rd.of_own ho2)).mono ?_); rintro e w3 ⟨v3, rfl, q3⟩))
      go_ret2
      rw [HD.out.1, HD.out.2]
      exact ⟨_, rfl, q3.trans (hbw.trans (hb2.mono hbw.size))⟩
    have hks : k ≤ s.size := by omega
    have hfk : f ≤ k := HP.out.le (by rw [← HSZ.out]; exact hks)
    by_cases hcomma : k < s.size ∧ ∃ h : k < s.size, s[k] ≠ 44
    · obtain ⟨hlt, _, hc⟩ := hcomma
      have hg := ba_get s k hlt
      have HN := Lib.hid (HP.out.next (by rw [← HSZ.out]; exact hlt) (by rw [hg]; simpa using hc))
      have hq : (((s[k]'hlt).toNat : Int) == 44) = false := by
        have := u8_eq (s[k]'hlt) 44
        rw [decide_eq_false hc] at this
        exact this
      clear hg hc
      go_wp2
      go_roundw
      case rel => exact ⟨P, f, k + 1, by omega, rfl, by go_num, hown, hbw, by omega, HN⟩
      case measure => simp [intOf]; omega
    have hcase : k = s.data.toList.length ∨ s.data.toList[k]? = some 44 := by
      by_cases hlt : k < s.size
      · right
        rw [ba_get s k hlt]
        by_cases h44 : s[k] = 44
        · rw [h44]
        · exact absurd ⟨hlt, hlt, h44⟩ hcomma
      · left
        rw [← HSZ.out]; omega
    have hPI := HP.out.piece (by rw [← HSZ.out]; exact hks) hcase
    have HBAD := Lib.hid (fun hp => HP.out.bad (by rw [← HSZ.out]; exact hks) hcase HNE.out hp)
    have HPI := Lib.hid hPI
    have hpd := ba_part s f k
    have hpsz : (s.extract f k).size = k - f := by rw [Lib.size_eq, hpd, Sp.part_len hfk (by rw [← HSZ.out]; exact hks)]
    have HREG : Hid ((k < s.size ∧ ∃ h : k < s.size, (((s[k]'h).toNat : Int) == 44) = true) ∨ s.size ≤ k) := Lib.hid (by
      by_cases hlt : k < s.size
      · left
        refine ⟨hlt, hlt, ?_⟩
        have h44 : s[k] = 44 := by
          by_cases h44 : s[k] = 44
          · exact h44
          · exact absurd ⟨hlt, hlt, h44⟩ hcomma
        have := u8_eq (s[k]'hlt) 44
        rw [decide_eq_true h44] at this
        exact this
      · right; omega)
    clear hPI hcase hcomma
    generalize hpt : s.extract f k = pt at *
    have hPT : pt.data.toList = Sp.part s.data.toList f k := hpd
    generalize hp : Sp.part s.data.toList f k = p at *
    clear hpd
    have hpl : pt.size = p.length := by rw [Lib.size_eq, hPT]
    have HPT := Lib.hid hPT
    have hptl : pt.size ≤ 1000000 := by omega
    have HX := Lib.hid hpt
    rcases HREG.out with ⟨hlt, _, hq⟩ | hge
    all_goals
      clear HREG hp hPT hpl hpsz
      go_wp2
      clear hpt
      go_loop [8] (fun c => ∃ j : Nat, j ≤ pt.size ∧ c = .int .i64 j ∧ Hid (45 ∉ pt.data.toList.take j)) (fun c => pt.size - (intOf c).toNat)
      case atStart => exact ⟨0, Nat.zero_le _, rfl, Lib.hid (by simp)⟩
      case round =>
        obtain ⟨j, hj, rfl, HJ⟩ := hrel
        have hA := Sp.lo_bd p
        have hB := Sp.hi_bd p
        have HRG := Lib.hid (rgcs_put P p)
        have HOK := Lib.hid (Sp.pOk_iff p)
        by_cases hjl : j < pt.size
        · have hgj := ba_get pt j hjl
          by_cases hc45 : pt[j] = 45
          · have hlh := Sp.cut_at HJ.out (by rw [hgj, hc45])
            rw [HPT.out] at hlh
            have hq5 : (((pt[j]'hjl).toNat : Int) == 45) = true := by have := u8_eq (pt[j]'hjl) 45; rw [decide_eq_true hc45] at this; exact this
            have NA := Lib.hid (fun W => by have := refnumber_any (pt.extract 0 j) W; rw [ba_head, HPT.out, ← hlh.1] at this; exact this)
            have NB := Lib.hid (fun W => by have := refnumber_any (pt.extract (j + 1) pt.size) W; rw [ba_tail, HPT.out, ← hlh.2] at this; exact this)
            clear hlh hgj hc45
            generalize Sp.lo p = a at *
            generalize Sp.hi p = b at *
            by_cases ha0 : a = 0
            · have HB2 := Lib.hid (HBAD.out (by rw [Bool.eq_false_iff]; intro e; have := HOK.out.1 e; omega))
              subst ha0
              go_wp2_with (first
                  | (go_at_call 27; (with_reducible refine (NA.out _).mono ?_); rintro e w2 ⟨rfl, rfl⟩)
                  | (go_at_call 27; (with_reducible refine (NB.out _).mono ?_); rintro e w2 ⟨rfl, rfl⟩)
                  | (at_builtin; refine wpList_append_own _ rfl _ _ 22 rfl w.heap.size 38 i0 _ 2 16 Tryd.underlying22 hi hz0 hz1 hz2 rfl (by decide) _ _ _ rfl (hown.alloc _) ⟨wo.heap.size, 0, none⟩ 1 1 [.int .i64 (a - 1), .int .i64 b] rfl rfl (two_at _ _ _ _) (by simp [Value.oneCell']) (by unfold maxLen; omega) (by omega) (by simp; omega) ?_; intro v' w4 hown4 hgrow _)
                  | go_in)
              go_ret2
              exact ⟨_, by rw [HB2.out.2]; rfl, by rw [HB2.out.1]; exact RgIs.nil hbw⟩
            have ha1 : (a == 0) = false := by simpa using ha0
            by_cases hlt2 : b < a
            · have HB2 := Lib.hid (HBAD.out (by rw [Bool.eq_false_iff]; intro e; have := HOK.out.1 e; omega))
              go_wp2_with (first
                  | (go_at_call 27; (with_reducible refine (NA.out _).mono ?_); rintro e w2 ⟨rfl, rfl⟩)
                  | (go_at_call 27; (with_reducible refine (NB.out _).mono ?_); rintro e w2 ⟨rfl, rfl⟩)
                  | (at_builtin; refine wpList_append_own _ rfl _ _ 22 rfl w.heap.size 38 i0 _ 2 16 Tryd.underlying22 hi hz0 hz1 hz2 rfl (by decide) _ _ _ rfl (hown.alloc _) ⟨wo.heap.size, 0, none⟩ 1 1 [.int .i64 (a - 1), .int .i64 b] rfl rfl (two_at _ _ _ _) (by simp [Value.oneCell']) (by unfold maxLen; omega) (by omega) (by simp; omega) ?_; intro v' w4 hown4 hgrow _)
                  | go_in)
              go_ret2
              exact ⟨_, by rw [HB2.out.2]; rfl, by rw [HB2.out.1]; exact RgIs.nil hbw⟩
            · have HG := Lib.hid (HPI.out.2 (HOK.out.2 (by omega)))
              go_wp2_with (first
                  | (go_at_call 27; (with_reducible refine (NA.out _).mono ?_); rintro e w2 ⟨rfl, rfl⟩)
                  | (go_at_call 27; (with_reducible refine (NB.out _).mono ?_); rintro e w2 ⟨rfl, rfl⟩)
                  | (at_builtin; refine wpList_append_own _ rfl _ _ 22 rfl w.heap.size 38 i0 _ 2 16 Tryd.underlying22 hi hz0 hz1 hz2 rfl (by decide) _ _ _ rfl (hown.alloc _) ⟨wo.heap.size, 0, none⟩ 1 1 [.int .i64 (a - 1), .int .i64 b] rfl rfl (two_at _ _ _ _) (by simp [Value.oneCell']) (by unfold maxLen; omega) (by omega) (by simp; omega) ?_; intro v' w4 hown4 hgrow _)
                  | go_in)
              have hb4 := (hbw.alloc hbw.size (.cells #[.int .i64 (a - 1), .int .i64 b] 38)).grown hgrow (by have := hbw.size; simp; omega) (fun j hj => by have := (hown.lt j hj).1; omega)
              go_roundw
              case rel => exact ⟨P ++ [p], k + 1, k + 1, by omega, by go_num, by go_num, by rw [HRG.out] at hown4; rw [List.length_append]; exact hown4, hb4, by simp; omega, HG⟩
              case measure => simp [intOf]; omega
          · have hq5 : (((pt[j]'hjl).toNat : Int) == 45) = false := by have := u8_eq (pt[j]'hjl) 45; rw [decide_eq_false hc45] at this; exact this
            have HJ2 := Lib.hid (show 45 ∉ pt.data.toList.take (j + 1) by
              rw [ba_take_succ pt j hjl, List.mem_append, not_or, List.mem_singleton]
              exact ⟨HJ.out, fun e => hc45 e.symm⟩)
            clear hgj hc45
            go_wp2
            go_round
            case rel => exact ⟨j + 1, by omega, by go_num, HJ2⟩
            case measure => simp [intOf]; omega
        · have hjl2 : pt.size ≤ j := by omega
          have htk : pt.data.toList.take j = pt.data.toList := List.take_of_length_le (by rw [← Lib.size_eq]; exact hjl2)
          have hlh := Sp.cut_no (p := p) (by have := HJ.out; rw [htk, HPT.out] at this; exact this)
          have NA := Lib.hid (fun W => by have := refnumber_any (pt.extract 0 j) W; rw [ba_head, htk, HPT.out, ← hlh.1] at this; exact this)
          have NB := NA
          have hba := hlh.2.trans hlh.1.symm
          rw [hba] at hB HRG HOK
          clear hlh hba htk
          generalize Sp.lo p = a at *
          by_cases ha0 : a = 0
          · have HB2 := Lib.hid (HBAD.out (by rw [Bool.eq_false_iff]; intro e; have := HOK.out.1 e; omega))
            subst ha0
            go_wp2_with (first
                | (go_at_call 27; (with_reducible refine (NA.out _).mono ?_); rintro e w2 ⟨rfl, rfl⟩)
                | (go_at_call 27; (with_reducible refine (NB.out _).mono ?_); rintro e w2 ⟨rfl, rfl⟩)
                | (at_builtin; refine wpList_append_own _ rfl _ _ 22 rfl w.heap.size 38 i0 _ 2 16 Tryd.underlying22 hi hz0 hz1 hz2 rfl (by decide) _ _ _ rfl (hown.alloc _) ⟨wo.heap.size, 0, none⟩ 1 1 [.int .i64 (a - 1), .int .i64 b] rfl rfl (two_at _ _ _ _) (by simp [Value.oneCell']) (by unfold maxLen; omega) (by omega) (by simp; omega) ?_; intro v' w4 hown4 hgrow _)
                | go_in)
            go_ret2
            exact ⟨_, by rw [HB2.out.2]; rfl, by rw [HB2.out.1]; exact RgIs.nil hbw⟩
          have ha1 : (a == 0) = false := by simpa using ha0
          have HG := Lib.hid (HPI.out.2 (HOK.out.2 (by omega)))
          go_wp2_with (first
              | (go_at_call 27; (with_reducible refine (NA.out _).mono ?_); rintro e w2 ⟨rfl, rfl⟩)
              | (go_at_call 27; (with_reducible refine (NB.out _).mono ?_); rintro e w2 ⟨rfl, rfl⟩)
              | (at_builtin; refine wpList_append_own _ rfl _ _ 22 rfl w.heap.size 38 i0 _ 2 16 Tryd.underlying22 hi hz0 hz1 hz2 rfl (by decide) _ _ _ rfl (hown.alloc _) ⟨wo.heap.size, 0, none⟩ 1 1 [.int .i64 (a - 1), .int .i64 a] rfl rfl (two_at _ _ _ _) (by simp [Value.oneCell']) (by unfold maxLen; omega) (by omega) (by simp; omega) ?_; intro v' w4 hown4 hgrow _)
              | go_in)
          have hb4 := (hbw.alloc hbw.size (.cells #[.int .i64 (a - 1), .int .i64 a] 38)).grown hgrow (by have := hbw.size; simp; omega) (fun j hj => by have := (hown.lt j hj).1; omega)
          go_roundw
          case rel => exact ⟨P ++ [p], k + 1, k + 1, by omega, by go_num, by go_num, by rw [HRG.out] at hown4; rw [List.length_append]; exact hown4, hb4, by simp; omega, HG⟩
          case measure => simp [intOf]; omega

end Go.Proofs.YtccpjjhaeocfhaaDoor
