/- Walks: what a line says (the document's). -/
import Derived.Test.YtliabgcpciekpaaDoorYrG
import Derived.Test.YtliabgcpciekpaaDoorYeH
set_option linter.unusedVariables false
set_option linter.unusedSimpArgs false
namespace Go.Proofs.YtliabgcpciekpaaDoor
open Go Go.RowKit

namespace St
/-- Is the entry i meant by the name N and the number x? -/
def pick (N : T) (x : Int) (i : Nat) : Bool := decide (nm i = N) && (decide (low i ≤ x) && decide (x ≤ high i))
def fnd (N : T) (x : Int) : Option (Nat × Int) := ((List.range 18).find? (pick N x)).map fun i => (i, x)
/-- What a line says: an entry and its number. -/
def sd (t : T) : Option (Nat × Int) :=
  if cutT t = true then (if isNum (trimR (trimL (cutB t))) = true then fnd (trimR (trimL (cutA t))) (worth (trimR (trimL (cutB t)))) else none) else none
theorem range_split {n k : Nat} (h : k < n) : List.range n = List.range k ++ k :: (List.range n).drop (k + 1) := by
  have h1 := List.take_append_drop k (List.range n)
  rw [List.take_range, Nat.min_eq_left (by omega), List.drop_eq_getElem_cons (by simpa using h)] at h1
  have h2 : (List.range n)[k]'(by simpa using h) = k := by simp
  rw [h2] at h1
  exact h1.symm
theorem fnd_some {N : T} {x : Int} {k : Nat} (hk : k < 18) (h : ∀ i, i < k → pick N x i = false) (hp : pick N x k = true) : fnd N x = some (k, x) := by
  unfold fnd
  rw [range_split hk, List.find?_append, List.find?_eq_none.2 (fun i hi => by rw [h i (List.mem_range.1 hi)]; simp)]
  simp [hp]
theorem fnd_none {N : T} {x : Int} (h : ∀ i, i < 18 → pick N x i = false) : fnd N x = none := by
  unfold fnd
  rw [List.find?_eq_none.2 (fun i hi => by rw [h i (List.mem_range.1 hi)]; simp)]
  rfl
theorem idx_of {c : UInt8} {t : T} : ∀ {j : Nat}, c ∉ t.take j → t[j]? = some c → Lib.indexByte t c = j := by
  induction t with
  | nil => intro j _ h; simp at h
  | cons x t ih =>
    intro j h1 h2
    cases j with
    | zero => simp at h2; subst h2; simp [Lib.indexByte]
    | succ j =>
      simp only [List.take_succ_cons, List.mem_cons, not_or] at h1
      simp only [List.getElem?_cons_succ] at h2
      have := ih h1.2 h2
      unfold Lib.indexByte
      rw [if_neg (by simp; exact fun e => h1.1 e.symm), if_neg (by rw [this]; simp), this]
      omega
theorem idx_no {c : UInt8} {t : T} (h : c ∉ t) : Lib.indexByte t c = -1 := by
  induction t with
  | nil => rfl
  | cons x t ih =>
    simp only [List.mem_cons, not_or] at h
    unfold Lib.indexByte
    rw [if_neg (by simp; exact fun e => h.1 e.symm), if_pos (by rw [ih h.2]; rfl)]
theorem cut_yes {t : T} {j : Nat} (h1 : 61 ∉ t.take j) (h2 : t[j]? = some 61) : cutT t = true ∧ cutA t = t.take j ∧ cutB t = t.drop (j + 1) := by
  have h := idx_of h1 h2
  have hj : ¬ ((j : Int) = -1) := by omega
  unfold cutT cutA cutB
  simp [h, hj]
theorem cut_no {t : T} (h : 61 ∉ t) : cutT t = false := by
  unfold cutT
  rw [idx_no h]
  rfl
theorem sd_no {t : T} (h : cutT t = false) : sd t = none := by unfold sd; rw [h]; rfl
theorem sd_bad {t : T} (h : cutT t = true) (h2 : isNum (trimR (trimL (cutB t))) = false) : sd t = none := by unfold sd; rw [if_pos h, h2]; rfl
theorem sd_yes {t : T} (h : cutT t = true) (h2 : isNum (trimR (trimL (cutB t))) = true) : sd t = fnd (trimR (trimL (cutA t))) (worth (trimR (trimL (cutB t)))) := by unfold sd; rw [if_pos h, if_pos h2]
end St

def sdV : Option (Nat × Int) → Value
  | none => .tuple #[.int .i64 (-1), .int .i64 0]
  | some (i, x) => .tuple #[.int .i64 (i : Int), .int .i64 x]

set_option maxRecDepth 100000 in
set_option maxHeartbeats 8000000 in
theorem said_any (s : ByteArray) (w : World) (hs : s.size ≤ 1000000000) :
    Calls Tryd.prog 51 #[.string s] w fun e w' => e = .returned (sdV (St.sd s.data.toList)) ∧ Below w.heap.size w w' := by
  have HSZ := Lib.hid (Lib.size_eq s)
  have hf0 := fld0
  have hf1 := fld1
  have hf2 := fld2
  go_enter Tryd.func51, Tryd.ntmps51
  go_wp2
  go_loop [4] (fun n => ∃ k : Nat, k ≤ s.size ∧ n = .int .i64 k ∧ Hid (61 ∉ s.data.toList.take k)) (fun n => s.size - (intOf n).toNat)
  case atStart => exact ⟨0, Nat.zero_le _, rfl, Lib.hid (by simp)⟩
  case round =>
    obtain ⟨k, hk, rfl, HK⟩ := hrel
    by_cases hlt : k < s.size
    · by_cases hc : s[k] = 61
      · have hq : (((s[k]'hlt).toNat : Int) == 61) = true := by have := u8_eq (s[k]'hlt) 61; rw [decide_eq_true hc] at this; exact this
        obtain ⟨hT, hA, hB⟩ := St.cut_yes HK.out (by rw [ba_get s k hlt, hc])
        have TA := trim_any (s.extract 0 k) w (by rw [Lib.size_eq, Lib.extract_data]; simp; omega)
        have TB := trim_any (s.extract (k + 1) s.size) w (by rw [Lib.size_eq, Lib.extract_data]; simp; omega)
        rw [show (s.extract 0 k).data.toList = St.cutA s.data.toList by rw [hA, Lib.extract_data]; simp] at TA
        rw [ba_drop, ← hB] at TB
        have SB := Lib.hid (fun h => St.sd_bad (t := s.data.toList) hT h)
        have SY := Lib.hid (fun h => St.sd_yes (t := s.data.toList) hT h)
        clear hc hT hA hB
        generalize St.trimR (St.trimL (St.cutA s.data.toList)) = N at *
        generalize St.trimR (St.trimL (St.cutB s.data.toList)) = d at *
        generalize ((s.extract 0 k).size : Int) - ((St.trimL (St.cutA s.data.toList)).length : Int) = n1 at *
        generalize ((s.extract (k + 1) s.size).size : Int) - ((St.trimL (St.cutB s.data.toList)).length : Int) = n2 at *
        have TA := Lib.hid TA
        have TB := Lib.hid TB
        obtain ⟨D, hD⟩ : ∃ D, D = bs d := ⟨_, rfl⟩
        have HD := Lib.hid (show D.data.toList = d by rw [hD, bs_data])
        rw [← hD] at TB
        clear hD
        by_cases z0 : D.size = 0 ∨ 7 < D.size
        · have HR := Lib.hid (SB.out (by
            rw [← HD.out]
            unfold St.isNum
            rw [← Lib.size_eq]
            rcases z0 with z | z
            · rw [z]; rfl
            · rw [decide_eq_false (show ¬ D.size ≤ 7 by omega)]; simp))
          rcases z0 with z | z
          · have zz : ((D.size : Int) == 0) = true := by simp [z]
            clear z
            go_wp2_with (first
            | (go_at_call 50; (with_reducible refine TA.out.mono ?_); rintro e w' ⟨rfl, rfl⟩)
            | (go_at_call 50; (with_reducible refine TB.out.mono ?_); rintro e w' ⟨rfl, rfl⟩))
            go_ret2
            exact ⟨by rw [HR.out]; rfl, Below.refl _ _⟩
          · have zz : ((D.size : Int) == 0) = false := by rw [beq_eq_false_iff_ne]; omega
            go_wp2_with (first
            | (go_at_call 50; (with_reducible refine TA.out.mono ?_); rintro e w' ⟨rfl, rfl⟩)
            | (go_at_call 50; (with_reducible refine TB.out.mono ?_); rintro e w' ⟨rfl, rfl⟩))
            go_ret2
            exact ⟨by rw [HR.out]; rfl, Below.refl _ _⟩
        have z1 : 0 < D.size := by omega
        have z7 : D.size ≤ 7 := by omega
        have zz : ((D.size : Int) == 0) = false := by rw [beq_eq_false_iff_ne]; omega
        have HDZ := Lib.hid (Lib.size_eq D)
        clear z0
        go_wp2_with (first
            | (go_at_call 50; (with_reducible refine TA.out.mono ?_); rintro e w' ⟨rfl, rfl⟩)
            | (go_at_call 50; (with_reducible refine TB.out.mono ?_); rintro e w' ⟨rfl, rfl⟩))
        go_loop [9, 10] (fun n i => ∃ q : Nat, q ≤ D.size ∧ i = .int .i64 q ∧ n = .int .i64 (St.worth (D.data.toList.take q)) ∧ Hid (numPart D.data.toList q)) (fun _ i => D.size - (intOf i).toNat)
        case atStart => exact ⟨0, Nat.zero_le _, rfl, by simp [St.worth], Lib.hid (by simp [numPart])⟩
        case round =>
          obtain ⟨q, hqq, rfl, rfl, HDg⟩ := hrel
          have hwb := numPart_bd HDg.out (by omega)
          by_cases hlt2 : q < D.size
          · have hgk := ba_get D q hlt2
            have htk := ba_take_succ D q hlt2
            have HW : Hid (St.worth (D.data.toList.take (q + 1)) = 10 * St.worth (D.data.toList.take q) + ((D[q].toNat : Int) - 48)) := Lib.hid (by rw [htk, St.worth_snoc])
            by_cases c1 : D[q].toNat < 48
            · have HR := Lib.hid (SB.out (by rw [← HD.out]; exact isNum_bad hgk (by simp [St.isDig]; omega)))
              clear htk hgk
              go_wp2
              go_ret2
              exact ⟨by rw [HR.out]; rfl, Below.refl _ _⟩
            by_cases c2 : 57 < D[q].toNat
            · have HR := Lib.hid (SB.out (by rw [← HD.out]; exact isNum_bad hgk (by simp [St.isDig]; omega)))
              clear htk hgk
              go_wp2
              go_ret2
              exact ⟨by rw [HR.out]; rfl, Below.refl _ _⟩
            have HD2 : Hid (numPart D.data.toList (q + 1)) := Lib.hid (by
              unfold numPart
              rw [htk, List.all_append, HDg.out]
              simp [St.isDig]; omega)
            generalize St.worth (D.data.toList.take q) = v at *
            clear htk hgk
            go_wp2
            go_round
            case rel => exact ⟨q + 1, by omega, by go_num, by rw [HW.out] <;> go_num, HD2⟩
            case measure => simp [intOf]; omega
          · have hkl : D.data.toList.take q = D.data.toList := List.take_of_length_le (by rw [← HDZ.out]; omega)
            have hd := HDg.out
            unfold numPart at hd
            rw [hkl] at hd
            rw [hkl, HD.out] at hwb ⊢
            rw [HD.out] at hd
            have hnum : St.isNum d = true := by
              have hl : d.length = D.size := by rw [HDZ.out, HD.out]
              simp only [St.isNum, hl, hd]
              simp
              omega
            have HR := Lib.hid (SY.out hnum)
            clear hkl hd hnum
            generalize St.worth d = x at *
            go_wp2
            go_loopw [11] (fun i wr => ∃ u : Nat, u ≤ 18 ∧ i = .int .i64 u ∧ Hid (∀ i, i < u → St.pick N x i = false) ∧ Below w.heap.size w wr) (fun i _ => 18 - (intOf i).toNat)
            case atStart => exact ⟨0, by omega, rfl, Lib.hid (fun i hi => by omega), Below.refl _ _⟩
            case round =>
              obtain ⟨u, hu, rfl, HU, hbw⟩ := hrel
              obtain ⟨wo, rfl⟩ : ∃ wo : World, wo = wr := ⟨_, rfl⟩
              by_cases hlt3 : u < 18
              · have E := Lib.hid (fun W => refentry_any u hlt3 W)
                have huI : (u : Int) < 18 := by omega
                have HP := Lib.hid (show St.pick N x u = (decide (St.nm u = N) && (decide (St.low u ≤ x) && decide (x ≤ St.high u))) from rfl)
                have HNM := Lib.hid (show (bs (St.nm u) = bs N) ↔ St.nm u = N from ⟨fun e => by rw [← bs_data (St.nm u), e, bs_data], fun e => by rw [e]⟩)
                generalize bs (St.nm u) = M at *
                obtain ⟨NB, hNB⟩ : ∃ NB, NB = bs N := ⟨_, rfl⟩
                rw [← hNB] at HNM ⊢
                clear hNB
                by_cases hM : M = NB
                · have hnm := HNM.out.1 hM
                  by_cases h1 : x < St.low u
                  · have HU2 := Lib.hid (show ∀ i, i < u + 1 → St.pick N x i = false from fun i hi => by
                      rcases Nat.lt_succ_iff_lt_or_eq.1 hi with h | h
                      · exact HU.out i h
                      · rw [h, HP.out]; rw [decide_eq_false (by omega : ¬ St.low u ≤ x)]; simp)
                    subst hM
                    clear HNM hnm
                    go_wp2_with (go_at_call 44; (with_reducible refine (E.out _).mono ?_); rintro e w2 ⟨rfl, b2⟩; have hbw := hbw.trans (b2.mono hbw.size))
                    go_roundw
                    case rel => exact ⟨u + 1, by omega, by go_num, HU2, hbw⟩
                    case measure => simp [intOf]; omega
                  · by_cases h2 : St.high u < x
                    · have HU2 := Lib.hid (show ∀ i, i < u + 1 → St.pick N x i = false from fun i hi => by
                        rcases Nat.lt_succ_iff_lt_or_eq.1 hi with h | h
                        · exact HU.out i h
                        · rw [h, HP.out]; rw [decide_eq_false (by omega : ¬ x ≤ St.high u)]; simp)
                      subst hM
                      clear HNM hnm
                      go_wp2_with (go_at_call 44; (with_reducible refine (E.out _).mono ?_); rintro e w2 ⟨rfl, b2⟩; have hbw := hbw.trans (b2.mono hbw.size))
                      go_roundw
                      case rel => exact ⟨u + 1, by omega, by go_num, HU2, hbw⟩
                      case measure => simp [intOf]; omega
                    · have HF := Lib.hid (St.fnd_some (N := N) (x := x) hlt3 HU.out (by rw [HP.out, decide_eq_true hnm, decide_eq_true (by omega : St.low u ≤ x), decide_eq_true (by omega : x ≤ St.high u)]; rfl))
                      subst hM
                      clear HNM hnm
                      have g1 : St.low u ≤ x := by omega
                      have g2 : x ≤ St.high u := by omega
                      go_wp2_with (go_at_call 44; (with_reducible refine (E.out _).mono ?_); rintro e w2 ⟨rfl, b2⟩; have hbw := hbw.trans (b2.mono hbw.size))
                      go_ret2
                      exact ⟨by rw [HR.out, HF.out]; rfl, hbw⟩
                · have hnm : ¬ St.nm u = N := fun e => hM (HNM.out.2 e)
                  have hML : ¬ M.toList = NB.toList := fun e => hM (by rw [← bs_of M, ← bs_of NB, ← Lib.toList_data, ← Lib.toList_data, e])
                  have HU2 := Lib.hid (show ∀ i, i < u + 1 → St.pick N x i = false from fun i hi => by
                    rcases Nat.lt_succ_iff_lt_or_eq.1 hi with h | h
                    · exact HU.out i h
                    · rw [h, HP.out]; rw [decide_eq_false hnm]; rfl)
                  clear HNM hnm
                  go_wp2_with (go_at_call 44; (with_reducible refine (E.out _).mono ?_); rintro e w2 ⟨rfl, b2⟩; have hbw := hbw.trans (b2.mono hbw.size))
                  go_roundw
                  case rel => exact ⟨u + 1, by omega, by go_num, HU2, hbw⟩
                  case measure => simp [intOf]; omega
              · have hu18 : u = 18 := by omega
                have HF := Lib.hid (St.fnd_none (N := N) (x := x) (fun i hi => HU.out i (by omega)))
                subst hu18
                go_wp2
                go_ret2
                exact ⟨by rw [HR.out, HF.out]; rfl, hbw⟩
      · have hq : (((s[k]'hlt).toNat : Int) == 61) = false := by have := u8_eq (s[k]'hlt) 61; rw [decide_eq_false hc] at this; exact this
        have HK2 := Lib.hid (show 61 ∉ s.data.toList.take (k + 1) by
          rw [ba_take_succ s k hlt, List.mem_append, not_or, List.mem_singleton]
          exact ⟨HK.out, fun e => hc e.symm⟩)
        clear hc
        go_wp2
        go_round
        case rel => exact ⟨k + 1, by omega, by go_num, HK2⟩
        case measure => simp [intOf]; omega
    · have hkl : k = s.size := by omega
      have HR := Lib.hid (St.sd_no (t := s.data.toList) (St.cut_no (by
        have := HK.out
        rwa [List.take_of_length_le (by rw [← HSZ.out]; omega)] at this)))
      subst hkl
      go_wp2
      go_ret2
      exact ⟨by rw [HR.out]; rfl, Below.refl _ _⟩

end Go.Proofs.YtliabgcpciekpaaDoor
