/- Walks: whether edits fit (the program's), sums, joins. -/
import Derived.Test.YtnijaleedbmljaaW1
set_option linter.unusedVariables false
set_option linter.unusedSimpArgs false
namespace Go.Proofs.Ytnijaleedbmljaa
open Go Go.RowKit

/-- Whether edits fit a text of n lines, as the program asks it. es: it ends with a byte 10. -/
def fitB (n : Nat) (es : Bool) : Int → List Pl.Ed → Bool
  | _, [] => true
  | last, e :: r =>
    if e.f ≤ last ∨ e.f < 0 ∨ e.t < e.f ∨ (n : Int) < e.t then false
    else if e.x = [] then (if e.f = e.t then false else fitB n es e.t r)
    else if (e.t < n ∧ endB e.x = false) ∨ (e.f = n ∧ 0 < n ∧ es = false) then false
    else fitB n es e.t r

theorem fitB_bad {n : Nat} {es : Bool} {last : Int} {e : Pl.Ed} {r : List Pl.Ed} (h : e.f ≤ last ∨ e.f < 0 ∨ e.t < e.f ∨ (n : Int) < e.t) : fitB n es last (e :: r) = false := by
  rw [fitB, if_pos h]
theorem fitB_none {n : Nat} {es : Bool} {last : Int} {e : Pl.Ed} {r : List Pl.Ed} (h : ¬ (e.f ≤ last ∨ e.f < 0 ∨ e.t < e.f ∨ (n : Int) < e.t)) (hx : e.x = []) (hf : e.f = e.t) : fitB n es last (e :: r) = false := by
  rw [fitB, if_neg h, if_pos hx, if_pos hf]
theorem fitB_cut {n : Nat} {es : Bool} {last : Int} {e : Pl.Ed} {r : List Pl.Ed} (h : ¬ (e.f ≤ last ∨ e.f < 0 ∨ e.t < e.f ∨ (n : Int) < e.t)) (hx : e.x = []) (hf : ¬ e.f = e.t) : fitB n es last (e :: r) = fitB n es e.t r := by
  rw [fitB, if_neg h, if_pos hx, if_neg hf]
theorem fitB_no {n : Nat} {es : Bool} {last : Int} {e : Pl.Ed} {r : List Pl.Ed} (h : ¬ (e.f ≤ last ∨ e.f < 0 ∨ e.t < e.f ∨ (n : Int) < e.t)) (hx : ¬ e.x = []) (hf : (e.t < n ∧ endB e.x = false) ∨ (e.f = n ∧ 0 < n ∧ es = false)) : fitB n es last (e :: r) = false := by
  rw [fitB, if_neg h, if_neg hx, if_pos hf]
theorem fitB_go {n : Nat} {es : Bool} {last : Int} {e : Pl.Ed} {r : List Pl.Ed} (h : ¬ (e.f ≤ last ∨ e.f < 0 ∨ e.t < e.f ∨ (n : Int) < e.t)) (hx : ¬ e.x = []) (hf : ¬ ((e.t < n ∧ endB e.x = false) ∨ (e.f = n ∧ 0 < n ∧ es = false))) : fitB n es last (e :: r) = fitB n es e.t r := by
  rw [fitB, if_neg h, if_neg hx, if_neg hf]

/-- All texts of edits are of a size that no count passes. -/
def Smalls (l : List Pl.Ed) : Prop := ∀ e ∈ l, e.x.length ≤ 1000000000

theorem bs_isEmpty (x : Pl.T) : (bs x).toList.isEmpty = x.isEmpty := by rw [bs_toList]

set_option maxHeartbeats 4000000 in
theorem fit_any (s : ByteArray) (n : Nat) (A : Option Addr) (c : Nat) (l : List Pl.Ed) (w : World) (hs : s.size ≤ 1000000000) (hn : n ≤ 1000000000) (h : Rd w 3 A l.length (edcs l)) (hl : l.length ≤ 1000000000) (hsm : Smalls l) :
    Calls Try.prog 48 #[.string s, .int .i64 n, .slice A l.length c] w fun e w' => e = .returned (.bool (fitB n (endB s.data.toList) (-1) l)) ∧ Below w.heap.size w w' := by
  have sc := fun w => ended_any s w hs
  generalize endB s.data.toList = es at sc ⊢
  have SC := Lib.hid sc; clear sc
  go_enter Try.func48, Try.ntmps48
  go_wp2
  go_loopw [7, 12] (fun la i wr => ∃ (k : Nat) (last : Int), k ≤ l.length ∧ i = .int .i64 k ∧ la = .int .i64 last ∧ fitB n es (-1) l = fitB n es last (l.drop k) ∧ Below w.heap.size w wr) (fun _ i _ => l.length - (intOf i).toNat)
  case atStart => exact ⟨0, -1, Nat.zero_le _, rfl, rfl, by simp, Below.refl _ _⟩
  case round =>
    obtain ⟨k, last, hk, rfl, rfl, hf, hb⟩ := hrel
    by_cases hlt : k < l.length
    · obtain ⟨b1, o1, rfl, _, c1, c2, c3⟩ := (h.later hb).ed (k := k) (List.getElem?_eq_getElem hlt)
      rw [List.drop_eq_getElem_cons hlt] at hf
      have hxs := hsm l[k] (List.getElem_mem hlt)
      generalize l[k] = e at c1 c2 c3 hf hxs
      have HF := Lib.hid hf; clear hf
      have hxz : (bs e.x).size ≤ 1000000000 := by rw [bs_size]; exact hxs
      have hbE : ∀ o, Below w.heap.size w (wr.alloc o) := fun o => hb.alloc hb.size o
      by_cases g1 : e.f ≤ last
      · have HN := Lib.hid (fitB_bad (n := n) (es := es) (r := l.drop (k + 1)) (.inl g1))
        go_wp2
        go_ret
        exact ⟨ret_bool (by rw [HF.out, HN.out]), hbE _⟩
      by_cases g2 : e.f < 0
      · have HN := Lib.hid (fitB_bad (n := n) (es := es) (last := last) (r := l.drop (k + 1)) (.inr (.inl g2)))
        go_wp2
        go_ret
        exact ⟨ret_bool (by rw [HF.out, HN.out]), hbE _⟩
      by_cases g3 : e.t < e.f
      · have HN := Lib.hid (fitB_bad (n := n) (es := es) (last := last) (r := l.drop (k + 1)) (.inr (.inr (.inl g3))))
        go_wp2
        go_ret
        exact ⟨ret_bool (by rw [HF.out, HN.out]), hbE _⟩
      by_cases g4 : (n : Int) < e.t
      · have HN := Lib.hid (fitB_bad (n := n) (es := es) (last := last) (r := l.drop (k + 1)) (.inr (.inr (.inr g4))))
        go_wp2
        go_ret
        exact ⟨ret_bool (by rw [HF.out, HN.out]), hbE _⟩
      have HG := Lib.hid (show ¬ (e.f ≤ last ∨ e.f < 0 ∨ e.t < e.f ∨ (n : Int) < e.t) by omega)
      by_cases hx : e.x = []
      · have t1 : (bs e.x).toList.isEmpty = true := by rw [bs_isEmpty, hx]; rfl
        have t2 : (bs e.x).toList = [] := by rw [bs_toList, hx]
        have HX := Lib.hid hx; clear hx
        by_cases g5 : e.f = e.t
        · have g5' : (e.f == e.t) = true := by simpa using g5
          have HN := Lib.hid (fitB_none (n := n) (es := es) (last := last) (r := l.drop (k + 1)) HG.out HX.out g5)
          clear g5
          go_wp2
          go_ret
          exact ⟨ret_bool (by rw [HF.out, HN.out]), hbE _⟩
        · have g5' : (e.f == e.t) = false := by simpa using g5
          have HN := Lib.hid (fitB_cut (n := n) (es := es) (last := last) (r := l.drop (k + 1)) HG.out HX.out g5)
          clear g5
          go_wp2
          go_roundw
          case rel => exact ⟨k + 1, e.t, by omega, by go_num, rfl, by rw [HF.out, HN.out], hbE _⟩
          case measure => simp [intOf]; omega
      · have t1 : (bs e.x).toList.isEmpty = false := by rw [bs_isEmpty, List.isEmpty_eq_false_iff]; exact hx
        have t2 : ¬ (bs e.x).toList = [] := by rw [bs_toList]; exact hx
        have HX := Lib.hid hx; clear hx
        have ec := fun w => ended_any (bs e.x) w hxz
        simp only [bs_data] at ec
        have EC := Lib.hid ec; clear ec
        have HNo := Lib.hid (fitB_no (n := n) (es := es) (last := last) (r := l.drop (k + 1)) HG.out HX.out)
        have HGo := Lib.hid (fitB_go (n := n) (es := es) (last := last) (r := l.drop (k + 1)) HG.out HX.out)
        generalize endB e.x = ee at *
        by_cases g5 : e.t < n
        · cases ee
          · have HN := Lib.hid (HNo.out (.inl ⟨g5, rfl⟩))
            go_wp2_with (go_at_call 63; refine (EC.out _).mono ?_; rintro e w' ⟨rfl, rfl⟩)
            go_ret
            exact ⟨ret_bool (by rw [HF.out, HN.out]), hbE _⟩
          · have HN := Lib.hid (HGo.out (by rintro (⟨_, h⟩ | ⟨h, _⟩); cases h; omega))
            have g6 : (e.f == (n : Int)) = false := by rw [beq_eq_false_iff_ne]; omega
            go_wp2_with (go_at_call 63; refine (EC.out _).mono ?_; rintro e w' ⟨rfl, rfl⟩)
            go_roundw
            case rel => exact ⟨k + 1, e.t, by omega, by go_num, rfl, by rw [HF.out, HN.out], hbE _⟩
            case measure => simp [intOf]; omega
        · by_cases g6 : e.f = n
          · have g6' : (e.f == (n : Int)) = true := by simpa using g6
            by_cases g7 : 0 < n
            · cases es
              · have HN := Lib.hid (HNo.out (.inr ⟨g6, g7, rfl⟩)); clear g6
                go_wp2_with (go_at_call 63; refine (SC.out _).mono ?_; rintro e w' ⟨rfl, rfl⟩)
                go_ret
                exact ⟨ret_bool (by rw [HF.out, HN.out]), hbE _⟩
              · have HN := Lib.hid (HGo.out (by rintro (⟨h, _⟩ | ⟨_, _, h⟩); omega; cases h)); clear g6
                go_wp2_with (go_at_call 63; refine (SC.out _).mono ?_; rintro e w' ⟨rfl, rfl⟩)
                go_roundw
                case rel => exact ⟨k + 1, e.t, by omega, by go_num, rfl, by rw [HF.out, HN.out], hbE _⟩
                case measure => simp [intOf]; omega
            · have HN := Lib.hid (HGo.out (by rintro (⟨h, _⟩ | ⟨_, h, _⟩) <;> omega)); clear g6
              go_wp2
              go_roundw
              case rel => exact ⟨k + 1, e.t, by omega, by go_num, rfl, by rw [HF.out, HN.out], hbE _⟩
              case measure => simp [intOf]; omega
          · have g6' : (e.f == (n : Int)) = false := by simpa using g6
            have HN := Lib.hid (HGo.out (by rintro (⟨h, _⟩ | ⟨h, _⟩) <;> omega))
            go_wp2
            go_roundw
            case rel => exact ⟨k + 1, e.t, by omega, by go_num, rfl, by rw [HF.out, HN.out], hbE _⟩
            case measure => simp [intOf]; omega
    · have hkl : k = l.length := by omega
      have HF := Lib.hid hf; clear hf
      have HK := Lib.hid hkl; clear hkl
      go_wp2
      go_ret
      exact ⟨ret_bool (by rw [HF.out, HK.out]; simp [fitB]), hb⟩

end Go.Proofs.Ytnijaleedbmljaa
