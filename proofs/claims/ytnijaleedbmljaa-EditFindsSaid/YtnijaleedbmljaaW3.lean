/- Walks: whether edits fit (the document's), sums, joins. -/
import Derived.Test.YtnijaleedbmljaaW2
set_option linter.unusedVariables false
set_option linter.unusedSimpArgs false
namespace Go.Proofs.Ytnijaleedbmljaa
open Go Go.RowKit

/-- Does the last of some lines end with a byte 10? -/
def lastEndB (L : List Pl.T) : Bool := match L.getLast? with
  | none => true
  | some z => wholeB z
def lastOf (l : List Pl.Ed) : Nat → Int
  | 0 => -1
  | k + 1 => (l[k]?.map (fun e => e.t)).getD 0
theorem lastOf_succ {l : List Pl.Ed} {k : Nat} (h : k < l.length) : lastOf l (k + 1) = l[k].t := by
  simp [lastOf, List.getElem?_eq_getElem h]
theorem wholeB_ne {x : Pl.T} (h : x ≠ []) : wholeB x = endB x := by
  unfold wholeB
  have : x.isEmpty = false := by rw [List.isEmpty_eq_false_iff]; exact h
  rw [this, Bool.false_or]

def SmallT (L : List Pl.T) : Prop := ∀ x ∈ L, x.length ≤ 1000000000

set_option maxRecDepth 100000 in
set_option maxHeartbeats 8000000 in
theorem refFit_any (X A : Option Addr) (cx c : Nat) (L : List Pl.T) (l : List Pl.Ed) (w : World) (hL : L.length ≤ 1000000000) (g : Rd w 1 X L.length (strs L)) (h : Rd w 3 A l.length (edcs l)) (hl : l.length ≤ 1000000000) (hsL : SmallT L) (hsm : Smalls l) :
    Calls Try.prog 46 #[.slice X L.length cx, .slice A l.length c] w fun e w' => e = .returned (.bool (fitB L.length (lastEndB L) (-1) l)) ∧ Below w.heap.size w w' := by
  generalize hes : lastEndB L = es
  have HES := Lib.hid hes; clear hes
  go_enter Try.func46, Try.ntmps46
  go_wp2
  go_loopw [5] (fun i wr => ∃ (k : Nat), k ≤ l.length ∧ i = .int .i64 k ∧ fitB L.length es (-1) l = fitB L.length es (lastOf l k) (l.drop k) ∧ Below w.heap.size w wr) (fun i _ => l.length - (intOf i).toNat)
  case atStart => exact ⟨0, Nat.zero_le _, rfl, by simp [lastOf], Below.refl _ _⟩
  case round =>
    obtain ⟨k, hk, rfl, hf, hb⟩ := hrel
    by_cases hlt : k < l.length
    · have HS := Lib.hid (lastOf_succ hlt)
      have hprev : 0 < k → ∃ b1 o1, A = some ⟨b1, o1, none⟩ ∧ wr.cell? ⟨b1, o1 + (k - 1) * 3 + 1, none⟩ = some (.int .i64 (lastOf l k)) := by
        intro h0
        obtain ⟨k', rfl⟩ : ∃ k', k = k' + 1 := ⟨k - 1, by omega⟩
        obtain ⟨b1, o1, e1, _, _, c2, _⟩ := (h.later hb).ed (k := k') (List.getElem?_eq_getElem (by omega))
        exact ⟨b1, o1, e1, by rw [lastOf_succ (by omega)]; simpa using c2⟩
      have hneg : k = 0 → lastOf l k = -1 := by rintro rfl; rfl
      obtain ⟨b1, o1, rfl, _, c1, c2, c3⟩ := (h.later hb).ed (k := k) (List.getElem?_eq_getElem hlt)
      have hc4 : 0 < k → wr.cell? ⟨b1, o1 + (k - 1) * 3 + 1, none⟩ = some (.int .i64 (lastOf l k)) := by
        intro h0
        obtain ⟨b2, o2, e2, hc⟩ := hprev h0
        cases e2; exact hc
      clear hprev
      rw [List.drop_eq_getElem_cons hlt] at hf
      have hxs := hsm l[k] (List.getElem_mem hlt)
      generalize l[k] = e at c1 c2 c3 hf hxs HS
      generalize lastOf l k = last at hf hneg hc4
      have HF := Lib.hid hf; clear hf
      have hxz : (bs e.x).size ≤ 1000000000 := by rw [bs_size]; exact hxs
      have hbE : ∀ o m, Below w.heap.size w ((wr.alloc o).drewN m) := fun o m => below_drewN (hb.alloc hb.size o) m
      have hcA : ∀ o, 0 < k → (wr.alloc o).cell? ⟨b1, o1 + (k - 1) * 3 + 1, none⟩ = some (.int .i64 last) := fun o h0 => by
        rw [World.cell?_alloc_lt wr o _ (by assumption)]; exact hc4 h0
      clear hc4
      by_cases g2 : e.f < 0
      · have HN := Lib.hid (fitB_bad (n := L.length) (es := es) (last := last) (r := l.drop (k + 1)) (.inr (.inl g2)))
        clear hcA hneg
        go_wp2
        go_quiet (fail)
        go_wp2
        go_ret
        exact ⟨ret_bool (by rw [HF.out, HN.out]), hbE _ _⟩
      have d2 : decide (e.f < 0) = false := decide_eq_false g2
      by_cases g3 : e.t < e.f
      · have HN := Lib.hid (fitB_bad (n := L.length) (es := es) (last := last) (r := l.drop (k + 1)) (.inr (.inr (.inl g3))))
        clear hcA hneg
        go_wp2
        go_quiet (fail)
        go_wp2
        go_ret
        exact ⟨ret_bool (by rw [HF.out, HN.out]), hbE _ _⟩
      have d3 : decide (e.t < e.f) = false := decide_eq_false g3
      by_cases g4 : (L.length : Int) < e.t
      · have HN := Lib.hid (fitB_bad (n := L.length) (es := es) (last := last) (r := l.drop (k + 1)) (.inr (.inr (.inr g4))))
        clear hcA hneg
        go_wp2
        go_quiet (fail)
        go_wp2
        go_ret
        exact ⟨ret_bool (by rw [HF.out, HN.out]), hbE _ _⟩
      have d4 : decide ((L.length : Int) < e.t) = false := decide_eq_false g4
      have HG := Lib.hid (show e.f ≤ last → ¬ (0 < k) → False by intro a b; have := hneg (by omega); omega)
      clear hneg
      have t0 : ∀ b, e.x.isEmpty = b → (bs e.x).toList.isEmpty = b := fun b h => by rw [bs_isEmpty]; exact h
      by_cases g5 : e.f = e.t ∧ e.x = []
      · have t1 : (bs e.x).toList.isEmpty = true := t0 true (by rw [g5.2]; rfl)
        have t2 : (bs e.x).toList = [] := by rw [bs_toList, g5.2]
        have g5' : (e.f == e.t) = true := by simpa using g5.1
        have HN := Lib.hid (show fitB L.length es last (e :: l.drop (k + 1)) = false by
          by_cases hq : e.f ≤ last
          · exact fitB_bad (.inl hq)
          · exact fitB_none (by omega) g5.2 g5.1)
        clear hcA g5 t0
        go_wp2
        go_quiet (fail)
        go_wp2
        go_ret
        exact ⟨ret_bool (by rw [HF.out, HN.out]), hbE _ _⟩
      have d5 : (e.f = e.t ∧ e.x ≠ [] ∧ (e.f == e.t) = true ∧ (bs e.x).toList.isEmpty = false ∧ ¬ (bs e.x).toList = []) ∨ (e.f ≠ e.t ∧ (e.f == e.t) = false) := by
        by_cases hq : e.f = e.t
        · have hx : e.x ≠ [] := fun h => g5 ⟨hq, h⟩
          exact .inl ⟨hq, hx, by simpa using hq, t0 false (by rw [List.isEmpty_eq_false_iff]; exact hx), by rw [bs_toList]; exact hx⟩
        · exact .inr ⟨hq, by simpa using hq⟩
      clear g5
      have d6 : (0 < k ∧ decide ((0 : Int) < (k : Int)) = true) ∨ (k = 0 ∧ decide ((0 : Int) < (k : Int)) = false ∧ decide (0 < k) = false) := by
        rcases Nat.eq_zero_or_pos k with h | h
        · exact .inr ⟨h, by subst h; rfl, by subst h; rfl⟩
        · exact .inl ⟨h, by simpa using h⟩
      by_cases g1 : e.f ≤ last
      · have HN := Lib.hid (fitB_bad (n := L.length) (es := es) (last := last) (r := l.drop (k + 1)) (.inl g1))
        rcases d6 with ⟨h0, d6⟩ | ⟨h0, d6, _⟩
        · have hcB := fun o => hcA o h0
          have e1 : IntKind.i64.wrap ((k : Int) - 1) = (k : Int) - 1 := IntWalk.i64_in _ (by omega)
          have e2 : ((k : Int) - 1).toNat = k - 1 := by omega
          have e3 : (0 : Int) ≤ (k : Int) - 1 := by omega
          have e4 : (k : Int) - 1 < (l.length : Int) := by omega
          have e5 : (1 : Int) ≤ (k : Int) := by omega
          have H5 : (e.f == e.t) = true ∧ (bs e.x).toList.isEmpty = false ∨ (e.f == e.t) = false := by
            rcases d5 with ⟨_, _, h, h2, _⟩ | ⟨_, h⟩
            · exact .inl ⟨h, h2⟩
            · exact .inr h
          clear hcA d5 t0 HG
          rcases H5 with ⟨h5, h6⟩ | h5
          all_goals
            go_wp2
            go_quiet (fail)
            go_wp2
            go_ret
            exact ⟨ret_bool (by rw [HF.out, HN.out]), hbE _ _⟩
        · exact absurd (HG.out g1 (by omega)) (by simp)
      have d7 : decide (e.f ≤ last) = false := decide_eq_false g1
      have GG := Lib.hid (show ¬ (e.f ≤ last ∨ e.f < 0 ∨ e.t < e.f ∨ (L.length : Int) < e.t) by omega)
      have hlast : L.length = 0 ∨ ∃ bx ox z, 0 < L.length ∧ X = some ⟨bx, ox, none⟩ ∧ wr.cell? ⟨bx, ox + (L.length - 1), none⟩ = some (.string (bs z)) ∧ bx < wr.heap.size ∧ es = wholeB z ∧ (bs z).size ≤ 1000000000 := by
        rcases Nat.eq_zero_or_pos L.length with h0 | h0
        · exact .inl h0
        · right
          obtain ⟨bx, ox, e1, hb1, c⟩ := (g.later hb).st (k := L.length - 1) (List.getElem?_eq_getElem (by omega))
          refine ⟨bx, ox, _, h0, e1, c, hb1, ?_, by rw [bs_size]; exact hsL _ (List.getElem_mem _)⟩
          rw [← HES.out]; unfold lastEndB; rw [List.getLast?_eq_getElem?, List.getElem?_eq_getElem (by omega)]
      have XW := Lib.hid (show ∀ w, Calls Try.prog 62 #[.string (bs e.x)] w fun e' w' => e' = .returned (.bool (wholeB e.x)) ∧ w = w' from fun w => by have := whole_any (bs e.x) w hxz; rwa [bs_data] at this)
      have e1 : 0 < k → IntKind.i64.wrap ((k : Int) - 1) = (k : Int) - 1 ∧ ((k : Int) - 1).toNat = k - 1 ∧ (0 : Int) ≤ (k : Int) - 1 ∧ (k : Int) - 1 < (l.length : Int) ∧ (1 : Int) ≤ (k : Int) := fun h => ⟨IntWalk.i64_in _ (by omega), by omega, by omega, by omega, by omega⟩
      have KK : (∃ (_ : 0 < k), (decide ((0 : Int) < (k : Int)) = true)) ∨ (decide ((0 : Int) < (k : Int)) = false ∧ decide (0 < k) = false) := by
        rcases d6 with ⟨h, h2⟩ | ⟨_, h2, h3⟩
        · exact .inl ⟨h, h2⟩
        · exact .inr ⟨h2, h3⟩
      clear d6
      by_cases hx : e.x = []
      · have hft : e.f ≠ e.t := by rcases d5 with ⟨_, h, _⟩ | ⟨h, _⟩; exact absurd hx h; exact h
        have g5 : (e.f == e.t) = false := by simpa using hft
        have HN := Lib.hid (fitB_cut (es := es) (r := l.drop (k + 1)) GG.out hx hft)
        have hwe : wholeB e.x = true := by rw [hx]; rfl
        rw [hwe] at XW
        have g8 : (e.f == (L.length : Int)) = false := by rw [beq_eq_false_iff_ne]; omega
        clear d5 hlast hx hwe hft
        by_cases g7 : e.t < L.length
        · have g7' : decide (e.t < (L.length : Int)) = true := decide_eq_true g7
          rcases KK with ⟨h0, q1⟩ | ⟨q1, q2⟩
          · have hcB := fun o => hcA o h0
            obtain ⟨e1, e2, e3, e4, e5⟩ := e1 h0
            clear hcA t0 HG
            go_wp2
            go_quiet (fail)
            go_wp2_with (go_at_call 62; refine (XW.out _).mono ?_; rintro e w' ⟨rfl, rfl⟩)
            go_roundw
            case rel => exact ⟨k + 1, by omega, by go_num, by rw [HF.out, HN.out, HS.out], hbE _ _⟩
            case measure => simp [intOf]; omega
          · clear hcA t0 HG e1
            go_wp2
            go_quiet (fail)
            go_wp2_with (go_at_call 62; refine (XW.out _).mono ?_; rintro e w' ⟨rfl, rfl⟩)
            go_roundw
            case rel => exact ⟨k + 1, by omega, by go_num, by rw [HF.out, HN.out, HS.out], hbE _ _⟩
            case measure => simp [intOf]; omega
        · have g7' : decide (e.t < (L.length : Int)) = false := decide_eq_false g7
          rcases KK with ⟨h0, q1⟩ | ⟨q1, q2⟩
          · have hcB := fun o => hcA o h0
            obtain ⟨e1, e2, e3, e4, e5⟩ := e1 h0
            clear hcA t0 HG
            go_wp2
            go_quiet (fail)
            go_wp2_with (go_at_call 62; refine (XW.out _).mono ?_; rintro e w' ⟨rfl, rfl⟩)
            go_roundw
            case rel => exact ⟨k + 1, by omega, by go_num, by rw [HF.out, HN.out, HS.out], hbE _ _⟩
            case measure => simp [intOf]; omega
          · clear hcA t0 HG e1
            go_wp2
            go_quiet (fail)
            go_wp2_with (go_at_call 62; refine (XW.out _).mono ?_; rintro e w' ⟨rfl, rfl⟩)
            go_roundw
            case rel => exact ⟨k + 1, by omega, by go_num, by rw [HF.out, HN.out, HS.out], hbE _ _⟩
            case measure => simp [intOf]; omega
      have HNo := Lib.hid (fitB_no (n := L.length) (es := es) (last := last) (r := l.drop (k + 1)) GG.out hx)
      have HGo := Lib.hid (fitB_go (n := L.length) (es := es) (last := last) (r := l.drop (k + 1)) GG.out hx)
      have t1 : (bs e.x).toList.isEmpty = false := t0 false (by rw [List.isEmpty_eq_false_iff]; exact hx)
      have t2 : ¬ (bs e.x).toList = [] := by rw [bs_toList]; exact hx
      rw [wholeB_ne hx] at XW
      have D5 : (e.f == e.t) = true ∨ (e.f == e.t) = false := by cases (e.f == e.t) <;> simp
      clear d5
      by_cases g7 : e.t < L.length
      · have g7' : decide (e.t < (L.length : Int)) = true := decide_eq_true g7
        have g8 : (e.f == (L.length : Int)) = false := by rw [beq_eq_false_iff_ne]; omega
        clear hlast
        cases hee : endB e.x
        · have HN := Lib.hid (HNo.out (.inl ⟨g7, hee⟩))
          rw [hee] at XW
          clear hx hee HNo HGo
          rcases D5 with g5 | g5
          all_goals
            rcases KK with ⟨h0, q1⟩ | ⟨q1, q2⟩
            · have hcB := fun o => hcA o h0
              obtain ⟨e1, e2, e3, e4, e5⟩ := e1 h0
              clear hcA t0 HG
              go_wp2
              go_quiet (fail)
              go_wp2_with (go_at_call 62; refine (XW.out _).mono ?_; rintro e w' ⟨rfl, rfl⟩)
              go_ret
              exact ⟨ret_bool (by rw [HF.out, HN.out]), hbE _ _⟩
            · clear hcA t0 HG e1
              go_wp2
              go_quiet (fail)
              go_wp2_with (go_at_call 62; refine (XW.out _).mono ?_; rintro e w' ⟨rfl, rfl⟩)
              go_ret
              exact ⟨ret_bool (by rw [HF.out, HN.out]), hbE _ _⟩
        · have HN := Lib.hid (HGo.out (by rintro (⟨_, h⟩ | ⟨h, _⟩); rw [hee] at h; cases h; omega))
          rw [hee] at XW
          clear hx hee HNo HGo
          rcases D5 with g5 | g5
          all_goals
            rcases KK with ⟨h0, q1⟩ | ⟨q1, q2⟩
            · have hcB := fun o => hcA o h0
              obtain ⟨e1, e2, e3, e4, e5⟩ := e1 h0
              clear hcA t0 HG
              go_wp2
              go_quiet (fail)
              go_wp2_with (go_at_call 62; refine (XW.out _).mono ?_; rintro e w' ⟨rfl, rfl⟩)
              go_roundw
              case rel => exact ⟨k + 1, by omega, by go_num, by rw [HF.out, HN.out, HS.out], hbE _ _⟩
              case measure => simp [intOf]; omega
            · clear hcA t0 HG e1
              go_wp2
              go_quiet (fail)
              go_wp2_with (go_at_call 62; refine (XW.out _).mono ?_; rintro e w' ⟨rfl, rfl⟩)
              go_roundw
              case rel => exact ⟨k + 1, by omega, by go_num, by rw [HF.out, HN.out, HS.out], hbE _ _⟩
              case measure => simp [intOf]; omega
      have g7' : decide (e.t < (L.length : Int)) = false := decide_eq_false g7
      by_cases g6 : e.f = L.length
      · have g5 : (e.f == e.t) = true := by rw [beq_iff_eq]; omega
        have g8 : (e.f == (L.length : Int)) = true := by rw [beq_iff_eq]; exact g6
        clear D5
        rcases hlast with h00 | ⟨bx, ox, z, h00, rfl, cz, hbx, hesz, hzz⟩
        · have HN := Lib.hid (HGo.out (by rintro (⟨h, _⟩ | ⟨_, h, _⟩) <;> omega))
          have h01 : decide ((0 : Int) < (L.length : Int)) = false := decide_eq_false (by omega)
          have h02 : ¬ 0 < L.length := by omega
          clear hx HNo HGo g6 h00
          rcases KK with ⟨h0, q1⟩ | ⟨q1, q2⟩
          · have hcB := fun o => hcA o h0
            obtain ⟨e1, e2, e3, e4, e5⟩ := e1 h0
            clear hcA t0 HG
            go_wp2
            go_quiet (fail)
            go_wp2_with (go_at_call 62; refine (XW.out _).mono ?_; rintro e w' ⟨rfl, rfl⟩)
            go_roundw
            case rel => exact ⟨k + 1, by omega, by go_num, by rw [HF.out, HN.out, HS.out], hbE _ _⟩
            case measure => simp [intOf]; omega
          · clear hcA t0 HG e1
            go_wp2
            go_quiet (fail)
            go_wp2_with (go_at_call 62; refine (XW.out _).mono ?_; rintro e w' ⟨rfl, rfl⟩)
            go_roundw
            case rel => exact ⟨k + 1, by omega, by go_num, by rw [HF.out, HN.out, HS.out], hbE _ _⟩
            case measure => simp [intOf]; omega
        · have ZW := Lib.hid (show ∀ w, Calls Try.prog 62 #[.string (bs z)] w fun e' w' => e' = .returned (.bool es) ∧ w = w' from fun w => by have := whole_any (bs z) w hzz; rwa [bs_data, ← hesz] at this)
          have HESZ := Lib.hid hesz; clear hesz
          have h01 : decide ((0 : Int) < (L.length : Int)) = true := decide_eq_true (by omega)
          have m1 : IntKind.i64.wrap ((L.length : Int) - 1) = (L.length : Int) - 1 := IntWalk.i64_in _ (by omega)
          have m2 : ((L.length : Int) - 1).toNat = L.length - 1 := by omega
          have cz' : ∀ o, (wr.alloc o).cell? ⟨bx, ox + (L.length - 1), none⟩ = some (.string (bs z)) := fun o => by rw [World.cell?_alloc_lt wr o _ hbx]; exact cz
          rcases (by cases es <;> simp : es = false ∨ es = true) with hes | hes
          · have HN := Lib.hid (HNo.out (.inr ⟨g6, h00, hes⟩))
            rw [hes] at ZW
            clear hx HNo HGo g6 hes HESZ
            rcases KK with ⟨h0, q1⟩ | ⟨q1, q2⟩
            · have hcB := fun o => hcA o h0
              obtain ⟨e1, e2, e3, e4, e5⟩ := e1 h0
              clear hcA t0 HG
              go_wp2
              go_quiet (fail)
              go_wp2_with (go_at_call 62; refine (ZW.out _).mono ?_; rintro e w' ⟨rfl, rfl⟩)
              go_ret
              exact ⟨ret_bool (by rw [HF.out, HN.out]), hbE _ _⟩
            · clear hcA t0 HG e1
              go_wp2
              go_quiet (fail)
              go_wp2_with (go_at_call 62; refine (ZW.out _).mono ?_; rintro e w' ⟨rfl, rfl⟩)
              go_ret
              exact ⟨ret_bool (by rw [HF.out, HN.out]), hbE _ _⟩
          · have HN := Lib.hid (HGo.out (by rintro (⟨h, _⟩ | ⟨_, _, h⟩); omega; rw [hes] at h; cases h))
            rw [hes] at ZW
            clear hx HNo HGo g6 hes HESZ
            rcases KK with ⟨h0, q1⟩ | ⟨q1, q2⟩
            · have hcB := fun o => hcA o h0
              obtain ⟨e1, e2, e3, e4, e5⟩ := e1 h0
              clear hcA t0 HG
              go_wp2
              go_quiet (fail)
              go_wp2_with (go_at_call 62; refine (ZW.out _).mono ?_; rintro e w' ⟨rfl, rfl⟩)
              go_roundw
              case rel => exact ⟨k + 1, by omega, by go_num, by rw [HF.out, HN.out, HS.out], hbE _ _⟩
              case measure => simp [intOf]; omega
            · clear hcA t0 HG e1
              go_wp2
              go_quiet (fail)
              go_wp2_with (go_at_call 62; refine (ZW.out _).mono ?_; rintro e w' ⟨rfl, rfl⟩)
              go_roundw
              case rel => exact ⟨k + 1, by omega, by go_num, by rw [HF.out, HN.out, HS.out], hbE _ _⟩
              case measure => simp [intOf]; omega
      · have g5 : (e.f == e.t) = false := by rw [beq_eq_false_iff_ne]; omega
        have g8 : (e.f == (L.length : Int)) = false := by rw [beq_eq_false_iff_ne]; exact g6
        have HN := Lib.hid (HGo.out (by rintro (⟨h, _⟩ | ⟨h, _⟩) <;> omega))
        clear hlast D5 hx HNo HGo
        rcases KK with ⟨h0, q1⟩ | ⟨q1, q2⟩
        · have hcB := fun o => hcA o h0
          obtain ⟨e1, e2, e3, e4, e5⟩ := e1 h0
          clear hcA t0 HG
          go_wp2
          go_quiet (fail)
          go_wp2_with (go_at_call 62; refine (XW.out _).mono ?_; rintro e w' ⟨rfl, rfl⟩)
          go_roundw
          case rel => exact ⟨k + 1, by omega, by go_num, by rw [HF.out, HN.out, HS.out], hbE _ _⟩
          case measure => simp [intOf]; omega
        · clear hcA t0 HG e1
          go_wp2
          go_quiet (fail)
          go_wp2_with (go_at_call 62; refine (XW.out _).mono ?_; rintro e w' ⟨rfl, rfl⟩)
          go_roundw
          case rel => exact ⟨k + 1, by omega, by go_num, by rw [HF.out, HN.out, HS.out], hbE _ _⟩
          case measure => simp [intOf]; omega
    · have hkl : k = l.length := by omega
      have HF := Lib.hid hf; clear hf
      have HK := Lib.hid hkl; clear hkl
      go_wp2
      go_ret
      exact ⟨ret_bool (by rw [HF.out, HK.out]; simp [fitB]), hb⟩

end Go.Proofs.Ytnijaleedbmljaa
