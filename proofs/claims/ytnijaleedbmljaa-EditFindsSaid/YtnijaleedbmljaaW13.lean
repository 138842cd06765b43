/- Walks: the table of longest common parts. -/
import Derived.StillTailTactics
import Derived.Test.YtnijaleedbmljaaW12
set_option linter.unusedVariables false
set_option linter.unusedSimpArgs false
namespace Go.Proofs.Ytnijaleedbmljaa
open Go Go.RowKit

/-! ### The plain part -/
def tabL (us vs : List Nat) (p : Nat) : Nat := Pl.lcs (us.drop (p / (vs.length + 1))) (vs.drop (p % (vs.length + 1)))
/-- The table, filled from place t on. -/
def tabF (us vs : List Nat) (t p : Nat) : Value := .int .i32 (if t ≤ p then (tabL us vs p : Nat) else (0 : Nat))

theorem tabL_at (us vs : List Nat) (i : Nat) {j : Nat} (hj : j ≤ vs.length) : tabL us vs (i * (vs.length + 1) + j) = Pl.lcs (us.drop i) (vs.drop j) := by
  unfold tabL
  have h1 : (i * (vs.length + 1) + j) / (vs.length + 1) = i := by
    rw [Nat.add_comm, Nat.add_mul_div_right _ _ (by omega), Nat.div_eq_of_lt (by omega), Nat.zero_add]
  have h2 : (i * (vs.length + 1) + j) % (vs.length + 1) = j := by
    rw [Nat.add_comm, Nat.add_mul_mod_self_right, Nat.mod_eq_of_lt (by omega)]
  rw [h1, h2]

theorem tabL_le (us vs : List Nat) (p : Nat) : tabL us vs p ≤ us.length := by
  have := Pl.lcs_le_left (us.drop (p / (vs.length + 1))) (vs.drop (p % (vs.length + 1)))
  simp only [List.length_drop] at this
  exact Nat.le_trans this (Nat.sub_le _ _)

theorem tabL_eq {us vs : List Nat} {i j a b : Nat} (hi : us[i]? = some a) (hj : vs[j]? = some b) : tabL us vs (i * (vs.length + 1) + j) =
    if a = b then tabL us vs ((i + 1) * (vs.length + 1) + j + 1) + 1 else max (tabL us vs ((i + 1) * (vs.length + 1) + j)) (tabL us vs (i * (vs.length + 1) + j + 1)) := by
  have h1 := (List.getElem?_eq_some_iff.1 hi).1
  have h2 := (List.getElem?_eq_some_iff.1 hj).1
  rw [tabL_at _ _ _ (by omega), Nat.add_assoc, tabL_at _ _ _ (by omega), tabL_at _ _ _ (by omega), Nat.add_assoc, tabL_at _ _ _ (by omega)]
  rw [List.drop_eq_getElem_cons h1, List.drop_eq_getElem_cons h2, (List.getElem?_eq_some_iff.1 hi).2, (List.getElem?_eq_some_iff.1 hj).2, Pl.lcs_cons]

theorem tabF_step (us vs : List Nat) (t p : Nat) : (if p = t then Value.int .i32 (tabL us vs t : Nat) else tabF us vs (t + 1) p) = tabF us vs t p := by
  unfold tabF
  by_cases h : p = t
  · subst h; simp
  · rw [if_neg h]
    by_cases h2 : t + 1 ≤ p
    · rw [if_pos h2, if_pos (by omega)]
    · rw [if_neg h2, if_neg (by omega)]

/-- The last column is zero. -/
theorem tabF_row (us vs : List Nat) (i p : Nat) : tabF us vs ((i + 1) * (vs.length + 1)) p = tabF us vs (i * (vs.length + 1) + vs.length) p := by
  have e : (i + 1) * (vs.length + 1) = i * (vs.length + 1) + vs.length + 1 := by rw [Nat.add_mul, Nat.one_mul, Nat.add_assoc]
  rw [e, ← tabF_step us vs (i * (vs.length + 1) + vs.length) p]
  by_cases h : p = i * (vs.length + 1) + vs.length
  · subst h
    rw [if_pos rfl, tabL_at _ _ _ (Nat.le_refl _), List.drop_length, Pl.lcs_nil_right]
    unfold tabF
    rw [if_neg (by omega)]
  · rw [if_neg h]

/-- The last row is zero. -/
theorem tabF_start (us vs : List Nat) {p : Nat} (hp : p < (us.length + 1) * (vs.length + 1)) : tabF us vs (us.length * (vs.length + 1)) p = .int .i32 0 := by
  unfold tabF
  by_cases h : us.length * (vs.length + 1) ≤ p
  · rw [if_pos h]
    have h1 : us.length ≤ p / (vs.length + 1) := (Nat.le_div_iff_mul_le (by omega)).2 h
    unfold tabL
    rw [List.drop_of_length_le h1, Pl.lcs_nil_left]; rfl
  · rw [if_neg h]; rfl

theorem Rd.int {w : World} {A : Option Addr} {l : List Nat} {n : Nat} (h : Rd w 1 A n (ints l)) {k : Nat} {e : Nat} (hk : l[k]? = some e) :
    ∃ b o, A = some ⟨b, o, none⟩ ∧ b < w.heap.size ∧ w.cell? ⟨b, o + k, none⟩ = some (.int .i64 (e : Int)) := by
  have hl : k < l.length := (List.getElem?_eq_some_iff.1 hk).1
  have h1 := h.1
  simp only [ints, List.length_map] at h1
  obtain ⟨b, o, e', hlt, hc⟩ := h.2 (by omega)
  exact ⟨b, o, e', hlt, hc _ _ (by simp [ints, hk])⟩

theorem info32 : (Try.prog.info? 21).map (fun i => (i.zero, i.size, i.bytes)) = some (some (.int .i32 0), 1, 4) := by kernel_rfl

theorem own_row {w : World} {b : Nat} {t : TypeId} {n : Nat} {f : Nat → Value} (h : w.rowIs b t n f) (m : Nat) : (w.drewN m).rowIs b t n f := h

set_option maxRecDepth 100000 in
set_option maxHeartbeats 4000000 in
theorem longest_any (A B : Option Addr) (c d : Nat) (us vs : List Nat) (w : World) (h : Rd w 1 A us.length (ints us)) (g : Rd w 1 B vs.length (ints vs)) (hu : us.length ≤ 4000000) (hv : vs.length ≤ 4000000) (hN : (us.length + 1) * (vs.length + 1) ≤ 1000000000) :
    Calls Try.prog 69 #[.slice A us.length c, .slice B vs.length d] w fun e w' => e = .returned (.slice (some ⟨w.heap.size, 0, none⟩) ((us.length + 1) * (vs.length + 1)) ((us.length + 1) * (vs.length + 1))) ∧
      w'.rowIs w.heap.size 21 ((us.length + 1) * (vs.length + 1)) (tabF us vs 0) ∧ Below w.heap.size w w' := by
  obtain ⟨N, hNe⟩ : ∃ N, N = (us.length + 1) * (vs.length + 1) := ⟨_, rfl⟩
  rw [← hNe] at hN ⊢
  have hmk := run_make_row' (P := Try.prog) 117 21 _ 4 Try.underlying117 info32 rfl .i64 .i64 N (by omega) (by omega)
  have hNi : ((N : Nat) : Int) = ((us.length : Int) + 1) * ((vs.length : Int) + 1) := by rw [hNe]; push_cast; rfl
  rw [hNi] at hmk
  have hprod : 0 ≤ ((us.length : Int) + 1) * ((vs.length : Int) + 1) ∧ ((us.length : Int) + 1) * ((vs.length : Int) + 1) ≤ 1000000000 := by omega
  have HR0 := Lib.hid (World.rowIs_made w (.int .i32 0) N 21)
  have HB0 := Lib.hid ((Below.refl _ w).alloc (Nat.le_refl _) (.cells (madeCells #[Value.int .i32 0] N) 21))
  have HST := Lib.hid (fun p (hp : p < N) => tabF_start us vs (hNe ▸ hp))
  have HNE := Lib.hid hNe; clear hNe
  go_enter Try.func69, Try.ntmps69
  go_wp2
  go_loopw [7] (fun iv wr => ∃ m : Nat, m ≤ us.length ∧ iv = .int .i64 ((m : Int) - 1) ∧ Below w.heap.size w wr ∧ Hid (wr.rowIs w.heap.size 21 N (tabF us vs (m * (vs.length + 1))))) (fun iv _ => (intOf iv + 1).toNat)
  case atStart => exact ⟨us.length, Nat.le_refl _, rfl, HB0.out, Lib.hid (HR0.out.congr (fun p hp => (HST.out p hp).symm))⟩
  case round =>
    obtain ⟨m, hm, rfl, hb, HR⟩ := hrel
    cases m with
    | zero =>
      rw [Nat.zero_mul] at HR
      simp only [Int.natCast_zero, Int.zero_sub]
      go_wp2
      go_ret
      exact ⟨rfl, HR.out, hb⟩
    | succ i =>
      rw [show ((i + 1 : Nat) : Int) - 1 = i by omega]
      obtain ⟨P0, hP0⟩ : ∃ P, P = i * (vs.length + 1) := ⟨_, rfl⟩
      obtain ⟨P1, hP1⟩ : ∃ P, P = (i + 1) * (vs.length + 1) := ⟨_, rfl⟩
      have n3 : P1 = P0 + (vs.length + 1) := by rw [hP1, hP0, Nat.add_mul, Nat.one_mul]
      have n2 : P1 + (vs.length + 1) ≤ N := by
        rw [HNE.out, hP1]
        have : (i + 1) * (vs.length + 1) + (vs.length + 1) = (i + 1 + 1) * (vs.length + 1) := by rw [Nat.add_mul (i + 1), Nat.one_mul]
        rw [this]
        exact Nat.mul_le_mul_right _ (by omega)
      have q0 : (i : Int) * ((vs.length : Int) + 1) = (P0 : Int) := by rw [hP0]; push_cast; rfl
      have q1 : ((i : Int) + 1) * ((vs.length : Int) + 1) = (P1 : Int) := by rw [hP1]; push_cast; rfl
      have n4 : P0 + (vs.length + 1) ≤ P1 ∧ P1 ≤ P0 + (vs.length + 1) := by omega
      clear n3
      have HE := Lib.hid (fun p => tabF_row us vs i p)
      rw [← hP0, ← hP1] at HE
      have HTE := Lib.hid (fun (j a b : Nat) h1 h2 => @tabL_eq us vs i j a b h1 h2)
      rw [← hP0, ← hP1] at HTE
      rw [← hP1] at HR
      have HP0 := Lib.hid hP0; clear hP0 hP1
      obtain ⟨wo, rfl⟩ : ∃ wo : World, wo = wr := ⟨_, rfl⟩
      go_wp2
      go_loopw [8] (fun jv wi => ∃ q : Nat, q ≤ vs.length ∧ jv = .int .i64 ((q : Int) - 1) ∧ Below w.heap.size w wi ∧ Hid (wi.rowIs w.heap.size 21 N (tabF us vs (P0 + q)))) (fun jv _ => (intOf jv + 1).toNat)
      case atStart => exact ⟨vs.length, Nat.le_refl _, rfl, hb, Lib.hid (HR.out.congr (fun p _ => HE.out p))⟩
      case round =>
        obtain ⟨q, hq, rfl, hb2, HR2⟩ := hrel
        cases q with
        | zero =>
          rw [Nat.add_zero] at HR2
          simp only [Int.natCast_zero, Int.zero_sub]
          go_wp2
          go_roundw
          case rel => exact ⟨i, by omega, by go_num, hb2, by rw [← HP0.out]; exact HR2⟩
          case measure => first | (simp [intOf]; done) | (simp [intOf]; omega)
        | succ j =>
          rw [show ((j + 1 : Nat) : Int) - 1 = j by omega]
          have hil : i < us.length := by omega
          have hjl : j < vs.length := by omega
          obtain ⟨b1, o1, rfl, _, c1⟩ := (h.later hb2).int (k := i) (List.getElem?_eq_getElem hil)
          obtain ⟨b2, o2, rfl, _, c2⟩ := (g.later hb2).int (k := j) (List.getElem?_eq_getElem hjl)
          have HT := Lib.hid (HTE.out j _ _ (List.getElem?_eq_getElem hil) (List.getElem?_eq_getElem hjl))
          generalize us[i] = a at c1 HT
          generalize vs[j] = b at c2 HT
          have hr := HR2.out
          have L1 := tabL_le us vs (P1 + j + 1)
          have L2 := tabL_le us vs (P1 + j)
          have L3 := tabL_le us vs (P0 + j + 1)
          have e0 := hr.cell (i := P0 + j) (by omega)
          have e1 := hr.cell (i := P1 + j + 1) (by omega)
          have e2 := hr.cell (i := P1 + j) (by omega)
          have e3 := hr.cell (i := P0 + j + 1) (by omega)
          have ef := hr.frozen (P0 + j)
          clear hr
          have t1 : tabF us vs (P0 + (j + 1)) (P1 + j + 1) = .int .i32 (tabL us vs (P1 + j + 1) : Nat) := by unfold tabF; rw [if_pos (by omega)]
          have t2 : tabF us vs (P0 + (j + 1)) (P1 + j) = .int .i32 (tabL us vs (P1 + j) : Nat) := by unfold tabF; rw [if_pos (by omega)]
          have t3 : tabF us vs (P0 + (j + 1)) (P0 + j + 1) = .int .i32 (tabL us vs (P0 + j + 1) : Nat) := by unfold tabF; rw [if_pos (by omega)]
          rw [t1] at e1
          rw [t2] at e2
          rw [t3] at e3
          clear t1 t2 t3
          generalize tabF us vs (P0 + (j + 1)) (P0 + j) = ov at e0
          by_cases hab : a = b
          · rw [if_pos hab] at HT
            have hd : ((a : Int) == (b : Int)) = true := by rw [hab]; simp
            generalize tabL us vs (P1 + j + 1) = y1 at *
            clear hab
            go_wp2
            go_quiet (fail)
            go_wp2
            go_roundw
            case rel => exact ⟨j, by omega, by go_num, (below_drewN hb2 _).setCell (p := ⟨w.heap.size, _, none⟩) (Nat.le_refl _) _, Lib.hid ((own_row HR2.out _).set _ _ |>.congr (fun p _ => by rw [← tabF_step us vs (P0 + j) p, HT.out]; rfl))⟩
            case measure => first | (simp [intOf]; done) | (simp [intOf]; omega)
          · rw [if_neg hab] at HT
            have hd : ((a : Int) == (b : Int)) = false := by simp; omega
            generalize tabL us vs (P1 + j) = y1 at *
            generalize tabL us vs (P0 + j + 1) = y2 at *
            clear hab
            go_wp2
            go_quiet (fail)
            go_wp2
            refine wp_region_still_tail 26 (by kernel_rfl) (by kernel_rfl) ?_
            have d0 : ({ (wr.drewN nq) with drawn := (wr.drewN nq).drawn + 1 } : World).cell? ⟨w.heap.size, P0 + j, none⟩ = _ := e0
            have d2 : ({ (wr.drewN nq) with drawn := (wr.drewN nq).drawn + 1 } : World).cell? ⟨w.heap.size, P1 + j, none⟩ = _ := e2
            have d3 : ({ (wr.drewN nq) with drawn := (wr.drewN nq).drawn + 1 } : World).cell? ⟨w.heap.size, P0 + j + 1, none⟩ = _ := e3
            have df : ({ (wr.drewN nq) with drawn := (wr.drewN nq).drawn + 1 } : World).frozen? ⟨w.heap.size, P0 + j, none⟩ = _ := ef
            have dr : ({ (wr.drewN nq) with drawn := (wr.drewN nq).drawn + 1 } : World).rowIs w.heap.size 21 N _ := HR2.out
            have db := below_drewN (below_drewN hb2 nq) 1
            change Below _ _ ({ (wr.drewN nq) with drawn := (wr.drewN nq).drawn + 1 } : World) at db
            generalize ({ (wr.drewN nq) with drawn := (wr.drewN nq).drawn + 1 } : World) = wd at *
            clear e0 e1 e2 e3 ef
            simp only [List.take_succ_cons, List.take_zero, List.drop_succ_cons, List.drop_zero]
            have wI : IntKind.i64.wrap ((i : Int) + 1) = (i : Int) + 1 := IntWalk.i64_in _ (by omega)
            have w0 : IntKind.i64.wrap (P0 : Int) = (P0 : Int) := IntWalk.i64_in _ (by omega)
            have w1 : IntKind.i64.wrap (P1 : Int) = (P1 : Int) := IntWalk.i64_in _ (by omega)
            have w2 : IntKind.i64.wrap ((P0 : Int) + j) = (P0 : Int) + j := IntWalk.i64_in _ (by omega)
            have w3 : IntKind.i64.wrap ((P1 : Int) + j) = (P1 : Int) + j := IntWalk.i64_in _ (by omega)
            have w4 : IntKind.i64.wrap ((P0 : Int) + j + 1) = (P0 : Int) + j + 1 := IntWalk.i64_in _ (by omega)
            have l1 : 0 ≤ (P0 : Int) + j ∧ (P0 : Int) + j < ((us.length : Int) + 1) * ((vs.length : Int) + 1) := by omega
            have l2 : 0 ≤ (P1 : Int) + j ∧ (P1 : Int) + j < ((us.length : Int) + 1) * ((vs.length : Int) + 1) := by omega
            have l3 : 0 ≤ (P0 : Int) + j + 1 ∧ (P0 : Int) + j + 1 < ((us.length : Int) + 1) * ((vs.length : Int) + 1) := by omega
            obtain ⟨l1, l1'⟩ := l1
            obtain ⟨l2, l2'⟩ := l2
            obtain ⟨l3, l3'⟩ := l3
            have z1 : ((P0 : Int) + j).toNat = P0 + j := by omega
            have z2 : ((P1 : Int) + j).toNat = P1 + j := by omega
            have z3 : ((P0 : Int) + j + 1).toNat = P0 + j + 1 := by omega
            repeat still_step
            refine wpStill_nil ?_
            go_wp2
            go_roundw
            case rel => exact ⟨j, by omega, by go_num, db.setCell (p := ⟨w.heap.size, _, none⟩) (Nat.le_refl _) _, Lib.hid ((dr.set _ _).congr (fun p _ => by rw [← tabF_step us vs (P0 + j) p, HT.out, show ((max y1 y2 : Nat) : Int) = max (y1 : Int) (y2 : Int) by omega]; rfl))⟩
            case measure => first | (simp [intOf]; done) | (simp [intOf]; omega)

end Go.Proofs.Ytnijaleedbmljaa
