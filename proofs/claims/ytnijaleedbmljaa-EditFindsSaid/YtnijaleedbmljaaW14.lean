/- Walks: the pairs of lines that stay. -/
import Derived.Test.YtnijaleedbmljaaW13
import Derived.WalkMore
set_option linter.unusedVariables false
set_option linter.unusedSimpArgs false
namespace Go.Proofs.Ytnijaleedbmljaa
open Go Go.RowKit

def prI (l : List (Nat × Nat)) : List (Int × Int) := l.map fun p => ((p.1 : Int), (p.2 : Int))
def prs (l : List (Nat × Nat)) : List Value := rgcs (prI l)
theorem prs_snoc (l : List (Nat × Nat)) (i j : Nat) : prs l ++ [.int .i64 i, .int .i64 j] = prs (l ++ [(i, j)]) := by
  simp [prs, prI, rgcs, rgc, List.flatMap_append]

theorem two_new (w : World) (x y : Value) (t : TypeId) : ∀ j u, [x, y][j]? = some u → (w.alloc (.cells #[x, y] t)).cell? ((⟨w.heap.size, 0, none⟩ : Addr).add j) = some u := by
  intro j u hj
  match j, hj with
  | 0, hj => simp at hj; subst hj; simp [Addr.add]
  | 1, hj => simp at hj; subst hj; simp [Addr.add]

theorem prInfo : (Try.prog.info? 106).map (fun i => (i.zero, i.size, i.bytes)) = some (some (.agg #[.int .i64 0, .int .i64 0]), 2, 16) := by kernel_rfl

theorem pairs_at {us vs : List Nat} {i j a b : Nat} (hi : us[i]? = some a) (hj : vs[j]? = some b) : Pl.pairs i j (us.drop i) (vs.drop j) =
    if a = b then (i, j) :: Pl.pairs (i + 1) (j + 1) (us.drop (i + 1)) (vs.drop (j + 1))
    else if tabL us vs (i * (vs.length + 1) + j + 1) ≤ tabL us vs ((i + 1) * (vs.length + 1) + j) then Pl.pairs (i + 1) j (us.drop (i + 1)) (vs.drop j) else Pl.pairs i (j + 1) (us.drop i) (vs.drop (j + 1)) := by
  have h1 := (List.getElem?_eq_some_iff.1 hi).1
  have h2 := (List.getElem?_eq_some_iff.1 hj).1
  rw [Nat.add_assoc, tabL_at _ _ _ (by omega), tabL_at _ _ _ (by omega)]
  rw [List.drop_eq_getElem_cons h1, List.drop_eq_getElem_cons h2, (List.getElem?_eq_some_iff.1 hi).2, (List.getElem?_eq_some_iff.1 hj).2, Pl.pairs_cons]

set_option maxRecDepth 100000 in
set_option maxHeartbeats 4000000 in
theorem pairs_any (A B : Option Addr) (c d : Nat) (us vs : List Nat) (w : World) (h : Rd w 1 A us.length (ints us)) (g : Rd w 1 B vs.length (ints vs)) (hu : us.length ≤ 4000000) (hv : vs.length ≤ 4000000) (hN : (us.length + 1) * (vs.length + 1) ≤ 1000000000) :
    Calls Try.prog 56 #[.slice A us.length c, .slice B vs.length d] w fun e w' => ∃ v, e = .returned v ∧ SlOwn w w' 106 2 v (Pl.pairs 0 0 us vs).length (prs (Pl.pairs 0 0 us vs)) := by
  obtain ⟨i0, hi, hz0, hz1, hz2⟩ := info_parts prInfo
  have LC := Lib.hid (longest_any A B c d us vs w h g hu hv hN)
  generalize hla : us.length = la at *
  generalize hlb : vs.length = lb at *
  by_cases hu0 : la = 0
  · have e := List.eq_nil_of_length_eq_zero (hla.trans hu0)
    have HE := Lib.hid (show Pl.pairs 0 0 us vs = [] by rw [e, Pl.pairs_nil_left]); clear e
    have hd : ((la : Int) == 0) = true := by rw [hu0]; rfl
    go_enter Try.func56, Try.ntmps56
    go_wp2
    go_step3
    go_wp2
    rw [Exit.noGoto_ret]
    go_ret
    exact ⟨_, rfl, by rw [HE.out]; exact World.ownsRow_nil _ _ _ _, Below.refl _ _⟩
  by_cases hv0 : lb = 0
  · have e := List.eq_nil_of_length_eq_zero (hlb.trans hv0)
    have HE := Lib.hid (show Pl.pairs 0 0 us vs = [] by rw [e, Pl.pairs_nil_right]); clear e
    have hd0 : ((la : Int) == 0) = false := by rw [beq_eq_false_iff_ne]; omega
    have hd : ((lb : Int) == 0) = true := by simp [hv0]
    go_enter Try.func56, Try.ntmps56
    go_wp2
    go_step3
    go_wp2
    rw [Exit.noGoto_ret]
    go_ret
    exact ⟨_, rfl, by rw [HE.out]; exact World.ownsRow_nil _ _ _ _, Below.refl _ _⟩
  have hd0 : ((la : Int) == 0) = false := by rw [beq_eq_false_iff_ne]; omega
  have hd1 : ((lb : Int) == 0) = false := by rw [beq_eq_false_iff_ne]; omega
  obtain ⟨N, hNe⟩ : ∃ N, N = (la + 1) * (lb + 1) := ⟨_, rfl⟩
  rw [← hNe] at hN LC
  have HNE := Lib.hid hNe; clear hNe
  have hpl : (Pl.pairs 0 0 us vs).length ≤ 4000000 := by
    rw [Pl.pairs_length _ 0 0 us vs (Nat.le_refl _)]
    have := Pl.lcs_le_left us vs; omega
  have HPL := Lib.hid hpl; clear hpl
  go_enter Try.func56, Try.ntmps56
  go_wp2
  go_step3
  go_wp2_with (go_at_call 69; refine LC.out.mono ?_; rintro e w1 ⟨rfl, hr1, hb1⟩)
  go_step3
  go_wp2
  clear hd0 hd1
  have hS : w.heap.size < w1.heap.size := hr1.lt
  have HR1 := Lib.hid hr1; clear hr1
  go_loopw [5, 8, 9] (fun v iv jv wr => ∃ (i j : Nat) (out : List (Nat × Nat)), i ≤ la ∧ j ≤ lb ∧ iv = .int .i64 i ∧ jv = .int .i64 j ∧ wr.ownsRow w1.heap.size 106 2 v out.length (prs out) ∧ Below w1.heap.size w1 wr ∧
    Hid (out ++ Pl.pairs i j (us.drop i) (vs.drop j) = Pl.pairs 0 0 us vs)) (fun _ iv jv _ => (la - (intOf iv).toNat) + (lb - (intOf jv).toNat))
  case atStart => exact ⟨0, 0, [], Nat.zero_le _, Nat.zero_le _, rfl, rfl, World.ownsRow_nil _ _ _ _, Below.refl _ _, Lib.hid (by simp)⟩
  case round =>
    obtain ⟨i, j, out, hil, hjl, rfl, rfl, hown, hb, H1⟩ := hrel
    have hol : out.length ≤ 4000000 := by
      have := congrArg List.length H1.out
      rw [List.length_append] at this
      have := HPL.out; omega
    by_cases hi1 : i < la
    · by_cases hj1 : j < lb
      · have hi1' : i < us.length := by omega
        have hj1' : j < vs.length := by omega
        have hbw := hb1.trans (hb.mono hb1.size)
        obtain ⟨b1, o1, rfl, _, c1⟩ := (h.later hbw).int (k := i) (List.getElem?_eq_getElem hi1')
        obtain ⟨b2, o2, rfl, _, c2⟩ := (g.later hbw).int (k := j) (List.getElem?_eq_getElem hj1')
        have HT := Lib.hid (pairs_at (List.getElem?_eq_getElem hi1') (List.getElem?_eq_getElem hj1'))
        rw [hlb] at HT
        generalize us[i] = a at c1 HT
        generalize vs[j] = b at c2 HT
        obtain ⟨wo, rfl⟩ : ∃ wo : World, wo = wr := ⟨_, rfl⟩
        by_cases hab : a = b
        · rw [if_pos hab] at HT
          have H2 : Hid ((out ++ [(i, j)]) ++ Pl.pairs (i + 1) (j + 1) (us.drop (i + 1)) (vs.drop (j + 1)) = Pl.pairs 0 0 us vs) := Lib.hid (by rw [List.append_assoc, ← H1.out, HT.out]; rfl)
          have hol2 : out.length + 1 ≤ 4000000 := by
            have := congrArg List.length H2.out
            simp only [List.length_append, List.length_cons, List.length_nil] at this
            have := HPL.out; omega
          have HSN := Lib.hid (prs_snoc out i j)
          clear H1 HT
          have hd : ((a : Int) == (b : Int)) = true := by rw [hab]; simp
          clear hab
          go_wp2
          go_quiet (fail)
          have hb' := below_drewN hb nq
          have hown' : (wo.drewN nq).ownsRow _ _ _ _ _ _ := own_later hown (below_drewN (Below.refl _ _) nq)
          generalize wo.drewN nq = wd at *
          go_wp2_with (at_builtin; refine wpList_append_own _ rfl _ _ 103 rfl w1.heap.size 106 i0 _ 2 16 Try.underlying103 hi hz0 hz1 hz2 rfl (by decide) _ _ _ rfl (hown'.alloc _) ⟨wd.heap.size, 0, none⟩ 1 1 [.int .i64 i, .int .i64 j] rfl rfl (two_new _ _ _ _) (by simp [Value.oneCell']) (by unfold maxLen; omega) (by omega) (by have := hb'.size; simp; omega) ?_; intro v' w4 hown4 hgrow _)
          have hb4 := (hb'.alloc hb'.size (.cells #[.int .i64 i, .int .i64 j] 106)).grown hgrow (by have := hb'.size; simp; omega) (fun j hj => (hown'.lt j hj).1)
          go_roundw
          case rel => exact ⟨i + 1, j + 1, _, by omega, by omega, by go_num, by go_num, by rw [List.length_append]; rw [HSN.out] at hown4; exact hown4, hb4, H2⟩
          case measure => simp [intOf]; omega
        · rw [if_neg hab] at HT
          obtain ⟨P0, hP0⟩ : ∃ P, P = i * (lb + 1) := ⟨_, rfl⟩
          obtain ⟨P1, hP1⟩ : ∃ P, P = (i + 1) * (lb + 1) := ⟨_, rfl⟩
          have n3 : P1 = P0 + (lb + 1) := by rw [hP1, hP0, Nat.add_mul, Nat.one_mul]
          have n2 : P1 + (lb + 1) ≤ N := by
            rw [HNE.out, hP1]
            have : (i + 1) * (lb + 1) + (lb + 1) = (i + 1 + 1) * (lb + 1) := by rw [Nat.add_mul (i + 1), Nat.one_mul]
            rw [this]
            exact Nat.mul_le_mul_right _ (by omega)
          have q0 : (i : Int) * ((lb : Int) + 1) = (P0 : Int) := by rw [hP0]; push_cast; rfl
          have q1 : ((i : Int) + 1) * ((lb : Int) + 1) = (P1 : Int) := by rw [hP1]; push_cast; rfl
          have n4 : P0 + (lb + 1) ≤ P1 ∧ P1 ≤ P0 + (lb + 1) := by omega
          rw [← hP0, ← hP1] at HT
          clear hP0 hP1 n3
          have L2 := tabL_le us vs (P1 + j)
          have L3 := tabL_le us vs (P0 + j + 1)
          have e2 := (hb.cell (p := ⟨w.heap.size, P1 + j, none⟩) hS).trans (HR1.out.cell (i := P1 + j) (by omega))
          have e3 := (hb.cell (p := ⟨w.heap.size, P0 + j + 1, none⟩) hS).trans (HR1.out.cell (i := P0 + j + 1) (by omega))
          unfold tabF at e2 e3
          simp only [Nat.zero_le, if_true] at e2 e3
          generalize tabL us vs (P1 + j) = y1 at *
          generalize tabL us vs (P0 + j + 1) = y2 at *
          have hd : ((a : Int) == (b : Int)) = false := by rw [beq_eq_false_iff_ne]; omega
          clear hab
          by_cases hle : y2 ≤ y1
          · rw [if_pos hle] at HT
            have H2 : Hid (out ++ Pl.pairs (i + 1) j (us.drop (i + 1)) (vs.drop j) = Pl.pairs 0 0 us vs) := Lib.hid (by rw [← H1.out, HT.out])
            have hc : decide ((y2 : Int) ≤ (y1 : Int)) = true := by simp; omega
            clear H1 HT
            go_wp2
            go_quiet (fail)
            have hb' := below_drewN hb nq
            have hown' : (wo.drewN nq).ownsRow _ _ _ _ _ _ := own_later hown (below_drewN (Below.refl _ _) nq)
            replace e2 : (wo.drewN nq).cell? _ = _ := e2
            replace e3 : (wo.drewN nq).cell? _ = _ := e3
            generalize wo.drewN nq = wd at *
            have wI : IntKind.i64.wrap ((i : Int) + 1) = (i : Int) + 1 := IntWalk.i64_in _ (by omega)
            have w0 : IntKind.i64.wrap (P0 : Int) = (P0 : Int) := IntWalk.i64_in _ (by omega)
            have w1' : IntKind.i64.wrap (P1 : Int) = (P1 : Int) := IntWalk.i64_in _ (by omega)
            have w2 : IntKind.i64.wrap ((P0 : Int) + j) = (P0 : Int) + j := IntWalk.i64_in _ (by omega)
            have w3 : IntKind.i64.wrap ((P1 : Int) + j) = (P1 : Int) + j := IntWalk.i64_in _ (by omega)
            have w4 : IntKind.i64.wrap ((P0 : Int) + j + 1) = (P0 : Int) + j + 1 := IntWalk.i64_in _ (by omega)
            have l2 : 0 ≤ (P1 : Int) + j := by omega
            have l2' : (P1 : Int) + j < (N : Int) := by omega
            have l3 : 0 ≤ (P0 : Int) + j + 1 := by omega
            have l3' : (P0 : Int) + j + 1 < (N : Int) := by omega
            have z2 : ((P1 : Int) + j).toNat = P1 + j := by omega
            have z3 : ((P0 : Int) + j + 1).toNat = P0 + j + 1 := by omega
            go_wp2
            go_quiet (fail)
            clear wI w0 w1' w2 w3 w4 l2 l2' l3 l3' z2 z3
            go_wp2
            go_roundw
            case rel => exact ⟨i + 1, j, out, by omega, by omega, by go_num, rfl, own_later hown' (below_drewN (Below.refl _ _) _), below_drewN hb' _, H2⟩
            case measure => simp [intOf]; omega
          · rw [if_neg hle] at HT
            have H2 : Hid (out ++ Pl.pairs i (j + 1) (us.drop i) (vs.drop (j + 1)) = Pl.pairs 0 0 us vs) := Lib.hid (by rw [← H1.out, HT.out])
            have hc : decide ((y2 : Int) ≤ (y1 : Int)) = false := by simp; omega
            clear H1 HT
            go_wp2
            go_quiet (fail)
            have hb' := below_drewN hb nq
            have hown' : (wo.drewN nq).ownsRow _ _ _ _ _ _ := own_later hown (below_drewN (Below.refl _ _) nq)
            replace e2 : (wo.drewN nq).cell? _ = _ := e2
            replace e3 : (wo.drewN nq).cell? _ = _ := e3
            generalize wo.drewN nq = wd at *
            have wI : IntKind.i64.wrap ((i : Int) + 1) = (i : Int) + 1 := IntWalk.i64_in _ (by omega)
            have w0 : IntKind.i64.wrap (P0 : Int) = (P0 : Int) := IntWalk.i64_in _ (by omega)
            have w1' : IntKind.i64.wrap (P1 : Int) = (P1 : Int) := IntWalk.i64_in _ (by omega)
            have w2 : IntKind.i64.wrap ((P0 : Int) + j) = (P0 : Int) + j := IntWalk.i64_in _ (by omega)
            have w3 : IntKind.i64.wrap ((P1 : Int) + j) = (P1 : Int) + j := IntWalk.i64_in _ (by omega)
            have w4 : IntKind.i64.wrap ((P0 : Int) + j + 1) = (P0 : Int) + j + 1 := IntWalk.i64_in _ (by omega)
            have l2 : 0 ≤ (P1 : Int) + j := by omega
            have l2' : (P1 : Int) + j < (N : Int) := by omega
            have l3 : 0 ≤ (P0 : Int) + j + 1 := by omega
            have l3' : (P0 : Int) + j + 1 < (N : Int) := by omega
            have z2 : ((P1 : Int) + j).toNat = P1 + j := by omega
            have z3 : ((P0 : Int) + j + 1).toNat = P0 + j + 1 := by omega
            go_wp2
            go_quiet (fail)
            clear wI w0 w1' w2 w3 w4 l2 l2' l3 l3' z2 z3
            go_wp2
            go_roundw
            case rel => exact ⟨i, j + 1, out, by omega, by omega, rfl, by go_num, own_later hown' (below_drewN (Below.refl _ _) _), below_drewN hb' _, H2⟩
            case measure => simp [intOf]; omega
      · have hj2 : vs.drop j = [] := List.drop_of_length_le (by omega)
        have HE := Lib.hid (show out = Pl.pairs 0 0 us vs by rw [← H1.out, hj2, Pl.pairs_nil_right, List.append_nil])
        clear hj2 H1
        go_wp2
        rw [Exit.noGoto_ret]
        go_ret
        refine ⟨_, rfl, ?_, hb1.trans (hb.mono hb1.size)⟩
        rw [← HE.out]; exact own_base hown hb1.size
    · have hj2 : us.drop i = [] := List.drop_of_length_le (by omega)
      have HE := Lib.hid (show out = Pl.pairs 0 0 us vs by rw [← H1.out, hj2, Pl.pairs_nil_left, List.append_nil])
      clear hj2 H1
      go_wp2
      rw [Exit.noGoto_ret]
      go_ret
      refine ⟨_, rfl, ?_, hb1.trans (hb.mono hb1.size)⟩
      rw [← HE.out]; exact own_base hown hb1.size

end Go.Proofs.Ytnijaleedbmljaa
