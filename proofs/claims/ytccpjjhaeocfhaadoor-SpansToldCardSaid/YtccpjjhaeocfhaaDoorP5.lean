/- Walks: the chapter's first example, which all these laws try first. -/
import Derived.Test.YtccpjjhaeocfhaaDoorP4
set_option linter.unusedVariables false
set_option linter.unusedSimpArgs false
namespace Go.Proofs.YtccpjjhaeocfhaaDoor
open Go Go.RowKit

def aliveT : List UInt8 := [53, 44, 49, 45, 50, 44, 50, 45, 51]
def aliveL : List Sp.R := [(0, 3), (4, 5)]
theorem alive_pR : (Sp.spl 44 aliveT).map Sp.pR = [(4, 5), (0, 2), (1, 3)] := by kernel_rfl
theorem alive_right : Sp.rightT aliveT = true := by kernel_rfl
theorem alive_ok : Sp.ok aliveL = true := by kernel_rfl
theorem setOf_is {f : Nat → Bool} {l : List Sp.R} (h : Sp.ok l = true) (he : ∀ i : Nat, f i = Sp.has l (i : Int)) : Sp.setOf f 65536 = l := by
  rw [Sp.setOf_congr (g := fun i => Sp.has l (i : Int)) (fun i _ => he i)]
  exact Sp.setOf_has h
theorem alive_parse : Sp.parseL aliveT = aliveL ∧ Sp.parseE aliveT = 0 := by
  have hne : aliveT ≠ [] := by unfold aliveT; simp
  refine ⟨?_, by unfold Sp.parseE; rw [if_neg hne, if_pos alive_right]⟩
  unfold Sp.parseL
  rw [if_neg hne, if_pos alive_right, alive_pR]
  refine setOf_is alive_ok (fun i => ?_)
  unfold aliveL
  simp only [Sp.has, List.any_cons, List.any_nil, Bool.or_false]
  rw [Bool.eq_iff_iff]
  simp only [Bool.and_eq_true, Bool.or_eq_true, decide_eq_true_eq]
  omega
theorem itoa_digit {n : Int} (h : 0 ≤ n) (h2 : n < 10) : Lib.itoa n = [UInt8.ofNat (48 + n.toNat)] := by
  unfold Lib.itoa
  rw [if_neg (by omega)]
  unfold Lib.decDigits
  rw [dif_pos (by omega)]
theorem alive_text : Sp.textL aliveL = [49, 45, 51, 44, 53] := by
  unfold aliveL Sp.textL Sp.piece
  simp only [List.flatMap_cons, List.flatMap_nil, Sp.piece]
  rw [itoa_digit (n := 0 + 1) (by omega) (by omega), itoa_digit (n := 3) (by omega) (by omega), itoa_digit (n := 4 + 1) (by omega) (by omega)]
  rfl
theorem itc_small (w : World) {n : Int} (h : 0 ≤ n) (h2 : n < 100) : ItC w n := by
  intro w' _
  obtain ⟨m, rfl⟩ := Int.eq_ofNat_of_zero_le h
  refine (Tryd.strconv_Itoa_small m (by omega) w').mono ?_
  rintro e w'' ⟨rfl, rfl⟩
  refine ⟨?_, Below.refl _ _⟩
  unfold Lib.itoa bs
  rw [if_neg (by omega)]; rfl

theorem eql_rg (e f : Sp.R) (w : World) : (binOp .eql 38 (.agg #[.int .i64 e.1, .int .i64 e.2]) (.agg #[.int .i64 f.1, .int .i64 f.2])).run Tryd.prog w = .ok (.bool (decide (e = f))) w := by
  rw [run_eql_struct]
  simp [go_sem]
  obtain ⟨a, b⟩ := e
  obtain ⟨c, d⟩ := f
  simp only [Prod.mk.injEq]
  by_cases h1 : a = c <;> by_cases h2 : b = d <;> simp [h1, h2]

set_option maxRecDepth 100000 in
set_option maxHeartbeats 4000000 in
theorem alive_any (w : World) :
    Calls Tryd.prog 14 #[] w fun e w' => e = .returned (.bool true) ∧ Below w.heap.size w w' := by
  have hP := Parse_any ⟨#[53, 44, 49, 45, 50, 44, 50, 45, 51]⟩ w (by show (9 : Nat) ≤ 1000000; omega)
  have e1 : (⟨#[53, 44, 49, 45, 50, 44, 50, 45, 51]⟩ : ByteArray).data.toList = aliveT := rfl
  rw [e1, alive_parse.1, alive_parse.2] at hP
  have HP := Lib.hid hP; clear hP e1
  have HT : Hid (∀ (A : Option Addr) (c : Nat) (w1 : World), Rd w1 2 A 2 (rgcs aliveL) → Calls Tryd.prog 11 #[.slice A 2 c] w1 fun e w' => e = .returned (.tuple #[.string ⟨#[49, 45, 51, 44, 53]⟩, .int .i64 0]) ∧ Below w1.heap.size w1 w') := Lib.hid (fun A c w1 hr => by
    refine (Text_any A c aliveL w1 hr (by unfold aliveL; simp) (fun r hr => ?_)).mono ?_
    · unfold aliveL at hr
      simp at hr
      rcases hr with rfl | rfl
      · exact ⟨itc_small _ (by omega) (by omega), itc_small _ (by omega) (by omega)⟩
      · exact ⟨itc_small _ (by omega) (by omega), itc_small _ (by omega) (by omega)⟩
    · rintro e w' ⟨rfl, hb⟩
      rw [if_pos alive_ok, if_pos alive_ok, alive_text]
      exact ⟨rfl, hb⟩)
  have q1 := fun w => eql_rg (0, 3) (0, 3) w
  have q2 := fun w => eql_rg (4, 5) (4, 5) w
  simp only [decide_true] at q1 q2
  go_enter Tryd.func14, Tryd.ntmps14
  go_wp2_with (first
    | (go_at_call 9; refine HP.out.mono ?_; rintro e w1 ⟨v, rfl, A, c, rfl, hc, hr, hb1⟩; rw [show aliveL.length = 2 from rfl] at *; obtain ⟨b1, o1, rfl, _, y0, y1⟩ := hr.rg (l := aliveL) (k := 0) (e := (0, 3)) rfl; obtain ⟨b2, o2, hbb, _, y2, y3⟩ := hr.rg (l := aliveL) (k := 1) (e := (4, 5)) rfl; cases hbb; simp only [Nat.zero_mul, Nat.add_zero, Nat.one_mul] at y0 y1 y2 y3)
    | (go_at_call 11; refine (HT.out _ _ _ hr).mono ?_; rintro e w2 ⟨rfl, hb2⟩; have z0 := (hb2.cell (World.block_lt_of_cell? _ _ y0)).trans y0; have z1 := (hb2.cell (World.block_lt_of_cell? _ _ y1)).trans y1; have z2 := (hb2.cell (World.block_lt_of_cell? _ _ y2)).trans y2; have z3 := (hb2.cell (World.block_lt_of_cell? _ _ y3)).trans y3))
  go_ret
  exact ⟨rfl, hb1.trans (hb2.mono hb1.size)⟩

end Go.Proofs.YtccpjjhaeocfhaaDoor
