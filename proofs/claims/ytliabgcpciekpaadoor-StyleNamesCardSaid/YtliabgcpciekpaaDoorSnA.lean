/- Walks: what the law StyleNames calls, at its own words. -/
import Derived.Test.YtliabgcpciekpaaDoorYsA
import Derived.Test.YtliabgcpciekpaaDoorStylePrints
set_option linter.unusedVariables false
set_option linter.unusedSimpArgs false
namespace Go.Proofs.YtliabgcpciekpaaDoor
open Go Go.RowKit

theorem eqSt_z (w : World) : (binOp .eql 23 (.agg (St.stv (fv 0)).toArray) (.agg #[.int .i64 0, .int .i64 0, .int .i64 0, .int .i64 0, .bool false, .bool false, .bool false, .int .i64 0, .int .i64 0, .int .i64 0, .int .i64 0, .int .i64 0, .int .i64 0, .int .i64 0, .int .i64 0, .int .i64 0, .int .i64 0, .int .i64 0])).run Tryd.prog w = .ok (.bool true) w := by
  rw [← zeroSt]; exact eqStB (fv 0) w
theorem firstSt : (St.stv (fv 18)).toArray = #[.int .i64 80, .int .i64 4, .int .i64 8, .int .i64 1, .bool false, .bool true, .bool true, .int .i64 1000, .int .i64 10, .int .i64 1, .int .i64 5, .int .i64 3, .int .i64 4, .int .i64 6, .int .i64 7, .int .i64 8, .int .i64 9, .int .i64 20] := by rfl
theorem eqSt_f (w : World) : (binOp .eql 23 (.agg (St.stv (fv 18)).toArray) (.agg #[.int .i64 80, .int .i64 4, .int .i64 8, .int .i64 1, .bool false, .bool true, .bool true, .int .i64 1000, .int .i64 10, .int .i64 1, .int .i64 5, .int .i64 3, .int .i64 4, .int .i64 6, .int .i64 7, .int .i64 8, .int .i64 9, .int .i64 20])).run Tryd.prog w = .ok (.bool true) w := by
  rw [← firstSt]; exact eqStB (fv 18) w

theorem ps_ref {t : St.T} {p : Nat} (hl : ¬ 65536 < t.length) (h : (match St.run St.s0 (St.lns 0 t) with
    | .error q => some q
    | .ok _ => none) = some p) : psRes t = .tuple #[.agg (St.stv (fv 0)).toArray, .int .i64 (p : Int), .int .i64 90] := by
  cases hr : St.run St.s0 (St.lns 0 t) with
  | error q =>
    rw [hr] at h
    simp only [Option.some.injEq] at h
    subst h
    obtain ⟨q1, q2, q3⟩ := St.ps_bad hl hr
    unfold psRes
    rw [q1, q2, q3]
  | ok s => rw [hr] at h; cases h
theorem ps_red {t : St.T} {v : Nat → Int} (hl : ¬ 65536 < t.length) (h : (match St.run St.s0 (St.lns 0 t) with
    | .error _ => none
    | .ok s => some (St.stv s.1)) = some (St.stv v)) : psRes t = .tuple #[.agg (St.stv v).toArray, .int .i64 0, .int .i64 0] := by
  cases hr : St.run St.s0 (St.lns 0 t) with
  | error p => rw [hr] at h; cases h
  | ok s =>
    rw [hr] at h
    simp only [Option.some.injEq] at h
    obtain ⟨q1, q2, q3⟩ := St.ps_good hl hr
    unfold psRes
    rw [q1, q2, q3, h]

set_option maxRecDepth 100000 in
set_option maxHeartbeats 8000000 in
theorem refused_any (s : ByteArray) (at_ : Int) (h : psRes s.data.toList = .tuple #[.agg (St.stv (fv 0)).toArray, .int .i64 at_, .int .i64 90]) (w : World) :
    Calls Tryd.prog 28 #[.string s, .int .i64 at_] w fun e w' => e = .returned (.bool true) ∧ Below w.heap.size w w' := by
  have K1 : ∀ W : World, Calls Tryd.prog 17 #[.string s] W fun e w' => e = .returned (.tuple #[.agg (St.stv (fv 0)).toArray, .int .i64 at_, .int .i64 90]) ∧ Below W.heap.size W w' :=
    fun W => (Parse_any _ W).mono fun e w' q => ⟨q.1.trans (congrArg Ending.returned h), q.2⟩
  have K1 := Lib.hid K1
  clear h
  have hE := eqSt_z
  have hg := eq_guardSt
  have hinfo : (Tryd.prog.info? 23).map (·.size) = some (St.stv (fv 0)).length := by rw [St.stv_len]; kernel_rfl
  go_enter Tryd.func28, Tryd.ntmps28
  go_wp2_with (first
    | (go_at_call 17; (with_reducible refine (K1.out _).mono ?_); rintro e w1 ⟨rfl, b1⟩)
    | (refine wpList_store_mid rfl _ _ _ rfl _ _ (St.stv (fv 0)).toArray rfl rfl (st_there w1 (fv 0)) (sty_info (fv 0)) (sty_one (fv 0)) ?_; refine gen_world2 (Q := fun W => wpList _ _ _ _ _ W) (fun W => Sty W w1.heap.size (fv 0) ∧ Below w1.heap.size w1 W ∧ W.heap.size = w1.heap.size + 1) (st_first w1 (fv 0)) ?_; rintro w2 ⟨S2, c2, -⟩; have SR2 := S2.range; (try dsimp only); simp only [Act.put, List.setIfInBounds_toArray, List.set_cons_zero, List.set_cons_succ])
    | (refine wpList_load_guarded (by rfl) _ _ rfl _ _ rfl (St.stv (fv 0)) _ SR2 Tryd.underlying23 rfl hinfo ?_))
  go_ret
  exact ⟨by simp, b1.trans (c2.mono b1.size)⟩

theorem sr0 (W : World) : Calls Tryd.prog 28 #[.string ⟨#[98, 108, 97, 110, 107, 115, 32, 61, 32, 57]⟩, .int .i64 0] W fun e w' => e = .returned (.bool true) ∧ Below W.heap.size W w' :=
  refused_any ⟨#[98, 108, 97, 110, 107, 115, 32, 61, 32, 57]⟩ 0 (ps_ref (t := [98, 108, 97, 110, 107, 115, 32, 61, 32, 57]) (p := 0) (by decide) (by rfl)) W
theorem sr1 (W : World) : Calls Tryd.prog 28 #[.string ⟨#[120, 32, 61, 32, 49]⟩, .int .i64 0] W fun e w' => e = .returned (.bool true) ∧ Below W.heap.size W w' :=
  refused_any ⟨#[120, 32, 61, 32, 49]⟩ 0 (ps_ref (t := [120, 32, 61, 32, 49]) (p := 0) (by decide) (by rfl)) W
theorem sr2 (W : World) : Calls Tryd.prog 28 #[.string ⟨#[99, 111, 108, 117, 109, 110, 115, 32, 53]⟩, .int .i64 0] W fun e w' => e = .returned (.bool true) ∧ Below W.heap.size W w' :=
  refused_any ⟨#[99, 111, 108, 117, 109, 110, 115, 32, 53]⟩ 0 (ps_ref (t := [99, 111, 108, 117, 109, 110, 115, 32, 53]) (p := 0) (by decide) (by rfl)) W
theorem sr3 (W : World) : Calls Tryd.prog 28 #[.string ⟨#[107, 101, 101, 112, 32, 61, 32, 49, 10, 107, 101, 101, 112, 32, 61, 32, 49]⟩, .int .i64 9] W fun e w' => e = .returned (.bool true) ∧ Below W.heap.size W w' :=
  refused_any ⟨#[107, 101, 101, 112, 32, 61, 32, 49, 10, 107, 101, 101, 112, 32, 61, 32, 49]⟩ 9 (ps_ref (t := [107, 101, 101, 112, 32, 61, 32, 49, 10, 107, 101, 101, 112, 32, 61, 32, 49]) (p := 9) (by decide) (by rfl)) W
theorem sr4 (W : World) : Calls Tryd.prog 28 #[.string ⟨#[105, 110, 100, 101, 110, 116, 32, 61, 32, 48, 48, 48, 48, 48, 48, 48, 52]⟩, .int .i64 0] W fun e w' => e = .returned (.bool true) ∧ Below W.heap.size W w' :=
  refused_any ⟨#[105, 110, 100, 101, 110, 116, 32, 61, 32, 48, 48, 48, 48, 48, 48, 48, 52]⟩ 0 (ps_ref (t := [105, 110, 100, 101, 110, 116, 32, 61, 32, 48, 48, 48, 48, 48, 48, 48, 52]) (p := 0) (by decide) (by rfl)) W
theorem sr5 (W : World) : Calls Tryd.prog 28 #[.string ⟨#[10, 32, 13, 9, 99, 111, 108, 117, 109, 110, 115, 32, 61, 32, 48, 10]⟩, .int .i64 4] W fun e w' => e = .returned (.bool true) ∧ Below W.heap.size W w' :=
  refused_any ⟨#[10, 32, 13, 9, 99, 111, 108, 117, 109, 110, 115, 32, 61, 32, 48, 10]⟩ 4 (ps_ref (t := [10, 32, 13, 9, 99, 111, 108, 117, 109, 110, 115, 32, 61, 32, 48, 10]) (p := 4) (by decide) (by rfl)) W
theorem sr6 (W : World) : Calls Tryd.prog 28 #[.string ⟨#[101, 108, 115, 101, 32, 61, 32, 49, 48, 48, 48, 48, 48, 49]⟩, .int .i64 0] W fun e w' => e = .returned (.bool true) ∧ Below W.heap.size W w' :=
  refused_any ⟨#[101, 108, 115, 101, 32, 61, 32, 49, 48, 48, 48, 48, 48, 49]⟩ 0 (ps_ref (t := [101, 108, 115, 101, 32, 61, 32, 49, 48, 48, 48, 48, 48, 49]) (p := 0) (by decide) (by rfl)) W
theorem sr7 (W : World) : Calls Tryd.prog 28 #[.string ⟨#[107, 101, 101, 112, 32, 61, 32, 50]⟩, .int .i64 0] W fun e w' => e = .returned (.bool true) ∧ Below W.heap.size W w' :=
  refused_any ⟨#[107, 101, 101, 112, 32, 61, 32, 50]⟩ 0 (ps_ref (t := [107, 101, 101, 112, 32, 61, 32, 50]) (p := 0) (by decide) (by rfl)) W
theorem sr8 (W : World) : Calls Tryd.prog 28 #[.string ⟨#[105, 110, 100, 101, 110, 116, 32, 61, 32, 45, 49]⟩, .int .i64 0] W fun e w' => e = .returned (.bool true) ∧ Below W.heap.size W w' :=
  refused_any ⟨#[105, 110, 100, 101, 110, 116, 32, 61, 32, 45, 49]⟩ 0 (ps_ref (t := [105, 110, 100, 101, 110, 116, 32, 61, 32, 45, 49]) (p := 0) (by decide) (by rfl)) W
theorem sr9 (W : World) : Calls Tryd.prog 28 #[.string ⟨#[61]⟩, .int .i64 0] W fun e w' => e = .returned (.bool true) ∧ Below W.heap.size W w' :=
  refused_any ⟨#[61]⟩ 0 (ps_ref (t := [61]) (p := 0) (by decide) (by rfl)) W
def snV : Nat → Int := St.sput (St.sput (fv 18) 17 1000000) 0 4096
theorem sn_parse (W : World) : Calls Tryd.prog 17 #[.string ⟨#[9, 101, 108, 115, 101, 9, 61, 9, 49, 48, 48, 48, 48, 48, 48, 13, 10, 99, 111, 108, 117, 109, 110, 115, 61, 52, 48, 57, 54]⟩] W fun e w' => e = .returned (.tuple #[.agg (St.stv snV).toArray, .int .i64 0, .int .i64 0]) ∧ Below W.heap.size W w' :=
  (Parse_any _ W).mono fun e w' q => ⟨q.1.trans (congrArg Ending.returned (ps_red (t := [9, 101, 108, 115, 101, 9, 61, 9, 49, 48, 48, 48, 48, 48, 48, 13, 10, 99, 111, 108, 117, 109, 110, 115, 61, 52, 48, 57, 54]) (v := snV) (by decide) (by rfl))), q.2⟩
theorem chk18 : St.chk (fv 18) = true := by first | rfl | decide | kernel_rfl
theorem chk0 : St.chk (fv 0) = false := by first | rfl | decide | kernel_rfl
theorem itoa80 : Lib.itoa 80 = [56, 48] := by first | rfl | decide | kernel_rfl | simp [Lib.itoa, Lib.decDigits]
theorem txt18 : ∃ r, St.txt (fv 18) 18 = [99, 111, 108, 117, 109, 110, 115, 32, 61, 32, 56, 48, 10] ++ r := by
  refine ⟨(((List.range 18).drop 1).flatMap (St.ln (fv 18))), ?_⟩
  have e : List.range 18 = 0 :: (List.range 18).drop 1 := by rfl
  unfold St.txt
  rw [e, List.flatMap_cons]
  have h : St.ln (fv 18) 0 = [99, 111, 108, 117, 109, 110, 115, 32, 61, 32, 56, 48, 10] := by
    unfold St.ln
    rw [show fv 18 0 = 80 from rfl, itoa80]
    rfl
  rw [h]
  rfl
theorem sn_print : ∃ P1 : ByteArray, P1.extract 0 13 = ⟨#[99, 111, 108, 117, 109, 110, 115, 32, 61, 32, 56, 48, 10]⟩ ∧ 13 ≤ P1.size ∧
    ∀ W, Pow W → Calls Tryd.prog 13 #[.agg (St.stv (fv 18)).toArray] W fun e w' => e = .returned (.tuple #[.string P1, .int .i64 0]) ∧ Below W.heap.size W w' := by
  obtain ⟨r, hr⟩ := txt18
  refine ⟨bs (St.txt (fv 18) 18), ?_, ?_, fun W hp => ?_⟩
  · rw [hr, Lib.extract_eq, bs_data]
    rfl
  · rw [bs_size, hr]; simp
  · have := Print_all (fv 18) (fv_fl 18) W hp
    unfold PrRes at this
    rw [if_pos chk18, if_pos chk18] at this
    exact this
theorem sn_print0 (W : World) (hp : Pow W) : Calls Tryd.prog 13 #[.agg #[.int .i64 0, .int .i64 0, .int .i64 0, .int .i64 0, .bool false, .bool false, .bool false, .int .i64 0, .int .i64 0, .int .i64 0, .int .i64 0, .int .i64 0, .int .i64 0, .int .i64 0, .int .i64 0, .int .i64 0, .int .i64 0, .int .i64 0]] W fun e w' => e = .returned (.tuple #[.string ⟨#[]⟩, .int .i64 90]) ∧ Below W.heap.size W w' := by
  have := Print_all (fv 0) (fv_fl 0) W hp
  unfold PrRes at this
  rw [if_neg (by rw [chk0]; decide), if_neg (by rw [chk0]; decide), zeroSt] at this
  exact this
theorem sn_check (W : World) : Calls Tryd.prog 15 #[.agg (St.stv (fv 18)).toArray] W fun e w' => e = .returned (.int .i64 0) ∧ Below W.heap.size W w' := by
  have := Check_any (fv 18) (fv_fl 18) W
  rw [if_pos chk18] at this
  exact this
theorem sn_check0 (W : World) : Calls Tryd.prog 15 #[.agg #[.int .i64 0, .int .i64 0, .int .i64 0, .int .i64 0, .bool false, .bool false, .bool false, .int .i64 0, .int .i64 0, .int .i64 0, .int .i64 0, .int .i64 0, .int .i64 0, .int .i64 0, .int .i64 0, .int .i64 0, .int .i64 0, .int .i64 0]] W fun e w' => e = .returned (.int .i64 90) ∧ Below W.heap.size W w' := by
  have := Check_any (fv 0) (fv_fl 0) W
  rw [if_neg (by rw [chk0]; decide), zeroSt] at this
  exact this
theorem sn_long (s : ByteArray) (h : 65536 < s.data.toList.length) (W : World) : Calls Tryd.prog 17 #[.string s] W fun e w' => e = .returned (.tuple #[.agg (St.stv (fv 0)).toArray, .int .i64 0, .int .i64 3]) ∧ Below W.heap.size W w' :=
  (Parse_any s W).mono fun e w' q => ⟨q.1.trans (congrArg Ending.returned (by obtain ⟨q1, q2, q3⟩ := St.ps_long h; unfold psRes; rw [q1, q2, q3])), q.2⟩

end Go.Proofs.YtliabgcpciekpaaDoor
