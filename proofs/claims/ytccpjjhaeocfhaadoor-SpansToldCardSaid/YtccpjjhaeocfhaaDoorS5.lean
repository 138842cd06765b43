/- Walks: the set of flagged lines (the document's). -/
import Derived.Test.YtccpjjhaeocfhaaDoorS4
set_option linter.unusedVariables false
set_option linter.unusedSimpArgs false
namespace Go.Proofs.YtccpjjhaeocfhaaDoor
open Go Go.RowKit

theorem own_form {W : World} {base : Nat} {e : TypeId} {sz n : Nat} {v : Value} {xs : List Value} (h : W.ownsRow base e sz v n xs) : ∃ A c, v = .slice A n c ∧ n ≤ c ∧ Rd W sz A n xs := by
  rcases h.2 with ⟨rfl, rfl⟩ | ⟨g, cap, cur, rfl, hg, hh, hnc, _⟩
  · exact ⟨none, 0, rfl, Nat.le_refl _, Rd.of_own h⟩
  · exact ⟨_, cap, rfl, hnc, Rd.of_own h⟩
theorem own_later {W W' : World} {base : Nat} {e : TypeId} {sz n : Nat} {v : Value} {xs : List Value} (h : W.ownsRow base e sz v n xs) (hb : Below W.heap.size W W') : W'.ownsRow base e sz v n xs := by
  refine h.kept (row := none) ⟨hb.os, hb.tape, hb.output, hb.size, fun k hk _ => hb.block k hk⟩ ?_
  rcases h.2 with ⟨rfl, _⟩ | ⟨g, cap, cur, rfl, _⟩
  · exact .inl rfl
  · exact .inr (by simp [Value.ownBlock])
theorem rgInfo : (Tryd.prog.info? 38).map (fun i => (i.zero, i.size, i.bytes)) = some (some (.agg #[.int .i64 0, .int .i64 0]), 2, 16) := by kernel_rfl
theorem two_at (w : World) (x y : Value) (t : TypeId) : ∀ j u, [x, y][j]? = some u → (w.alloc (.cells #[x, y] t)).cell? ((⟨w.heap.size, 0, none⟩ : Addr).add j) = some u := by
  intro j u hj
  match j, hj with
  | 0, hj => simp at hj; subst hj; simp [Addr.add]
  | 1, hj => simp at hj; subst hj; simp [Addr.add]
theorem rgcs_set (d : List (Int × Int)) (a b c : Int) : (rgcs (d ++ [(a, b)])).set (d.length * 2 + 1) (.int .i64 c) = rgcs (d ++ [(a, c)]) := by
  have e : ∀ b, rgcs (d ++ [(a, b)]) = rgcs d ++ [.int .i64 a, .int .i64 b] := fun b => by simp [rgcs, rgc, List.flatMap_append]
  rw [e, e, List.set_append_right _ _ (by rw [rgcs_length]; omega), rgcs_length]
  have : d.length * 2 + 1 - d.length * 2 = 1 := by omega
  rw [this]; rfl
theorem rgcs_snoc (l : List (Int × Int)) (a b : Int) : rgcs l ++ [.int .i64 a, .int .i64 b] = rgcs (l ++ [(a, b)]) := by simp [rgcs, rgc, List.flatMap_append]

theorem setOf_no {f : Nat → Bool} {k : Nat} (h : f k = false) : Sp.setOf f (k + 1) = Sp.setOf f k := by simp [Sp.setOf, h]
theorem setOf_nil {f : Nat → Bool} {k : Nat} (h : f k = true) (h2 : Sp.setOf f k = []) : Sp.setOf f (k + 1) = [((k : Int), (k : Int) + 1)] := by simp [Sp.setOf, h, h2, Sp.put]
theorem setOf_ext {f : Nat → Bool} {k : Nat} {d : List (Int × Int)} {a b : Int} (h : f k = true) (h2 : Sp.setOf f k = d ++ [(a, b)]) (hb : b = k) : Sp.setOf f (k + 1) = d ++ [(a, (k : Int) + 1)] := by
  simp only [Sp.setOf]; rw [if_pos h, h2, Sp.put_last (by simp [hb])]
theorem setOf_new {f : Nat → Bool} {k : Nat} {d : List (Int × Int)} {a b : Int} (h : f k = true) (h2 : Sp.setOf f k = d ++ [(a, b)]) (hb : b ≠ k) : Sp.setOf f (k + 1) = (d ++ [(a, b)]) ++ [((k : Int), (k : Int) + 1)] := by
  simp only [Sp.setOf]; rw [if_pos h, h2, Sp.put_new (fun r hr => by simp at hr; rw [← hr]; exact hb)]

/-- A list of ranges that a call hands back. -/
def RgIs (L : List Sp.R) (w w' : World) (v : Value) : Prop := ∃ A c, v = .slice A L.length c ∧ L.length ≤ c ∧ Rd w' 2 A L.length (rgcs L) ∧ Below w.heap.size w w'
def RgRes (L : List Sp.R) (w : World) (e : Ending) (w' : World) : Prop := ∃ v, e = .returned v ∧ RgIs L w w' v

set_option maxRecDepth 100000 in
set_option maxHeartbeats 4000000 in
theorem Set_any (A : Option Addr) (c N : Nat) (f : Nat → Bool) (w : World) (hN : N ≤ 65536) (h : Rd w 1 A N (bls (fl f N))) :
    Calls Tryd.prog 29 #[.slice A N c] w (RgRes (Sp.setOf f N) w) := by
  obtain ⟨i0, hi, hz0, hz1, hz2⟩ := info_parts rgInfo
  go_enter Tryd.func29, Tryd.ntmps29
  go_wp2
  go_loopw [3, 4] (fun o i wr => ∃ (q : Nat) (out : List Sp.R), q ≤ N ∧ i = .int .i64 q ∧ wr.ownsRow w.heap.size 38 2 o out.length (rgcs out) ∧ Below w.heap.size w wr ∧ out.length ≤ q ∧ Hid (Sp.setOf f q = out)) (fun _ i _ => N - (intOf i).toNat)
  case atStart => exact ⟨0, [], Nat.zero_le _, rfl, World.ownsRow_nil _ _ _ _, Below.refl _ _, Nat.le_refl _, Lib.hid rfl⟩
  case round =>
    obtain ⟨q, out, hq, rfl, hown, hbr, hol, HO⟩ := hrel
    obtain ⟨wo, rfl⟩ : ∃ wo : World, wo = wr := ⟨_, rfl⟩
    have hws : w.heap.size ≤ wo.heap.size := hbr.size
    by_cases hlt : q < N
    · have hFl : (fl f N)[q]? = some (f q) := fl_at f hlt
      obtain ⟨b1, o1, rfl, _, cq⟩ := (h.later hbr).bl hFl
      clear hFl
      cases hFq : f q
      · rw [hFq] at cq
        have H2 := Lib.hid ((setOf_no hFq).trans HO.out)
        clear hFq HO
        go_wp2
        go_roundw
        case rel => exact ⟨q + 1, out, by omega, by go_num, hown, hbr, by omega, H2⟩
        case measure => simp [intOf]; omega
      · rw [hFq] at cq
        rcases List.eq_nil_or_concat out with rfl | ⟨d, ⟨a, b⟩, rfl⟩
        · have H2 := Lib.hid (setOf_nil hFq HO.out)
          obtain ⟨ra, rc, rfl, hrc, _⟩ := own_form hown
          have HS := Lib.hid (rgcs_snoc [] (q : Int) ((q : Int) + 1))
          simp only [List.length_nil] at *
          clear HO hFq
          go_wp2_with (at_builtin; refine wpList_append_own _ rfl _ _ 22 rfl w.heap.size 38 i0 _ 2 16 Tryd.underlying22 hi hz0 hz1 hz2 rfl (by decide) _ _ _ rfl (hown.alloc _) ⟨wo.heap.size, 0, none⟩ 1 1 [.int .i64 q, .int .i64 ((q : Int) + 1)] rfl rfl (two_at _ _ _ _) (by simp [Value.oneCell']) (by unfold maxLen; omega) (by omega) (by simp; omega) ?_; intro v' w4 hown4 hgrow _)
          have hb4 := (hbr.alloc hbr.size (.cells #[.int .i64 q, .int .i64 ((q : Int) + 1)] 38)).grown hgrow (by have := hbr.size; simp; omega) (fun j hj => by have := (hown.lt j hj).1; omega)
          go_roundw
          case rel => exact ⟨q + 1, [((q : Int), (q : Int) + 1)], by omega, by go_num, by rw [HS.out] at hown4; exact hown4, hb4, by simp, H2⟩
          case measure => simp [intOf]; omega
        · rw [List.concat_eq_append] at *
          have hdl : (d ++ [(a, b)]).length = d.length + 1 := by simp
          rw [hdl] at hown hol
          obtain ⟨g, cap, rfl⟩ := ownsRow_succ hown
          have hg2 : (rgcs (d ++ [(a, b)]))[d.length * 2 + 1]? = some (.int .i64 b) := (rgcs_at (l := d ++ [(a, b)]) (k := d.length) (e := (a, b)) (by simp)).2
          have cg := hown.cellAt (d.length * 2 + 1) (by omega)
          rw [hg2] at cg
          have fg := hown.frozenAt (d.length * 2 + 1)
          have z1 : (0 : Int) ≤ (d.length : Int) := by omega
          have z2 : (d.length : Int) < (d.length : Int) + 1 := by omega
          by_cases hbq : b = (q : Int)
          · have H2 := Lib.hid (setOf_ext hFq HO.out hbq)
            have HST := hown.stored (d.length * 2 + 1) (.int .i64 ((q : Int) + 1))
            rw [rgcs_set] at HST
            have hgb := (hown.lt g rfl).1
            have hbe : (b == (q : Int)) = true := by simp [hbq]
            have HdL := Lib.hid hdl
            clear HO hFq hg2 hdl hbq
            have hBs := hbr.setCell (p := ⟨g, d.length * 2 + 1, none⟩) (by simp; omega) (.int .i64 ((q : Int) + 1))
            go_wp2
            go_roundw
            case rel => exact ⟨q + 1, d ++ [(a, (q : Int) + 1)], by omega, by go_num, by rw [List.length_append]; exact HST.1, hBs, by simp; omega, H2⟩
            case measure => simp [intOf]; omega
          · have H2 := Lib.hid (setOf_new hFq HO.out hbq)
            have HS := Lib.hid (rgcs_snoc (d ++ [(a, b)]) (q : Int) ((q : Int) + 1))
            have hbe : (b == (q : Int)) = false := by simp [hbq]
            have HdL := Lib.hid hdl
            clear HO hFq hg2 hdl hbq
            go_wp2_with (at_builtin; refine wpList_append_own _ rfl _ _ 22 rfl w.heap.size 38 i0 _ 2 16 Tryd.underlying22 hi hz0 hz1 hz2 rfl (by decide) _ _ _ rfl (hown.alloc _) ⟨wo.heap.size, 0, none⟩ 1 1 [.int .i64 q, .int .i64 ((q : Int) + 1)] rfl rfl (two_at _ _ _ _) (by simp [Value.oneCell']) (by unfold maxLen; omega) (by omega) (by simp; omega) ?_; intro v' w4 hown4 hgrow _)
            have hb4 := (hbr.alloc hbr.size (.cells #[.int .i64 q, .int .i64 ((q : Int) + 1)] 38)).grown hgrow (by have := hbr.size; simp; omega) (fun j hj => by have := (hown.lt j hj).1; omega)
            go_roundw
            case rel => exact ⟨q + 1, (d ++ [(a, b)]) ++ [((q : Int), (q : Int) + 1)], by omega, by go_num, by rw [List.length_append, HdL.out]; rw [HS.out] at hown4; exact hown4, hb4, by simp; omega, H2⟩
            case measure => simp [intOf]; omega
    · obtain rfl : q = N := by omega
      obtain ⟨ra, rc, rfl, hrc, hRd⟩ := own_form hown
      have HO2 := HO.out
      subst HO2
      clear HO
      generalize hL : Sp.setOf f q = L at *
      have HL := Lib.hid hL; clear hL
      go_wp2
      go_ret
      exact ⟨_, rfl, ra, rc, rfl, hrc, hRd, hbr⟩

end Go.Proofs.YtccpjjhaeocfhaaDoor
