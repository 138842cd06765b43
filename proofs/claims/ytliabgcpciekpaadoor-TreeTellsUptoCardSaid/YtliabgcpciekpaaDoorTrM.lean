/- Walks: style's files that are none (the program's). -/
import Derived.Test.YtliabgcpciekpaaDoorTrL
import Derived.Test.YtliabgcpciekpaaDoorYrO
set_option linter.unusedVariables false
set_option linter.unusedSimpArgs false
namespace Go.Proofs.YtliabgcpciekpaaDoor
open Go Go.RowKit Go.Maps Go.Sort

namespace Tr
def wrq (fs : List (T × T)) (x : T) : Bool := isSt x && decide (St.psE (txt fs x) ≠ 0)
end Tr
theorem grown_of_below {W W' : World} (h : Below W.heap.size W W') : W.grownBy W' none := ⟨h.os, h.tape, h.output, h.size, fun k hk _ => h.block k hk⟩
/-- What a step has left, later on. -/
theorem mr_later {w W W' : World} {M R B n : Nat} {D : DataW Unit} {v : Value} {m : Nat} {xs : List Value} {left : Lit → Bool} {cnt : Nat} (hb : Below W.heap.size W W')
    (h1 : W.ranges Tryd.prog 9 (plainElem Tryd.prog 3) M R n D left cnt) (h2 : W.ownsRow B 9 1 v m xs) (h3 : Below w.heap.size w W) (h4 : B ≤ W.heap.size) :
    W'.ranges Tryd.prog 9 (plainElem Tryd.prog 3) M R n D left cnt ∧ W'.ownsRow B 9 1 v m xs ∧ Below w.heap.size w W' ∧ B ≤ W'.heap.size :=
  ⟨h1.kept (grown_of_below hb) (by simp) (by simp), own_later h2 hb, h3.trans (hb.mono h3.size), Nat.le_trans h4 hb.size⟩

set_option maxRecDepth 100000 in
set_option maxHeartbeats 4000000 in
theorem Wrong_any (A : Option Addr) (cap : Nat) (fs : List (Tr.T × Tr.T)) (w : World) (hrd : Rd w 2 A fs.length (fls fs)) (hn : fs.length ≤ 4398046511104) (hz : ∀ f ∈ fs, f.1.length ≤ 140737488355328) :
    Calls Tryd.prog 32 #[.slice A fs.length cap] w fun e w' => ∃ v, e = .returned v ∧ w'.ownsRow w.heap.size 9 1 v (Tr.und (Tr.nms fs) (Tr.wrq fs)).length (sts (Tr.und (Tr.nms fs) (Tr.wrq fs))) ∧ Below w.heap.size w w' := by
  obtain ⟨i0, hi, hz0, hz1, hz2⟩ := info_parts strInfo
  have CA := Lib.hid (counted_any A cap fs w hrd (by omega) hz)
  have RA := Lib.hid (fun W (hb : Below w.heap.size w W) (k : Nat) (f : Tr.T × Tr.T) (hf : fs[k]? = some f) => (hrd.later hb).fi hf)
  clear hrd hz
  go_enter Tryd.func32, Tryd.ntmps32
  go_wp2_with (first
    | (go_at_call 57; refine CA.out.mono ?_; rintro e w2 ⟨D, rfl, own, CN, b2⟩; have CN := Lib.hid CN)
    | (at_range; refine wpList_range_own _ rfl _ 92 rfl 9 3 lawS Tryd.underlying92 _ w.heap.size fs.length D rfl own ?_; intro w3 hrg0 hg0 hs0))
  go_frame
  have hcn := own.size_le
  have hq2 := b2.size
  have hlt2 := own.lt
  go_loopw [3] (fun v wr => ∃ ss left cnt, MrI w w.heap.size w2.heap.size (w2.heap.size + 1) fs.length D (Tr.wrq fs) v wr ss left cnt) (fun _ wr => wr.rangeLeft w.heap.size w2.heap.size)
  case atStart => exact ⟨[], _, _, hrg0, by simp, World.ownsRow_nil _ _ _ _, Collected.start D, (b2.grown hg0 b2.size (fun k e => by cases e)), by omega⟩
  case round =>
    obtain ⟨ss, left, cnt, hI⟩ := hrel
    have hrg := hI.rg
    go_wp2_with (first
      | (at_next; refine wpList_next_ranges _ rfl _ rfl 9 lawS (plainElem Tryd.prog 3) (fun l : Tr.T => .string (bs l)) (Value.int .i64) (fun key kl hk => by obtain ⟨x, hx, _⟩ := Maps.keyOf_str Tryd.underlying9 hk; exact ⟨x, hx⟩) (fun v y hv => by obtain ⟨c, rfl, _⟩ := plainElem_int_inv Tryd.underlying3 hv; exact ⟨c, rfl⟩) w.heap.size w2.heap.size fs.length _ _ _ rfl hrg ?_ ?_))
    · intro hc0 hl0
      have hle := hI.le
      have hfl2 : (ss.filter (Tr.wrq fs)).length ≤ ss.length := List.length_filter_le _ _
      have SO := Lib.hid (sort_own hI.row (by omega))
      have e1 := Tr.sort_und (q := Tr.wrq fs) hI.col.1 (known_of_collected CN.out hI.col hl0)
      have e2 : (Tr.und (Tr.nms fs) (Tr.wrq fs)).length = (ss.filter (Tr.wrq fs)).length := by rw [← e1, List.length_mergeSort]
      have E1 := Lib.hid e1
      have E2 := Lib.hid e2
      have BI := Lib.hid hI.bel
      clear e1 e2 hI hrg hl0 hc0 hle hfl2 hrg0 own
      go_wp2_with (go_at_call 59; refine SO.out.mono ?_; rintro e w5 ⟨rfl, o5, b5⟩; have o5 := Lib.hid o5; have b5 := Lib.hid b5)
      go_ret
      refine ⟨_, rfl, ?_, BI.out.trans (b5.out.mono (by omega))⟩
      rw [E2.out, ← E1.out]
      exact own_base o5.out (by omega)
    · intro x c kl yd yp w4 cnt2 hkey hlk hv hat hrg2 hlt hg2 hs2 hen
      obtain ⟨x', ex, rfl, hxl⟩ := Maps.keyOf_str Tryd.underlying9 hkey
      obtain rfl : x = x' := encStr_inj ex
      obtain ⟨r2, l2, o2, c2, bl2, s2⟩ := hI.stepped hrg2 hlt hg2 hlk hat (by omega) (by omega)
      have hkn : Tr.known (Tr.nms fs) x = true := (CN.out.has x).symm.trans (has_true_of_atKey hat)
      have hkm := Tr.known_iff.1 hkn
      have hxl2 := Tr.path_len hkm.2
      have hc : c = (((Tr.nms fs).idxOf x : Nat) : Int) := by
        have h1 := hat (.lit (.int .i64 0))
        rw [CN.out.one x hkn] at h1
        obtain ⟨c', ec, hc', _⟩ := plainElem_int_inv Tryd.underlying3 hv
        injection ec with _ ec
        subst ec
        have h2 := congrArg Prod.fst hc'
        simp only at h2
        rw [← h1] at h2
        injection h2 with h2
        injection h2 with _ h2
        exact h2.symm
      have hkl := List.idxOf_lt_length_of_mem hkm.1
      rw [Tr.nms_length] at hkl
      obtain ⟨k, hk⟩ : ∃ k, k = (Tr.nms fs).idxOf x := ⟨_, rfl⟩
      rw [← hk] at hc hkl
      subst hc
      have hf := List.getElem?_eq_getElem hkl
      have htx := Tr.txt_at hk hf
      have hwq : Tr.wrq fs x = (Tr.isSt x && decide (St.psE fs[k].2 ≠ 0)) := by unfold Tr.wrq; rw [htx]
      obtain ⟨b, o, rfl, hb, k0, k1⟩ := RA.out w4 bl2 k _ hf
      have KP := fun W => Parse_any (bs fs[k].2) W
      simp only [bs_data] at KP
      unfold psRes at KP
      generalize fs[k] = f at *
      have IS := fun W => isStyle_any (bs x) W (by rw [bs_size]; omega)
      simp only [bs_data] at IS
      have hle := hI.le
      have hfl2 : (ss.filter (Tr.wrq fs)).length ≤ ss.length := List.length_filter_le _ _
      have R0 := Lib.hid hrg
      have RA := 0
      clear hs2 hv hat hkey hlk hg2 hrg2 hI hrg ex hrg0 own hkn hkm hk hf htx
      cases hst : Tr.isSt x
      · rw [hst] at hwq
        simp only [hst] at IS
        have IS := Lib.hid IS
        have hff : (ss ++ [x]).filter (Tr.wrq fs) = ss.filter (Tr.wrq fs) := by rw [List.filter_append]; simp [hwq]
        rw [← hff] at o2
        clear hst hff hwq KP
        go_wp2_with (go_at_call 62; refine (IS.out _).mono ?_; rintro e w5 ⟨rfl, rfl⟩)
        go_roundw
        case rel => exact ⟨ss ++ [x], _, cnt2, r2, l2, o2, c2, bl2, s2⟩
        case measure => rw [r2.left_eq, R0.out.left_eq]; exact hlt
      · rw [hst] at hwq
        simp only [hst] at IS
        have IS := Lib.hid IS
        generalize St.psV f.2 = V at *
        generalize St.psP f.2 = pp at *
        generalize St.psE f.2 = er at *
        have KP := Lib.hid KP
        by_cases her : er = 0
        · subst her
          have hff : (ss ++ [x]).filter (Tr.wrq fs) = ss.filter (Tr.wrq fs) := by rw [List.filter_append]; simp [hwq]
          rw [← hff] at o2
          have O2 := Lib.hid o2
          clear hst hff hwq o2
          go_wp2_with (first
            | (go_at_call 62; refine (IS.out _).mono ?_; rintro e w5 ⟨rfl, rfl⟩)
            | (go_at_call 17; (with_reducible refine (KP.out _).mono ?_); rintro e w6 ⟨rfl, b6⟩)
            | (refine wpList_store_mid rfl _ _ _ rfl _ _ (St.stv V).toArray rfl rfl (st_there w6 V) (sty_info V) (sty_one V) ?_; refine gen_world2 (Q := fun W => wpList _ _ _ _ _ W) (fun W => Sty W w6.heap.size V ∧ Below w6.heap.size w6 W ∧ W.heap.size = w6.heap.size + 1) (st_first w6 V) ?_; rintro w7 ⟨S7, c7, -⟩; (try dsimp only); simp only [Act.put, List.setIfInBounds_toArray, List.set_cons_zero, List.set_cons_succ]))
          obtain ⟨r3, o3, bl3, s3⟩ := mr_later (b6.trans (c7.mono b6.size)) r2 O2.out bl2 s2
          go_roundw
          case rel => exact ⟨ss ++ [x], _, cnt2, r3, l2, o3, c2, bl3, s3⟩
          case measure => rw [r3.left_eq, R0.out.left_eq]; exact hlt
        · have hff : (ss ++ [x]).filter (Tr.wrq fs) = ss.filter (Tr.wrq fs) ++ [x] := by rw [List.filter_append]; simp [hwq, her]
          have HFF := Lib.hid hff
          have O2 := Lib.hid o2
          have herB : (er == 0) = false := beq_eq_false_iff_ne.2 her
          have hbd : (ss.filter (Tr.wrq fs)).length + 1 ≤ 4398046511104 := by simp at l2; omega
          clear hst hff hwq o2
          go_wp2_with (first
            | (go_at_call 62; refine (IS.out _).mono ?_; rintro e w5 ⟨rfl, rfl⟩)
            | (go_at_call 17; (with_reducible refine (KP.out _).mono ?_); rintro e w6 ⟨rfl, b6⟩)
            | (refine wpList_store_mid rfl _ _ _ rfl _ _ (St.stv V).toArray rfl rfl (st_there w6 V) (sty_info V) (sty_one V) ?_; refine gen_world2 (Q := fun W => wpList _ _ _ _ _ W) (fun W => Sty W w6.heap.size V ∧ Below w6.heap.size w6 W ∧ W.heap.size = w6.heap.size + 1) (st_first w6 V) ?_; rintro w7 ⟨S7, c7, -⟩; have MR := mr_later (b6.trans (c7.mono b6.size)) r2 O2.out bl2 s2; have s3 := MR.2.2.2; have MR := Lib.hid MR; (try dsimp only); simp only [Act.put, List.setIfInBounds_toArray, List.set_cons_zero, List.set_cons_succ])
            | (at_builtin; refine wpList_append_own _ rfl _ _ 38 rfl (w2.heap.size + 1) 9 i0 (.string ⟨#[]⟩) 1 16 Tryd.underlying38 hi hz0 hz1 hz2 rfl (by decide) _ _ _ rfl (MR.out.2.1.alloc _) ⟨w7.heap.size, 0, none⟩ 1 1 [.string (bs x)] rfl rfl (cell_one_new _ _ _) (by simp [Value.oneCell']) (by unfold maxLen; omega) (by omega) (by simp; omega) ?_; intro v' w8 hown' hg3 hnil3; have hown' := Lib.hid hown'; have hg3 := Lib.hid hg3; clear hnil3; go_frame))
          obtain ⟨r3, o3, bl3, s3⟩ := MR.out
          have hrg3 := (r3.alloc (.cells #[.string (bs x)] 9)).kept hg3.out (own_ne o3 (j := w.heap.size) (by omega)).symm (own_ne o3 (j := w2.heap.size) (by omega)).symm
          go_roundw
          case rel =>
            have hb5 := bl3.alloc bl3.size (.cells #[.string (bs x)] 9)
            refine ⟨ss ++ [x], _, cnt2, ⟨hrg3, l2, ?_, c2, hb5.grown hg3.out hb5.size (fun k e => ?_), ?_⟩⟩
            · rw [HFF.out, sts_snoc, List.length_append]; exact hown'.out
            · have := (o3.lt k e).1; omega
            · have := hg3.out.size; simp at this; omega
          case measure => rw [hrg3.left_eq, R0.out.left_eq]; exact hlt

end Go.Proofs.YtliabgcpciekpaaDoor
