/- The law StyleOrder, walked. -/
import Derived.Test.YtliabgcpciekpaaDoorYsA
import Derived.Test.YtliabgcpciekpaaDoorYsB
import Derived.Test.YtliabgcpciekpaaDoorYrO
set_option linter.unusedVariables false
set_option linter.unusedSimpArgs false
namespace Go.Proofs.YtliabgcpciekpaaDoor
open Go Go.RowKit

namespace St
theorem joinL_snoc (l : List T) (t : T) : joinL (l ++ [t]) = joinL l ++ t ++ [10] := by simp [joinL]
theorem joinL_len (l : List T) : l.length ≤ (joinL l).length := by
  induction l with
  | nil => simp
  | cons t r ih => simp only [joinL, List.flatMap_cons, List.length_append, List.length_cons, List.length_nil] at ih ⊢; omega
/-- The lines, turned about. -/
def turn (l : List T) (k : Nat) : List T := l.drop k ++ l.take k
theorem turn_perm (l : List T) (k : Nat) : l.Perm (turn l k) := by
  have h := List.perm_append_comm (l₁ := l.take k) (l₂ := l.drop k)
  rw [List.take_append_drop] at h
  exact h
theorem turn_at {l : List T} {k i : Nat} (hk : k < l.length) (hi : i < l.length) : (turn l k)[i]? = l[(i + k) % l.length]? := by
  unfold turn
  by_cases h : i + k < l.length
  · rw [Nat.mod_eq_of_lt h, List.getElem?_append_left (by simp; omega), List.getElem?_drop]
    congr 1; omega
  · rw [List.getElem?_append_right (by simp; omega), List.length_drop, show (i + k) % l.length = i + k - l.length by rw [Nat.mod_eq_sub_mod (by omega), Nat.mod_eq_of_lt (by omega)], List.getElem?_take_of_lt (by omega)]
    congr 1; omega
theorem turn_len (l : List T) (k : Nat) : (turn l k).length = l.length := (turn_perm l k).length_eq.symm
end St

set_option maxRecDepth 100000 in
set_option maxHeartbeats 8000000 in
theorem StyleOrder_any (A : Option Addr) (cap : Nat) (l : List St.T) (n : Int) (w : World) (hrd : Rd w 1 A l.length (sts l)) (hl : l.length ≤ 140737488355328) (hs : ∀ t ∈ l, t.length ≤ 140737488355328) (hn : -9223372036854775808 ≤ n ∧ n ≤ 9223372036854775807) :
    Calls Tryd.prog 5 #[.slice A l.length cap, .int .i64 n] w fun e w' => e = .returned (.bool true) ∧ Below w.heap.size w w' := by
  have AL := Lib.hid (styleAlive_any w)
  by_cases h0 : l.length = 0
  · rw [h0] at *
    go_enter Tryd.func5, Tryd.ntmps5
    go_wp2_with (go_at_call 21; (with_reducible refine AL.out.mono ?_); rintro e w1 ⟨rfl, b1⟩)
    go_ret
    exact ⟨rfl, b1⟩
  by_cases h1 : n < 0
  · have hlI : ¬ (l.length : Int) = 0 := by omega
    go_enter Tryd.func5, Tryd.ntmps5
    go_wp2_with (go_at_call 21; (with_reducible refine AL.out.mono ?_); rintro e w1 ⟨rfl, b1⟩)
    go_ret
    exact ⟨rfl, b1⟩
  have hlI : ¬ (l.length : Int) = 0 := by omega
  obtain ⟨by_, rfl⟩ : ∃ m : Nat, n = (m : Int) := ⟨n.toNat, by omega⟩
  have hl0 : 0 < l.length := by omega
  have hlB : ((l.length : Int) == 0) = false := beq_eq_false_iff_ne.2 hlI
  have hnI : ¬ (by_ : Int) < 0 := by omega
  have HS := Lib.hid hs
  clear hs
  have hl2 : l.length + 50000 ≤ 9223372036854775807 := by omega
  clear hl hn
  go_enter Tryd.func5, Tryd.ntmps5
  go_wp2_with (go_at_call 21; (with_reducible refine AL.out.mono ?_); rintro e w1 ⟨rfl, b1⟩)
  have R1 := Lib.hid (hrd.later b1)
  go_loop [6, 8, 9] (fun av iv _ => ∃ m : Nat, m ≤ l.length ∧ iv = .int .i64 m ∧ av = .string (bs (St.joinL (l.take m))) ∧ Hid (∀ t ∈ l.take m, 10 ∉ t)) (fun _ iv _ => l.length - (intOf iv).toNat)
  case atStart => exact ⟨0, Nat.zero_le _, rfl, rfl, Lib.hid (by simp)⟩
  case round =>
    obtain ⟨m, hm, rfl, rfl, HM⟩ := hrel
    by_cases hlt : m < l.length ∧ (St.joinL (l.take m)).length < 40000
    · obtain ⟨hlt, hsz⟩ := hlt
      obtain ⟨b, o, rfl, hb, hc⟩ := R1.out.st (k := m) (List.getElem?_eq_getElem hlt)
      have htl0 := HS.out l[m] (List.getElem_mem hlt)
      have htl : l[m].length + 50000 ≤ 9223372036854775807 := by omega
      clear htl0
      have HTK := Lib.hid (show l.take (m + 1) = l.take m ++ [l[m]] from List.take_succ_eq_append_getElem hlt)
      generalize l[m] = t at *
      have HX := Lib.hid (St.joinL_snoc (l.take m) t)
      generalize St.joinL (l.take m) = X at *
      have hts : (bs t).size = t.length := bs_size _
      have hxs : (bs X).size = X.length := bs_size _
      have hltI : (m : Int) < (l.length : Int) := by omega
      have hszI : (X.length : Int) < 40000 := by omega
      have q1 : ¬ 9223372036854775807 < X.length + t.length := by omega
      have q2 : ¬ 9223372036854775807 < X.length + t.length + 1 := by omega
      go_wp2
      go_loop [9] (fun kv => ∃ q : Nat, q ≤ t.length ∧ kv = .int .i64 q ∧ Hid (10 ∉ t.take q)) (fun kv => t.length - (intOf kv).toNat)
      case atStart => exact ⟨0, Nat.zero_le _, rfl, Lib.hid (by simp)⟩
      case round =>
        obtain ⟨q, hq, rfl, HQ⟩ := hrel
        by_cases hql : q < t.length
        · have hqs : q < (bs t).size := by rw [hts]; exact hql
          have hqI : (q : Int) < (t.length : Int) := by omega
          have hg := ba_get (bs t) q hqs
          rw [bs_data] at hg
          by_cases hc10 : ((bs t)[q]).toNat = 10
          · have hcI : (((bs t)[q]).toNat : Int) = 10 := by omega
            clear hg
            go_wp2
            go_ret
            exact ⟨rfl, b1⟩
          · have hcI : ¬ (((bs t)[q]).toNat : Int) = 10 := by omega
            have HQ2 := Lib.hid (show 10 ∉ t.take (q + 1) by
              rw [List.take_add_one, hg, List.mem_append, not_or]
              exact ⟨HQ.out, by simpa using fun e : (10 : UInt8) = _ => hc10 (by rw [← e]; rfl)⟩)
            clear hg
            generalize bs t = TB at *
            have hqw : IntKind.i64.wrap ((q : Int) + 1) = (q : Int) + 1 := IntWalk.i64_in _ (by omega)
            clear HS HTK HX HM R1 hrd h0 hnI hl0 hl2 q1 q2 hszI hsz htl hc10 hxs
            go_wp2
            go_round
            case rel => exact ⟨q + 1, by omega, by go_num, HQ2⟩
            case measure => simp [intOf]; omega
        · obtain rfl : q = t.length := by omega
          have HQ2 := Lib.hid (show 10 ∉ t by have := HQ.out; rwa [List.take_length] at this)
          go_wp2
          go_round
          case rel => exact ⟨m + 1, by omega, by go_num, by rw [HTK.out, HX.out, ← bs_cat, ← bs_cat]; rfl, Lib.hid (by
            rw [HTK.out]
            intro u hu
            rcases List.mem_append.1 hu with hu | hu
            · exact HM.out u hu
            · rw [List.mem_singleton.1 hu]; exact HQ2.out)⟩
          case measure => simp [intOf]; omega
    · by_cases hbig : 40000 ≤ (St.joinL (l.take m)).length
      · generalize St.joinL (l.take m) = X at *
        have hxs : (bs X).size = X.length := bs_size _
        have hbI : ¬ (X.length : Int) < 40000 := by omega
        have hbI2 : (40000 : Int) ≤ (X.length : Int) := by omega
        clear HM
        by_cases hm2 : m < l.length
        · have hm2I : (m : Int) < (l.length : Int) := by omega
          go_wp2
          go_ret
          exact ⟨rfl, b1⟩
        · have hm2I : ¬ (m : Int) < (l.length : Int) := by omega
          go_wp2
          go_ret
          exact ⟨rfl, b1⟩
      · obtain rfl : m = l.length := by omega
        have hM := HM.out
        rw [List.take_length] at hM hlt hbig ⊢
        have hll := St.joinL_len l
        obtain ⟨k, hk⟩ : ∃ k, k = by_ % l.length := ⟨_, rfl⟩
        have hkl : k < l.length := by rw [hk]; exact Nat.mod_lt _ hl0
        have hkt : Int.tmod (by_ : Int) (l.length : Int) = (k : Int) := by rw [hk]; exact (Int.ofNat_tmod _ _).symm
        clear hk
        have hjl : (St.joinL (St.turn l k)).length = (St.joinL l).length := ((St.turn_perm l k).flatMap_right _).length_eq.symm
        obtain ⟨hpv, hpe⟩ := St.ps_perm (St.turn_perm l k) hM (by omega)
        have KX := fun W => Parse_any (bs (St.joinL l)) W
        have KY := fun W => Parse_any (bs (St.joinL (St.turn l k))) W
        simp only [bs_data] at KX KY
        unfold psRes at KX KY
        rw [← hpv, ← hpe] at KY
        generalize St.psV (St.joinL l) = V at *
        generalize St.psE (St.joinL l) = er at *
        have KX := Lib.hid KX
        have KY := Lib.hid KY
        have HJL := Lib.hid hjl
        have hxs : (bs (St.joinL l)).size = (St.joinL l).length := bs_size _
        have hbI : ((St.joinL l).length : Int) < 40000 := by omega
        have hll2 : l.length < 40000 := by omega
        clear hM HM hlt hpv hpe hjl
        generalize St.joinL l = X at *
        have hd1 : decide ((X.length : Int) < 40000) = true := decide_eq_true hbI
        have hd2 : decide ((40000 : Int) ≤ (X.length : Int)) = false := decide_eq_false (by omega)
        have hd3 : decide (X.length < 40000) = true := decide_eq_true (by omega)
        have hd4 : decide (40000 ≤ X.length) = false := decide_eq_false (by omega)
        have hnn : ¬ (l.length : Int) < (l.length : Int) := by omega
        have HXL := Lib.hid hbig
        have HBI := Lib.hid hbI
        have HLL := Lib.hid hll2
        have HL2 := Lib.hid hll
        clear hl2 hbig hbI hll hll2
        go_wp2
        go_loop [7, 10] (fun bv iv => ∃ m : Nat, m ≤ l.length ∧ iv = .int .i64 m ∧ bv = .string (bs (St.joinL ((St.turn l k).take m)))) (fun _ iv => l.length - (intOf iv).toNat)
        case atStart => exact ⟨0, Nat.zero_le _, rfl, rfl⟩
        case round =>
          obtain ⟨m, hm, rfl, rfl⟩ := hrel
          have hbig := HXL.out
          have hll2 := HLL.out
          by_cases hlt : m < l.length
          · have hat := St.turn_at hkl hlt
            have hi2 : (m + k) % l.length < l.length := Nat.mod_lt _ hl0
            have hkt2 : Int.tmod ((m : Int) + (k : Int)) (l.length : Int) = (((m + k) % l.length : Nat) : Int) := (Int.ofNat_tmod (m + k) _).symm
            generalize (m + k) % l.length = i2 at *
            rw [List.getElem?_eq_getElem hi2] at hat
            obtain ⟨b, o, rfl, hb, hc⟩ := R1.out.st (k := i2) (List.getElem?_eq_getElem hi2)
            generalize l[i2] = t at *
            have htk : (St.turn l k).take (m + 1) = (St.turn l k).take m ++ [t] := by rw [List.take_add_one, hat]; rfl
            have hjt : (St.joinL ((St.turn l k).take m)).length + t.length + 1 ≤ X.length := by
              have h1 := St.joinL_snoc ((St.turn l k).take m) t
              rw [← htk] at h1
              have h2 : (St.joinL ((St.turn l k).take (m + 1))).length ≤ (St.joinL (St.turn l k)).length := by
                have := congrArg (fun z => (St.joinL z).length) (List.take_append_drop (m + 1) (St.turn l k))
                simp only [St.joinL, List.flatMap_append, List.length_append] at this ⊢
                omega
              rw [h1, HJL.out] at h2
              simp only [List.length_append, List.length_cons, List.length_nil] at h2
              omega
            have HTK := Lib.hid htk
            have HY := Lib.hid (St.joinL_snoc ((St.turn l k).take m) t)
            generalize St.joinL ((St.turn l k).take m) = Y at *
            have hts : (bs t).size = t.length := bs_size _
            have hys : (bs Y).size = Y.length := bs_size _
            have q1 : ¬ 9223372036854775807 < Y.length + t.length := by omega
            have q2 : ¬ 9223372036854775807 < Y.length + t.length + 1 := by omega
            have hmw : IntKind.i64.wrap ((m : Int) + 1) = (m : Int) + 1 := IntWalk.i64_in _ (by omega)
            have hmw2 : IntKind.i64.wrap ((m : Int) + (k : Int)) = (m : Int) + (k : Int) := IntWalk.i64_in _ (by omega)
            have hltI : (m : Int) < (l.length : Int) := by omega
            clear hat htk hjt hbig hll2
            go_wp2
            go_round
            case rel => exact ⟨m + 1, by omega, by go_num, by rw [HTK.out, HY.out, ← bs_cat, ← bs_cat]; rfl⟩
            case measure => simp [intOf]; omega
          · obtain rfl : m = l.length := by omega
            have htl : (St.turn l k).take l.length = St.turn l k := List.take_of_length_le (by rw [St.turn_len]; exact Nat.le_refl _)
            rw [htl]
            have hE := fun w => eqStB V w
            have hg := eq_guardSt
            have hlen := St.stv_len V
            have hinfo : (Tryd.prog.info? 23).map (·.size) = some (St.stv V).length := by rw [hlen]; kernel_rfl
            clear htl hbig hll2
            generalize St.joinL (St.turn l k) = Y at *
            go_wp2_with (first
              | (go_at_call 17; (with_reducible refine (KX.out _).mono ?_); rintro e w2 ⟨rfl, b2⟩)
              | (go_at_call 17; (with_reducible refine (KY.out _).mono ?_); rintro e w4 ⟨rfl, b4⟩)
              | (refine wpList_store_mid rfl _ _ _ rfl _ _ (St.stv V).toArray rfl rfl (st_there w2 V) (sty_info V) (sty_one V) ?_; refine gen_world2 (Q := fun W => wpList _ _ _ _ _ W) (fun W => Sty W w2.heap.size V ∧ Below w2.heap.size w2 W ∧ W.heap.size = w2.heap.size + 1) (st_first w2 V) ?_; rintro w3 ⟨S3, c3, z⟩; have z := Lib.hid z; (try dsimp only); simp only [Act.put, List.setIfInBounds_toArray, List.set_cons_zero, List.set_cons_succ])
              | (refine wpList_store_mid rfl _ _ _ rfl _ _ (St.stv V).toArray rfl rfl (st_there w4 V) (sty_info V) (sty_one V) ?_; refine gen_world2 (Q := fun W => wpList _ _ _ _ _ W) (fun W => Sty W w4.heap.size V ∧ Below w4.heap.size w4 W ∧ W.heap.size = w4.heap.size + 1) (st_first w4 V) ?_; rintro w5 ⟨S5, c5, z⟩; have z := Lib.hid z; have SR5 := S5.range; have SR3 := ((S3.later b4).later c5).range; (try dsimp only); simp only [Act.put, List.setIfInBounds_toArray, List.set_cons_zero, List.set_cons_succ])
              | (refine wpList_load_guarded (by rfl) _ _ rfl _ _ rfl (St.stv V) _ SR3 Tryd.underlying23 rfl hinfo ?_)
              | (refine wpList_load_guarded (by rfl) _ _ rfl _ _ rfl (St.stv V) _ SR5 Tryd.underlying23 rfl hinfo ?_))
            go_ret
            have h2 := b1.trans (b2.mono b1.size)
            have h3 := h2.trans (c3.mono h2.size)
            have h4 := h3.trans (b4.mono h3.size)
            exact ⟨by simp, h4.trans (c5.mono h4.size)⟩

end Go.Proofs.YtliabgcpciekpaaDoor
