/- Walks: the iterator of ranges over the function reglet/spans.Not$1 (printed by gens8.py). -/
import Derived.Test.YtccpjjhaeocfhaaDoorS8
set_option linter.unusedVariables false
set_option linter.unusedSimpArgs false
namespace Go.Proofs.YtccpjjhaeocfhaaDoor
open Go Go.RowKit Go.Shelf
attribute [local go_sem] Oper.semAt_some


set_option maxRecDepth 100000 in
set_option maxHeartbeats 4000000 in
theorem rangesOf_Not (Bn Bi : Nat) (b1 : Nat) (f : Nat → Bool) (n N : Nat) (W : World) (hn : n ≤ 65536) (hb1 : Bx W Bn 3 (.int .i64 n)) (hb2 : Bx W Bi 58 (.func (.func 41) #[] #[.pointer (some ⟨b1, 0, none⟩)])) (hBn : Bn < N) (hBi : Bi < N)
    (hP : Says 41 #[.pointer (some ⟨b1, 0, none⟩)] f n N W) : RSeq 45 #[.pointer (some ⟨Bn, 0, none⟩), .pointer (some ⟨Bi, 0, none⟩)] (Sp.setOf f n) N W := by
  intro y K Kx hK hY h0
  refine callsIn_of_wp Tryd.func45 rfl trivial ?_ rfl
  simp only [Tryd.ntmps45, List.size_toArray, List.length_cons, List.length_nil, Nat.reduceAdd, Nat.reduceSub, Array.replicate_succ, Array.replicate_zero, List.push_toArray, List.append_toArray, List.nil_append, List.cons_append]
  have c1 := hb1.cell
  have HP := Lib.hid hP; clear hP
  gi_wp2
  gi_loopw [4, 7] (fun b i wr => ∃ (q : Nat) (em : List Sp.R) (bb : Int), q ≤ n ∧ i = .int .i64 q ∧ b = .int .i64 bb ∧ Hid (Sp.It f q em bb) ∧ K em wr ∧ Keep N W wr) (fun _ i _ => n - (intOf i).toNat)
  case atStart => exact ⟨0, [], -1, Nat.zero_le _, rfl, rfl, Lib.hid (Sp.It.start f), h0, Keep.refl _ _⟩
  case round =>
    obtain ⟨q, em, bb, hq, rfl, rfl, HI, hKe, hkp⟩ := hrel
    obtain ⟨wo, rfl⟩ : ∃ wo : World, wo = wr := ⟨_, rfl⟩
    have c1 := (hb1.keep hkp hBn).cell
    have c2 := (hb2.keep hkp hBi).cell
    obtain ⟨z1, z2⟩ := It_bd HI.out
    by_cases hlt : q < n
    · have PC := Lib.hid (HP.out wo hkp q hlt)
      cases hf : f q
      · rw [hf] at PC
        by_cases hb : 0 ≤ bb
        · have H2 := Lib.hid (HI.out.ends hf hb)
          have hpr := It_prefix H2.out (n := n) (by omega)
          obtain ⟨fn, tmps, assign, body, hy, hR⟩ := hY em (bb, (q : Int)) wo hKe hpr
          simp only [rgv] at hy hR
          clear hf hpr
          gi_wp2_with ((refine ⟨trivial, ?_⟩; gi_at_call 41; refine (callsIn_wide.2 PC.out).mono ?_; rintro e w' ⟨rfl, rfl⟩))
          refine hR.mono ?_
          rintro e W3 (⟨rfl, hJ3, hk3⟩ | ⟨rfl, hJx3⟩)
          · have hkp3 := hkp.trans hk3
            clear hy hR
            gi_wp2
            go_roundw
            case rel => exact ⟨q + 1, em ++ [(bb, (q : Int))], -1, by omega, by go_num, rfl, H2, hJ3, hkp3⟩
            case measure => simp [intOf]; omega
          · clear hy hR
            gi_wp2
            refine bodyPost_ret (results_none rfl _ _ _) rfl ?_
            exact ⟨⟨_, rfl⟩, .inr ⟨_, It_prefix H2.out (n := n) (by omega), hJx3⟩⟩
        · have H2 := Lib.hid (HI.out.stays hf hb)
          clear hf
          gi_wp2_with ((refine ⟨trivial, ?_⟩; gi_at_call 41; refine (callsIn_wide.2 PC.out).mono ?_; rintro e w' ⟨rfl, rfl⟩))
          go_roundw
          case rel => exact ⟨q + 1, em, bb, by omega, by go_num, rfl, H2, hKe, hkp⟩
          case measure => simp [intOf]; omega
      · rw [hf] at PC
        by_cases hb : bb < 0
        · have H2 := Lib.hid (HI.out.opens hf hb)
          clear hf
          gi_wp2_with ((refine ⟨trivial, ?_⟩; gi_at_call 41; refine (callsIn_wide.2 PC.out).mono ?_; rintro e w' ⟨rfl, rfl⟩))
          go_roundw
          case rel => exact ⟨q + 1, em, q, by omega, by go_num, rfl, H2, hKe, hkp⟩
          case measure => simp [intOf]; omega
        · have H2 := Lib.hid (HI.out.goes hf hb)
          clear hf
          gi_wp2_with ((refine ⟨trivial, ?_⟩; gi_at_call 41; refine (callsIn_wide.2 PC.out).mono ?_; rintro e w' ⟨rfl, rfl⟩))
          go_roundw
          case rel => exact ⟨q + 1, em, bb, by omega, by go_num, rfl, H2, hKe, hkp⟩
          case measure => simp [intOf]; omega
    · obtain rfl : q = n := by omega
      by_cases hb : 0 ≤ bb
      · have hpr := It_openPre HI.out hb
        obtain ⟨fn, tmps, assign, body, hy, hR⟩ := hY em (bb, (q : Int)) wo hKe hpr
        simp only [rgv] at hy hR
        have HE := Lib.hid (HI.out.doneOpen hb)
        clear hpr
        gi_wp2
        refine hR.mono ?_
        rintro e W3 (⟨rfl, hJ3, hk3⟩ | ⟨rfl, hJx3⟩)
        · clear hy hR
          gi_wp2
          go_end0
          exact ⟨⟨_, rfl⟩, .inl ⟨_, HE.out, hJ3⟩⟩
        · clear hy hR
          gi_wp2
          go_end0
          exact ⟨⟨_, rfl⟩, .inr ⟨_, by rw [HE.out]; exact List.prefix_refl _, hJx3⟩⟩
      · have HE := Lib.hid (HI.out.doneShut hb)
        gi_wp2
        go_end0
        exact ⟨⟨_, rfl⟩, .inl ⟨_, HE.out, hKe⟩⟩

end Go.Proofs.YtccpjjhaeocfhaaDoor
