/- Walks: the scanner's punctuators and headers. -/
import Derived.Test.YtffjblamfbmoeaaGreatDoorUb
set_option linter.unusedVariables false
set_option linter.unusedSimpArgs false
namespace Go.Proofs.YtffjblamfbmoeaaGreatDoor
open Go Go.RowKit

set_option maxRecDepth 100000 in
set_option maxHeartbeats 8000000 in
theorem punct_any (t : Tp.T) (w : World) : Calls Tryz.prog 115 #[.string (bs t)] w fun e w' => e = .returned (.bool (Tp.punct t)) ∧ w' = w := by
  have htl : (bs t).toList = t := bs_toList t
  by_cases h : t ∈ Tp.puncts
  · have HV := Lib.hid (show Tp.punct t = true from decide_eq_true h)
    simp only [Tp.puncts, List.mem_cons, List.not_mem_nil, or_false] at h
    rcases h with rfl | rfl | rfl | rfl | rfl | rfl | rfl | rfl | rfl | rfl | rfl | rfl | rfl | rfl | rfl | rfl | rfl | rfl | rfl | rfl | rfl | rfl | rfl | rfl | rfl | rfl | rfl | rfl | rfl | rfl | rfl | rfl | rfl | rfl | rfl | rfl | rfl | rfl | rfl | rfl | rfl | rfl | rfl | rfl | rfl | rfl | rfl | rfl | rfl | rfl | rfl | rfl | rfl | rfl <;>
    · go_enter Tryz.func115, Tryz.ntmps115
      go_wp2
      go_ret
      exact ⟨by rw [HV.out]; rfl, rfl⟩
  · have HV := Lib.hid (show Tp.punct t = false from decide_eq_false h)
    simp only [Tp.puncts, List.mem_cons, List.not_mem_nil, or_false, not_or] at h
    obtain ⟨h0, h1, h2, h3, h4, h5, h6, h7, h8, h9, h10, h11, h12, h13, h14, h15, h16, h17, h18, h19, h20, h21, h22, h23, h24, h25, h26, h27, h28, h29, h30, h31, h32, h33, h34, h35, h36, h37, h38, h39, h40, h41, h42, h43, h44, h45, h46, h47, h48, h49, h50, h51, h52, h53⟩ := h
    have b0 : (t == [91]) = false := beq_eq_false_iff_ne.2 h0
    have b1 : (t == [93]) = false := beq_eq_false_iff_ne.2 h1
    have b2 : (t == [40]) = false := beq_eq_false_iff_ne.2 h2
    have b3 : (t == [41]) = false := beq_eq_false_iff_ne.2 h3
    have b4 : (t == [123]) = false := beq_eq_false_iff_ne.2 h4
    have b5 : (t == [125]) = false := beq_eq_false_iff_ne.2 h5
    have b6 : (t == [46]) = false := beq_eq_false_iff_ne.2 h6
    have b7 : (t == [45, 62]) = false := beq_eq_false_iff_ne.2 h7
    have b8 : (t == [43, 43]) = false := beq_eq_false_iff_ne.2 h8
    have b9 : (t == [45, 45]) = false := beq_eq_false_iff_ne.2 h9
    have b10 : (t == [38]) = false := beq_eq_false_iff_ne.2 h10
    have b11 : (t == [42]) = false := beq_eq_false_iff_ne.2 h11
    have b12 : (t == [43]) = false := beq_eq_false_iff_ne.2 h12
    have b13 : (t == [45]) = false := beq_eq_false_iff_ne.2 h13
    have b14 : (t == [126]) = false := beq_eq_false_iff_ne.2 h14
    have b15 : (t == [33]) = false := beq_eq_false_iff_ne.2 h15
    have b16 : (t == [47]) = false := beq_eq_false_iff_ne.2 h16
    have b17 : (t == [37]) = false := beq_eq_false_iff_ne.2 h17
    have b18 : (t == [60, 60]) = false := beq_eq_false_iff_ne.2 h18
    have b19 : (t == [62, 62]) = false := beq_eq_false_iff_ne.2 h19
    have b20 : (t == [60]) = false := beq_eq_false_iff_ne.2 h20
    have b21 : (t == [62]) = false := beq_eq_false_iff_ne.2 h21
    have b22 : (t == [60, 61]) = false := beq_eq_false_iff_ne.2 h22
    have b23 : (t == [62, 61]) = false := beq_eq_false_iff_ne.2 h23
    have b24 : (t == [61, 61]) = false := beq_eq_false_iff_ne.2 h24
    have b25 : (t == [33, 61]) = false := beq_eq_false_iff_ne.2 h25
    have b26 : (t == [94]) = false := beq_eq_false_iff_ne.2 h26
    have b27 : (t == [124]) = false := beq_eq_false_iff_ne.2 h27
    have b28 : (t == [38, 38]) = false := beq_eq_false_iff_ne.2 h28
    have b29 : (t == [124, 124]) = false := beq_eq_false_iff_ne.2 h29
    have b30 : (t == [63]) = false := beq_eq_false_iff_ne.2 h30
    have b31 : (t == [58]) = false := beq_eq_false_iff_ne.2 h31
    have b32 : (t == [59]) = false := beq_eq_false_iff_ne.2 h32
    have b33 : (t == [46, 46, 46]) = false := beq_eq_false_iff_ne.2 h33
    have b34 : (t == [61]) = false := beq_eq_false_iff_ne.2 h34
    have b35 : (t == [42, 61]) = false := beq_eq_false_iff_ne.2 h35
    have b36 : (t == [47, 61]) = false := beq_eq_false_iff_ne.2 h36
    have b37 : (t == [37, 61]) = false := beq_eq_false_iff_ne.2 h37
    have b38 : (t == [43, 61]) = false := beq_eq_false_iff_ne.2 h38
    have b39 : (t == [45, 61]) = false := beq_eq_false_iff_ne.2 h39
    have b40 : (t == [60, 60, 61]) = false := beq_eq_false_iff_ne.2 h40
    have b41 : (t == [62, 62, 61]) = false := beq_eq_false_iff_ne.2 h41
    have b42 : (t == [38, 61]) = false := beq_eq_false_iff_ne.2 h42
    have b43 : (t == [94, 61]) = false := beq_eq_false_iff_ne.2 h43
    have b44 : (t == [124, 61]) = false := beq_eq_false_iff_ne.2 h44
    have b45 : (t == [44]) = false := beq_eq_false_iff_ne.2 h45
    have b46 : (t == [35]) = false := beq_eq_false_iff_ne.2 h46
    have b47 : (t == [35, 35]) = false := beq_eq_false_iff_ne.2 h47
    have b48 : (t == [60, 58]) = false := beq_eq_false_iff_ne.2 h48
    have b49 : (t == [58, 62]) = false := beq_eq_false_iff_ne.2 h49
    have b50 : (t == [60, 37]) = false := beq_eq_false_iff_ne.2 h50
    have b51 : (t == [37, 62]) = false := beq_eq_false_iff_ne.2 h51
    have b52 : (t == [37, 58]) = false := beq_eq_false_iff_ne.2 h52
    have b53 : (t == [37, 58, 37, 58]) = false := beq_eq_false_iff_ne.2 h53
    go_enter Tryz.func115, Tryz.ntmps115
    go_wp2
    go_ret
    exact ⟨by rw [HV.out]; rfl, rfl⟩

end Go.Proofs.YtffjblamfbmoeaaGreatDoor
