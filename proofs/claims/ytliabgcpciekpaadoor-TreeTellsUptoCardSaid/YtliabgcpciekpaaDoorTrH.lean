/- Walks: a path's folders as an iterator; the nearest style's file (the program's). -/
import Derived.Test.YtliabgcpciekpaaDoorTrG
set_option linter.unusedVariables false
set_option linter.unusedSimpArgs false
namespace Go.Proofs.YtliabgcpciekpaaDoor
open Go Go.RowKit Go.Maps
attribute [local go_sem] Oper.semAt_some

/-- A round's word: the box stays. -/
def Kp1 (a : Nat) (X Y : World) : Prop := Y.heap[a]? = X.heap[a]?

set_option maxRecDepth 100000 in
set_option maxHeartbeats 4000000 in
theorem folders1_seq (n : Nat) (Bp : Nat) (s : Tr.T) (W : World) (hs : s.length ≤ 140737488355328) (hb : Bx W Bp 9 (.string (bs s))) :
    Seq n Tryd.prog 95 #[.pointer (some ⟨Bp, 0, none⟩)] (fun x : Tr.T => #[.string (bs x)]) (fun X Y => X.grownBy Y (some Bp)) (Kp1 Bp)
      (fun pre => pre <+: Tr.fols s) (fun xs => xs = Tr.fols s) (fun pre => pre <+: Tr.fols s) W := by
  intro l K Kx hK hY h0
  refine callsIn_of_wp Tryd.func95 rfl trivial ?_ rfl
  simp only [Tryd.ntmps95, List.size_toArray, List.length_cons, List.length_nil, Nat.reduceAdd, Nat.reduceSub, Array.replicate_succ, Array.replicate_zero, List.push_toArray, List.append_toArray, List.nil_append, List.cons_append]
  gi_wp2
  gi_loopw [3] (fun p wr => ∃ (pre : List Tr.T) (t : Tr.T), Bx wr Bp 9 (.string (bs t)) ∧ t.length ≤ 140737488355328 ∧ Hid (pre ++ Tr.fols t = Tr.fols s) ∧ K pre wr) (fun p wr => strAt wr Bp)
  case atStart => exact ⟨[], s, hb, hs, Lib.hid rfl, h0⟩
  case round =>
    obtain ⟨pre, t, hbx, ht, HP, hKp⟩ := hrel
    have cx := hbx.cell
    have fx := hbx.frozen
    by_cases he : t = []
    · subst he
      have HF := Lib.hid Tr.fols_nil
      have t1 : (bs []).toList = [] := bs_toList []
      have t2 : (bs []).toList.isEmpty = true := by rw [t1]; rfl
      gi_wp2
      go_end0
      exact ⟨⟨_, rfl⟩, .inl ⟨_, by rw [← HP.out, HF.out, List.append_nil], hKp⟩⟩
    · have HF := Lib.hid (Tr.fols_cons he)
      have HLT := Lib.hid (Tr.fol_lt he)
      have t1 : ¬ (bs t).toList = [] := by rw [bs_toList]; exact he
      have t2 : (bs t).toList.isEmpty = false := by rw [List.isEmpty_eq_false_iff]; exact t1
      have FA := Lib.hid (fun w => folder_any (bs t) w (by rw [bs_size]; exact ht))
      rw [bs_data] at FA
      have hkk := hK _ _ _ hKp (grownBy_set wr Bp (.string (bs (Tr.fol t))))
      have hbx2 := hbx.set (.string (bs (Tr.fol t)))
      have cx2 := hbx2.cell
      obtain ⟨fn, tmps, assign, body, hy, hR⟩ := hY pre (Tr.fol t) _ hkk ⟨Tr.fols (Tr.fol t), by rw [List.append_assoc, ← HP.out, HF.out]; rfl⟩
      have HL2 := Lib.hid (Tr.fol_len t)
      have HE := Lib.hid he
      clear he hkk
      gi_wp2_with (first | (refine ⟨trivial, (fun h => by cases h), ?_⟩; gi_at_call 86; refine (callsIn_wide.2 (FA.out _)).mono ?_; rintro e w' ⟨rfl, rfl⟩))
      refine ⟨(fun h => by cases h), hR.mono ?_⟩
      rintro e W3 (⟨rfl, hJ3, hk3⟩ | ⟨rfl, hJx3⟩)
      · have hbx3 := hbx2.same hk3
        gi_wp2
        go_roundw
        case rel => exact ⟨_, Tr.fol t, hbx3, by have := HL2.out; omega, Lib.hid (by rw [List.append_assoc, ← HP.out, HF.out]; rfl), hJ3⟩
        case measure => rw [strAt_eq hbx3.cell, strAt_eq hbx.cell, bs_size, bs_size]; exact HLT.out
      · gi_wp2
        refine bodyPost_ret (results_none rfl _ _ _) rfl ?_
        exact ⟨⟨_, rfl⟩, .inr ⟨_, ⟨Tr.fols (Tr.fol t), by rw [List.append_assoc, ← HP.out, HF.out]; rfl⟩, hJx3⟩⟩

end Go.Proofs.YtliabgcpciekpaaDoor
