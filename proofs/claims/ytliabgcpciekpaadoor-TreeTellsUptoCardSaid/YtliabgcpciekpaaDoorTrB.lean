/- Walks: a path's names. -/
import Derived.Test.YtliabgcpciekpaaDoorTrA
import Derived.Test.YtliabgcpciekpaaDoorYrF
set_option linter.unusedVariables false
set_option linter.unusedSimpArgs false
namespace Go.Proofs.YtliabgcpciekpaaDoor
open Go Go.RowKit
attribute [local go_sem] Oper.semAt_some

namespace Tr
/-- Where the last slash of a text stands. -/
def lastI (t : T) : Int := if 47 ∈ t then ((fol t).length : Int) else -1
theorem lastI_no {t : T} (h : 47 ∉ t) : lastI t = -1 := if_neg h
theorem lastI_at {t : T} {i : Nat} (h : t[i]? = some 47) (h2 : 47 ∉ t.drop (i + 1)) : lastI t = (i : Int) := by
  have hi : i < t.length := (List.getElem?_eq_some_iff.1 h).1
  unfold lastI
  rw [if_pos (List.mem_of_getElem? h), fol_at h h2, List.length_take]
  omega
theorem last_split {t : T} (h : 47 ∈ t) : ∃ i, i < t.length ∧ t[i]? = some 47 ∧ 47 ∉ t.drop (i + 1) := by
  induction t with
  | nil => simp at h
  | cons x r ih =>
    by_cases hr : 47 ∈ r
    · obtain ⟨i, h1, h2, h3⟩ := ih hr
      exact ⟨i + 1, by simp; omega, by simpa using h2, by simpa using h3⟩
    · have hx : x = 47 := by
        rcases List.mem_cons.1 h with h | h
        · exact h.symm
        · exact absurd h hr
      subst hx
      exact ⟨0, by simp, by simp, by simpa using hr⟩
theorem fol_take (t : T) : fol t = t.take (max (lastI t) 0).toNat := by
  by_cases h : 47 ∈ t
  · obtain ⟨i, h1, h2, h3⟩ := last_split h
    rw [lastI_at h2 h3, fol_at h2 h3]
    congr 1
    omega
  · rw [lastI_no h, fol_no h]; rfl
theorem lastI_bd (t : T) : -1 ≤ lastI t ∧ lastI t < t.length := by
  by_cases h : 47 ∈ t
  · obtain ⟨i, h1, h2, h3⟩ := last_split h
    rw [lastI_at h2 h3]; omega
  · rw [lastI_no h]; omega
end Tr

/-- How long the string in a box is. -/
def strAt (w : World) (b : Nat) : Nat := match w.cell? ⟨b, 0, none⟩ with
  | some (.string t) => t.size
  | _ => 0
theorem strAt_eq {w : World} {b : Nat} {t : ByteArray} (h : w.cell? ⟨b, 0, none⟩ = some (.string t)) : strAt w b = t.size := by unfold strAt; rw [h]
theorem Bx.ne {w : World} {b c : Nat} {T U : TypeId} {u v : Value} (h : Bx w b T u) (g : Bx w c U v) (hT : T ≠ U) : b ≠ c := by
  rintro rfl
  unfold Bx at h g
  rw [h] at g
  simp only [Option.some.injEq, Obj.cells.injEq] at g
  exact hT g.2.1

/-- A round's word: three boxes stay. -/
def Kp3 (a b c : Nat) (X Y : World) : Prop := Y.heap[a]? = X.heap[a]? ∧ Y.heap[b]? = X.heap[b]? ∧ Y.heap[c]? = X.heap[c]?

set_option maxRecDepth 100000 in
set_option maxHeartbeats 4000000 in
theorem ssplit1_seq (n : Nat) (Bp Bs Bk : Nat) (c : UInt8) (s : ByteArray) (W : World) (hs : s.size ≤ 140737488355328) (hbp : Bx W Bp 9 (.string ⟨#[c]⟩)) (hb : Bx W Bs 9 (.string s)) (hbk : Bx W Bk 3 (.int .i64 0)) (hps : Bp ≠ Bs) :
    Seq n Tryd.prog 96 #[.pointer (some ⟨Bp, 0, none⟩), .pointer (some ⟨Bs, 0, none⟩), .pointer (some ⟨Bk, 0, none⟩)] (fun x : Tr.T => #[.string (bs x)]) (fun X Y => X.grownBy Y (some Bs)) (Kp3 Bp Bs Bk)
      (fun pre => pre <+: Tr.spl c s.data.toList) (fun xs => xs = Tr.spl c s.data.toList) (fun pre => pre <+: Tr.spl c s.data.toList) W := by
  intro l K Kx hK hY h0
  refine callsIn_of_wp Tryd.func96 rfl trivial ?_ rfl
  simp only [Tryd.ntmps96, List.size_toArray, List.length_cons, List.length_nil, Nat.reduceAdd, Nat.reduceSub, Array.replicate_succ, Array.replicate_zero, List.push_toArray, List.append_toArray, List.nil_append, List.cons_append]
  have hsep : (⟨#[c]⟩ : ByteArray).size = 1 := rfl
  have cp := hbp.cell
  gi_wp2
  gi_loopw [7] (fun p wr => ∃ (pre : List Tr.T) (t : ByteArray), Bx wr Bs 9 (.string t) ∧ Bx wr Bp 9 (.string ⟨#[c]⟩) ∧ Bx wr Bk 3 (.int .i64 0) ∧ t.size ≤ 140737488355328 ∧ Hid (pre ++ Tr.spl c t.data.toList = Tr.spl c s.data.toList) ∧ K pre wr) (fun p wr => strAt wr Bs)
  case atStart => exact ⟨[], s, hb, hbp, hbk, hs, Lib.hid rfl, h0⟩
  case round =>
    obtain ⟨pre, t, hbx, hpx, hkx, ht, HP, hKp⟩ := hrel
    have hks := (hkx.ne hbx (by decide))
    have cx := hbx.cell
    have fx := hbx.frozen
    have cp := hpx.cell
    have ck := hkx.cell
    by_cases hi : Lib.indexByte t.data.toList c = -1
    · have hl := Tr.spl_none hi
      obtain ⟨fn, tmps, assign, body, hy, hR⟩ := hY pre t.data.toList wr hKp ⟨[], by rw [List.append_nil, ← HP.out, hl]⟩
      rw [bs_of] at hy
      have HL := Lib.hid hl; clear hl
      gi_wp2_with (first | (refine ⟨trivial, (fun h => by cases h), ?_⟩; gi_at_call 97; refine (callsIn_wide.2 (Tryd.strings_Index_one _ _ _)).mono ?_; rintro e w' ⟨rfl, rfl⟩))
      refine ⟨(fun h => by cases h), hR.mono ?_⟩
      rintro e W3 (⟨rfl, hJ3, hk3⟩ | ⟨rfl, hJx3⟩)
      · clear hk3
        gi_wp2
        go_end0
        exact ⟨⟨_, rfl⟩, .inl ⟨_, by rw [← HP.out, HL.out], hJ3⟩⟩
      · gi_wp2
        go_end0
        exact ⟨⟨_, rfl⟩, .inr ⟨_, by rw [← HP.out, HL.out]; exact List.prefix_refl _, hJx3⟩⟩
    · obtain ⟨j, hj⟩ : ∃ j : Nat, Lib.indexByte t.data.toList c = j := ⟨(Lib.indexByte t.data.toList c).toNat, by have := Lib.indexByte_ge t.data.toList c; omega⟩
      have hl := Tr.spl_some hj
      obtain ⟨hj1, _, _⟩ := St.idx_some hj
      rw [← Lib.size_eq] at hj1
      have hd : (t.extract (j + 1) t.size).data.toList = t.data.toList.drop (j + 1) := by rw [Lib.extract_data, Lib.size_eq]; exact List.take_of_length_le (by simp)
      have HD := Lib.hid hd; clear hd
      have hx : bs (t.data.toList.take j) = t.extract 0 j := by rw [Lib.extract_eq]; simp [bs]
      obtain ⟨fn, tmps, assign, body, hy, hR⟩ := hY pre (t.data.toList.take j) wr hKp ⟨Tr.spl c (t.data.toList.drop (j + 1)), by rw [List.append_assoc, ← HP.out, hl]; rfl⟩
      rw [hx] at hy
      have HL := Lib.hid hl; clear hl hi hx
      gi_wp2_with (first | (refine ⟨trivial, (fun h => by cases h), ?_⟩; gi_at_call 97; refine (callsIn_wide.2 (Tryd.strings_Index_one _ _ _)).mono ?_; rintro e w' ⟨rfl, rfl⟩))
      refine ⟨(fun h => by cases h), hR.mono ?_⟩
      rintro e W3 (⟨rfl, hJ3, hk3⟩ | ⟨rfl, hJx3⟩)
      · have hbx3 := hbx.same hk3.2.1
        have hpx3 := hpx.same hk3.1
        have hkx3 := hkx.same hk3.2.2
        have cx3 := hbx3.cell
        have fx3 := hbx3.frozen
        have cp3 := hpx3.cell
        clear hk3
        gi_wp2
        go_roundw
        case rel => exact ⟨_, _, hbx3.set _, (Below.heap_setCell _ _ _ _ (by simpa using hps)).trans hpx3, (Below.heap_setCell _ _ _ _ (by simpa using hks)).trans hkx3, by rw [Lib.size_eq, Lib.extract_data]; simp; omega, Lib.hid (by rw [← HP.out, HL.out, HD.out, List.append_assoc]; rfl), hK _ _ _ hJ3 (grownBy_set _ _ _)⟩
        case measure => rw [strAt_eq (hbx3.set _).cell, strAt_eq cx]; simp; omega
      · gi_wp2
        refine bodyPost_ret (results_none rfl _ _ _) rfl ?_
        exact ⟨⟨_, rfl⟩, .inr ⟨_, ⟨Tr.spl c (t.data.toList.drop (j + 1)), by rw [List.append_assoc, ← HP.out, HL.out]; rfl⟩, hJx3⟩⟩

set_option maxHeartbeats 400000 in
theorem splitSeq_any (s p : ByteArray) (k : Int) (w : World) :
    Calls Tryd.prog 82 #[.string s, .string p, .int .i64 k] w fun e w' => e = .returned (.func (.func 96) #[] #[.pointer (some ⟨w.heap.size + 1, 0, none⟩), .pointer (some ⟨w.heap.size, 0, none⟩), .pointer (some ⟨w.heap.size + 1 + 1, 0, none⟩)]) ∧
      w' = ((w.alloc (.cells #[.string s] 9)).alloc (.cells #[.string p] 9)).alloc (.cells #[.int .i64 k] 3) := by
  go_enter Tryd.func82, Tryd.ntmps82
  go_wp2
  go_ret
  exact ⟨by simp, rfl⟩
set_option maxHeartbeats 400000 in
theorem SplitSeq_any (s p : ByteArray) (w : World) :
    Calls Tryd.prog 55 #[.string s, .string p] w fun e w' => e = .returned (.func (.func 96) #[] #[.pointer (some ⟨w.heap.size + 1, 0, none⟩), .pointer (some ⟨w.heap.size, 0, none⟩), .pointer (some ⟨w.heap.size + 1 + 1, 0, none⟩)]) ∧
      w' = ((w.alloc (.cells #[.string s] 9)).alloc (.cells #[.string p] 9)).alloc (.cells #[.int .i64 0] 3) := by
  go_enter Tryd.func55, Tryd.ntmps55
  go_wp2_with (go_at_call 82; refine (splitSeq_any _ _ _ _).mono ?_; rintro e w' ⟨rfl, rfl⟩)
  go_ret
  exact ⟨rfl, rfl⟩


set_option maxRecDepth 100000 in
set_option maxHeartbeats 400000 in
theorem LastIndexByteString_any (s : ByteArray) (w : World) (hs : s.size ≤ 140737488355328) :
    Calls Tryd.prog 125 #[.string s, .int .u8 47] w fun e w' => e = .returned (.int .i64 (Tr.lastI s.data.toList)) ∧ w' = w := by
  have HSZ := Lib.hid (Lib.size_eq s)
  go_enter Tryd.func125, Tryd.ntmps125
  go_wp2
  go_loop [5] (fun i => ∃ j : Nat, j ≤ s.size ∧ i = .int .i64 ((j : Int) - 1) ∧ Hid (47 ∉ s.data.toList.drop j)) (fun i => (intOf i + 1).toNat)
  case atStart => exact ⟨s.size, Nat.le_refl _, by go_num, Lib.hid (by rw [List.drop_eq_nil_of_le (by rw [← HSZ.out]; exact Nat.le_refl _)]; simp)⟩
  case round =>
    obtain ⟨j, hj, rfl, HJ⟩ := hrel
    rcases Nat.eq_zero_or_pos j with rfl | hj0
    · have HR := Lib.hid (Tr.lastI_no (t := s.data.toList) (by have := HJ.out; rwa [List.drop_zero] at this))
      go_wp2
      go_ret
      exact ⟨by rw [HR.out]; rfl, rfl⟩
    · obtain ⟨i, rfl⟩ : ∃ i, j = i + 1 := ⟨j - 1, by omega⟩
      rw [show ((i + 1 : Nat) : Int) - 1 = (i : Int) by omega]
      have hi : i < s.size := by omega
      have hgi := ba_get s i hi
      by_cases hc : s[i] = 47
      · have HR := Lib.hid (Tr.lastI_at (by rw [hgi, hc]) HJ.out)
        have hcI : ((s[i]).toNat : Int) = 47 := by rw [hc]; rfl
        have hcN : (s[i]).toNat = 47 := by rw [hc]; rfl
        clear hgi hc
        go_wp2
        go_ret
        exact ⟨by rw [HR.out]; rfl, rfl⟩
      · have hcN : ¬ (s[i]).toNat = 47 := fun e => hc (UInt8.toNat_inj.1 (by rw [e]; rfl))
        have hcI : ¬ ((s[i]).toNat : Int) = 47 := by omega
        have HJ2 := Lib.hid (show 47 ∉ s.data.toList.drop i by
          have h1 : i < s.data.toList.length := by rw [← HSZ.out]; exact hi
          rw [List.drop_eq_getElem_cons h1, List.mem_cons, not_or]
          refine ⟨fun e => hc ?_, HJ.out⟩
          rw [List.getElem?_eq_getElem h1] at hgi
          simp only [Option.some.injEq] at hgi
          rw [← hgi, ← e])
        clear hgi hc
        go_wp2
        go_round
        case rel => exact ⟨i, by omega, by go_num, HJ2⟩
        case measure => first | (simp [intOf]; done) | (simp [intOf]; omega)

theorem LastIndexByte_any (s : ByteArray) (w : World) (hs : s.size ≤ 140737488355328) :
    Calls Tryd.prog 109 #[.string s, .int .u8 47] w fun e w' => e = .returned (.int .i64 (Tr.lastI s.data.toList)) ∧ w' = w := by
  go_enter Tryd.func109, Tryd.ntmps109
  go_wp2_with (go_at_call 125; refine (LastIndexByteString_any s _ hs).mono ?_; rintro e w' ⟨rfl, rfl⟩)
  go_ret
  exact ⟨rfl, rfl⟩

set_option maxRecDepth 100000 in
set_option maxHeartbeats 400000 in
theorem folder_any (s : ByteArray) (w : World) (hs : s.size ≤ 140737488355328) :
    Calls Tryd.prog 86 #[.string s] w fun e w' => e = .returned (.string (bs (Tr.fol s.data.toList))) ∧ w' = w := by
  have h1 := Tr.lastI_bd s.data.toList
  rw [← Lib.size_eq] at h1
  have HF := Lib.hid (Tr.fol_take s.data.toList)
  have L := Lib.hid (LastIndexByte_any s w hs)
  generalize Tr.lastI s.data.toList = z at *
  obtain ⟨m, hm⟩ : ∃ m : Nat, max z 0 = (m : Int) := ⟨(max z 0).toNat, by omega⟩
  have hms : m ≤ s.size := by omega
  rw [hm, Int.toNat_natCast] at HF
  have HB := Lib.hid (show s.extract 0 m = bs (Tr.fol s.data.toList) by rw [HF.out, Lib.extract_eq]; simp [bs])
  go_enter Tryd.func86, Tryd.ntmps86
  go_wp2_with (go_at_call 109; refine L.out.mono ?_; rintro e w' ⟨rfl, rfl⟩)
  go_ret
  exact ⟨by rw [HB.out]; rfl, rfl⟩

theorem folders_any (s : ByteArray) (w : World) :
    Calls Tryd.prog 80 #[.string s] w fun e w' => e = .returned (.func (.func 95) #[] #[.pointer (some ⟨w.heap.size, 0, none⟩)]) ∧ w' = w.alloc (.cells #[.string s] 9) := by
  go_enter Tryd.func80, Tryd.ntmps80
  go_wp2
  go_ret
  exact ⟨rfl, rfl⟩

theorem ba_bs (s : ByteArray) : ∃ t : List UInt8, s = bs t ∧ s.data.toList = t := ⟨s.data.toList, (bs_of s).symm, rfl⟩

set_option maxRecDepth 100000 in
set_option maxHeartbeats 400000 in
theorem inside_any (f n : St.T) (w : World) (hf : f.length ≤ 140737488355328) (hn : n.length ≤ 140737488355328) :
    Calls Tryd.prog 81 #[.string (bs f), .string (bs n)] w fun e w' => e = .returned (.string (bs (Tr.ins f n))) ∧ w' = w := by
  have hfs : (bs f).size = f.length := bs_size f
  have hns : (bs n).size = n.length := bs_size n
  by_cases h0 : f = []
  · subst h0
    have HR := Lib.hid (show Tr.ins [] n = n from rfl)
    have t1 : (bs []).toList = [] := bs_toList []
    have t2 : (bs []).toList.isEmpty = true := by rw [t1]; rfl
    go_enter Tryd.func81, Tryd.ntmps81
    go_wp2
    go_ret
    exact ⟨by rw [HR.out]; rfl, rfl⟩
  · have HR := Lib.hid (show Tr.ins f n = f ++ [47] ++ n by unfold Tr.ins; rw [if_neg h0, List.append_assoc]; rfl)
    have t1 : ¬ (bs f).toList = [] := by rw [bs_toList]; exact h0
    have t2 : (bs f).toList.isEmpty = false := by rw [List.isEmpty_eq_false_iff]; exact t1
    have q1 : ¬ 9223372036854775807 < f.length + 1 := by omega
    have q2 : ¬ 9223372036854775807 < f.length + 1 + n.length := by omega
    clear h0
    go_enter Tryd.func81, Tryd.ntmps81
    go_wp2
    go_ret
    exact ⟨by rw [HR.out, ← bs_cat, ← bs_cat]; rfl, rfl⟩

set_option maxRecDepth 100000 in
set_option maxHeartbeats 400000 in
theorem isStyle_any (s : ByteArray) (w : World) (hs : s.size ≤ 140737488355328) :
    Calls Tryd.prog 62 #[.string s] w fun e w' => e = .returned (.bool (Tr.isSt s.data.toList)) ∧ w' = w := by
  have F := Lib.hid (folder_any s w hs)
  have I := Lib.hid (inside_any (Tr.fol s.data.toList) Tr.dot w (by have := Tr.fol_len s.data.toList; rw [← Lib.size_eq] at this; omega) (by decide))
  have HX : (bs (Tr.ins (Tr.fol s.data.toList) Tr.dot) = s) ↔ Tr.isSt s.data.toList = true := by
    unfold Tr.isSt
    rw [decide_eq_true_eq]
    exact ⟨fun e => by have h := congrArg (fun x : ByteArray => x.data.toList) e; simp only [bs_data] at h; exact h, fun e => by rw [e, bs_of]⟩
  have HX := Lib.hid HX
  generalize bs (Tr.ins (Tr.fol s.data.toList) Tr.dot) = J at *
  generalize Tr.isSt s.data.toList = b at *
  generalize Tr.fol s.data.toList = f at *
  cases b
  · have h1 : ¬ J.toList = s.toList := fun e => by
      have := HX.out.1 (by rw [← bs_of J, ← bs_of s, ← Lib.toList_data, ← Lib.toList_data, e])
      cases this
    have h2 : (J.toList == s.toList) = false := beq_eq_false_iff_ne.2 h1
    go_enter Tryd.func62, Tryd.ntmps62
    go_wp2_with (first | (go_at_call 86; refine F.out.mono ?_; rintro e w' ⟨rfl, rfl⟩) | (go_at_call 81; refine I.out.mono ?_; rintro e w' ⟨rfl, rfl⟩))
    go_ret
    exact ⟨rfl, rfl⟩
  · have h0 := HX.out.2 rfl
    subst h0
    go_enter Tryd.func62, Tryd.ntmps62
    go_wp2_with (first | (go_at_call 86; refine F.out.mono ?_; rintro e w' ⟨rfl, rfl⟩) | (go_at_call 81; refine I.out.mono ?_; rintro e w' ⟨rfl, rfl⟩))
    go_ret
    exact ⟨rfl, rfl⟩

end Go.Proofs.YtliabgcpciekpaaDoor
