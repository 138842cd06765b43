/- Walks: the pieces of a text between two bytes, by the library's iterator; a text cut at its first byte of a kind. -/
import Derived.Test.YtccpjjhaeocfhaaDoorS9
import Derived.Test.YtccpjjhaeocfhaaDoorSpC
import Derived.Test.YtccpjjhaeocfhaaDoorBldS
set_option linter.unusedVariables false
set_option linter.unusedSimpArgs false
namespace Go.Proofs.YtccpjjhaeocfhaaDoor
open Go Go.RowKit Go.Shelf
attribute [local go_sem] Oper.semAt_some

/-- The string of some bytes. -/
def bs (x : List UInt8) : ByteArray := ⟨x.toArray⟩
theorem bs_data (x : List UInt8) : (bs x).data.toList = x := by simp [bs]
theorem bs_toList (x : List UInt8) : (bs x).toList = x := by rw [Lib.toList_data, bs_data]
theorem bs_of (s : ByteArray) : bs s.data.toList = s := Lib.mk_data s
theorem bs_size (x : List UInt8) : (bs x).size = x.length := by rw [Lib.size_eq, bs_data]
/-- How long the string in a box is. -/
def strAt (w : World) (b : Nat) : Nat := match w.cell? ⟨b, 0, none⟩ with
  | some (.string t) => t.size
  | _ => 0
theorem strAt_eq {w : World} {b : Nat} {t : ByteArray} (h : w.cell? ⟨b, 0, none⟩ = some (.string t)) : strAt w b = t.size := by unfold strAt; rw [h]
theorem Bx.ne {w : World} {b c : Nat} {T U : TypeId} {u v : Value} (h : Bx w b T u) (g : Bx w c U v) (hT : T ≠ U) : b ≠ c := by
  rintro rfl
  unfold Bx at h g
  rw [h] at g
  simp only [Option.some.injEq, Obj.cells.injEq] at g
  exact hT g.2.1

/-- A round's word: three boxes stay. -/
def Kp3 (a b c : Nat) (X Y : World) : Prop := Y.heap[a]? = X.heap[a]? ∧ Y.heap[b]? = X.heap[b]? ∧ Y.heap[c]? = X.heap[c]?

set_option maxRecDepth 100000 in
set_option maxHeartbeats 4000000 in
theorem split1_seq (n : Nat) (Bp Bs Bk : Nat) (c : UInt8) (s : ByteArray) (W : World) (hs : s.size ≤ 1000000000) (hbp : Bx W Bp 9 (.string ⟨#[c]⟩)) (hb : Bx W Bs 9 (.string s)) (hbk : Bx W Bk 3 (.int .i64 0)) (hps : Bp ≠ Bs) :
    Seq n Tryd.prog 48 #[.pointer (some ⟨Bp, 0, none⟩), .pointer (some ⟨Bs, 0, none⟩), .pointer (some ⟨Bk, 0, none⟩)] (fun x : Sp.T => #[.string (bs x)]) (fun X Y => X.grownBy Y (some Bs)) (Kp3 Bp Bs Bk)
      (fun pre => pre <+: Sp.spl c s.data.toList) (fun xs => xs = Sp.spl c s.data.toList) (fun pre => pre <+: Sp.spl c s.data.toList) W := by
  intro l K Kx hK hY h0
  refine callsIn_of_wp Tryd.func48 rfl trivial ?_ rfl
  simp only [Tryd.ntmps48, List.size_toArray, List.length_cons, List.length_nil, Nat.reduceAdd, Nat.reduceSub, Array.replicate_succ, Array.replicate_zero, List.push_toArray, List.append_toArray, List.nil_append, List.cons_append]
  have hsep : (⟨#[c]⟩ : ByteArray).size = 1 := rfl
  have cp := hbp.cell
  gi_wp2
  gi_loopw [7] (fun p wr => ∃ (pre : List Sp.T) (t : ByteArray), Bx wr Bs 9 (.string t) ∧ Bx wr Bp 9 (.string ⟨#[c]⟩) ∧ Bx wr Bk 3 (.int .i64 0) ∧ t.size ≤ 1000000000 ∧ Hid (pre ++ Sp.spl c t.data.toList = Sp.spl c s.data.toList) ∧ K pre wr) (fun p wr => strAt wr Bs)
  case atStart => exact ⟨[], s, hb, hbp, hbk, hs, Lib.hid rfl, h0⟩
  case round =>
    obtain ⟨pre, t, hbx, hpx, hkx, ht, HP, hKp⟩ := hrel
    have hks := (hkx.ne hbx (by decide))
    have cx := hbx.cell
    have fx := hbx.frozen
    have cp := hpx.cell
    have ck := hkx.cell
    by_cases hi : Lib.indexByte t.data.toList c = -1
    · have hl := Sp.spl_none hi
      obtain ⟨fn, tmps, assign, body, hy, hR⟩ := hY pre t.data.toList wr hKp ⟨[], by rw [List.append_nil, ← HP.out, hl]⟩
      rw [bs_of] at hy
      have HL := Lib.hid hl; clear hl
      gi_wp2_with (first | (refine ⟨trivial, (fun h => by cases h), ?_⟩; gi_at_call 50; refine (callsIn_wide.2 (Tryd.strings_Index_one _ _ _)).mono ?_; rintro e w' ⟨rfl, rfl⟩))
      refine ⟨(fun h => by cases h), hR.mono ?_⟩
      rintro e W3 (⟨rfl, hJ3, hk3⟩ | ⟨rfl, hJx3⟩)
      · clear hk3
        gi_wp2
        go_end0
        exact ⟨⟨_, rfl⟩, .inl ⟨_, by rw [← HP.out, HL.out], hJ3⟩⟩
      · gi_wp2
        go_end0
        exact ⟨⟨_, rfl⟩, .inr ⟨_, by rw [← HP.out, HL.out]; exact List.prefix_refl _, hJx3⟩⟩
    · obtain ⟨j, hj⟩ : ∃ j : Nat, Lib.indexByte t.data.toList c = j := ⟨(Lib.indexByte t.data.toList c).toNat, by have := Lib.indexByte_ge t.data.toList c; omega⟩
      have hl := Sp.spl_some hj
      obtain ⟨hj1, _, _⟩ := Sp.idx_some hj
      rw [← Lib.size_eq] at hj1
      have hd : (t.extract (j + 1) t.size).data.toList = t.data.toList.drop (j + 1) := by rw [Lib.extract_data, Lib.size_eq]; exact List.take_of_length_le (by simp)
      have HD := Lib.hid hd; clear hd
      have hx : bs (t.data.toList.take j) = t.extract 0 j := by rw [Lib.extract_eq]; simp [bs]
      obtain ⟨fn, tmps, assign, body, hy, hR⟩ := hY pre (t.data.toList.take j) wr hKp ⟨Sp.spl c (t.data.toList.drop (j + 1)), by rw [List.append_assoc, ← HP.out, hl]; rfl⟩
      rw [hx] at hy
      have HL := Lib.hid hl; clear hl hi hx
      gi_wp2_with (first | (refine ⟨trivial, (fun h => by cases h), ?_⟩; gi_at_call 50; refine (callsIn_wide.2 (Tryd.strings_Index_one _ _ _)).mono ?_; rintro e w' ⟨rfl, rfl⟩))
      refine ⟨(fun h => by cases h), hR.mono ?_⟩
      rintro e W3 (⟨rfl, hJ3, hk3⟩ | ⟨rfl, hJx3⟩)
      · have hbx3 := hbx.same hk3.2.1
        have hpx3 := hpx.same hk3.1
        have hkx3 := hkx.same hk3.2.2
        have cx3 := hbx3.cell
        have fx3 := hbx3.frozen
        have cp3 := hpx3.cell
        clear hk3
        gi_wp2
        go_roundw
        case rel => exact ⟨_, _, hbx3.set _, (Below.heap_setCell _ _ _ _ (by simpa using hps)).trans hpx3, (Below.heap_setCell _ _ _ _ (by simpa using hks)).trans hkx3, by rw [Lib.size_eq, Lib.extract_data]; simp; omega, Lib.hid (by rw [← HP.out, HL.out, HD.out, List.append_assoc]; rfl), hK _ _ _ hJ3 (grownBy_set _ _ _)⟩
        case measure => rw [strAt_eq (hbx3.set _).cell, strAt_eq cx]; simp; omega
      · gi_wp2
        refine bodyPost_ret (results_none rfl _ _ _) rfl ?_
        exact ⟨⟨_, rfl⟩, .inr ⟨_, ⟨Sp.spl c (t.data.toList.drop (j + 1)), by rw [List.append_assoc, ← HP.out, HL.out]; rfl⟩, hJx3⟩⟩

set_option maxHeartbeats 400000 in
theorem splitSeq_any (s p : ByteArray) (k : Int) (w : World) :
    Calls Tryd.prog 42 #[.string s, .string p, .int .i64 k] w fun e w' => e = .returned (.func (.func 48) #[] #[.pointer (some ⟨w.heap.size + 1, 0, none⟩), .pointer (some ⟨w.heap.size, 0, none⟩), .pointer (some ⟨w.heap.size + 1 + 1, 0, none⟩)]) ∧
      w' = ((w.alloc (.cells #[.string s] 9)).alloc (.cells #[.string p] 9)).alloc (.cells #[.int .i64 k] 3) := by
  go_enter Tryd.func42, Tryd.ntmps42
  go_wp2
  go_ret
  exact ⟨by simp, rfl⟩
set_option maxHeartbeats 400000 in
theorem SplitSeq_any (s p : ByteArray) (w : World) :
    Calls Tryd.prog 21 #[.string s, .string p] w fun e w' => e = .returned (.func (.func 48) #[] #[.pointer (some ⟨w.heap.size + 1, 0, none⟩), .pointer (some ⟨w.heap.size, 0, none⟩), .pointer (some ⟨w.heap.size + 1 + 1, 0, none⟩)]) ∧
      w' = ((w.alloc (.cells #[.string s] 9)).alloc (.cells #[.string p] 9)).alloc (.cells #[.int .i64 0] 3) := by
  go_enter Tryd.func21, Tryd.ntmps21
  go_wp2_with (go_at_call 42; refine (splitSeq_any _ _ _ _).mono ?_; rintro e w' ⟨rfl, rfl⟩)
  go_ret
  exact ⟨rfl, rfl⟩

end Go.Proofs.YtccpjjhaeocfhaaDoor
