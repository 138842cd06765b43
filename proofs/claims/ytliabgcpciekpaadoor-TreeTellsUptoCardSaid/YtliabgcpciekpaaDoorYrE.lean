/- Walks: the lines of a text, each with its position, yielded. -/
import Derived.Test.YtliabgcpciekpaaDoorYrD
import Derived.Test.YtliabgcpciekpaaDoorYeB
import Derived.WalkMore
import Derived.Control
import Derived.Lib.Bytealg
set_option linter.unusedVariables false
set_option linter.unusedSimpArgs false
namespace Go.Proofs.YtliabgcpciekpaaDoor
open Go Go.RowKit

namespace St
/-- The lines of a text whose first byte stands at a; nothing stands for a last line without bytes. -/
def lns : Nat → T → List (Nat × T)
  | _, [] => []
  | a, x :: r => if x = 10 then (a, []) :: lns (a + 1) r else match lns (a + 1) r with
    | [] => [(a, [x])]
    | (_, l) :: q => (a, x :: l) :: q
theorem lns_no {t : T} : ∀ {a : Nat}, 10 ∉ t → t ≠ [] → lns a t = [(a, t)] := by
  induction t with
  | nil => intro a _ h; exact absurd rfl h
  | cons x r ih =>
    intro a h _
    simp only [List.mem_cons, not_or] at h
    cases r with
    | nil => simp [lns, Ne.symm h.1]
    | cons y q =>
      have h3 := ih (a := a + 1) h.2 (by simp)
      rw [lns, if_neg (fun e => h.1 e.symm), h3]
theorem lns_at {t : T} : ∀ {a j : Nat}, j < t.length → 10 ∉ t.take j → t[j]? = some 10 → lns a t = (a, t.take j) :: lns (a + j + 1) (t.drop (j + 1)) := by
  induction t with
  | nil => intro a j h; simp at h
  | cons x r ih =>
    intro a j h1 h2 h3
    cases j with
    | zero => simp at h3; subst h3; simp [lns]
    | succ j =>
      simp only [List.take_succ_cons, List.mem_cons, not_or] at h2
      simp only [List.length_cons] at h1
      simp only [List.getElem?_cons_succ] at h3
      have h4 := ih (a := a + 1) (j := j) (by omega) h2.2 h3
      rw [lns, if_neg (fun e => h2.1 e.symm), h4]
      simp only [List.take_succ_cons, List.drop_succ_cons]
      rw [show a + 1 + j + 1 = a + (j + 1) + 1 by omega]
theorem idx_none {c : UInt8} {t : T} (h : Lib.indexByte t c = -1) : c ∉ t := by
  induction t with
  | nil => simp
  | cons x t ih =>
    unfold Lib.indexByte at h
    split at h
    · omega
    · next hc =>
      have := Lib.indexByte_ge t c
      split at h
      · next h2 =>
        simp only [List.mem_cons, not_or]
        exact ⟨fun e => hc (by rw [e]; simp), ih (by simpa using h2)⟩
      · next h2 => simp at h2; omega
theorem idx_some {c : UInt8} {t : T} : ∀ {j : Nat}, Lib.indexByte t c = j → j < t.length ∧ c ∉ t.take j ∧ t[j]? = some c := by
  induction t with
  | nil => intro j h; simp [Lib.indexByte] at h
  | cons x t ih =>
    intro j h
    unfold Lib.indexByte at h
    split at h
    · next hc =>
      have : j = 0 := by omega
      subst this
      exact ⟨by simp, by simp, by simpa using hc⟩
    · next hc =>
      split at h
      · omega
      · next h2 =>
        have := Lib.indexByte_ge t c
        obtain ⟨k, rfl⟩ : ∃ k, j = k + 1 := ⟨j - 1, by simp at h2; omega⟩
        obtain ⟨a, b, d⟩ := ih (j := k) (by omega)
        exact ⟨by simp; omega, by simp only [List.take_succ_cons, List.mem_cons, not_or]; exact ⟨fun e => hc (by rw [e]; simp), b⟩, by simpa using d⟩
end St

theorem ba_drop (s : ByteArray) (j : Nat) : (s.extract j s.size).data.toList = s.data.toList.drop j := by
  rw [Lib.extract_data, Lib.size_eq]; exact List.take_of_length_le (by simp)
theorem ba_mid (s : ByteArray) (a j : Nat) : s.extract a (a + j) = bs ((s.data.toList.drop a).take j) := by
  rw [Lib.extract_eq]
  simp [bs]
theorem ba_rest (s : ByteArray) (a : Nat) : s.extract a s.size = bs (s.data.toList.drop a) := by rw [← ba_drop, bs_of]

theorem split_any (s : ByteArray) (w : World) :
    Calls Tryd.prog 46 #[.string s] w fun e w' => e = .returned (.func (.func 68) #[] #[.pointer (some ⟨w.heap.size, 0, none⟩)]) ∧ w' = w.alloc (.cells #[.string s] 9) := by
  go_enter Tryd.func46, Tryd.ntmps46
  go_wp2
  go_ret
  exact ⟨rfl, rfl⟩

set_option maxRecDepth 100000 in
set_option maxHeartbeats 4000000 in
theorem split1_seq (n : Nat) (Bs : Nat) (s : ByteArray) (W : World) (hs : s.size ≤ 1000000000) (hb : Bx W Bs 9 (.string s)) :
    Seq n Tryd.prog 68 #[.pointer (some ⟨Bs, 0, none⟩)] (fun x : Nat × St.T => #[.int .i64 (x.1 : Int), .string (bs x.2)]) (fun X Y => X.grownBy Y none) (fun X Y => Y.heap[Bs]? = X.heap[Bs]?)
      (fun pre => pre <+: St.lns 0 s.data.toList) (fun xs => xs = St.lns 0 s.data.toList) (fun pre => pre <+: St.lns 0 s.data.toList) W := by
  intro l K Kx hK hY h0
  have HSZ := Lib.hid (Lib.size_eq s)
  refine callsIn_of_wp Tryd.func68 rfl trivial ?_ rfl
  simp only [Tryd.ntmps68, List.size_toArray, List.length_cons, List.length_nil, Nat.reduceAdd, Nat.reduceSub, Array.replicate_succ, Array.replicate_zero, List.push_toArray, List.append_toArray, List.nil_append, List.cons_append]
  gi_wp2
  gi_loopw [3] (fun p wr => ∃ (pre : List (Nat × St.T)) (a : Nat), a ≤ s.size + 1 ∧ p = .int .i64 a ∧ Bx wr Bs 9 (.string s) ∧ Hid (pre ++ St.lns a (s.data.toList.drop a) = St.lns 0 s.data.toList) ∧ K pre wr) (fun p wr => s.size + 1 - (intOf p).toNat)
  case atStart => exact ⟨[], 0, by omega, rfl, hb, Lib.hid (by simp), h0⟩
  case round =>
    obtain ⟨pre, a, ha, rfl, hbx, HP, hKp⟩ := hrel
    obtain ⟨wo, rfl⟩ : ∃ wo : World, wo = wr := ⟨_, rfl⟩
    have cx := hbx.cell
    have fx := hbx.frozen
    by_cases hlt : a < s.size
    · have haI : (a : Int) ≤ (s.size : Int) := by omega
      have ha0 : (0 : Int) ≤ (a : Int) := by omega
      have hnd : s.data.toList.drop a ≠ [] := by
        intro e
        have := congrArg List.length e
        rw [List.length_drop, ← HSZ.out] at this
        simp at this
        omega
      by_cases hi : Lib.indexByte (s.data.toList.drop a) 10 = -1
      · have hl := St.lns_no (a := a) (St.idx_none hi) hnd
        have hpr : pre ++ [(a, s.data.toList.drop a)] = St.lns 0 s.data.toList := by rw [← HP.out, hl]
        have KI := Tryd.strings_IndexByte (s.extract a s.size) 10 wo
        rw [ba_drop] at KI
        rw [show (Int.toNat 10).toUInt8 = (10 : UInt8) from rfl, hi] at KI
        have KI := Lib.hid KI
        obtain ⟨fn, tmps, assign, body, hy, hR⟩ := hY pre (a, s.data.toList.drop a) wo hKp ⟨[], by rw [List.append_nil, hpr]⟩
        simp only at hy
        rw [← ba_rest] at hy
        have HPR := Lib.hid hpr
        clear hpr hl hi hnd hY hK
        gi_wp2_with (first | (refine ⟨trivial, (fun h => by cases h), ?_⟩; gi_at_call 69; (with_reducible refine (callsIn_wide.2 KI.out).mono ?_); rintro e w' ⟨rfl, rfl⟩) | (refine ⟨trivial, ?_⟩; gi_at_call 69; (with_reducible refine (callsIn_wide.2 KI.out).mono ?_); rintro e w' ⟨rfl, rfl⟩))
        have HNIL := Lib.hid (show s.data.toList.drop (s.size + 1) = [] from List.drop_eq_nil_of_le (by rw [← HSZ.out]; omega))
        refine ⟨(fun h => by cases h), hR.mono ?_⟩
        rintro e W3 (⟨rfl, hJ3, hk3⟩ | ⟨rfl, hJx3⟩)
        · have hbx3 := hbx.same hk3
          clear hk3
          gi_wp2
          go_roundw
          case rel => exact ⟨_, s.size + 1, by omega, by go_num, hbx3, Lib.hid (by rw [HNIL.out, St.lns, List.append_nil]; exact HPR.out), hJ3⟩
          case measure => simp [intOf]; omega
        · gi_wp2
          refine bodyPost_ret (results_none rfl _ _ _) rfl ?_
          exact ⟨⟨_, rfl⟩, .inr ⟨_, by rw [HPR.out]; exact List.prefix_refl _, hJx3⟩⟩
      · obtain ⟨j, hj⟩ : ∃ j : Nat, Lib.indexByte (s.data.toList.drop a) 10 = j := ⟨(Lib.indexByte (s.data.toList.drop a) 10).toNat, by have := Lib.indexByte_ge (s.data.toList.drop a) 10; omega⟩
        obtain ⟨j1, j2, j3⟩ := St.idx_some hj
        have hl := St.lns_at (a := a) j1 j2 j3
        rw [List.drop_drop, show a + (j + 1) = a + j + 1 by omega] at hl
        rw [List.length_drop, ← HSZ.out] at j1
        have hpr : pre ++ (a, (s.data.toList.drop a).take j) :: St.lns (a + j + 1) (s.data.toList.drop (a + j + 1)) = St.lns 0 s.data.toList := by rw [← HP.out, hl]
        have KI := Tryd.strings_IndexByte (s.extract a s.size) 10 wo
        rw [ba_drop] at KI
        rw [show (Int.toNat 10).toUInt8 = (10 : UInt8) from rfl, hj] at KI
        have KI := Lib.hid KI
        obtain ⟨fn, tmps, assign, body, hy, hR⟩ := hY pre (a, (s.data.toList.drop a).take j) wo hKp ⟨St.lns (a + j + 1) (s.data.toList.drop (a + j + 1)), by rw [← hpr]; simp⟩
        simp only at hy
        rw [← ba_mid] at hy
        have HPR := Lib.hid hpr
        have hje : (a : Int) + (j : Int) ≤ (s.size : Int) := by omega
        have hj0 : ¬ (j : Int) < 0 := by omega
        clear hpr hl hi hnd hY hK hj j2 j3
        gi_wp2_with (first | (refine ⟨trivial, (fun h => by cases h), ?_⟩; gi_at_call 69; (with_reducible refine (callsIn_wide.2 KI.out).mono ?_); rintro e w' ⟨rfl, rfl⟩) | (refine ⟨trivial, ?_⟩; gi_at_call 69; (with_reducible refine (callsIn_wide.2 KI.out).mono ?_); rintro e w' ⟨rfl, rfl⟩))
        refine ⟨(fun h => by cases h), hR.mono ?_⟩
        rintro e W3 (⟨rfl, hJ3, hk3⟩ | ⟨rfl, hJx3⟩)
        · have hbx3 := hbx.same hk3
          clear hk3
          gi_wp2
          go_roundw
          case rel => exact ⟨_, a + j + 1, by omega, by go_num, hbx3, Lib.hid (by rw [List.append_assoc]; exact HPR.out), hJ3⟩
          case measure => simp [intOf]; omega
        · gi_wp2
          refine bodyPost_ret (results_none rfl _ _ _) rfl ?_
          exact ⟨⟨_, rfl⟩, .inr ⟨_, by rw [← HPR.out]; exact ⟨St.lns (a + j + 1) (s.data.toList.drop (a + j + 1)), by simp⟩, hJx3⟩⟩
    · have hfin : pre = St.lns 0 s.data.toList := by
        rw [← HP.out, List.drop_eq_nil_of_le (by rw [← HSZ.out]; omega), St.lns, List.append_nil]
      have HF := Lib.hid hfin
      clear hfin hY hK
      gi_wp2
      go_end0
      exact ⟨⟨_, rfl⟩, .inl ⟨_, HF.out, hKp⟩⟩

end Go.Proofs.YtliabgcpciekpaaDoor
