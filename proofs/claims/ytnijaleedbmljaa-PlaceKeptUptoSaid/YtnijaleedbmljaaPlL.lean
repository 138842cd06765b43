/- The plain law of the statements on places behind edits. -/
import Derived.Test.YtnijaleedbmljaaW24
import Derived.Test.YtnijaleedbmljaaPlK
set_option linter.unusedVariables false
set_option linter.unusedSimpArgs false
namespace Go.Proofs.Ytnijaleedbmljaa
open Go Go.RowKit

theorem old_s {s : Pl.T} {l : List Pl.Ed} (hf : fitS s l = true) : Pl.old (Pl.rest (Pl.lines s) 0 l) (Pl.segs (Pl.lines s) 0 l) = s := by
  rw [Pl.old_all l 0 (-1) ((fitS_iff _ _).1 hf) (.inl ⟨rfl, rfl⟩), List.drop_zero, Pl.lines_flat]
theorem spS_sp {s : Pl.T} {l : List Pl.Ed} (hf : fitS s l = true) : spS s l = Pl.sp 0 0 (Pl.segs (Pl.lines s) 0 l) := Pl.spots_segs ((fitS_iff _ _).1 hf)
/-- What takes edits back has the same spots, the other way about. -/
theorem spS_back {s : Pl.T} {l : List Pl.Ed} (hf : fitS s l = true) : spS (Pl.app (Pl.lines s) 0 l) (Pl.backs (Pl.lines s) 0 l) = Pl.sp 0 0 (Pl.sw (Pl.segs (Pl.lines s) 0 l)) := by
  have hF := (fitS_iff _ _).1 hf
  rw [spS_sp (fit_back hf).1]
  have hl := Pl.lines_app (Pl.good_lines s) (endB_ended (s := s)) hF (a := 0)
  have key := (Pl.segs_back (Pl.good_lines s) l 0 (-1) [] 0 hF (.inl ⟨rfl, rfl, rfl⟩) (by simp) (Nat.zero_le _)).1
  rw [List.nil_append, ← hl] at key
  exact congrArg _ key

theorem mvRes_ok {s : Pl.T} {l : List Pl.Ed} (hf : fitS s l = true) {n : Nat} (hn : n ≤ s.length) : mvRes s l n = .tuple #[.int .i64 (Pl.mv n 0 (spS s l)), .int .i64 0] := by
  unfold mvRes; rw [if_pos hf, if_neg (by omega)]
theorem frRes_ok {s : Pl.T} {l : List Pl.Ed} (hf : fitS s l = true) {n : Nat} (hn : n ≤ (Pl.app (Pl.lines s) 0 l).length) : frRes s l n = .tuple #[.int .i64 (Pl.fm n 0 (spS s l)).1, .bool (Pl.fm n 0 (spS s l)).2, .int .i64 0] := by
  have := app_grow hf
  unfold frRes; rw [if_pos hf, if_neg (by omega)]

/-- Each byte that is kept. -/
theorem kept_byte {s : Pl.T} {l : List Pl.Ed} (hf : fitS s l = true) {q : Int × Int} (hq : q ∈ kpOut s l) : ∃ u v : Nat, q = ((u : Int), (v : Int)) ∧ v ≤ s.length ∧ ∀ n : Nat, u ≤ n → n < v → ∃ m : Nat, mvRes s l n = .tuple #[.int .i64 m, .int .i64 0] ∧
    m < (Pl.app (Pl.lines s) 0 l).length ∧ (Pl.app (Pl.lines s) 0 l)[m]? = s[n]? ∧ frRes s l m = .tuple #[.int .i64 n, .bool true, .int .i64 0] ∧ mvRes (Pl.app (Pl.lines s) 0 l) (Pl.backs (Pl.lines s) 0 l) m = .tuple #[.int .i64 n, .int .i64 0] := by
  have ho := old_s hf
  have hsp := spS_sp hf
  have hnw := Pl.new_app (Pl.lines s) l 0
  unfold kpOut at hq
  rw [if_pos hf, hsp] at hq
  have hk := Pl.kp_kept (Pl.rest (Pl.lines s) 0 l) (Pl.segs (Pl.lines s) 0 l) 0 0 0 (Nat.le_refl _) q (by rw [ho, Nat.zero_add]; exact hq)
  obtain ⟨u, v, e1, e2, e3, e4⟩ := hk
  rw [ho, Nat.zero_add] at e3
  refine ⟨u, v, by rw [← e1, ← e2], e3, fun n h1 h2 => ?_⟩
  have hK : Pl.Kept (Pl.rest (Pl.lines s) 0 l) 0 n (Pl.segs (Pl.lines s) 0 l) := by
    rcases e4 n h1 h2 with h | h
    · omega
    · exact h
  obtain ⟨m, a1, a2, a3, a4, a5, a6, a7⟩ := Pl.kept_moves (Pl.rest (Pl.lines s) 0 l) n (Pl.segs (Pl.lines s) 0 l) 0 0 hK
  rw [hnw, Nat.zero_add] at a3
  rw [hnw, ho, Nat.sub_zero, Nat.sub_zero] at a4
  have z : ((0 : Nat) : Int) - (0 : Nat) = 0 := rfl
  rw [z] at a1 a6 a7
  rw [← hsp] at a1 a6
  rw [← spS_back hf] at a7
  refine ⟨m, ?_, a3, a4, ?_, ?_⟩
  · rw [mvRes_ok hf (by omega), a1]
  · rw [frRes_ok hf (by omega), a6]
  · rw [mvRes_ok (fit_back hf).1 (by omega), a7]

theorem mv_both {s : Pl.T} {l : List Pl.Ed} (hf : fitS s l = true) {a b : Nat} (ha : a ≤ s.length) (hb : b ≤ s.length) : 0 ≤ Pl.mv a 0 (spS s l) ∧ Pl.mv a 0 (spS s l) ≤ (Pl.app (Pl.lines s) 0 l).length ∧ (a ≤ b → Pl.mv a 0 (spS s l) ≤ Pl.mv b 0 (spS s l)) := by
  have ho := old_s hf
  have hnw := Pl.new_app (Pl.lines s) l 0
  have z : ((0 : Nat) : Int) - (0 : Nat) = 0 := rfl
  rw [spS_sp hf]
  have k1 := Pl.mv_bound (Pl.rest (Pl.lines s) 0 l) (Pl.segs (Pl.lines s) 0 l) 0 0 a (Nat.zero_le _) (by rw [ho]; omega)
  rw [hnw, z] at k1
  refine ⟨by have := k1.1; simpa using this, by have := k1.2; simpa using this, fun hab => ?_⟩
  have k2 := Pl.mv_mono (Pl.rest (Pl.lines s) 0 l) (Pl.segs (Pl.lines s) 0 l) 0 0 a b (Nat.zero_le _) hab (by rw [ho]; omega)
  rw [z] at k2
  exact k2

end Go.Proofs.Ytnijaleedbmljaa
