/- The plain law of what is kept: how many bytes. -/
import Derived.Test.YtnijaleedbmljaaPlL
set_option linter.unusedVariables false
set_option linter.unusedSimpArgs false
namespace Go.Proofs.Ytnijaleedbmljaa
open Go Go.RowKit

def goneS (x : List Pl.T) : List Pl.Ed → Nat
  | [] => 0
  | e :: r => (Pl.cut x e.f.toNat e.t.toNat).flatten.length + goneS x r
def putS : List Pl.Ed → Nat
  | [] => 0
  | e :: r => e.x.length + putS r
theorem goneS_snoc (x : List Pl.T) (l : List Pl.Ed) (e : Pl.Ed) : goneS x (l ++ [e]) = goneS x l + (Pl.cut x e.f.toNat e.t.toNat).flatten.length := by
  induction l with
  | nil => simp [goneS]
  | cons a r ih => simp only [List.cons_append, goneS, ih]; omega
theorem putS_snoc (l : List Pl.Ed) (e : Pl.Ed) : putS (l ++ [e]) = putS l + e.x.length := by
  induction l with
  | nil => simp [putS]
  | cons a r ih => simp only [List.cons_append, putS, ih]; omega
theorem cuts_segs (x : List Pl.T) : ∀ (l : List Pl.Ed) (a : Nat), Pl.cuts (Pl.segs x a l) = goneS x l := by
  intro l
  induction l with
  | nil => intro a; rfl
  | cons e r ih => intro a; simp only [Pl.segs, Pl.cuts, goneS, ih]
theorem puts_segs (x : List Pl.T) : ∀ (l : List Pl.Ed) (a : Nat), Pl.puts (Pl.segs x a l) = putS l := by
  intro l
  induction l with
  | nil => intro a; rfl
  | cons e r ih => intro a; simp only [Pl.segs, Pl.puts, putS, ih]
theorem kept_sums {s : Pl.T} {l : List Pl.Ed} (hf : fitS s l = true) : Pl.many (kpOut s l) = (s.length : Int) - goneS (Pl.lines s) l ∧ ((Pl.app (Pl.lines s) 0 l).length : Int) = Pl.many (kpOut s l) + putS l ∧ Pl.Rises (-1) s.length (kpOut s l) := by
  have ho := old_s hf
  have hnw := Pl.new_app (Pl.lines s) l 0
  have h1 := Pl.kp_many (Pl.rest (Pl.lines s) 0 l) (Pl.segs (Pl.lines s) 0 l) 0 0 0 (Nat.le_refl _)
  have h2 := Pl.kp_rises (Pl.rest (Pl.lines s) 0 l) (Pl.segs (Pl.lines s) 0 l) 0 0 0 (-1) (by omega) (Nat.le_refl _)
  have h3 := Pl.old_length (Pl.rest (Pl.lines s) 0 l) (Pl.segs (Pl.lines s) 0 l)
  have h4 := Pl.new_length (Pl.rest (Pl.lines s) 0 l) (Pl.segs (Pl.lines s) 0 l)
  rw [ho, Nat.zero_add] at h1 h2
  rw [ho, cuts_segs] at h3
  rw [hnw, puts_segs] at h4
  have e : kpOut s l = Pl.kp 0 (s.length : Int) (Pl.sp 0 0 (Pl.segs (Pl.lines s) 0 l)) := by unfold kpOut; rw [if_pos hf, spS_sp hf]
  rw [e]
  refine ⟨?_, ?_, by simpa using h2⟩
  · have : Pl.many (Pl.kp 0 (s.length : Int) (Pl.sp 0 0 (Pl.segs (Pl.lines s) 0 l))) = ((Pl.keeps (Pl.rest (Pl.lines s) 0 l) (Pl.segs (Pl.lines s) 0 l) : Nat) : Int) := by simpa using h1
    rw [this]; omega
  · have : Pl.many (Pl.kp 0 (s.length : Int) (Pl.sp 0 0 (Pl.segs (Pl.lines s) 0 l))) = ((Pl.keeps (Pl.rest (Pl.lines s) 0 l) (Pl.segs (Pl.lines s) 0 l) : Nat) : Int) := by simpa using h1
    rw [this]; omega
theorem gone_bd {x : List Pl.T} {N : Nat} (h : x.flatten.length ≤ N) : ∀ (l : List Pl.Ed), goneS x l ≤ l.length * N := by
  intro l
  induction l with
  | nil => simp [goneS]
  | cons e r ih =>
    have := cut_small h e.f.toNat e.t.toNat
    simp only [goneS, List.length_cons]
    have : (r.length + 1) * N = r.length * N + N := by rw [Nat.add_mul, Nat.one_mul]
    omega
theorem many_snoc (l : List (Int × Int)) (q : Int × Int) : Pl.many (l ++ [q]) = Pl.many l + (q.2 - q.1) := by rw [Pl.many_append]; simp [Pl.many]
theorem many_bd {n : Int} : ∀ {l : List (Int × Int)} {last : Int}, Pl.Rises last n l → -1 ≤ last → last ≤ n → 0 ≤ Pl.many l ∧ Pl.many l ≤ n - last := by
  intro l
  induction l with
  | nil => intro last _ _ h2; simp [Pl.many]; omega
  | cons q r ih =>
    intro last h h1 h2
    obtain ⟨a1, a2, a3, a4⟩ := h
    have := ih a4 (by omega) a3
    simp only [Pl.many]; omega
end Go.Proofs.Ytnijaleedbmljaa
