/- Walks: places behind edits, all cases (the program's). -/
import Derived.Test.YtnijaleedbmljaaW19
import Derived.WalkMore
set_option linter.unusedVariables false
set_option linter.unusedSimpArgs false
namespace Go.Proofs.Ytnijaleedbmljaa
open Go Go.RowKit

def spS (s : Pl.T) (l : List Pl.Ed) : List Pl.Spot := Pl.spots (Pl.lines s) 0 l
def mvRes (s : Pl.T) (l : List Pl.Ed) (n : Int) : Value :=
  if fitS s l = true then (if n < 0 ∨ (s.length : Int) < n then .tuple #[.int .i64 0, .int .i64 2] else .tuple #[.int .i64 (Pl.mv n 0 (spS s l)), .int .i64 0]) else .tuple #[.int .i64 0, .int .i64 180]
def frRes (s : Pl.T) (l : List Pl.Ed) (n : Int) : Value :=
  if fitS s l = true then (if n < 0 ∨ (s.length : Int) + Pl.grow (spS s l) < n then .tuple #[.int .i64 0, .bool false, .int .i64 2] else .tuple #[.int .i64 (Pl.fm n 0 (spS s l)).1, .bool (Pl.fm n 0 (spS s l)).2, .int .i64 0]) else .tuple #[.int .i64 0, .bool false, .int .i64 180]
def kpOut (s : Pl.T) (l : List Pl.Ed) : List (Int × Int) := if fitS s l = true then Pl.kp 0 s.length (spS s l) else []
def kpErr (s : Pl.T) (l : List Pl.Ed) : Int := if fitS s l = true then 0 else 180

set_option maxRecDepth 100000 in
set_option maxHeartbeats 2000000 in
theorem Move_all (s : ByteArray) (A : Option Addr) (c : Nat) (l : List Pl.Ed) (n : Int) (w : World) (hs : s.size ≤ 4000000) (h : Rd w 3 A l.length (edcs l)) (hsm : Sm l) :
    Calls Try.prog 18 #[.string s, .slice A l.length c, .int .i64 n] w fun e w' => e = .returned (mvRes s.data.toList l n) ∧ Below w.heap.size w w' := by
  have hlen : (s.data.toList.length : Int) = s.size := by rw [← Lib.size_eq]
  have C1 := fun W g => pfit_any s A c l W hs g hsm
  have hB0 : Below w.heap.size w (((w.alloc (.cells #[.int .i64 n] 3)).alloc (.cells #[.int .i64 0] 3)).alloc (.cells #[.int .i64 0] 24)) := (((Below.refl _ w).alloc (Nat.le_refl _) _).alloc (by simp) _).alloc (by simp; omega) _
  obtain ⟨x0, x1, x2⟩ := three_boxes w (.int .i64 n) (.int .i64 0) (.int .i64 0) 3 3 24
  cases hf : fitS s.data.toList l
  · rw [hf] at C1
    have K1 := Lib.hid C1; clear C1
    have HR : Hid (mvRes s.data.toList l n = .tuple #[.int .i64 0, .int .i64 180]) := Lib.hid (by unfold mvRes; rw [if_neg (by rw [hf]; simp)])
    clear hf hlen
    go_enter Try.func18, Try.ntmps18
    go_wp2
    go_step3
    go_wp2_with (go_at_call 44; refine (K1.out _ (h.later hB0)).mono ?_; rintro e w1 ⟨rfl, hb1⟩; have y1 := x1.below hb1 x1.lt; have y2 := x2.below hb1 x2.lt; have c1 := y1.cell; have c2 := y2.cell; have g1 := y1.frozen; have g2 := y2.frozen)
    rw [Exit.noGoto_ret]
    have B1 := (y1.set (.int .i64 0)).other (k := w.heap.size + 1 + 1) (by omega) (.int .i64 180)
    have B2 := (y2.other (k := w.heap.size + 1) (by omega) (.int .i64 0)).set (.int .i64 180)
    have z1 := B1.cell
    have z2 := B2.cell
    refine bodyPost_ret (v := .tuple #[.int .i64 0, .int .i64 180]) (by simp [results, Try.results18, go_sem, z1, z2]) rfl ⟨by rw [HR.out], ?_⟩
    exact ((hB0.trans (hb1.mono hB0.size)).setCell (p := ⟨_, 0, none⟩) (by simp) _).setCell (p := ⟨_, 0, none⟩) (by simp; omega) _
  · by_cases hr : n < 0 ∨ (s.size : Int) < n
    · rw [hf] at C1
      have K1 := Lib.hid C1; clear C1
      have HR : Hid (mvRes s.data.toList l n = .tuple #[.int .i64 0, .int .i64 2]) := Lib.hid (by unfold mvRes; rw [if_pos hf, if_pos (by rw [hlen]; exact hr)])
      clear hf hlen
      have hd : decide (n < 0) = true ∨ (decide (n < 0) = false ∧ decide ((s.size : Int) < n) = true) := by
        by_cases hn : n < 0
        · exact .inl (by simp [hn])
        · exact .inr ⟨by simp [hn], by rcases hr with hr | hr; exact absurd hr hn; simp [hr]⟩
      rcases hd with hd | ⟨hd, hd2⟩
      all_goals
        go_enter Try.func18, Try.ntmps18
        go_wp2
        go_step3
        go_wp2_with (go_at_call 44; refine (K1.out _ (h.later hB0)).mono ?_; rintro e w1 ⟨rfl, hb1⟩; have y1 := x1.below hb1 x1.lt; have y2 := x2.below hb1 x2.lt; have c0 := (x0.below hb1 x0.lt).cell; have c1 := y1.cell; have c2 := y2.cell; have g1 := y1.frozen; have g2 := y2.frozen)
        rw [Exit.noGoto_ret]
        have B1 := (y1.set (.int .i64 0)).other (k := w.heap.size + 1 + 1) (by omega) (.int .i64 2)
        have B2 := (y2.other (k := w.heap.size + 1) (by omega) (.int .i64 0)).set (.int .i64 2)
        have z1 := B1.cell
        have z2 := B2.cell
        refine bodyPost_ret (v := .tuple #[.int .i64 0, .int .i64 2]) (by simp [results, Try.results18, go_sem, z1, z2]) rfl ⟨by rw [HR.out], ?_⟩
        exact ((hB0.trans (hb1.mono hB0.size)).setCell (p := ⟨_, 0, none⟩) (by simp) _).setCell (p := ⟨_, 0, none⟩) (by simp; omega) _
    · have e : mvRes s.data.toList l n = .tuple #[.int .i64 (Pl.mv n 0 (Pl.spots (Pl.lines s.data.toList) 0 l)), .int .i64 0] := by unfold mvRes; rw [if_pos hf, if_neg (by rw [hlen]; exact hr)]; rfl
      rw [e]
      exact Move_any s A c l n w hs h hsm hf (by omega) (by omega)

set_option maxRecDepth 100000 in
set_option maxHeartbeats 2000000 in
theorem Kept_all (s : ByteArray) (A : Option Addr) (c : Nat) (l : List Pl.Ed) (w : World) (hs : s.size ≤ 4000000) (h : Rd w 3 A l.length (edcs l)) (hsm : Sm l) :
    Calls Try.prog 22 #[.string s, .slice A l.length c] w (KeptPost (kpOut s.data.toList l) (kpErr s.data.toList l) w) := by
  have hlen : (s.data.toList.length : Int) = s.size := by rw [← Lib.size_eq]
  have C1 := fun W g => pfit_any s A c l W hs g hsm
  cases hf : fitS s.data.toList l
  · rw [hf] at C1
    have K1 := Lib.hid C1; clear C1
    have HR : Hid (∀ w', Below w.heap.size w w' → KeptPost (kpOut s.data.toList l) (kpErr s.data.toList l) w (.returned (.tuple #[.slice none 0 0, .int .i64 180])) w') := Lib.hid (fun w' hb => by
      unfold kpOut kpErr
      rw [if_neg (by rw [hf]; simp), if_neg (by rw [hf]; simp)]
      exact ⟨none, 0, rfl, Rd.nil _ _ _, hb⟩)
    clear hf hlen
    go_enter Try.func22, Try.ntmps22
    go_wp2_with (go_at_call 44; refine (K1.out _ h).mono ?_; rintro e w1 ⟨rfl, hb1⟩)
    go_ret2
    exact HR.out _ hb1
  · have e : kpOut s.data.toList l = Pl.kp 0 s.size (Pl.spots (Pl.lines s.data.toList) 0 l) := by unfold kpOut; rw [if_pos hf, hlen]; rfl
    have e2 : kpErr s.data.toList l = 0 := by unfold kpErr; rw [if_pos hf]
    rw [e, e2]
    exact Kept_fit s A c l w hs h hsm hf

end Go.Proofs.Ytnijaleedbmljaa
