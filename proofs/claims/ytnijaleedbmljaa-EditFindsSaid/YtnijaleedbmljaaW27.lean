/- Walks: the document's table of longest common lists. -/
import Derived.Test.YtnijaleedbmljaaW14
import Derived.Test.YtnijaleedbmljaaW4
import Derived.Deep.OwnRows
import Derived.StillTailTactics
set_option linter.unusedVariables false
set_option linter.unusedSimpArgs false
namespace Go.Proofs.Ytnijaleedbmljaa
open Go Go.RowKit

theorem infoSl : (Try.prog.info? 100).map (fun i => (i.zero, i.size, i.bytes)) = some (some (.slice none 0 0), 1, 24) := by kernel_rfl
theorem infoInt1 : (Try.prog.info? 3).map (fun i => (i.zero, i.size, i.bytes)) = some (some (.int .i64 0), 1, 8) := by kernel_rfl

/-- A row of the table. -/
def tRow (O la lb i : Nat) : Value := .slice (some ⟨O + 1 + (la - i), 0, none⟩) (lb + 1) (lb + 1)
def tVal (x y : List Pl.T) (i j : Nat) : Value := .int .i64 (Pl.lcs (x.drop i) (y.drop j))
/-- The table's rows from m on. -/
structure TabP (w0 : World) (O : Nat) (x y : List Pl.T) (m : Nat) (H : Nat) (w : World) : Prop where
  bel : Below w0.heap.size w0 w
  sz : w.heap.size = H
  top : w.rowIs O 100 (x.length + 1) (fun i => if m ≤ i then tRow O x.length y.length i else .slice none 0 0)
  rows : ∀ i, m ≤ i → i ≤ x.length → w.rowIs (O + 1 + (x.length - i)) 3 (y.length + 1) (tVal x y i)
theorem TabP.drawn {w0 w : World} {O m H : Nat} {x y : List Pl.T} (h : TabP w0 O x y m H w) (n : Nat) : TabP w0 O x y m H (w.drewN n) := ⟨below_drewN h.bel n, h.sz, h.top, h.rows⟩
theorem TabP.set {w0 w : World} {O m H R : Nat} {x y : List Pl.T} (h : TabP w0 O x y m H w) (hO : w0.heap.size ≤ O) (j : Nat) (v : Value) (hR : O < R) (hR2 : ∀ i, m ≤ i → i ≤ x.length → O + 1 + (x.length - i) ≠ R) : TabP w0 O x y m H (w.setCell ⟨R, j, none⟩ v) :=
  ⟨h.bel.setCell (p := ⟨R, j, none⟩) (by simp; omega) v, by rw [← h.sz]; simp [World.setCell], h.top.setOther (by simp; omega) v, fun i h1 h2 => (h.rows i h1 h2).setOther (by simpa using hR2 i h1 h2) v⟩

theorem lcs_at {x y : List Pl.T} {i j : Nat} {a b : Pl.T} (hi : x[i]? = some a) (hj : y[j]? = some b) : Pl.lcs (x.drop i) (y.drop j) = if a = b then Pl.lcs (x.drop (i + 1)) (y.drop (j + 1)) + 1 else max (Pl.lcs (x.drop (i + 1)) (y.drop j)) (Pl.lcs (x.drop i) (y.drop (j + 1))) := by
  have h1 := (List.getElem?_eq_some_iff.1 hi).1
  have h2 := (List.getElem?_eq_some_iff.1 hj).1
  have e1 : x.drop i = a :: x.drop (i + 1) := by rw [List.drop_eq_getElem_cons h1, (List.getElem?_eq_some_iff.1 hi).2]
  have e2 : y.drop j = b :: y.drop (j + 1) := by rw [List.drop_eq_getElem_cons h2, (List.getElem?_eq_some_iff.1 hj).2]
  rw [e1, e2, Pl.lcs_cons]
theorem lcs_bd (x y : List Pl.T) (i j : Nat) : Pl.lcs (x.drop i) (y.drop j) ≤ x.length := by
  have := Pl.lcs_le_left (x.drop i) (y.drop j)
  rw [List.length_drop] at this; omega

theorem eql_str (a b : Pl.T) (w : World) : (binOp .eql 9 (.string (bs a)) (.string (bs b))).run Try.prog w = .ok (.bool (decide (a = b))) w := by
  simp [go_sem, bs_toList]
  rw [Bool.eq_iff_iff]; simp

/-- A row in the making: from q on it is the table's. -/
def tPart (x y : List Pl.T) (i q j : Nat) : Value := if q ≤ j then tVal x y i j else .int .i64 0

/-- The table with a row (of number i) in the making. -/
structure TabQ (w0 : World) (O R : Nat) (x y : List Pl.T) (i : Nat) (f : Nat → Value) (w : World) : Prop where
  bel : Below w0.heap.size w0 w
  sz : w.heap.size = R + 1
  top : w.rowIs O 100 (x.length + 1) (fun k => if i ≤ k then tRow O x.length y.length k else .slice none 0 0)
  rows : ∀ k, i < k → k ≤ x.length → w.rowIs (O + 1 + (x.length - k)) 3 (y.length + 1) (tVal x y k)
  row : w.rowIs R 3 (y.length + 1) f
theorem TabQ.drawn {w0 w : World} {O R i : Nat} {x y : List Pl.T} {f : Nat → Value} (h : TabQ w0 O R x y i f w) (n : Nat) : TabQ w0 O R x y i f (w.drewN n) := ⟨below_drewN h.bel n, h.sz, h.top, h.rows, h.row⟩
theorem TabQ.drawn1 {w0 w : World} {O R i : Nat} {x y : List Pl.T} {f : Nat → Value} (h : TabQ w0 O R x y i f w) : TabQ w0 O R x y i f ({ w with drawn := w.drawn + 1 } : World) := ⟨below_drewN h.bel 1, h.sz, h.top, h.rows, h.row⟩
theorem TabQ.set {w0 w : World} {O R i : Nat} {x y : List Pl.T} {f : Nat → Value} (h : TabQ w0 O R x y i f w) (hO : w0.heap.size ≤ O) (hR : R = O + 1 + (x.length - i)) (hi : i ≤ x.length) (j : Nat) (v : Value) : TabQ w0 O R x y i (fun k => if k = j then v else f k) (w.setCell ⟨R, j, none⟩ v) :=
  ⟨h.bel.setCell (p := ⟨R, j, none⟩) (by simp; omega) v, by rw [← h.sz]; simp [World.setCell], h.top.setOther (by simp; omega) v, fun k h1 h2 => (h.rows k h1 h2).setOther (by simp; omega) v, h.row.set j v⟩
theorem TabQ.congr {w0 w : World} {O R i : Nat} {x y : List Pl.T} {f f' : Nat → Value} (h : TabQ w0 O R x y i f w) (e : ∀ j, j < y.length + 1 → f j = f' j) : TabQ w0 O R x y i f' w := ⟨h.bel, h.sz, h.top, h.rows, h.row.congr e⟩
theorem TabQ.start {w0 w : World} {O R i : Nat} {x y : List Pl.T} (h : TabP w0 O x y (i + 1) R w) (hO : w0.heap.size ≤ O) (hR : R = O + 1 + (x.length - i)) (hi : i ≤ x.length) :
    TabQ w0 O R x y i (fun _ => .int .i64 0) ((w.alloc (.cells (madeCells #[Value.int .i64 0] (y.length + 1)) 3)).setCell ⟨O, i, none⟩ (.slice (some ⟨R, 0, none⟩) (y.length + 1) (y.length + 1))) := by
  have hs := h.sz
  have hr := World.rowIs_made w (.int .i64 0) (y.length + 1) 3
  rw [hs] at hr
  refine ⟨(h.bel.alloc h.bel.size _).setCell (p := ⟨O, i, none⟩) hO _, by simp [World.setCell, hs], ?_, fun k h1 h2 => ((h.rows k (by omega) h2).alloc _).setOther (by simp; omega) _, hr.setOther (by simp; omega) _⟩
  refine ((h.top.alloc _).set i _).congr (fun k hk => ?_)
  by_cases e : k = i
  · subst e; rw [if_pos rfl, if_pos (Nat.le_refl _)]; unfold tRow; rw [hR]
  · rw [if_neg e]
    by_cases hk2 : i + 1 ≤ k
    · rw [if_pos hk2, if_pos (by omega)]
    · rw [if_neg hk2, if_neg (by omega)]
theorem TabQ.done {w0 w : World} {O R i : Nat} {x y : List Pl.T} (h : TabQ w0 O R x y i (tVal x y i) w) (hR : R = O + 1 + (x.length - i)) (hi : i ≤ x.length) : TabP w0 O x y i (R + 1) w := by
  refine ⟨h.bel, h.sz, h.top, fun k h1 h2 => ?_⟩
  by_cases e : k = i
  · subst e; rw [← hR]; exact h.row
  · exact h.rows k (by omega) h2

/-- The row in the making, with its j-th place written. -/
def tMid (x y : List Pl.T) (i j : Nat) (v : Value) (k : Nat) : Value := if k = j then v else tPart x y i (j + 1) k
theorem TabQ.mid0 {w0 w : World} {O R i j : Nat} {x y : List Pl.T} (h : TabQ w0 O R x y i (tPart x y i (j + 1)) w) (hO : w0.heap.size ≤ O) (hR : R = O + 1 + (x.length - i)) (hi : i ≤ x.length) (v : Value) : TabQ w0 O R x y i (tMid x y i j v) (w.setCell ⟨R, j, none⟩ v) := h.set hO hR hi j v
theorem TabQ.mid1 {w0 w : World} {O R i j : Nat} {x y : List Pl.T} {u : Value} (h : TabQ w0 O R x y i (tMid x y i j u) w) (hO : w0.heap.size ≤ O) (hR : R = O + 1 + (x.length - i)) (hi : i ≤ x.length) (v : Value) : TabQ w0 O R x y i (tMid x y i j v) (w.setCell ⟨R, j, none⟩ v) :=
  (h.set hO hR hi j v).congr (fun k _ => by unfold tMid; split <;> rfl)
theorem TabQ.midDone {w0 w : World} {O R i j : Nat} {x y : List Pl.T} {u : Value} (h : TabQ w0 O R x y i (tMid x y i j u) w) (e : u = tVal x y i j) : TabQ w0 O R x y i (tPart x y i j) w :=
  h.congr (fun k _ => by
    unfold tMid tPart
    by_cases hk : k = j
    · subst hk; rw [if_pos rfl, if_pos (Nat.le_refl _), e]
    · rw [if_neg hk]
      by_cases h2 : j + 1 ≤ k
      · rw [if_pos h2, if_pos (by omega)]
      · rw [if_neg h2, if_neg (by omega)])
theorem TabQ.c0 {w0 w : World} {O R i : Nat} {x y : List Pl.T} {f : Nat → Value} (h : TabQ w0 O R x y i f w) (hR : R = O + 1 + (x.length - i)) (hi : i ≤ x.length) : w.cell? ⟨O, i, none⟩ = some (.slice (some ⟨R, 0, none⟩) (y.length + 1) (y.length + 1)) := by
  have := h.top.cell (i := i) (by omega)
  rw [if_pos (Nat.le_refl _)] at this
  rw [this, hR]; rfl
theorem TabQ.c1 {w0 w : World} {O R R1 i : Nat} {x y : List Pl.T} {f : Nat → Value} (h : TabQ w0 O R x y i f w) (hR : R1 = O + 1 + (x.length - (i + 1))) (hi : i < x.length) : w.cell? ⟨O, i + 1, none⟩ = some (.slice (some ⟨R1, 0, none⟩) (y.length + 1) (y.length + 1)) := by
  have := h.top.cell (i := i + 1) (by omega)
  rw [if_pos (by omega)] at this
  rw [this, hR]; rfl
theorem TabQ.cr {w0 w : World} {O R R1 i j p : Nat} {x y : List Pl.T} {f : Nat → Value} (h : TabQ w0 O R x y i f w) (hR : R1 = O + 1 + (x.length - (i + 1))) (hi : i < x.length) (hj : j < y.length + 1) (hp : p = Pl.lcs (x.drop (i + 1)) (y.drop j)) : w.cell? ⟨R1, j, none⟩ = some (.int .i64 p) := by
  rw [hR, (h.rows (i + 1) (by omega) hi).cell (i := j) hj, hp]; rfl
theorem TabQ.cn {w0 w : World} {O R i j p : Nat} {x y : List Pl.T} {u : Value} (h : TabQ w0 O R x y i (tMid x y i j u) w) (hj : j < y.length) (hp : p = Pl.lcs (x.drop i) (y.drop (j + 1))) : w.cell? ⟨R, j + 1, none⟩ = some (.int .i64 p) := by
  rw [h.row.cell (i := j + 1) (by omega), hp]
  unfold tMid tPart
  rw [if_neg (by omega), if_pos (Nat.le_refl _)]; rfl
theorem TabQ.cj {w0 w : World} {O R i j : Nat} {x y : List Pl.T} {u : Value} (h : TabQ w0 O R x y i (tMid x y i j u) w) (hj : j < y.length) : w.cell? ⟨R, j, none⟩ = some u := by
  rw [h.row.cell (i := j) (by omega)]
  unfold tMid
  rw [if_pos rfl]
theorem TabQ.c {w0 w : World} {O R i j : Nat} {x y : List Pl.T} {f : Nat → Value} (h : TabQ w0 O R x y i f w) (hj : j < y.length + 1) : w.cell? ⟨R, j, none⟩ = some (f j) := h.row.cell (i := j) hj

set_option maxRecDepth 100000 in
set_option maxHeartbeats 8000000 in
theorem Table_any (A B : Option Addr) (c d : Nat) (x y : List Pl.T) (w : World) (h : Rd w 1 A x.length (strs x)) (g : Rd w 1 B y.length (strs y)) (hx : x.length ≤ 4000000) (hy : y.length ≤ 4000000) (hxT : ∀ z ∈ x, z.length ≤ 4000000) (hyT : ∀ z ∈ y, z.length ≤ 4000000) :
    Calls Try.prog 57 #[.slice A x.length c, .slice B y.length d] w fun e w' => e = .returned (.slice (some ⟨w.heap.size, 0, none⟩) (x.length + 1) (x.length + 1)) ∧ TabP w w.heap.size x y 0 (w.heap.size + 1 + (x.length + 1)) w' := by
  have hmk := run_make_row' (P := Try.prog) 107 100 _ 24 Try.underlying107 infoSl rfl .i64 .i64 (x.length + 1) (by omega) (by omega)
  have hmk2 := run_make_row' (P := Try.prog) 100 3 _ 8 Try.underlying100 infoInt1 rfl .i64 .i64 (y.length + 1) (by omega) (by omega)
  simp only [Int.natCast_add, Int.cast_ofNat_Int] at hmk hmk2
  have HR0 := Lib.hid (World.rowIs_made w (.slice none 0 0) (x.length + 1) 100)
  have HB0 := (Below.refl w.heap.size w).alloc (Nat.le_refl _) (.cells (madeCells #[Value.slice none 0 0] (x.length + 1)) 100)
  have h0 : TabP w w.heap.size x y (x.length + 1) (w.heap.size + 1) (w.alloc (.cells (madeCells #[Value.slice none 0 0] (x.length + 1)) 100)) :=
    ⟨HB0, by simp, HR0.out.congr (fun i hi => by rw [if_neg (by omega)]), fun i h1 h2 => by omega⟩
  have HT0 := Lib.hid h0
  clear h0 HB0 HR0
  obtain ⟨la, hla⟩ : ∃ n, n = x.length := ⟨_, rfl⟩
  obtain ⟨lb, hlb⟩ : ∃ n, n = y.length := ⟨_, rfl⟩
  have HLA := Lib.hid hla
  have HLB := Lib.hid hlb
  rw [← hla] at h hx hmk ⊢
  rw [← hlb] at g hy hmk2 ⊢
  clear hla hlb
  go_enter Try.func57, Try.ntmps57
  go_wp2
  go_loopw [6, 7] (fun iv _ wr => ∃ m : Nat, m ≤ la + 1 ∧ iv = .int .i64 ((m : Int) - 1) ∧ Hid (TabP w w.heap.size x y m (w.heap.size + 1 + (la + 1 - m)) wr)) (fun iv _ _ => (intOf iv + 1).toNat)
  case atStart => exact ⟨la + 1, Nat.le_refl _, by simp, Lib.hid (by rw [Nat.sub_self]; have := HT0.out; rw [← HLA.out] at this; exact this)⟩
  case round =>
    obtain ⟨m, hm, rfl, HT⟩ := hrel
    cases m with
    | zero =>
      simp only [Int.natCast_zero, Int.zero_sub]
      go_wp2
      go_ret
      exact ⟨rfl, by have := HT.out; rwa [Nat.sub_zero] at this⟩
    | succ i =>
      rw [show ((i + 1 : Nat) : Int) - 1 = i by omega]
      have hil : i ≤ la := by omega
      obtain ⟨R, hR⟩ : ∃ R, R = w.heap.size + 1 + (la - i) := ⟨_, rfl⟩
      rw [show la + 1 - (i + 1) = la - i by omega, ← hR] at HT
      have hRx : R = w.heap.size + 1 + (x.length - i) := by rw [← HLA.out]; exact hR
      have HQ := Lib.hid (TabQ.start HT.out (Nat.le_refl _) hRx (by rw [← HLA.out]; exact hil))
      rw [← HLB.out] at HQ
      have hsz := HT.out.sz
      have htp := HT.out.top.alloc (.cells (madeCells #[Value.int .i64 0] (lb + 1)) 3)
      rw [← HLA.out] at htp
      have ct := htp.cell (i := i) (by omega)
      have ft := htp.frozen i
      rw [if_neg (by omega)] at ct
      obtain ⟨wo, rfl⟩ : ∃ wo : World, wo = wr := ⟨_, rfl⟩
      have HRR := Lib.hid hR
      have HRX := Lib.hid hRx
      clear hR hRx htp
      go_wp2
      clear ct ft hsz hmk hmk2
      go_loopw [7] (fun jv wi => ∃ q : Nat, q ≤ lb ∧ jv = .int .i64 ((q : Int) - 1) ∧ (i < la ∨ q = lb) ∧ Hid (TabQ w w.heap.size R x y i (tPart x y i q) wi)) (fun jv _ => (intOf jv + 1).toNat)
      case atStart => exact ⟨lb, Nat.le_refl _, by simp, .inr rfl, Lib.hid (HQ.out.congr (fun j hj => by
        unfold tPart tVal
        split
        · rw [List.drop_of_length_le (by have := HLB.out; omega) (l := y), Pl.lcs_nil_right]; rfl
        · rfl))⟩
      case round =>
        obtain ⟨q, hq, rfl, hiq, HP⟩ := hrel
        have hfin : (q = 0 ∨ i = la) → TabP w w.heap.size x y i (w.heap.size + 1 + (la + 1 - i)) wr := fun hc => by
          have hd := (HP.out.congr (f' := tVal x y i) (fun j hj => by
            unfold tPart
            split
            · rfl
            · rcases hc with rfl | rfl
              · omega
              · unfold tVal
                rw [List.drop_of_length_le (by rw [HLA.out]; exact Nat.le_refl _) (l := x), Pl.lcs_nil_left]; rfl)).done HRX.out (by rw [← HLA.out]; exact hil)
          rw [HRR.out] at hd
          rw [show w.heap.size + 1 + (la + 1 - i) = w.heap.size + 1 + (la - i) + 1 by omega]
          exact hd
        have HFIN := Lib.hid hfin; clear hfin
        cases q with
        | zero =>
          simp only [Int.natCast_zero, Int.zero_sub]
          go_wp2
          go_roundw
          case rel => exact ⟨i, by omega, by go_num, Lib.hid (HFIN.out (.inl rfl))⟩
          case measure => first | (simp [intOf]; done) | (simp [intOf]; omega)
        | succ j =>
          rw [show ((j + 1 : Nat) : Int) - 1 = j by omega]
          by_cases hila : i = la
          · have hdi : decide ((i : Int) < (la : Int)) = false := by simp; omega
            have hj0 : (0 : Int) ≤ (j : Int) := by omega
            go_wp2
            go_roundw
            case rel => exact ⟨i, by omega, by go_num, Lib.hid (HFIN.out (.inr hila))⟩
            case measure => first | (simp [intOf]; done) | (simp [intOf]; omega)
          · have hi2 : i < la := by omega
            have hjl : j < lb := by omega
            clear hiq
            obtain ⟨R1, hR1⟩ : ∃ R1, R1 = w.heap.size + 1 + (x.length - (i + 1)) := ⟨_, rfl⟩
            have HR1 := Lib.hid hR1; clear hR1
            obtain ⟨ax, hax⟩ : ∃ a, x[i]? = some a := ⟨_, List.getElem?_eq_getElem (by rw [← HLA.out]; exact hi2)⟩
            obtain ⟨by', hby⟩ : ∃ a, y[j]? = some a := ⟨_, List.getElem?_eq_getElem (by rw [← HLB.out]; exact hjl)⟩
            have HV := Lib.hid (lcs_at hax hby)
            have B0 := lcs_bd x y (i + 1) j
            have B1 := lcs_bd x y i (j + 1)
            have B2 := lcs_bd x y (i + 1) (j + 1)
            rw [← HLA.out] at B0 B1 B2
            obtain ⟨p10, hp10⟩ : ∃ p, p = Pl.lcs (x.drop (i + 1)) (y.drop j) := ⟨_, rfl⟩
            obtain ⟨p01, hp01⟩ : ∃ p, p = Pl.lcs (x.drop i) (y.drop (j + 1)) := ⟨_, rfl⟩
            obtain ⟨p11, hp11⟩ : ∃ p, p = Pl.lcs (x.drop (i + 1)) (y.drop (j + 1)) := ⟨_, rfl⟩
            rw [← hp10, ← hp01, ← hp11] at HV
            rw [← hp10] at B0
            rw [← hp01] at B1
            rw [← hp11] at B2
            have P10 := Lib.hid hp10
            have P01 := Lib.hid hp01
            have P11 := Lib.hid hp11
            have HAX := Lib.hid hax
            have HBY := Lib.hid hby
            clear hp10 hp01 hp11 hax hby
            have hix : i < x.length := by rw [← HLA.out]; exact hi2
            have hjy : j < y.length := by rw [← HLB.out]; exact hjl
            have wI : IntKind.i64.wrap ((i : Int) + 1) = (i : Int) + 1 := IntWalk.i64_in _ (by omega)
            have wJ : IntKind.i64.wrap ((j : Int) + 1) = (j : Int) + 1 := IntWalk.i64_in _ (by omega)
            have wP : IntKind.i64.wrap ((p11 : Int) + 1) = (p11 : Int) + 1 := IntWalk.i64_in _ (by omega)
            have hj0 : (0 : Int) ≤ (j : Int) := by omega
            have hdi : decide ((i : Int) < (la : Int)) = true := by simp; omega
            have l1 : 0 ≤ (i : Int) := by omega
            have l1' : (i : Int) < (la : Int) + 1 := by omega
            have l2 : 0 ≤ (i : Int) + 1 := by omega
            have l2' : (i : Int) + 1 < (la : Int) + 1 := by omega
            have l3' : (j : Int) < (lb : Int) + 1 := by omega
            have l4 : 0 ≤ (j : Int) + 1 := by omega
            have l4' : (j : Int) + 1 < (lb : Int) + 1 := by omega
            have z2 : ((i : Int) + 1).toNat = i + 1 := by omega
            have z4 : ((j : Int) + 1).toNat = j + 1 := by omega
            go_wp2
            refine wp_region_still_tail 14 (by kernel_rfl) (by kernel_rfl) ?_
            have HQ1 := Lib.hid (HP.out.drawn1)
            generalize ({ wr with drawn := wr.drawn + 1 } : World) = wd at HQ1 ⊢
            have k0 := HQ1.out.c0 HRX.out (by omega)
            have k1 := HQ1.out.c1 HR1.out hix
            have k2 := HQ1.out.cr (j := j) HR1.out hix (by omega) P10.out
            have k3 := HQ1.out.c (j := j) (by omega)
            have k4 := HQ1.out.row.frozen j
            rw [← HLB.out] at k0 k1
            simp only [List.take_succ_cons, List.take_zero, List.drop_succ_cons, List.drop_zero]
            repeat still_step
            refine wpStill_nil ?_
            go_wp2
            have HQ2 := Lib.hid (HQ1.out.mid0 (Nat.le_refl _) HRX.out (by omega) (.int .i64 p10))
            generalize (wd.setCell ⟨R, j, none⟩ (.int .i64 p10)) = we at HQ2 ⊢
            clear k0 k1 k2 k3 k4 HQ1
            have k0 := HQ2.out.c0 HRX.out (by omega)
            have k1 := HQ2.out.cn hjy P01.out
            have k2 := HQ2.out.cj hjy
            rw [← HLB.out] at k0
            by_cases hg : p10 < p01
            · have hgd : decide ((p10 : Int) < (p01 : Int)) = true := by simp; omega
              go_quiet (fail)
              go_wp2
              refine wp_region_still_tail 14 (by kernel_rfl) (by kernel_rfl) ?_
              have HQ2b := Lib.hid ((HQ2.out.drawn nq).drawn1)
              generalize ({ (we.drewN nq) with drawn := (we.drewN nq).drawn + 1 } : World) = wf at HQ2b ⊢
              clear k0 k1 k2
              have k0 := HQ2b.out.c0 HRX.out (by omega)
              have k1 := HQ2b.out.cn hjy P01.out
              have k3 := HQ2b.out.cj hjy
              have k4 := HQ2b.out.row.frozen j
              rw [← HLB.out] at k0
              simp only [List.take_succ_cons, List.take_zero, List.drop_succ_cons, List.drop_zero]
              repeat still_step
              refine wpStill_nil ?_
              go_wp2
              have HQ3 := Lib.hid (HQ2b.out.mid1 (Nat.le_refl _) HRX.out (by omega) (.int .i64 p01))
              generalize (wf.setCell ⟨R, j, none⟩ (.int .i64 p01)) = wg at HQ3 ⊢
              clear k0 k1 k3 k4 HQ2 HQ2b
              obtain ⟨s1, o1, rfl, q1, f1⟩ := (h.later HQ3.out.bel).st HAX.out
              obtain ⟨s2, o2, rfl, q2, f2⟩ := (g.later HQ3.out.bel).st HBY.out
              have hqe : ((bs ax).toList == (bs by').toList) = decide (ax = by') := by rw [bs_toList, bs_toList, Bool.eq_iff_iff]; simp
              have hqa : (0 : Int) ≤ (i : Int) ∧ (i : Int) < (la : Int) := by omega
              have hqb : (0 : Int) ≤ (j : Int) ∧ (j : Int) < (lb : Int) := by omega
              by_cases hab : ax = by'
              · have hd : decide (ax = by') = true := by simp [hab]
                rw [hd] at hqe
                rw [if_pos hab] at HV
                clear hab hd
                go_wp2
                go_quiet (fail)
                go_wp2
                refine wp_region_still_tail 16 (by kernel_rfl) (by kernel_rfl) ?_
                have HQ4 := Lib.hid ((HQ3.out.drawn nq).drawn1)
                generalize ({ (wg.drewN nq) with drawn := (wg.drewN nq).drawn + 1 } : World) = wz at HQ4 ⊢
                have k0 := HQ4.out.c0 HRX.out (by omega)
                have k1 := HQ4.out.c1 HR1.out hix
                have k2 := HQ4.out.cr (j := j + 1) HR1.out hix (by omega) P11.out
                have k3 := HQ4.out.c (j := j) (by omega)
                have k4 := HQ4.out.row.frozen j
                rw [← HLB.out] at k0 k1
                simp only [List.take_succ_cons, List.take_zero, List.drop_succ_cons, List.drop_zero]
                repeat still_step
                refine wpStill_nil ?_
                go_wp2
                go_roundw
                case rel => exact ⟨j, by omega, by go_num, .inl hi2, Lib.hid ((HQ4.out.mid1 (Nat.le_refl _) HRX.out (by omega) _).midDone (by unfold tVal; rw [HV.out]; rfl))⟩
                case measure => first | (simp [intOf]; done) | (simp [intOf]; omega)
              · have hd : decide (ax = by') = false := by simp [hab]
                rw [hd] at hqe
                rw [if_neg hab] at HV
                clear hab hd
                go_wp2
                go_quiet (fail)
                go_wp2
                go_roundw
                case rel => exact ⟨j, by omega, by go_num, .inl hi2, Lib.hid ((HQ3.out.drawn nq).midDone (by unfold tVal; rw [HV.out, show max p10 p01 = p01 by omega]))⟩
                case measure => first | (simp [intOf]; done) | (simp [intOf]; omega)
            · have hgd : decide ((p10 : Int) < (p01 : Int)) = false := by simp; omega
              go_quiet (fail)
              go_wp2
              have HQ3 := Lib.hid (HQ2.out.drawn nq)
              generalize we.drewN nq = wg at HQ3 ⊢
              clear k0 k1 k2 HQ2
              obtain ⟨s1, o1, rfl, q1, f1⟩ := (h.later HQ3.out.bel).st HAX.out
              obtain ⟨s2, o2, rfl, q2, f2⟩ := (g.later HQ3.out.bel).st HBY.out
              have hqe : ((bs ax).toList == (bs by').toList) = decide (ax = by') := by rw [bs_toList, bs_toList, Bool.eq_iff_iff]; simp
              have hqa : (0 : Int) ≤ (i : Int) ∧ (i : Int) < (la : Int) := by omega
              have hqb : (0 : Int) ≤ (j : Int) ∧ (j : Int) < (lb : Int) := by omega
              by_cases hab : ax = by'
              · have hd : decide (ax = by') = true := by simp [hab]
                rw [hd] at hqe
                rw [if_pos hab] at HV
                clear hab hd
                go_wp2
                go_quiet (fail)
                go_wp2
                refine wp_region_still_tail 16 (by kernel_rfl) (by kernel_rfl) ?_
                have HQ4 := Lib.hid ((HQ3.out.drawn nq).drawn1)
                generalize ({ (wg.drewN nq) with drawn := (wg.drewN nq).drawn + 1 } : World) = wz at HQ4 ⊢
                have k0 := HQ4.out.c0 HRX.out (by omega)
                have k1 := HQ4.out.c1 HR1.out hix
                have k2 := HQ4.out.cr (j := j + 1) HR1.out hix (by omega) P11.out
                have k3 := HQ4.out.c (j := j) (by omega)
                have k4 := HQ4.out.row.frozen j
                rw [← HLB.out] at k0 k1
                simp only [List.take_succ_cons, List.take_zero, List.drop_succ_cons, List.drop_zero]
                repeat still_step
                refine wpStill_nil ?_
                go_wp2
                go_roundw
                case rel => exact ⟨j, by omega, by go_num, .inl hi2, Lib.hid ((HQ4.out.mid1 (Nat.le_refl _) HRX.out (by omega) _).midDone (by unfold tVal; rw [HV.out]; rfl))⟩
                case measure => first | (simp [intOf]; done) | (simp [intOf]; omega)
              · have hd : decide (ax = by') = false := by simp [hab]
                rw [hd] at hqe
                rw [if_neg hab] at HV
                clear hab hd
                go_wp2
                go_quiet (fail)
                go_wp2
                go_roundw
                case rel => exact ⟨j, by omega, by go_num, .inl hi2, Lib.hid ((HQ3.out.drawn nq).midDone (by unfold tVal; rw [HV.out, show max p10 p01 = p10 by omega]))⟩
                case measure => first | (simp [intOf]; done) | (simp [intOf]; omega)

end Go.Proofs.Ytnijaleedbmljaa
