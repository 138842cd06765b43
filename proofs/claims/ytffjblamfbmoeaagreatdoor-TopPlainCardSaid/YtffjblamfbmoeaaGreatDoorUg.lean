/- Several texts in one: Lines of tokens, by their places; Walks: lines of tokens as an iterator; Walks: is a line a directive?; Rows, as a fold over the lines; Walks: a list's rows; Walks: a list's rows; Walks: what a row says; how deep rows stand; Walks: how deep rows stand, where no row is an #if. -/
import Derived.Test.YtffjblamfbmoeaaGreatDoorUf
/-! Lines of tokens, by their places. -/
set_option linter.unusedVariables false
set_option linter.unusedSimpArgs false
namespace Go.Proofs.YtffjblamfbmoeaaGreatDoor
namespace Tp
open Go

def pcsGo : Nat → Nat → List Tok → List (Nat × Nat)
  | f, k, [] => if f < k then [(f, k)] else []
  | f, k, t :: r => if t.k = 9 then (f, k + 1) :: pcsGo (k + 1) (k + 1) r else pcsGo f (k + 1) r
def pcs (l : List Tok) : List (Nat × Nat) := pcsGo 0 0 l
def sub (l : List Tok) (p : Nat × Nat) : List Tok := (l.take p.2).drop p.1
theorem pieces_go : ∀ (n : Nat) (L : List Tok) (f k : Nat), L.length - k ≤ n → f ≤ k → k ≤ L.length → piecesGo ((L.take k).drop f) (L.drop k) = (pcsGo f k (L.drop k)).map (sub L) := by
  intro n
  induction n with
  | zero =>
    intro L f k h1 h2 h3
    have hz : L.drop k = [] := List.drop_eq_nil_of_le (by omega)
    rw [hz, piecesGo, pcsGo]
    by_cases hf : f < k
    · rw [if_pos hf, if_neg]
      · rfl
      · intro e
        have := congrArg List.length e
        simp at this; omega
    · rw [if_neg hf, if_pos]
      · rfl
      · apply List.drop_eq_nil_of_le; simp; omega
  | succ n ih =>
    intro L f k h1 h2 h3
    by_cases hk : k < L.length
    · have hd := List.drop_eq_getElem_cons hk
      have ht : (L.take k).drop f ++ [L[k]] = (L.take (k + 1)).drop f := by
        rw [List.take_add_one, List.getElem?_eq_getElem hk, Option.toList_some, List.drop_append_of_le_length (by simp; omega)]
      rw [hd, piecesGo, pcsGo]
      by_cases h9 : L[k].k = 9
      · rw [if_pos h9, if_pos h9, List.map_cons, ht]
        have := ih L (k + 1) (k + 1) (by omega) (Nat.le_refl _) (by omega)
        rw [List.drop_eq_nil_of_le (show (L.take (k + 1)).length ≤ k + 1 by simp; omega)] at this
        rw [this]; rfl
      · rw [if_neg h9, if_neg h9, ht]
        exact ih L f (k + 1) (by omega) (by omega) (by omega)
    · have hk2 : k = L.length := by omega
      subst hk2
      exact ih L f L.length (by omega) h2 (Nat.le_refl _)
theorem pieces_eq (l : List Tok) : pieces l = (pcs l).map (sub l) := by
  have := pieces_go _ l 0 0 (Nat.le_refl _) (Nat.le_refl _) (Nat.zero_le _)
  simpa [pieces, pcs] using this
theorem pcsGo_mem : ∀ (r : List Tok) (f k : Nat) (p : Nat × Nat), f ≤ k → p ∈ pcsGo f k r → f ≤ p.1 ∧ p.1 < p.2 ∧ p.2 ≤ k + r.length := by
  intro r
  induction r with
  | nil =>
    intro f k p h hp
    rw [pcsGo] at hp
    split at hp
    · rw [List.mem_singleton.1 hp]; simp; assumption
    · simp at hp
  | cons t r ih =>
    intro f k p h hp
    rw [pcsGo] at hp
    simp only [List.length_cons]
    split at hp
    · rcases List.mem_cons.1 hp with rfl | hp
      · simp only; omega
      · have := ih _ _ p (Nat.le_refl _) hp; omega
    · have := ih _ _ p (by omega) hp; omega
theorem pcs_mem {l : List Tok} {p : Nat × Nat} (h : p ∈ pcs l) : p.1 < p.2 ∧ p.2 ≤ l.length := by
  have := pcsGo_mem l 0 0 p (Nat.le_refl _) h; omega
theorem sub_len {l : List Tok} {p : Nat × Nat} (h : p.2 ≤ l.length) : (sub l p).length = p.2 - p.1 := by unfold sub; simp; omega
end Tp
end Go.Proofs.YtffjblamfbmoeaaGreatDoor

/-! Walks: lines of tokens as an iterator. -/
set_option linter.unusedVariables false
set_option linter.unusedSimpArgs false
namespace Go.Proofs.YtffjblamfbmoeaaGreatDoor
open Go Go.RowKit
attribute [local go_sem] Oper.semAt_some

/-- A round's word: the blocks below N stay, and one block more. -/
def KpN (N Bp : Nat) (X Y : World) : Prop := Keep N X Y ∧ Y.heap[Bp]? = X.heap[Bp]?
theorem KpN.trans {N Bp : Nat} {X Y Z : World} (h : KpN N Bp X Y) (g : KpN N Bp Y Z) : KpN N Bp X Z := ⟨h.1.trans g.1, g.2.trans h.2⟩
theorem KpN.below {N Bp : Nat} {X Y : World} (h : Below X.heap.size X Y) (hN : N ≤ X.heap.size) (hB : Bp < X.heap.size) : KpN N Bp X Y := ⟨Keep.below h hN, h.block _ hB⟩
theorem KpN.put {N Bp : Nat} (W : World) (l : Nat) (o' : Obj) (h0 : N ≤ l) (hB : Bp ≠ l) : KpN N Bp W (W.putObj l o') := ⟨⟨by simp, fun k hk => World.putObj_heap_other (by omega)⟩, World.putObj_heap_other hB⟩

theorem pieces_any (v : Value) (w : World) (A : Option Addr) (n c : Nat) (hv : v = .slice A n c) :
    Calls Tryz.prog 29 #[v] w fun e w' => e = .returned (.func (.func 57) #[] #[.pointer (some ⟨w.heap.size, 0, none⟩)]) ∧ w' = w.alloc (.cells #[v] 39) := by
  subst hv
  go_enter Tryz.func29, Tryz.ntmps29
  go_wp2
  go_ret
  exact ⟨rfl, rfl⟩

/-- A line, as a part of the list's memory. -/
def pcA (b o c : Nat) (p : Nat × Nat) : Array Value := #[.slice (some ⟨b, o + p.1 * 5, none⟩) (p.2 - p.1) (c - p.1)]

set_option maxRecDepth 100000 in
set_option maxHeartbeats 8000000 in
theorem pieces1_seq (nn Bp b o n c : Nat) (A : Option Addr) (l : List Tp.Tok) (w0 W : World) (hA : 0 < n → A = some ⟨b, o, none⟩) (hn : n ≤ c) (hl : l.length ≤ 1000000) (hb : Bx W Bp 39 (.slice A n c)) (h : Rd w0 5 A n (tkcs l)) (h0W : Keep w0.heap.size w0 W) (hc : c ≤ maxLen) :
    Seq nn Tryz.prog 57 #[.pointer (some ⟨Bp, 0, none⟩)] (pcA b o c) (fun X Y => Below X.heap.size X Y) (KpN w0.heap.size Bp)
      (fun pre => pre <+: Tp.pcs l) (fun xs => xs = Tp.pcs l) (fun pre => pre <+: Tp.pcs l) W := by
  unfold maxLen at hc
  have hln := h.tlen
  intro y K Kx hK hY h0
  refine callsIn_of_wp Tryz.func57 rfl trivial ?_ rfl
  simp only [Tryz.ntmps57, List.size_toArray, List.length_cons, List.length_nil, Nat.reduceAdd, Nat.reduceSub, Array.replicate_succ, Array.replicate_zero, List.push_toArray, List.append_toArray, List.nil_append, List.cons_append]
  have cb := hb.cell
  gi_wp2
  gi_loopw [3, 4, 5, 8] (fun c3 _ _ c8 wr => ∃ (pre : List (Nat × Nat)) (f k : Nat), c3 = .int .i64 f ∧ c8 = .int .i64 k ∧ f ≤ k ∧ k ≤ n ∧ Bx wr Bp 39 (.slice A n c) ∧ Keep w0.heap.size w0 wr ∧ Hid (pre ++ Tp.pcsGo f k (l.drop k) = Tp.pcs l) ∧ K pre wr) (fun _ _ _ c _ => n - (intOf c).toNat)
  case atStart => exact ⟨[], 0, 0, rfl, rfl, Nat.le_refl _, Nat.zero_le _, hb, h0W, Lib.hid rfl, h0⟩
  case round =>
    obtain ⟨pre, f, k, rfl, rfl, hfk, hk, hbx, hKe, HP, hKp⟩ := hrel
    obtain ⟨wq, rfl⟩ : ∃ wq : World, wq = wr := ⟨_, rfl⟩
    have cx := hbx.cell
    have hBl := hbx.lt
    by_cases hkn : k < n
    · obtain ⟨p, hp⟩ : ∃ p, l[k]? = some p := ⟨_, List.getElem?_eq_getElem (by rw [hln]; exact hkn)⟩
      have hAe := hA (by omega)
      subst hAe
      obtain ⟨b', o', e', hbl, d0, d1, d2, d3, d4⟩ := (h.keep hKe).tk hp
      simp only [Option.some.injEq, Addr.mk.injEq, and_true] at e'
      obtain ⟨rfl, rfl⟩ := e'
      have hd : l.drop k = p :: l.drop (k + 1) := by
        have h1 := List.drop_eq_getElem_cons (show k < l.length by omega)
        rw [h1]
        congr 1
        have := List.getElem?_eq_getElem (show k < l.length by omega)
        rw [hp] at this; exact (Option.some.inj this).symm
      obtain ⟨pk, px, pa, pe, ps⟩ := p
      simp only at d0 d1 d2 d3 d4
      by_cases h9 : pk = 9
      · subst h9
        have HP2 := Lib.hid (show pre ++ ((f, k + 1) :: Tp.pcsGo (k + 1) (k + 1) (l.drop (k + 1))) = Tp.pcs l by rw [← HP.out, hd, Tp.pcsGo, if_pos rfl])
        have dA := (Below.refl wq.heap.size wq).alloc (Nat.le_refl _) (.cells #[.int .i64 9, .string (bs px), .int .i64 pa, .int .i64 pe, .bool ps] 85)
        have hK1 := hK pre wq _ hKp dA
        have hbx1 := hbx.below dA hbx.lt
        have hKe1 := hKe.trans (Keep.below dA hKe.1)
        clear hd hp
        gi_wp2
        generalize (wq.alloc (.cells #[.int .i64 9, .string (bs px), .int .i64 pa, .int .i64 pe, .bool ps] 85)) = wy at *
        obtain ⟨fn, tmps, assign, body, hy, hR⟩ := hY pre (f, k + 1) _ hK1 ⟨_, by rw [List.append_assoc]; exact HP2.out⟩
        simp only [pcA] at hy
        rw [hy]
        gi_wp2
        refine ⟨(fun h => by cases h), hR.mono ?_⟩
        rintro e W3 (⟨rfl, hJ3, hk3⟩ | ⟨rfl, hJx3⟩)
        · have hbx3 : Bx W3 Bp 39 (.slice (some ⟨b, o, none⟩) n c) := hbx1.same hk3.2
          have hKe3 := hKe1.trans hk3.1
          have HP3 := Lib.hid (show (pre ++ [(f, k + 1)]) ++ Tp.pcsGo (k + 1) (k + 1) (l.drop (k + 1)) = Tp.pcs l by rw [List.append_assoc]; exact HP2.out)
          clear hk3 hy hR
          gi_wp2
          go_roundw
          case rel => exact ⟨_, k + 1, k + 1, by go_num, by go_num, Nat.le_refl _, by omega, hbx3, hKe3, HP3, hJ3⟩
          case measure => simp [intOf]; omega
        · gi_wp2
          refine bodyPost_ret (results_none rfl _ _ _) rfl ?_
          exact ⟨⟨_, rfl⟩, .inr ⟨_, ⟨_, by rw [List.append_assoc]; exact HP2.out⟩, hJx3⟩⟩
      · have HP2 := Lib.hid (show pre ++ Tp.pcsGo f (k + 1) (l.drop (k + 1)) = Tp.pcs l by rw [← HP.out, hd, Tp.pcsGo, if_neg h9])
        have n9I : ¬ (pk : Int) = 9 := by omega
        clear hd hp
        have dA := (Below.refl wq.heap.size wq).alloc (Nat.le_refl _) (.cells #[.int .i64 pk, .string (bs px), .int .i64 pa, .int .i64 pe, .bool ps] 85)
        gi_wp2
        go_roundw
        case rel => exact ⟨pre, f, k + 1, rfl, by go_num, by omega, by omega, hbx.below dA hbx.lt, hKe.trans (Keep.below dA hKe.1), HP2, hK _ _ _ hKp dA⟩
        case measure => simp [intOf]; omega
    · obtain rfl : k = n := by omega
      have hz : l.drop k = [] := List.drop_eq_nil_of_le (by omega)
      by_cases hlt : f < k
      · have HP2 := Lib.hid (show pre ++ [(f, k)] = Tp.pcs l by rw [← HP.out, hz, Tp.pcsGo, if_pos hlt])
        have hAe := hA (by omega)
        subst hAe
        obtain ⟨fn, tmps, assign, body, hy, hR⟩ := hY pre (f, k) _ hKp ⟨[], by rw [List.append_nil]; exact HP2.out⟩
        simp only [pcA] at hy
        clear hz
        gi_wp2
        refine ⟨(fun h => by cases h), hR.mono ?_⟩
        rintro e W3 (⟨rfl, hJ3, hk3⟩ | ⟨rfl, hJx3⟩)
        · gi_wp2
          go_end0
          exact ⟨⟨_, rfl⟩, .inl ⟨_, HP2.out, hJ3⟩⟩
        · gi_wp2
          go_end0
          exact ⟨⟨_, rfl⟩, .inr ⟨_, ⟨[], by rw [List.append_nil]; exact HP2.out⟩, hJx3⟩⟩
      · have HP2 := Lib.hid (show pre = Tp.pcs l by rw [← HP.out, hz, Tp.pcsGo, if_neg hlt, List.append_nil])
        clear hz
        gi_wp2
        go_end0
        exact ⟨⟨_, rfl⟩, .inl ⟨_, HP2.out, hKp⟩⟩

end Go.Proofs.YtffjblamfbmoeaaGreatDoor

/-! Walks: is a line a directive? -/
set_option linter.unusedVariables false
set_option linter.unusedSimpArgs false
namespace Go.Proofs.YtffjblamfbmoeaaGreatDoor
open Go Go.RowKit

namespace Tp
theorem dirGo_skip {m : Bool} {t : Tok} {r : List Tok} (h : t.k = 8 ∨ t.k = 9) : dirGo m (t :: r) = dirGo m r := by rw [dirGo]; exact if_pos h
theorem dirGo_mark {t : Tok} {r : List Tok} (h : ¬ (t.k = 8 ∨ t.k = 9)) (h2 : t.k = 5 ∧ (t.x = [35] ∨ t.x = [37, 58])) : dirGo false (t :: r) = dirGo true r := by rw [dirGo, if_neg h, if_pos rfl, if_pos h2]
theorem dirGo_no {t : Tok} {r : List Tok} (h : ¬ (t.k = 8 ∨ t.k = 9)) (h2 : ¬ (t.k = 5 ∧ (t.x = [35] ∨ t.x = [37, 58]))) : dirGo false (t :: r) = ([], false) := by rw [dirGo, if_neg h, if_pos rfl, if_neg h2]
theorem dirGo_name {t : Tok} {r : List Tok} (h : ¬ (t.k = 8 ∨ t.k = 9)) (h2 : t.k = 1) : dirGo true (t :: r) = (t.x, true) := by rw [dirGo, if_neg h, if_neg (by simp), if_pos h2]
theorem dirGo_bare {t : Tok} {r : List Tok} (h : ¬ (t.k = 8 ∨ t.k = 9)) (h2 : ¬ t.k = 1) : dirGo true (t :: r) = ([], true) := by rw [dirGo, if_neg h, if_neg (by simp), if_neg h2]
end Tp

set_option maxRecDepth 100000 in
set_option maxHeartbeats 8000000 in
theorem directive_any (A : Option Addr) (n c : Nat) (l : List Tp.Tok) (w : World) (hn : n ≤ c) (hl : l.length ≤ 1000000) (h : Rd w 5 A n (tkcs l)) :
    Calls Tryz.prog 30 #[.slice A n c] w fun e w' => e = .returned (.tuple #[.string (bs (Tp.dir l).1), .bool (Tp.dir l).2]) ∧ Below w.heap.size w w' := by
  have hln := h.tlen
  obtain ⟨R, HR⟩ : ∃ R, Hid (Tp.dir l = R) := ⟨_, Lib.hid rfl⟩
  rw [HR.out]
  have HR0 := Lib.hid (show Tp.dirGo false (l.drop 0) = R from HR.out)
  go_enter Tryz.func30, Tryz.ntmps30
  go_wp2
  go_loopw [4, 6, 9] (fun c4 _ c9 wr => ∃ (k : Nat) (m : Bool), k ≤ n ∧ c9 = .int .i64 k ∧ c4 = .bool m ∧ Hid (Tp.dirGo m (l.drop k) = R) ∧ Below w.heap.size w wr) (fun _ _ c _ => n - (intOf c).toNat)
  case atStart => exact ⟨0, false, Nat.zero_le _, rfl, rfl, HR0, Below.refl _ _⟩
  case round =>
    obtain ⟨k, m, hk, rfl, rfl, HD, hb⟩ := hrel
    obtain ⟨wq, rfl⟩ : ∃ wq : World, wq = wr := ⟨_, rfl⟩
    by_cases hkn : k < n
    · obtain ⟨p, hp⟩ : ∃ p, l[k]? = some p := ⟨_, List.getElem?_eq_getElem (by rw [hln]; exact hkn)⟩
      obtain ⟨b, o, rfl, hbl, d0, d1, d2, d3, d4⟩ := (h.below (Nat.le_refl _) hb).tk hp
      have hd : l.drop k = p :: l.drop (k + 1) := by
        have h1 := List.drop_eq_getElem_cons (show k < l.length by omega)
        rw [h1]
        congr 1
        have := List.getElem?_eq_getElem (show k < l.length by omega)
        rw [hp] at this; exact (Option.some.inj this).symm
      have HD0 := HD.out
      rw [hd] at HD0
      have hlb := Below.size hb
      have hB := hb.alloc hlb (.cells #[.int .i64 p.k, .string (bs p.x), .int .i64 p.a, .int .i64 p.e, .bool p.s] 85)
      obtain ⟨pk, px, pa, pe, ps⟩ := p
      simp only at d0 d1 d2 d3 d4 hB
      have tl : (bs px).toList = px := bs_toList px
      clear hd hp h
      by_cases h8 : pk = 8 ∨ pk = 9
      · have HD2 := Lib.hid ((Tp.dirGo_skip h8).symm.trans HD0)
        clear HD0
        rcases h8 with rfl | rfl
        all_goals
          go_wp2
          go_roundw
          case rel => exact ⟨k + 1, m, by omega, by go_num, rfl, HD2, hB⟩
          case measure => simp [intOf]; omega
      · have n8 : ¬ pk = 8 := fun e => h8 (.inl e)
        have n9 : ¬ pk = 9 := fun e => h8 (.inr e)
        have n8I : ¬ (pk : Int) = 8 := by omega
        have n9I : ¬ (pk : Int) = 9 := by omega
        have n8B : ((pk : Int) == 8) = false := beq_eq_false_iff_ne.2 n8I
        have n9B : ((pk : Int) == 9) = false := beq_eq_false_iff_ne.2 n9I
        cases m
        · by_cases hm : pk = 5 ∧ (px = [35] ∨ px = [37, 58])
          · have HD2 := Lib.hid ((Tp.dirGo_mark h8 hm).symm.trans HD0)
            obtain ⟨rfl, hm⟩ := hm
            clear HD0 h8 n8 n9 n8I n9I n8B n9B
            rcases hm with rfl | rfl
            all_goals
              go_wp2
              go_roundw
              case rel => exact ⟨k + 1, true, by omega, by go_num, rfl, HD2, hB⟩
              case measure => simp [intOf]; omega
          · have HD2 := Lib.hid ((Tp.dirGo_no h8 hm).symm.trans HD0)
            by_cases h5 : pk = 5
            · subst h5
              have hx : ¬ (px = [35] ∨ px = [37, 58]) := fun e => hm ⟨rfl, e⟩
              simp only [not_or] at hx
              have x1 : (px == [35]) = false := beq_eq_false_iff_ne.2 hx.1
              have x2 : (px == [37, 58]) = false := beq_eq_false_iff_ne.2 hx.2
              have x3 : (px != [35]) = true := by simp [hx.1]
              have x4 : (px != [37, 58]) = true := by simp [hx.2]
              clear HD0 h8 hm n8 n9 n8I n9I n8B n9B hx
              go_wp2
              go_ret2
              exact ⟨by rw [← HD2.out]; rfl, hB⟩
            · have n5I : ¬ (pk : Int) = 5 := by omega
              have n5B : ((pk : Int) != 5) = true := by simp [n5I]
              clear HD0 h8 hm n8 n9 h5
              go_wp2
              go_ret2
              exact ⟨by rw [← HD2.out]; rfl, hB⟩
        · by_cases h1 : pk = 1
          · have HD2 := Lib.hid ((Tp.dirGo_name h8 h1).symm.trans HD0)
            subst h1
            clear HD0 h8 n8 n9 n8I n9I n8B n9B
            go_wp2
            go_ret2
            exact ⟨by rw [← HD2.out]; rfl, hB⟩
          · have HD2 := Lib.hid ((Tp.dirGo_bare h8 h1).symm.trans HD0)
            have n1I : ¬ (pk : Int) = 1 := by omega
            have n1B : ((pk : Int) == 1) = false := beq_eq_false_iff_ne.2 n1I
            clear HD0 h8 n8 n9 h1
            go_wp2
            go_ret2
            exact ⟨by rw [← HD2.out]; rfl, hB⟩
    · obtain rfl : k = n := by omega
      have HF := Lib.hid (show R = ([], m) by rw [← HD.out, List.drop_eq_nil_of_le (by omega)]; rfl)
      go_wp2
      go_ret2
      exact ⟨by rw [HF.out]; rfl, hb⟩

end Go.Proofs.YtffjblamfbmoeaaGreatDoor

/-! Rows, as a fold over the lines. -/
set_option linter.unusedVariables false
set_option linter.unusedSimpArgs false
namespace Go.Proofs.YtffjblamfbmoeaaGreatDoor
namespace Tp
open Go

theorem pcsGo_sum : ∀ (r : List Tok) (f k : Nat), f ≤ k → ((pcsGo f k r).map fun p => p.2 - p.1).sum ≤ k - f + r.length := by
  intro r
  induction r with
  | nil => intro f k h; rw [pcsGo]; split <;> simp
  | cons t r ih =>
    intro f k h
    rw [pcsGo]
    simp only [List.length_cons]
    split
    · simp only [List.map_cons, List.sum_cons]
      have := ih (k + 1) (k + 1) (Nat.le_refl _); omega
    · have := ih f (k + 1) (by omega); omega
theorem pcsGo_len : ∀ (r : List Tok) (f k : Nat), f ≤ k → (pcsGo f k r).length ≤ k - f + r.length := by
  intro r
  induction r with
  | nil => intro f k h; rw [pcsGo]; split <;> simp; omega
  | cons t r ih =>
    intro f k h
    rw [pcsGo]
    simp only [List.length_cons]
    split
    · simp only [List.length_cons]
      have := ih (k + 1) (k + 1) (Nat.le_refl _); omega
    · have := ih f (k + 1) (by omega); omega
theorem pre_sum {l : List Tok} {pre : List (Nat × Nat)} (h : pre <+: pcs l) : (pre.map fun p => p.2 - p.1).sum ≤ l.length ∧ pre.length ≤ l.length := by
  have h1 := pcsGo_sum l 0 0 (Nat.le_refl _)
  have h2 := pcsGo_len l 0 0 (Nat.le_refl _)
  obtain ⟨t, ht⟩ := h
  have h3 : pcsGo 0 0 l = pre ++ t := ht.symm
  rw [h3, List.map_append, List.sum_append] at h1
  rw [h3, List.length_append] at h2
  omega

def lastR (rs : List Row) : Row := rs.getLastD ⟨false, [], []⟩
def rwS (a : List Row × Bool) (p : List Tok) : List Row × Bool :=
  if (dir p).2 = false ∧ a.2 = true then (a.1.dropLast ++ [{ (lastR a.1) with l := (lastR a.1).l ++ p }], true)
  else (a.1 ++ [⟨(dir p).2, (dir p).1, p⟩], !(dir p).2)
def rwF (ps : List (List Tok)) : List Row × Bool := ps.foldl rwS ([], false)
theorem rwF_go : ∀ (ps : List (List Tok)) (rs : List Row) (run : Bool), rowsGo rs run ps = (ps.foldl rwS (rs, run)).1 := by
  intro ps
  induction ps with
  | nil => intro rs run; rfl
  | cons p ps ih =>
    intro rs run
    rw [rowsGo, List.foldl_cons]
    by_cases h : (dir p).2 = false ∧ run = true
    · rw [if_pos h, ih]; unfold rwS; rw [if_pos h]; rfl
    · rw [if_neg h, ih]; unfold rwS; rw [if_neg h]
theorem rwF_rows (l : List Tok) : (rwF ((pcs l).map (sub l))).1 = rows l := by unfold rows rwF; rw [pieces_eq, rwF_go]
theorem rwF_snoc (ps : List (List Tok)) (p : List Tok) : rwF (ps ++ [p]) = rwS (rwF ps) p := by unfold rwF; rw [List.foldl_append]; rfl
theorem rwS_join {a : List Row} {r : Row} {p : List Tok} (h : (dir p).2 = false) : rwS (a ++ [r], true) p = (a ++ [⟨r.d, r.n, r.l ++ p⟩], true) := by
  unfold rwS lastR
  rw [if_pos ⟨h, rfl⟩]
  simp
theorem rwS_new {a : List Row × Bool} {p : List Tok} (h : ¬ ((dir p).2 = false ∧ a.2 = true)) : rwS a p = (a.1 ++ [⟨(dir p).2, (dir p).1, p⟩], !(dir p).2) := if_neg h
def wt (rs : List Row) : Nat := (rs.map fun r => r.l.length).sum
theorem wt_app (a b : List Row) : wt (a ++ b) = wt a + wt b := by unfold wt; simp
theorem rwS_wt (a : List Row × Bool) (p : List Tok) (h : a.2 = true → a.1 ≠ []) : wt (rwS a p).1 = wt a.1 + p.length ∧ (rwS a p).1.length ≤ a.1.length + 1 ∧ ((rwS a p).2 = true → (rwS a p).1 ≠ []) := by
  by_cases hc : (dir p).2 = false ∧ a.2 = true
  · obtain ⟨x, y⟩ := a
    simp only at h hc
    obtain ⟨h1, rfl⟩ := hc
    have hx := h rfl
    obtain ⟨i, r, rfl⟩ : ∃ i r, x = i ++ [r] := ⟨x.dropLast, x.getLast hx, (List.dropLast_concat_getLast hx).symm⟩
    rw [rwS_join h1]
    simp only [wt_app]
    refine ⟨by simp [wt]; omega, by simp, by simp⟩
  · rw [rwS_new hc]
    simp only [wt_app]
    refine ⟨by simp [wt], by simp, by simp⟩
theorem rwF_wt (l : List Tok) : ∀ (n : Nat) (pre : List (Nat × Nat)), pre.length ≤ n → (∀ p ∈ pre, p.2 ≤ l.length) → wt (rwF (pre.map (sub l))).1 = (pre.map fun p => p.2 - p.1).sum ∧ (rwF (pre.map (sub l))).1.length ≤ pre.length ∧ ((rwF (pre.map (sub l))).2 = true → (rwF (pre.map (sub l))).1 ≠ []) := by
  intro n
  induction n with
  | zero => intro pre h _; obtain rfl : pre = [] := List.length_eq_zero_iff.1 (by omega); exact ⟨rfl, by simp [rwF], by simp [rwF]⟩
  | succ n ih =>
    intro pre h hm
    by_cases he : pre = []
    · subst he; exact ⟨rfl, by simp [rwF], by simp [rwF]⟩
    obtain ⟨i, r, rfl⟩ : ∃ i r, pre = i ++ [r] := ⟨pre.dropLast, pre.getLast he, (List.dropLast_concat_getLast he).symm⟩
    obtain ⟨h1, h2, h3⟩ := ih i (by simp at h; omega) (fun p hp => hm p (List.mem_append.2 (.inl hp)))
    rw [List.map_append, List.map_cons, List.map_nil, rwF_snoc]
    obtain ⟨g1, g2, g3⟩ := rwS_wt (rwF (i.map (sub l))) (sub l r) h3
    have hs := sub_len (l := l) (p := r) (hm r (List.mem_append.2 (.inr (List.mem_singleton.2 rfl))))
    refine ⟨?_, ?_, g3⟩
    · rw [g1, h1, hs]; simp
    · simp; omega
theorem wt_mem {rs : List Row} {r : Row} (h : r ∈ rs) : r.l.length ≤ wt rs := by
  induction rs with
  | nil => cases h
  | cons a b ih =>
    have e : wt (a :: b) = a.l.length + wt b := by simp [wt]
    rcases List.mem_cons.1 h with rfl | h
    · omega
    · have := ih h; omega
end Tp
end Go.Proofs.YtffjblamfbmoeaaGreatDoor

/-! Walks: a list's rows. -/
set_option linter.unusedVariables false
set_option linter.unusedSimpArgs false
namespace Go.Proofs.YtffjblamfbmoeaaGreatDoor
open Go Go.RowKit
attribute [local go_sem] Oper.semAt_some

theorem tkcs_one : ∀ (l : List Tp.Tok), ∀ u ∈ tkcs l, u.oneCell' = true := by
  intro l
  induction l with
  | nil => intro u hu; cases hu
  | cons t r ih =>
    intro u hu
    rw [show tkcs (t :: r) = tkc t ++ tkcs r from rfl] at hu
    rcases List.mem_append.1 hu with hu | hu
    · unfold tkc at hu
      simp only [List.mem_cons, List.not_mem_nil, or_false] at hu
      rcases hu with rfl | rfl | rfl | rfl | rfl <;> rfl
    · exact ih u hu
theorem rd_add {w : World} {sz n : Nat} {ad : Addr} {xs : List Value} (h : Rd w sz (some ad) n xs) : ∀ j u, xs[j]? = some u → w.cell? (ad.add j) = some u := by
  intro j u hu
  have hj := (List.getElem?_eq_some_iff.1 hu).1
  have h1 := h.1
  obtain ⟨b, o, e, hlt, hc⟩ := h.2 (by
    rcases Nat.eq_zero_or_pos n with h0 | h0
    · rw [h0] at h1; omega
    · exact h0)
  simp only [Option.some.injEq] at e
  subst e
  have := hc j u hu
  by_cases h0 : j = 0
  · subst h0; simpa [Addr.add] using this
  · simpa [Addr.add, h0] using this

set_option maxRecDepth 100000 in
set_option maxHeartbeats 2000000 in
theorem CloneTok_any (A : Option Addr) (n c : Nat) (l : List Tp.Tok) (w : World) (hn : n ≤ c) (hl : l.length ≤ 1000000) (h : Rd w 5 A n (tkcs l)) :
    Calls Tryz.prog 31 #[.slice A n c] w fun e w' => ∃ v, e = .returned v ∧ w'.ownsRow w.heap.size 85 5 v n (tkcs l) ∧ Below w.heap.size w w' := by
  obtain ⟨i0, hi, hz0, hz1, hz2⟩ := info_parts toInfo
  have hln := h.tlen
  have qn : ∀ (w : World) (a : Option Addr) (n c n' c' : Nat), (binOp .eql 39 (.slice a n c) (.slice none n' c')).run Tryz.prog w = .ok (.bool a.isNone) w := fun w a n c n' c' => Lib.run_eql_slice_nil w _ _ a n c n' c' Tryz.underlying39
  cases A with
  | none =>
    have h0 : n = 0 := by
      rcases Nat.eq_zero_or_pos n with h0 | h0
      · exact h0
      · obtain ⟨b, o, e, _⟩ := h.2 h0; cases e
    subst h0
    obtain rfl : l = [] := List.length_eq_zero_iff.1 hln
    go_enter Tryz.func31, Tryz.ntmps31
    go_wp2
    go_ret
    exact ⟨_, rfl, World.ownsRow_nil _ _ _ _, Below.refl _ _⟩
  | some ad =>
    have HA := Lib.hid (rd_add (h.later ((Below.refl w.heap.size w).alloc (Nat.le_refl _) (.cells #[] 85))))
    have h1 := h.1
    go_enter Tryz.func31, Tryz.ntmps31
    go_wp2_with (at_builtin; refine wpList_append_own _ rfl _ _ 39 rfl w.heap.size 85 i0 _ 5 48 Tryz.underlying39 hi hz0 hz1 hz2 rfl (by decide) _ _ _ rfl (World.ownsRow_made w #[] 0 (Nat.le_refl _) (Nat.zero_le _) rfl) ad n c (tkcs l) rfl h1 HA.out (tkcs_one l) (by unfold maxLen; omega) (by omega) (by simp) ?_; intro v' w7 hown' hgrow _)
    go_ret
    rw [Nat.zero_add, List.nil_append] at hown'
    exact ⟨v', rfl, hown', ((Below.refl _ _).alloc (Nat.le_refl _) _).grown hgrow (by simp) (fun k e => by cases e; exact Nat.le_refl _)⟩

/-! ### Rows and their tokens -/
theorem tkcs_len (l : List Tp.Tok) : (tkcs l).length = l.length * 5 := by
  induction l with
  | nil => rfl
  | cons e r ih => rw [show tkcs (e :: r) = tkc e ++ tkcs r from rfl, List.length_append, ih, List.length_cons]; simp [tkc]; omega
theorem tkcs_take (l : List Tp.Tok) (k : Nat) (h : k ≤ l.length) : tkcs (l.take k) = (tkcs l).take (k * 5) := by
  have := tkcs_app (l.take k) (l.drop k)
  rw [List.take_append_drop] at this
  rw [this, List.take_left' (by rw [tkcs_len, List.length_take]; omega)]
theorem tkcs_drop (l : List Tp.Tok) (k : Nat) (h : k ≤ l.length) : tkcs (l.drop k) = (tkcs l).drop (k * 5) := by
  have := tkcs_app (l.take k) (l.drop k)
  rw [List.take_append_drop] at this
  rw [this, List.drop_left' (by rw [tkcs_len, List.length_take]; omega)]
theorem Rd.sub {w : World} {b o n : Nat} {l : List Tp.Tok} (h : Rd w 5 (some ⟨b, o, none⟩) n (tkcs l)) {f t : Nat} (h1 : f ≤ t) (h2 : t ≤ l.length) : Rd w 5 (some ⟨b, o + f * 5, none⟩) (t - f) (tkcs (Tp.sub l (f, t))) := by
  have hln := h.tlen
  have e : tkcs (Tp.sub l (f, t)) = ((tkcs l).take (t * 5)).drop (f * 5) := by
    unfold Tp.sub
    rw [tkcs_drop _ _ (by simp; omega), tkcs_take _ _ h2]
  refine ⟨by rw [tkcs_len, Tp.sub_len h2], fun hp => ?_⟩
  obtain ⟨b', o', e', hlt, hc⟩ := h.2 (by omega)
  simp only [Option.some.injEq, Addr.mk.injEq, and_true] at e'
  obtain ⟨rfl, rfl⟩ := e'
  refine ⟨b, _, rfl, hlt, fun j u hu => ?_⟩
  rw [e, List.getElem?_drop, List.getElem?_take] at hu
  split at hu
  · have := hc _ _ hu
    rwa [← Nat.add_assoc] at this
  · cases hu

/-- A row, with its tokens' slice; its cells. -/
def rwc (p : Tp.Row × Value) : List Value := [.bool p.1.d, .string (bs p.1.n), p.2]
def rwcs (l : List (Tp.Row × Value)) : List Value := l.flatMap rwc
theorem rwcs_app (a b : List (Tp.Row × Value)) : rwcs (a ++ b) = rwcs a ++ rwcs b := by simp [rwcs]
theorem rwcs_len (l : List (Tp.Row × Value)) : (rwcs l).length = l.length * 3 := by
  induction l with
  | nil => rfl
  | cons e r ih => rw [show rwcs (e :: r) = rwc e ++ rwcs r from rfl, List.length_append, ih, List.length_cons]; simp [rwc]; omega
theorem rwcs_at {l : List (Tp.Row × Value)} : ∀ {k : Nat} {p : Tp.Row × Value}, l[k]? = some p → (rwcs l)[k * 3]? = some (.bool p.1.d) ∧ (rwcs l)[k * 3 + 1]? = some (.string (bs p.1.n)) ∧ (rwcs l)[k * 3 + 2]? = some p.2 := by
  induction l with
  | nil => intro k e h; simp at h
  | cons x r ih =>
    intro k e h
    have e1 : rwcs (x :: r) = rwc x ++ rwcs r := rfl
    have e2 : (rwc x).length = 3 := rfl
    cases k with
    | zero => simp only [List.getElem?_cons_zero, Option.some.injEq] at h; subst h; exact ⟨rfl, rfl, rfl⟩
    | succ k =>
      simp only [List.getElem?_cons_succ] at h
      have := ih h
      rw [e1]
      refine ⟨?_, ?_, ?_⟩
      · rw [List.getElem?_append_right (by omega), e2, ← this.1]; congr 1; omega
      · rw [List.getElem?_append_right (by omega), e2, ← this.2.1]; congr 1; omega
      · rw [List.getElem?_append_right (by omega), e2, ← this.2.2]; congr 1; omega
theorem rwcs_set (i : List (Tp.Row × Value)) (d : Bool) (n : Tp.T) (l l' : List Tp.Tok) (v v' : Value) : (rwcs (i ++ [(⟨d, n, l⟩, v)])).set (i.length * 3 + 2) v' = rwcs (i ++ [(⟨d, n, l'⟩, v')]) := by
  rw [rwcs_app, rwcs_app, List.set_append_right _ _ (by rw [rwcs_len]; omega), rwcs_len, show i.length * 3 + 2 - i.length * 3 = 2 by omega]
  rfl
theorem rwInfo : (Tryz.prog.info? 45).map (fun i => (i.zero, i.size, i.bytes)) = some (some (.agg #[.bool false, .string ⟨#[]⟩, .slice none 0 0]), 3, 48) := by kernel_rfl
end Go.Proofs.YtffjblamfbmoeaaGreatDoor

/-! Walks: a list's rows. -/
set_option linter.unusedVariables false
set_option linter.unusedSimpArgs false
namespace Go.Proofs.YtffjblamfbmoeaaGreatDoor
open Go Go.RowKit
attribute [local go_sem] Oper.semAt_some

theorem grownBy_setR (w : World) (b i : Nat) (u : Value) : w.grownBy (w.setCell ⟨b, i, none⟩ u) (some b) :=
  ⟨rfl, rfl, rfl, by simp [World.setCell], fun k _ hk => Below.heap_setCell _ _ _ _ (fun e => hk (by rw [e]))⟩
/-- Rows whose tokens lie in blocks of their own. -/
def RwO (m : Nat) (ps : List (Tp.Row × Value)) (W : World) : Prop := ∀ p ∈ ps, W.ownsRow m 85 5 p.2 p.1.l.length (tkcs p.1.l)
theorem RwO.later {m : Nat} {ps : List (Tp.Row × Value)} {W W' : World} (h : RwO m ps W) (hb : Below W.heap.size W W') : RwO m ps W' := fun p hp => own_later (h p hp) hb
theorem RwO.grown {m : Nat} {ps : List (Tp.Row × Value)} {W W' : World} (h : RwO m ps W) {r : Option Nat} (hg : W.grownBy W' r) (hr : ∀ b c T f, r = some b → W.heap[b]? = some (.cells c T f) → T ≠ 85) : RwO m ps W' := fun p hp => by
  refine (h p hp).kept hg ?_
  rcases (h p hp).2 with ⟨e, _⟩ | ⟨g, cap, cur, e, _, hh, _⟩
  · left; rw [e]; rfl
  · right; rw [e]; simp only [Value.ownBlock]; rintro rfl; exact hr _ _ _ _ rfl hh rfl
/-- The last row, if it goes on, lies behind all others. -/
def RwL (m : Nat) (run : Bool) (ps : List (Tp.Row × Value)) (W : World) : Prop :=
  run = true → ∃ M i q, ps = i ++ [q] ∧ (m ≤ M ∧ M ≤ W.heap.size) ∧ W.ownsRow M 85 5 q.2 q.1.l.length (tkcs q.1.l) ∧ ∀ p ∈ i, ∀ k, p.2.ownBlock = some k → k < M
def RwJ (vl : Value) (rs : List Tp.Row) (run : Bool) (w : World) (m : Nat) (W : World) : Prop :=
  ∃ v ps, Bx W m 42 v ∧ Bx W (m + 1) 4 (.bool run) ∧ W.ownsRow m 45 3 v ps.length (rwcs ps) ∧ ps.map (·.1) = rs ∧
    RwO m ps W ∧ RwL m run ps W ∧ Below m w W ∧ m + 3 ≤ W.heap.size ∧ Bx W (m + 2) 39 vl
def RwI (vl : Value) (l : List Tp.Tok) (w : World) (m : Nat) (pre : List (Nat × Nat)) (W : World) : Prop := RwJ vl (Tp.rwF (pre.map (Tp.sub l))).1 (Tp.rwF (pre.map (Tp.sub l))).2 w m W
theorem RwI.later {vl : Value} {l : List Tp.Tok} {w : World} {m : Nat} {pre : List (Nat × Nat)} {W W' : World} (h : RwI vl l w m pre W) (hb : Below W.heap.size W W') : RwI vl l w m pre W' := by
  obtain ⟨v, ps, h1, h2, h3, h4, h5, h6, h7, h8, h9⟩ := h
  refine ⟨v, ps, h1.below hb h1.lt, h2.below hb h2.lt, own_later h3 hb, h4, h5.later hb, fun hr => ?_, h7.trans (hb.mono (by omega)), Nat.le_trans h8 hb.size, h9.below hb h9.lt⟩
  obtain ⟨M, i, q, e, a, b, c⟩ := h6 hr
  exact ⟨M, i, q, e, ⟨a.1, Nat.le_trans a.2 hb.size⟩, own_later b hb, c⟩
theorem RwI.put {vl : Value} {l : List Tp.Tok} {w : World} {m : Nat} {pre : List (Nat × Nat)} {W : World} {z : Nat} {o : Obj} (h : RwI vl l w m pre W) (o' : Obj) (hw : m ≤ z) (hm : m = w.heap.size) (hl : W.heap[z]? = some o) (ho : o.isCells = false) : RwI vl l w m pre (W.putObj z o') := by
  obtain ⟨v, ps, h1, h2, h3, h4, h5, h6, h7, h8, h9⟩ := h
  have hk : ∀ {base e sz n : Nat} {v : Value} {xs : List Value}, W.ownsRow base e sz v n xs → (W.putObj z o').ownsRow base e sz v n xs := fun h => h.kept (grownBy_putObj' W z o') (.inr (own_ne_obj h hl ho))
  refine ⟨v, ps, h1.put' o' hl ho, h2.put' o' hl ho, hk h3, h4, fun p hp => hk (h5 p hp), fun hr => ?_, by subst hm; exact below_put h7 o' hw, by simpa using h8, h9.put' o' hl ho⟩
  obtain ⟨M, i, q, e, a, b, c⟩ := h6 hr
  exact ⟨M, i, q, e, ⟨a.1, by simpa using a.2⟩, hk b, c⟩

theorem kpn_of {m Bp : Nat} {w X Y : World} {T : TypeId} {v : Value} (hX : Below m w X) (hY : Below m w Y) (hs : X.heap.size ≤ Y.heap.size) (hx : Bx X Bp T v) (hy : Bx Y Bp T v) : KpN m Bp X Y :=
  ⟨⟨hs, fun k hk => (hY.block k hk).trans (hX.block k hk).symm⟩, hy.trans hx.symm⟩

/-- Behind a line that begins a row: W2: its tokens have been copied; W3: the row has been appended. -/
theorem rows_new {vl : Value} {rs : List Tp.Row} {run d : Bool} {nm : Tp.T} {L : List Tp.Tok} {w W W2 W3 : World} {m M k n3 cc2 vc c3 : Nat} {A2 vA A3 : Option Addr} {ps : List (Tp.Row × Value)}
    (h1 : Bx W m 42 (.slice vA ps.length vc)) (h2 : Bx W (m + 1) 4 (.bool run)) (h3 : W.ownsRow m 45 3 (.slice vA ps.length vc) ps.length (rwcs ps)) (h4 : ps.map (·.1) = rs)
    (h5 : RwO m ps W) (h7 : Below m w W) (h8 : m + 3 ≤ W.heap.size) (h9 : Bx W (m + 2) 39 vl)
    (hb : Below W.heap.size W W2) (hown2 : W2.ownsRow M 85 5 (.slice A2 k cc2) k (tkcs L)) (hM : W.heap.size ≤ M ∧ M ≤ W2.heap.size) (hk : L.length = k) (hn : n3 = ps.length + 1)
    (hown3 : W3.ownsRow m 45 3 (.slice A3 n3 c3) n3 (rwcs ps ++ [.bool d, .string (bs nm), .slice A2 k cc2]))
    (hgrow : (W2.alloc (.cells #[.bool d, .string (bs nm), .slice A2 k cc2] 45)).grownBy W3 (Value.slice vA ps.length vc).ownBlock) :
    KeepsOthers W ((W3.setCell ⟨m, 0, none⟩ (.slice A3 n3 c3)).setCell ⟨m + 1, 0, none⟩ (.bool (!d))) ∧
    KpN m (m + 2) W ((W3.setCell ⟨m, 0, none⟩ (.slice A3 n3 c3)).setCell ⟨m + 1, 0, none⟩ (.bool (!d))) ∧
    RwJ vl (rs ++ [⟨d, nm, L⟩]) (!d) w m ((W3.setCell ⟨m, 0, none⟩ (.slice A3 n3 c3)).setCell ⟨m + 1, 0, none⟩ (.bool (!d))) := by
  subst hn
  have bT := hb.alloc hb.size (.cells #[.bool d, .string (bs nm), .slice A2 k cc2] 45)
  have oT := own_later h3 bT
  have K3 : KpT [42, 4, 39, 85] W W3 := (KpT.below bT).trans (KpT.own oT hgrow (by decide))
  have hx1 := h1.kept K3 (by decide)
  have K4 : KpT [4, 39, 85, 45] W3 (W3.setCell ⟨m, 0, none⟩ (.slice A3 (ps.length + 1) c3)) := KpT.set hx1 (by decide) _ _
  have hx2 := (h2.kept K3 (by decide)).kept K4 (by decide)
  have K5 : KpT [42, 39, 85, 45] (W3.setCell ⟨m, 0, none⟩ (.slice A3 (ps.length + 1) c3)) ((W3.setCell ⟨m, 0, none⟩ (.slice A3 (ps.length + 1) c3)).setCell ⟨m + 1, 0, none⟩ (.bool (!d))) := KpT.set hx2 (by decide) _ _
  have hx3 := ((h9.kept K3 (by decide)).kept K4 (by decide)).kept K5 (by decide)
  have hy1 := (hx1.set (.slice A3 (ps.length + 1) c3)).kept K5 (by decide)
  have hy2 := hx2.set (.bool (!d))
  have B3 : Below m w W3 := (h7.trans (bT.mono (by omega))).grown hgrow (by have := bT.size; omega) (fun z hz => (oT.lt z hz).1)
  have B5 : Below m w ((W3.setCell ⟨m, 0, none⟩ (.slice A3 (ps.length + 1) c3)).setCell ⟨m + 1, 0, none⟩ (.bool (!d))) := (B3.setCell (p := ⟨m, 0, none⟩) (Nat.le_refl _) _).setCell (p := ⟨m + 1, 0, none⟩) (by simp) _
  have kO : KeepsOthers W ((W3.setCell ⟨m, 0, none⟩ (.slice A3 (ps.length + 1) c3)).setCell ⟨m + 1, 0, none⟩ (.bool (!d))) := (((keepsO_below bT).trans (keeps_own oT hgrow)).trans (KeepsOthers.setCell _ _ _)).trans (KeepsOthers.setCell _ _ _)
  have hg4 := grownBy_set W3 m (.slice A3 (ps.length + 1) c3)
  have hg5 := grownBy_set (W3.setCell ⟨m, 0, none⟩ (.slice A3 (ps.length + 1) c3)) (m + 1) (.bool (!d))
  have up : ∀ {base sz e n : Nat} {v : Value} {xs : List Value}, e = 85 ∨ e = 45 → W3.ownsRow base e sz v n xs → ((W3.setCell ⟨m, 0, none⟩ (.slice A3 (ps.length + 1) c3)).setCell ⟨m + 1, 0, none⟩ (.bool (!d))).ownsRow base e sz v n xs := by
    intro base sz e n v xs he h
    have g1 := h.kept hg4 (.inr (own_ne_bx h hx1 (by rcases he with rfl | rfl <;> decide)))
    exact g1.kept hg5 (.inr (own_ne_bx g1 hx2 (by rcases he with rfl | rfl <;> decide)))
  have rT : RwO m ps W3 := fun p hp => ((own_later (h5 p hp) bT)).kept hgrow (own_ne_ty (own_later (h5 p hp) bT) oT (by decide))
  have n3' : W3.ownsRow M 85 5 (.slice A2 k cc2) k (tkcs L) := (hown2.alloc _).kept hgrow (own_ne_ty (hown2.alloc _) oT (by decide))
  refine ⟨kO, kpn_of h7 B5 kO.size h9 hx3, _, ps ++ [(⟨d, nm, L⟩, .slice A2 k cc2)], hy1, hy2, ?_, by rw [List.map_append, h4]; rfl, ?_, ?_, B5, Nat.le_trans h8 kO.size, hx3⟩
  · rw [rwcs_app, List.length_append]
    exact up (.inr rfl) hown3
  · intro p hp
    rcases List.mem_append.1 hp with hp | hp
    · exact up (.inl rfl) (rT p hp)
    · rw [List.mem_singleton.1 hp]
      subst hk
      exact up (.inl rfl) (own_base n3' (by omega))
  · intro _
    refine ⟨M, ps, _, rfl, ⟨by omega, ?_⟩, ?_, ?_⟩
    · have h1 := hb.size
      have h2 := hgrow.size
      simp only [World.size_alloc] at h2
      simp [World.setCell]; omega
    · subst hk
      exact up (.inl rfl) n3'
    · intro p hp z hz
      have := ((h5 p hp).lt z hz).2
      omega

/-- The slots in a round of Rows. -/
def rwT (A : Option Addr) (n c m : Nat) (v5 v11 : Value) : Array Value :=
  #[.slice A n c, undef, .slice none 0 0, .pointer (some ⟨m, 0, none⟩), .pointer (some ⟨m + 1, 0, none⟩), v5, undef, undef, undef, .slice A n c, .func (.func 57) #[] #[.pointer (some ⟨m + 2, 0, none⟩)], v11, undef, undef, undef, undef, undef, undef, undef, undef, undef, undef, undef, undef, undef, undef, undef, undef, undef, undef, undef, undef, undef, undef, undef, undef, undef, undef, undef, undef, undef, undef, undef, undef, undef, undef, undef]

/-- What Rows returns: the rows' cells, and each row's tokens in a block of its own. -/
def RwP (l : List Tp.Tok) (w : World) (e : Ending) (w' : World) : Prop :=
  ∃ v ps, e = .returned v ∧ w'.ownsRow w.heap.size 45 3 v ps.length (rwcs ps) ∧ ps.map (·.1) = Tp.rows l ∧ RwO w.heap.size ps w' ∧ Below w.heap.size w w'

set_option maxRecDepth 100000 in
set_option maxHeartbeats 8000000 in
theorem Rows_any (A : Option Addr) (n c : Nat) (l : List Tp.Tok) (w : World) (hn : n ≤ c) (hcm : c ≤ maxLen) (hl : l.length ≤ 1000000) (h : Rd w 5 A n (tkcs l)) :
    Calls Tryz.prog 12 #[.slice A n c] w (RwP l w) := by
  obtain ⟨i0, hi, hz0, hz1, hz2⟩ := info_parts toInfo
  obtain ⟨j0, hj, hy0, hy1, hy2⟩ := info_parts rwInfo
  have hln := h.tlen
  obtain ⟨b, o, hA⟩ : ∃ b o, 0 < n → A = some ⟨b, o, none⟩ := by
    rcases Nat.eq_zero_or_pos n with h0 | h0
    · exact ⟨0, 0, fun h => absurd h (by omega)⟩
    · obtain ⟨b, o, e, _⟩ := h.2 h0
      exact ⟨b, o, fun _ => e⟩
  obtain ⟨z1, z2⟩ := two_new w 42 4 (.slice none 0 0) (.bool false)
  have hbw := two_below w (.cells #[.slice none 0 0] 42) (.cells #[.bool false] 4)
  have hsw : ((w.alloc (.cells #[.slice none 0 0] 42)).alloc (.cells #[.bool false] 4)).heap.size = w.heap.size + 2 := by simp
  have PI := Lib.hid (fun W => pieces_any (.slice A n c) W A n c rfl)
  obtain ⟨m, hm⟩ : ∃ m, w.heap.size = m := ⟨_, rfl⟩
  refine callsIn_wide (n := 5) |>.1 ?_
  refine callsIn_of_wp_marks Tryz.func12 rfl trivial ?_ rfl
  simp only [Tryz.ntmps12, List.size_toArray, List.length_cons, List.length_nil, Nat.reduceAdd, Nat.reduceSub, Array.replicate_succ, Array.replicate_zero, List.push_toArray, List.append_toArray, List.nil_append, List.cons_append]
  refine wpIn_wide.2 ?_
  go_wp2_with (first
    | (go_at_call 29; (with_reducible refine (PI.out _).mono ?_); rintro e w2 ⟨rfl, rfl⟩))
  obtain ⟨wB, hwB⟩ : ∃ wB, (((w.alloc (.cells #[.slice none 0 0] 42)).alloc (.cells #[.bool false] 4)).alloc (.cells #[.slice A n c] 39)) = wB := ⟨_, rfl⟩
  have P2 : Bx wB (m + 2) 39 (.slice A n c) := by
    rw [← hwB, ← hm]
    have h1 := Bx.new ((w.alloc (.cells #[.slice none 0 0] 42)).alloc (.cells #[.bool false] 4)) 39 (.slice A n c)
    rwa [hsw] at h1
  have hsB : wB.heap.size = m + 3 := by rw [← hwB, ← hm]; simp
  have BB : Below m w wB := by rw [← hwB, ← hm]; exact hbw.alloc (by omega) _
  have I0 : RwI (.slice A n c) l w m [] wB := by
    have a1 : Below ((w.alloc (.cells #[.slice none 0 0] 42)).alloc (.cells #[.bool false] 4)).heap.size ((w.alloc (.cells #[.slice none 0 0] 42)).alloc (.cells #[.bool false] 4)) wB := by rw [← hwB]; exact (Below.refl _ _).alloc (Nat.le_refl _) _
    have y1 := z1.below a1 z1.lt
    have y2 := z2.below a1 z2.lt
    rw [hm] at y1 y2
    exact ⟨_, [], y1, y2, World.ownsRow_nil _ _ _ _, rfl, (fun p hp => by cases hp), (fun hr => by cases hr), BB, by omega, P2⟩
  rw [hwB]
  have H := Lib.hid h
  clear hwB h z1 z2 hbw hsw PI
  have HB0 : Keep w.heap.size w wB := Keep.below BB (by omega)
  refine (wpIn_wide (n := 5)).1 ?_
  refine rangeLaw2 (gf := 57) (lb := #[.pointer (some ⟨m + 2, 0, none⟩)]) rfl (enters_of Tryz.func57 (by kernel_rfl) rfl)
    (fun W1 hs1 hbb => pieces1_seq (5 - 1) (m + 2) b o n c A l w W1 hA hn hl (P2.below hbb P2.lt) H.out (HB0.trans (Keep.below hbb (by omega))) hcm)
    (fun X Y z o hg hk ho _ => (hg.block z (Array.getElem?_eq_some_iff.1 ho).1).trans ho)
    (fun h1 h2 => h1.trans h2) (fun W z o o' hl ho hc _ => KpN.put W z o' (by omega) (by omega)) (fun _ => rfl)
    (RwI (.slice A n c) l w m) (fun _ _ _ => False)
    (fun pre X Y h hg => h.later hg)
    (fun pre W z o o' h hl ho hc => h.put o' (by omega) hm.symm ho hc)
    (fun c pre W z o o' h => h.elim)
    (fun W1 hs1 hbb => I0.later hbb)
    (fun pre x a' W => a' = { tmps := rwT A n c m (.slice (some ⟨b, o + x.1 * 5, none⟩) (x.2 - x.1) (c - x.1)) (.slice (some ⟨b, o + x.1 * 5, none⟩) (x.2 - x.1) (c - x.1)), defers := [] } ∧ RwI (.slice A n c) l w m pre W)
    (fun pre x a' W z o o' ⟨h0, h1⟩ hl ho hc => ⟨h0, h1.put o' (by omega) hm.symm ho hc⟩) ?assign ?body ?done ?stop
  case assign =>
    intro y pre x W K hi hgo hsz hK
    have HK := Lib.hid (hK _ W ((KeepsOthers.refl W).from _) ⟨Keep.refl _ _, rfl⟩ ⟨rfl, hi⟩)
    unfold rwT at HK
    simp only [pcA]
    clear hK hi
    gi_wp2
    exact HK.out
  case body =>
    rintro y pre ⟨f, t⟩ a' W ⟨rfl, hI⟩ hgo hsz
    unfold rwT
    simp only
    have hxm := hgo.subset (show ((f, t) : Nat × Nat) ∈ pre ++ [(f, t)] by simp)
    obtain ⟨g1, g2⟩ := Tp.pcs_mem hxm
    simp only at g1 g2
    obtain ⟨hs1, hs2⟩ := Tp.pre_sum hgo
    obtain ⟨hw1, hw2, hw3⟩ := Tp.rwF_wt l _ pre (Nat.le_refl _) (fun p hp => (Tp.pcs_mem (hgo.subset (List.mem_append.2 (.inl hp)))).2)
    simp only [List.map_append, List.map_cons, List.map_nil, List.sum_append, List.sum_cons, List.sum_nil, List.length_append, List.length_cons, List.length_nil] at hs1 hs2
    have hAe := hA (by omega)
    subst hAe
    obtain ⟨v, ps, h1, h2, h3, h4, h5, h6, h7, h8, h9⟩ := hI
    have HB := Lib.hid h7
    have HR := Lib.hid (fun (W' : World) (hb : Below m w W') => ((H.out.below (Nat.le_of_eq hm) hb).sub (f := f) (t := t) (by omega) g2))
    have hsl : (Tp.sub l (f, t)).length = t - f := Tp.sub_len g2
    have HD := Lib.hid (directive_any (some ⟨b, o + f * 5, none⟩) (t - f) (c - f) (Tp.sub l (f, t)) W (by omega) (by omega) (HR.out W h7))
    have HS := Lib.hid (show Tp.rwF ((pre ++ [(f, t)]).map (Tp.sub l)) = Tp.rwS (Tp.rwF (pre.map (Tp.sub l))) (Tp.sub l (f, t)) by rw [List.map_append]; exact Tp.rwF_snoc _ _)
    have FIN := Lib.hid (show ∀ rs' run' W', Tp.rwS (Tp.rwF (pre.map (Tp.sub l))) (Tp.sub l (f, t)) = (rs', run') → RwJ (.slice (some ⟨b, o, none⟩) n c) rs' run' w m W' → RwI (.slice (some ⟨b, o, none⟩) n c) l w m (pre ++ [(f, t)]) W' from fun rs' run' W' he hj => by
      unfold RwI
      rw [HS.out, he]
      exact hj)
    have hpl : ps.length = (Tp.rwF (pre.map (Tp.sub l))).1.length := by rw [← h4]; simp
    generalize (Tp.rwF (pre.map (Tp.sub l))) = R at *
    generalize Tp.sub l (f, t) = L at *
    clear hgo hxm HS
    obtain ⟨rs, run⟩ := R
    simp only at h2 h4 h6 hw1 hw2 hw3 hpl
    by_cases hc : (Tp.dir L).2 = false ∧ run = true
    · obtain ⟨hd, rfl⟩ := hc
      obtain ⟨M, i, q, rfl, ⟨hmM, hMW⟩, hq, hM⟩ := h6 rfl
      obtain ⟨⟨qd, qn, ql⟩, qv⟩ := q
      simp only at hq
      obtain ⟨k, hk⟩ : ∃ k, i.length = k := ⟨_, rfl⟩
      have hpk : (i ++ [(({ d := qd, n := qn, l := ql } : Tp.Row), qv)]).length = k + 1 := by simp [hk]
      rw [hpk] at h3
      have h3' := h3
      obtain ⟨g, cap, rfl⟩ := ownsRow_succ h3'
      obtain ⟨qA, qc, rfl, hqc, _⟩ := own_form hq
      have HE := Lib.hid (rwcs_at (l := i ++ [(({ d := qd, n := qn, l := ql } : Tp.Row), Value.slice qA ql.length qc)]) (k := k) (p := (⟨qd, qn, ql⟩, .slice qA ql.length qc)) (by rw [List.getElem?_append_right (by omega), hk]; simp)).2.2
      have e2 : W.cell? ⟨g, k * 3 + 2, none⟩ = some (.slice qA ql.length qc) := (h3.cellAt (k * 3 + 2) (by omega)).trans HE.out
      have hql : ql.length + (t - f) ≤ 1000000 := by
        have := Tp.wt_mem (rs := rs) (r := ⟨qd, qn, ql⟩) (by rw [← h4]; simp)
        simp only at this
        omega
      rw [show Tp.dir L = ((Tp.dir L).1, false) by rw [← hd]] at HD
      have hg := (h3.lt g rfl)
      have f2 := h3.frozenAt (k * 3 + 2)
      gi_wp2_with (first
        | (refine ⟨trivial, ?_⟩; gi_at_call 30; refine (CallsIn.inRound y (callsIn_wide.2 HD.out)).mono ?_; rintro e W1 ⟨rfl, hb1⟩; have c1 := (h1.below hb1 h1.lt).cell; have c2 := (h2.below hb1 h2.lt).cell; have e2' := (hb1.cell (p := ⟨g, k * 3 + 2, none⟩) hg.2).trans e2; have b1 := (h7.trans (hb1.mono (show m ≤ W.heap.size by omega))))
        | (gi_at_builtin; refine wpListIn_append_own _ rfl _ _ 39 rfl M 85 i0 _ 5 48 Tryz.underlying39 hi hz0 hz1 hz2 rfl (by decide) (.slice qA ql.length qc) _ _ rfl (own_later hq hb1) ⟨b, o + f * 5, none⟩ (t - f) (c - f) (tkcs L) rfl (by rw [tkcs_len, hsl]) (rd_add (HR.out _ b1)) (tkcs_one L) (by unfold maxLen; omega) (by omega) (by have := hb1.size; omega) ?_; intro v' W2 hown' hgrow _; obtain ⟨A', c', rfl, _, _⟩ := own_form hown'; have h3b := (own_later h3 hb1).kept hgrow (own_ne_ty (own_later h3 hb1) (own_later hq hb1) (by decide)); have f3 := h3b.frozenAt (k * 3 + 2); have e3 : W2.cell? ⟨g, k * 3 + 2, none⟩ = some (.slice qA ql.length qc) := (h3b.cellAt (k * 3 + 2) (by omega)).trans HE.out; have hg3 := (h3b.lt g rfl).2))
      have o1 := own_later h3 hb1
      have q1 := own_later hq hb1
      have r1 := h5.later hb1
      obtain ⟨s3, s3g⟩ := h3b.stored (k * 3 + 2) (.slice A' (ql.length + (t - f)) c')
      have hset := rwcs_set i qd qn ql (ql ++ L) (.slice qA ql.length qc) (.slice A' (ql.length + (t - f)) c')
      rw [hk] at hset
      rw [hset] at s3
      have hB2 : Below m w W2 := b1.grown hgrow (by have := hb1.size; omega) (fun z hz => by have := (q1.lt z hz).1; omega)
      have hB3 : Below m w (W2.setCell ⟨g, k * 3 + 2, none⟩ (.slice A' (ql.length + (t - f)) c')) := hB2.setCell (p := ⟨g, k * 3 + 2, none⟩) hg.1 _
      have K1 : KpT [42, 4, 39] W (W2.setCell ⟨g, k * 3 + 2, none⟩ (.slice A' (ql.length + (t - f)) c')) := by
        refine ((KpT.below hb1).trans (KpT.own q1 hgrow (by decide))).trans (KpT.grown s3g ?_)
        intro b c T f' e1 e2
        cases e1
        rcases h3b.2 with ⟨e, _⟩ | ⟨_, _, _, e, _, hh, _⟩
        · cases e
        · cases e; rw [hh] at e2; cases e2; decide
      have hk8 : KeepsOthers W (W2.setCell ⟨g, k * 3 + 2, none⟩ (.slice A' (ql.length + (t - f)) c')) := ((keepsO_below hb1).trans (keeps_own q1 hgrow)).trans (KeepsOthers.setCell _ _ _)
      have hx1 := h1.kept K1 (by decide)
      have hx2 := h2.kept K1 (by decide)
      have hx3 := h9.kept K1 (by decide)
      have hTk : ∀ b' c T f', some g = some b' → W2.heap[b']? = some (.cells c T f') → T ≠ 85 := by
        intro b c T f' e1 e2
        cases e1
        rcases h3b.2 with ⟨e, _⟩ | ⟨_, _, _, e, _, hh, _⟩
        · cases e
        · cases e; rw [hh] at e2; cases e2; decide
      have hne : ∀ p ∈ i, p.2.ownBlock = none ∨ p.2.ownBlock ≠ (Value.slice qA ql.length qc).ownBlock := fun p hp => by
        cases hpb : p.2.ownBlock with
        | none => exact .inl rfl
        | some z => exact .inr (fun e => by have := hM p hp z hpb; have := (hq.lt z e.symm).1; omega)
      have hql' : (ql ++ L).length = ql.length + (t - f) := by rw [List.length_append, hsl]
      have hT1 : ∀ p ∈ i, (W2.setCell ⟨g, k * 3 + 2, none⟩ (.slice A' (ql.length + (t - f)) c')).ownsRow m 85 5 p.2 p.1.l.length (tkcs p.1.l) := fun p hp => by
        have e1 := (r1 p (List.mem_append.2 (.inl hp))).kept hgrow (hne p hp)
        have e2 : RwO m [p] W2 := fun p' hp' => by rw [List.mem_singleton.1 hp']; exact e1
        exact e2.grown s3g hTk p (List.mem_singleton.2 rfl)
      have hT2 : (W2.setCell ⟨g, k * 3 + 2, none⟩ (.slice A' (ql.length + (t - f)) c')).ownsRow M 85 5 (.slice A' (ql.length + (t - f)) c') (ql ++ L).length (tkcs (ql ++ L)) := by
        rw [tkcs_app, hql']
        exact hown'.kept s3g (by
          rcases hown'.2 with ⟨e, _⟩ | ⟨gg, _, _, e, _, hh, _⟩
          · left; rw [e]; rfl
          · right; rw [e]; simp only [Value.ownBlock]; intro e'; exact hTk gg _ _ _ e'.symm hh rfl)
      refine ⟨hk8.from _, (by rw [hm]; exact kpn_of HB.out hB3 hk8.size h9 hx3), FIN.out (i.map (·.1) ++ [⟨qd, qn, ql ++ L⟩]) true _ (by rw [← h4, List.map_append]; exact Tp.rwS_join hd) ?_⟩
      refine ⟨_, i ++ [(⟨qd, qn, ql ++ L⟩, .slice A' (ql.length + (t - f)) c')], hx1, hx2, by rw [show (i ++ [(({ d := qd, n := qn, l := ql ++ L } : Tp.Row), Value.slice A' (ql.length + (t - f)) c')]).length = k + 1 by simp [hk]]; exact s3, by simp, ?_, ?_, hB3, by have := hk8.size; omega, hx3⟩
      · intro p hp
        rcases List.mem_append.1 hp with hp | hp
        · exact hT1 p hp
        · rw [List.mem_singleton.1 hp]; exact own_base hT2 hmM
      · intro _
        exact ⟨M, i, _, rfl, ⟨hmM, by have := hk8.size; omega⟩, hT2, hM⟩
    · have hR := Tp.rwS_new (a := (rs, run)) (p := L) hc
      simp only at hR
      obtain ⟨nm, hnm⟩ : ∃ nm, (Tp.dir L).1 = nm := ⟨_, rfl⟩
      obtain ⟨d, hd⟩ : ∃ d, (Tp.dir L).2 = d := ⟨_, rfl⟩
      rw [hnm, hd] at HD hR
      rw [hd] at hc
      have CL := Lib.hid (fun (W' : World) (hb : Below m w W') => CloneTok_any (some ⟨b, o + f * 5, none⟩) (t - f) (c - f) L W' (by omega) (by omega) (HR.out W' hb))
      obtain ⟨vA, vc, rfl, hvc, _⟩ := own_form h3
      have hps : ps.length + 1 ≤ 1000000 := by omega
      have hcc : d = true ∨ (d = false ∧ run = false) := by revert hc; cases d <;> cases run <;> simp
      clear hpl hw1 hw2 hw3 hd hnm hc
      rcases hcc with rfl | ⟨rfl, rfl⟩
      · gi_wp2_with (first
          | (refine ⟨trivial, ?_⟩; gi_at_call 30; refine (CallsIn.inRound y (callsIn_wide.2 HD.out)).mono ?_; rintro e W1 ⟨rfl, hb1⟩; have c1 := (h1.below hb1 h1.lt).cell; have c2 := (h2.below hb1 h2.lt).cell; have b1 := (h7.trans (hb1.mono (show m ≤ W.heap.size by omega)))))
        have c1d : W1.drew.cell? ⟨m, 0, none⟩ = some (.slice vA ps.length vc) := c1
        have hm0 : m < W1.drew.heap.size := (h1.below hb1 h1.lt).lt
        have b1d : Below m w W1.drew := b1.drew
        refine wpIn_round_G (fun w' => w'.cell? ⟨m, 0, none⟩ = some (.slice vA ps.length vc)) 7 (by kernel_rfl) (by rintro ⟨a', w', h⟩; exact h) (by kernel_rfl) c1d (fun hHeld => ?_)
        refine wpAnyG_take (i := 0) (v := ?_) rfl (by kernel_rfl) (by kernel_rfl) (by kernel_rfl) (by kernel_rfl) (by decide) (by kernel_rfl) (fun _ _ _ h => h) (Or.inl ⟨by rfl, ?_⟩) (by assumption) ?_
        rotate_left
        · intro w hSw
          (try dsimp only at hSw)
          go_simp
          all_goals (with_reducible rfl)
        try simp only [List.getElem_toArray, List.getElem_cons_succ, List.getElem_cons_zero, Act.put, List.setIfInBounds_toArray, List.set_cons_zero, List.set_cons_succ]
        refine wpAnyG_take (i := 1) (v := ?_) rfl (by kernel_rfl) (by kernel_rfl) (by kernel_rfl) (by kernel_rfl) (by decide) (by kernel_rfl) (fun _ _ _ h => h) (Or.inl ⟨by rfl, ?_⟩) (by assumption) ?_
        rotate_left
        · intro w hSw
          (try dsimp only at hSw)
          go_simp
          all_goals (with_reducible rfl)
        try simp only [List.getElem_toArray, List.getElem_cons_succ, List.getElem_cons_zero, Act.put, List.setIfInBounds_toArray, List.set_cons_zero, List.set_cons_succ]
        refine wpAnyG_take (i := 2) (v := ?_) rfl (by kernel_rfl) (by kernel_rfl) (by kernel_rfl) (by kernel_rfl) (by decide) (by kernel_rfl) (fun _ _ _ h => h) (Or.inl ⟨by rfl, ?_⟩) (by assumption) ?_
        rotate_left
        · intro w hSw
          (try dsimp only at hSw)
          go_simp
          all_goals (with_reducible rfl)
        try simp only [List.getElem_toArray, List.getElem_cons_succ, List.getElem_cons_zero, Act.put, List.setIfInBounds_toArray, List.set_cons_zero, List.set_cons_succ]
        refine wpAnyG_take (i := 3) (v := ?_) rfl (by kernel_rfl) (by kernel_rfl) (by kernel_rfl) (by kernel_rfl) (by decide) (by kernel_rfl) (fun _ _ _ h => h) (Or.inl ⟨by rfl, ?_⟩) (by assumption) ?_
        rotate_left
        · intro w hSw
          (try dsimp only at hSw)
          go_simp
          all_goals (with_reducible rfl)
        try simp only [List.getElem_toArray, List.getElem_cons_succ, List.getElem_cons_zero, Act.put, List.setIfInBounds_toArray, List.set_cons_zero, List.set_cons_succ]
        refine G_one (i := 4) rfl (by kernel_rfl) (by rfl) ?_
        try simp only [List.getElem_toArray, List.getElem_cons_succ, List.getElem_cons_zero]
        go_simp
        refine (CL.out _ b1d).mono ?_
        rintro e W2 ⟨v2, rfl, hown2, hb2⟩
        obtain ⟨A2, cc2, rfl, _, _⟩ := own_form hown2
        have c1e := (hb2.cell (p := ⟨m, 0, none⟩) hm0).trans c1d
        have bW2 : Below W.heap.size W W2 := hb1.drew.trans (hb2.mono hb1.drew.size)
        have h1T := h1.below (bW2.alloc bW2.size (.cells #[.bool true, .string (bs nm), .slice A2 (t - f) cc2] 45)) h1.lt
        have cT := cellsN_new W2 45 [.bool true, .string (bs nm), .slice A2 (t - f) cc2]
        have hsT : (W2.alloc (.cells #[.bool true, .string (bs nm), .slice A2 (t - f) cc2] 45)).heap.size = W2.heap.size + 1 := by simp
        have oT := own_later h3 (bW2.alloc bW2.size (.cells #[.bool true, .string (bs nm), .slice A2 (t - f) cc2] 45))
        have sW2 := bW2.size
        have sb1 := hb1.size
        have sb2 : W1.heap.size ≤ W2.heap.size := hb2.size
        have K2 : KpT [4, 42] W (W2.alloc (.cells #[.bool true, .string (bs nm), .slice A2 (t - f) cc2] 45)) := KpT.below (bW2.alloc bW2.size _)
        have h2T := h2.kept K2 (by decide)
        refine ⟨c1e, ?_⟩
        refine G_one (i := 5) rfl (by kernel_rfl) (by rfl) ?_
        try simp only [List.getElem_toArray, List.getElem_cons_succ, List.getElem_cons_zero]
        go_simp
        refine G_one (i := 6) rfl (by kernel_rfl) (by rfl) ?_
        try simp only [List.getElem_toArray, List.getElem_cons_succ, List.getElem_cons_zero]
        go_simp
        (try refine ⟨h1T.cell, ?_⟩)
        refine G_tail rfl (by kernel_rfl) (by kernel_rfl) ?_
        simp only [List.drop_succ_cons, List.drop_zero]
        go_wp2_with (at_builtin; refine wpList_append_own _ rfl _ _ 42 rfl m 45 j0 _ 3 48 Tryz.underlying42 hj hy0 hy1 hy2 rfl (by decide) (.slice vA ps.length vc) _ _ rfl oT ⟨W2.heap.size, 0, none⟩ 1 1 [.bool true, .string (bs nm), .slice A2 (t - f) cc2] rfl rfl cT (by simp [Value.oneCell']) (by unfold maxLen; omega) (by omega) (by omega) ?_; intro v3 W3 hown3 hgrow _; obtain ⟨A3, c3, rfl, _, _⟩ := own_form hown3; have x3 := h1T.grown hgrow (own_ne_bx oT h1T (by decide)); have l3 := x3.lt; have f3 := x3.frozen; have e3 := x3.cell; have y3 := h2T.grown hgrow (own_ne_bx oT h2T (by decide)))
        obtain ⟨r1, r2, r3⟩ := rows_new h1 h2 h3 h4 h5 h7 h8 h9 bW2 hown2 ⟨hb1.size, hb2.size⟩ hsl rfl hown3 hgrow
        have y4 := y3.kept (KpT.set (Ts := [4]) x3 (by decide) 0 (.slice A3 (ps.length + 1) c3)) (by decide)
        have e4 := y4.cell
        have f4 := y4.frozen
        have l4 := y4.lt
        have REST := Lib.hid (And.intro r1 (And.intro r2 r3))
        clear r1 r2 r3
        gi_wp2
        refine ⟨REST.out.1.from _, (by rw [hm]; exact REST.out.2.1), FIN.out _ _ _ hR REST.out.2.2⟩
      · gi_wp2_with (first
          | (refine ⟨trivial, ?_⟩; gi_at_call 30; refine (CallsIn.inRound y (callsIn_wide.2 HD.out)).mono ?_; rintro e W1 ⟨rfl, hb1⟩; have c1 := (h1.below hb1 h1.lt).cell; have c2 := (h2.below hb1 h2.lt).cell; have b1 := (h7.trans (hb1.mono (show m ≤ W.heap.size by omega)))))
        have c1d : W1.drew.cell? ⟨m, 0, none⟩ = some (.slice vA ps.length vc) := c1
        have hm0 : m < W1.drew.heap.size := (h1.below hb1 h1.lt).lt
        have b1d : Below m w W1.drew := b1.drew
        refine wpIn_round_G (fun w' => w'.cell? ⟨m, 0, none⟩ = some (.slice vA ps.length vc)) 7 (by kernel_rfl) (by rintro ⟨a', w', h⟩; exact h) (by kernel_rfl) c1d (fun hHeld => ?_)
        refine wpAnyG_take (i := 0) (v := ?_) rfl (by kernel_rfl) (by kernel_rfl) (by kernel_rfl) (by kernel_rfl) (by decide) (by kernel_rfl) (fun _ _ _ h => h) (Or.inl ⟨by rfl, ?_⟩) (by assumption) ?_
        rotate_left
        · intro w hSw
          (try dsimp only at hSw)
          go_simp
          all_goals (with_reducible rfl)
        try simp only [List.getElem_toArray, List.getElem_cons_succ, List.getElem_cons_zero, Act.put, List.setIfInBounds_toArray, List.set_cons_zero, List.set_cons_succ]
        refine wpAnyG_take (i := 1) (v := ?_) rfl (by kernel_rfl) (by kernel_rfl) (by kernel_rfl) (by kernel_rfl) (by decide) (by kernel_rfl) (fun _ _ _ h => h) (Or.inl ⟨by rfl, ?_⟩) (by assumption) ?_
        rotate_left
        · intro w hSw
          (try dsimp only at hSw)
          go_simp
          all_goals (with_reducible rfl)
        try simp only [List.getElem_toArray, List.getElem_cons_succ, List.getElem_cons_zero, Act.put, List.setIfInBounds_toArray, List.set_cons_zero, List.set_cons_succ]
        refine wpAnyG_take (i := 2) (v := ?_) rfl (by kernel_rfl) (by kernel_rfl) (by kernel_rfl) (by kernel_rfl) (by decide) (by kernel_rfl) (fun _ _ _ h => h) (Or.inl ⟨by rfl, ?_⟩) (by assumption) ?_
        rotate_left
        · intro w hSw
          (try dsimp only at hSw)
          go_simp
          all_goals (with_reducible rfl)
        try simp only [List.getElem_toArray, List.getElem_cons_succ, List.getElem_cons_zero, Act.put, List.setIfInBounds_toArray, List.set_cons_zero, List.set_cons_succ]
        refine wpAnyG_take (i := 3) (v := ?_) rfl (by kernel_rfl) (by kernel_rfl) (by kernel_rfl) (by kernel_rfl) (by decide) (by kernel_rfl) (fun _ _ _ h => h) (Or.inl ⟨by rfl, ?_⟩) (by assumption) ?_
        rotate_left
        · intro w hSw
          (try dsimp only at hSw)
          go_simp
          all_goals (with_reducible rfl)
        try simp only [List.getElem_toArray, List.getElem_cons_succ, List.getElem_cons_zero, Act.put, List.setIfInBounds_toArray, List.set_cons_zero, List.set_cons_succ]
        refine G_one (i := 4) rfl (by kernel_rfl) (by rfl) ?_
        try simp only [List.getElem_toArray, List.getElem_cons_succ, List.getElem_cons_zero]
        go_simp
        refine (CL.out _ b1d).mono ?_
        rintro e W2 ⟨v2, rfl, hown2, hb2⟩
        obtain ⟨A2, cc2, rfl, _, _⟩ := own_form hown2
        have c1e := (hb2.cell (p := ⟨m, 0, none⟩) hm0).trans c1d
        have bW2 : Below W.heap.size W W2 := hb1.drew.trans (hb2.mono hb1.drew.size)
        have h1T := h1.below (bW2.alloc bW2.size (.cells #[.bool false, .string (bs nm), .slice A2 (t - f) cc2] 45)) h1.lt
        have cT := cellsN_new W2 45 [.bool false, .string (bs nm), .slice A2 (t - f) cc2]
        have hsT : (W2.alloc (.cells #[.bool false, .string (bs nm), .slice A2 (t - f) cc2] 45)).heap.size = W2.heap.size + 1 := by simp
        have oT := own_later h3 (bW2.alloc bW2.size (.cells #[.bool false, .string (bs nm), .slice A2 (t - f) cc2] 45))
        have sW2 := bW2.size
        have sb1 := hb1.size
        have sb2 : W1.heap.size ≤ W2.heap.size := hb2.size
        have K2 : KpT [4, 42] W (W2.alloc (.cells #[.bool false, .string (bs nm), .slice A2 (t - f) cc2] 45)) := KpT.below (bW2.alloc bW2.size _)
        have h2T := h2.kept K2 (by decide)
        refine ⟨c1e, ?_⟩
        refine G_one (i := 5) rfl (by kernel_rfl) (by rfl) ?_
        try simp only [List.getElem_toArray, List.getElem_cons_succ, List.getElem_cons_zero]
        go_simp
        refine G_one (i := 6) rfl (by kernel_rfl) (by rfl) ?_
        try simp only [List.getElem_toArray, List.getElem_cons_succ, List.getElem_cons_zero]
        go_simp
        (try refine ⟨h1T.cell, ?_⟩)
        refine G_tail rfl (by kernel_rfl) (by kernel_rfl) ?_
        simp only [List.drop_succ_cons, List.drop_zero]
        go_wp2_with (at_builtin; refine wpList_append_own _ rfl _ _ 42 rfl m 45 j0 _ 3 48 Tryz.underlying42 hj hy0 hy1 hy2 rfl (by decide) (.slice vA ps.length vc) _ _ rfl oT ⟨W2.heap.size, 0, none⟩ 1 1 [.bool false, .string (bs nm), .slice A2 (t - f) cc2] rfl rfl cT (by simp [Value.oneCell']) (by unfold maxLen; omega) (by omega) (by omega) ?_; intro v3 W3 hown3 hgrow _; obtain ⟨A3, c3, rfl, _, _⟩ := own_form hown3; have x3 := h1T.grown hgrow (own_ne_bx oT h1T (by decide)); have l3 := x3.lt; have f3 := x3.frozen; have e3 := x3.cell; have y3 := h2T.grown hgrow (own_ne_bx oT h2T (by decide)))
        obtain ⟨r1, r2, r3⟩ := rows_new h1 h2 h3 h4 h5 h7 h8 h9 bW2 hown2 ⟨hb1.size, hb2.size⟩ hsl rfl hown3 hgrow
        have y4 := y3.kept (KpT.set (Ts := [4]) x3 (by decide) 0 (.slice A3 (ps.length + 1) c3)) (by decide)
        have e4 := y4.cell
        have f4 := y4.frozen
        have l4 := y4.lt
        have REST := Lib.hid (And.intro r1 (And.intro r2 r3))
        clear r1 r2 r3
        gi_wp2
        refine ⟨REST.out.1.from _, (by rw [hm]; exact REST.out.2.1), FIN.out _ _ _ hR REST.out.2.2⟩
  case done =>
    rintro D xs W hD hS hI hK
    obtain ⟨v, ps, h1, h2, h3, h4, h5, h6, h7, h8, h9⟩ := hI
    obtain rfl : D = m + 3 := by rw [hD, hsB]
    rw [hS, Tp.rwF_rows] at h4
    have c1 := h1.cell
    obtain ⟨vA, vc, rfl, hvc, _⟩ := own_form h3
    clear hS h6
    gi_wp2
    go_wp2
    refine ⟨by simp, .inl ⟨_, _, rfl, run_takeDeferred hK, ?_⟩⟩
    refine ⟨_, show (results Tryz.f12 _).run Tryz.prog _ = .ok (.slice vA ps.length vc) _ by simp [results, Tryz.results12, go_sem], ?_⟩
    subst hm
    exact ⟨_, ps, rfl, h3.kept (grownBy_putObj' W _ _) (.inr (own_ne_obj h3 hK rfl)), h4, fun p hp => (h5 p hp).kept (grownBy_putObj' W _ _) (.inr (own_ne_obj (h5 p hp) hK rfl)), below_put h7 _ (by omega)⟩
  case stop =>
    rintro D c pre W hD hS h
    exact h.elim
end Go.Proofs.YtffjblamfbmoeaaGreatDoor

/-! Walks: what a row says; how deep rows stand. -/
set_option linter.unusedVariables false
set_option linter.unusedSimpArgs false
namespace Go.Proofs.YtffjblamfbmoeaaGreatDoor
open Go Go.RowKit
attribute [local go_sem] Oper.semAt_some

theorem Rd.dropped {w : World} {A : Option Addr} {n c k : Nat} {l : List Tp.Tok} {base : Nat} (h : w.ownsRow base 85 5 (.slice A n c) n (tkcs l)) (hk : k ≤ n) :
    (A = none ∧ n = 0 ∧ c = 0 ∧ l = []) ∨ ∃ g, A = some ⟨g, 0, none⟩ ∧ n ≤ c ∧ g < w.heap.size ∧ Rd w 5 (some ⟨g, k * 5, none⟩) (n - k) (tkcs (l.drop k)) := by
  have hr := Rd.of_own h
  have hln := hr.tlen
  rcases h.2 with ⟨e, h0⟩ | ⟨g, cap, cur, e, hg, hh, hc, _⟩
  · left
    simp only [Value.slice.injEq] at e
    exact ⟨e.1, h0, e.2.2, List.length_eq_zero_iff.1 (by omega)⟩
  · right
    simp only [Value.slice.injEq, true_and] at e
    obtain ⟨rfl, rfl⟩ := e
    refine ⟨g, rfl, hc, (Array.getElem?_eq_some_iff.1 hh).1, ?_⟩
    have := hr.sub (f := k) (t := n) hk (by omega)
    unfold Tp.sub at this
    simp only [Nat.zero_add] at this
    rwa [List.take_of_length_le (by omega)] at this

set_option maxRecDepth 100000 in
set_option maxHeartbeats 8000000 in
theorem Says_any (d : Bool) (nm : Tp.T) (l : List Tp.Tok) (A : Option Addr) (n c : Nat) (w : World) (hn : n ≤ c) (hl : l.length ≤ 1000000) (h : Rd w 5 A n (tkcs l)) :
    Calls Tryz.prog 20 #[.agg #[.bool d, .string (bs nm), .slice A n c]] w fun e w' => ∃ v, e = .returned v ∧ w'.ownsRow w.heap.size 85 5 v (Tp.says ⟨d, nm, l⟩).length (tkcs (Tp.says ⟨d, nm, l⟩)) ∧ Below w.heap.size w w' := by
  have hb0 := (Below.refl w.heap.size w).alloc (Nat.le_refl _) (.cells #[.bool d, .string (bs nm), .slice A n c] 45)
  have BR := Lib.hid (Bare_any A n c l _ hn hl (h.later hb0))
  obtain ⟨R, HR⟩ : ∃ R, Hid (Tp.says ⟨d, nm, l⟩ = R) := ⟨_, Lib.hid rfl⟩
  rw [HR.out]
  have HS := HR.out
  unfold Tp.says at HS
  simp only at HS
  have hbl : (Tp.bare l).length ≤ l.length := by rw [← Tp.brF_bare]; exact Tp.brF_len l
  obtain ⟨B, hB⟩ : ∃ B, Tp.bare l = B := ⟨_, rfl⟩
  rw [hB] at BR HS hbl
  obtain ⟨nb, hnb⟩ : ∃ nb, B.length = nb := ⟨_, rfl⟩
  rw [hnb] at BR HS hbl
  have CL := Lib.hid (fun (A : Option Addr) (n c : Nat) (L : List Tp.Tok) (W : World) => CloneTok_any A n c L W)
  have HN := Lib.hid hnb
  cases d with
  | false =>
    rw [if_pos rfl] at HS
    subst HS
    clear hB hnb
    go_enter Tryz.func20, Tryz.ntmps20
    go_wp2_with (first
        | (go_at_call 14
           refine BR.out.mono ?_
           rintro e w2 ⟨v, rfl, hown, hb2⟩
           have hbk := (hb2.block w.heap.size (by simp)).trans (heap_alloc_new w _)
           have u0 := Lib.cell_of_heap hbk 0
           simp only [List.getElem?_toArray, List.getElem?_cons_zero, List.getElem?_cons_succ] at u0))
    go_ret
    rw [HN.out]
    exact ⟨v, rfl, own_base hown (by simp), hb0.trans (hb2.mono hb0.size)⟩
  | true =>
    rw [if_neg (by simp)] at HS
    obtain ⟨sk, hsk⟩ : ∃ sk, (if nm = [] then 1 else 2) = sk := ⟨_, rfl⟩
    rw [hsk] at HS
    obtain ⟨k, hk⟩ : ∃ k, min sk nb = k := ⟨_, rfl⟩
    rw [hk] at HS
    have hkn : k ≤ nb := by rw [← hk]; exact Nat.min_le_right _ _
    have hsl : nm = [] ∧ sk = 1 ∨ nm ≠ [] ∧ sk = 2 := by
      by_cases e : nm = []
      · rw [if_pos e] at hsk; exact .inl ⟨e, hsk.symm⟩
      · rw [if_neg e] at hsk; exact .inr ⟨e, hsk.symm⟩
    have hkk : (nb ≤ sk ∧ k = nb) ∨ (sk < nb ∧ k = sk) := by omega
    subst HS
    clear hB hnb hsk hk
    have hRl : (B.drop k).length = nb - k := by rw [List.length_drop, HN.out]
    have HRL := Lib.hid hRl
    have DR := Lib.hid (show nb ≤ k → B.drop k = [] from fun h => List.drop_eq_nil_of_le (by rw [HN.out]; exact h))
    rw [hRl]
    clear hRl
    have fin : ∀ w2 A2 c2, w2.ownsRow (w.heap.size + 1) 85 5 (.slice A2 nb c2) nb (tkcs B) → Hid (((A2 = none ∧ nb = 0 ∧ c2 = 0 ∧ B = []) ∨ ∃ g, A2 = some ⟨g, 0, none⟩ ∧ nb ≤ c2 ∧ g < w2.heap.size ∧ Rd w2 5 (some ⟨g, k * 5, none⟩) (nb - k) (tkcs (B.drop k)))) := fun w2 A2 c2 ho => Lib.hid (Rd.dropped ho hkn)
    have FIN := Lib.hid fin
    clear fin
    have HE := Lib.hid (show ∀ nm : Tp.T, nm ≠ [] → (bs nm).toList.isEmpty = false from fun nm hne => by rw [bs_toList]; cases nm with | nil => exact absurd rfl hne | cons a b => rfl)
    have hE0 : (bs []).toList.isEmpty = true := by rw [bs_toList]; rfl
    rcases hsl with ⟨rfl, rfl⟩ | ⟨hnn, rfl⟩ <;> rcases hkk with ⟨hk1, rfl⟩ | ⟨hk1, rfl⟩
    all_goals
      (try have hE1 := HE.out _ hnn)
      (try have hmi : min (1:Int) (k:Int) = (k:Int) := by omega)
      (try have hmi : min (2:Int) (k:Int) = (k:Int) := by omega)
      (try have hmi : min (1:Int) (nb:Int) = 1 := by omega)
      (try have hmi : min (2:Int) (nb:Int) = 2 := by omega)
      go_enter Tryz.func20, Tryz.ntmps20
      go_wp2_with (first
        | (go_at_call 14
           refine BR.out.mono ?_
           rintro e w2 ⟨v, rfl, hown, hb2⟩
           obtain ⟨A2, c2, rfl, _, _⟩ := own_form hown
           have FF := FIN.out w2 A2 c2 (by simpa using hown)
           have hlw : w.heap.size < w2.heap.size := by have := hb2.size; simp at this; omega
           have hbk := (hb2.block w.heap.size (by simp)).trans (heap_alloc_new w _)
           have u0 := Lib.cell_of_heap hbk 0
           have u1 := Lib.cell_of_heap hbk 1
           simp only [List.getElem?_toArray, List.getElem?_cons_zero, List.getElem?_cons_succ] at u0 u1))
      all_goals
        first
        | ((with_reducible refine (CL.out _ 0 _ [] w2 (Nat.zero_le _) (by simp) (Rd.nil _ _ _)).mono ?_)
           rintro e w3 ⟨v3, rfl, ho3, hb3⟩
           go_wp2
           go_ret
           rw [DR.out (by omega), Nat.sub_self]
           exact ⟨v3, rfl, own_base ho3 (by omega), hb0.trans ((hb2.mono hb0.size).trans (hb3.mono (by omega)))⟩)
        | (rcases FF.out with ⟨_, h0, _⟩ | ⟨g, rfl, hg1, hg2, hrd⟩
           · omega
           simp only [Nat.reduceMul] at hrd
           simp only [Option.map_some, Nat.zero_add]
           (with_reducible refine (CL.out _ _ _ _ w2 (by omega) (by rw [HRL.out]; omega) hrd).mono ?_)
           rintro e w3 ⟨v3, rfl, ho3, hb3⟩
           go_wp2
           go_ret
           exact ⟨v3, rfl, own_base ho3 (by omega), hb0.trans ((hb2.mono hb0.size).trans (hb3.mono (by omega)))⟩)
end Go.Proofs.YtffjblamfbmoeaaGreatDoor

/-! Walks: how deep rows stand, where no row is an #if. -/
set_option linter.unusedVariables false
set_option linter.unusedSimpArgs false
namespace Go.Proofs.YtffjblamfbmoeaaGreatDoor
open Go Go.RowKit
attribute [local go_sem] Oper.semAt_some

theorem Rd.rw {w : World} {A : Option Addr} {l : List (Tp.Row × Value)} {n : Nat} (h : Rd w 3 A n (rwcs l)) {k : Nat} {p : Tp.Row × Value} (hk : l[k]? = some p) :
    ∃ b o, A = some ⟨b, o, none⟩ ∧ b < w.heap.size ∧ w.cell? ⟨b, o + k * 3, none⟩ = some (.bool p.1.d) ∧ w.cell? ⟨b, o + k * 3 + 1, none⟩ = some (.string (bs p.1.n)) ∧ w.cell? ⟨b, o + k * 3 + 2, none⟩ = some p.2 := by
  have hl : k < l.length := (List.getElem?_eq_some_iff.1 hk).1
  have h1 := h.1
  rw [rwcs_len] at h1
  obtain ⟨b, o, e, hlt, hc⟩ := h.2 (by omega)
  obtain ⟨a1, a2, a3⟩ := rwcs_at hk
  exact ⟨b, o, e, hlt, hc _ _ a1, by have := hc _ _ a2; rwa [← Nat.add_assoc] at this, by have := hc _ _ a3; rwa [← Nat.add_assoc] at this⟩
theorem Rd.rlen {w : World} {A : Option Addr} {l : List (Tp.Row × Value)} {n : Nat} (h : Rd w 3 A n (rwcs l)) : l.length = n := by
  have := h.1
  rw [rwcs_len] at this
  omega
def defT : Tp.T := [100, 101, 102, 105, 110, 101]
theorem depInfo : (Tryz.prog.info? 3).map (fun i => (i.zero, i.size, i.bytes)) = some (some (.int .i64 0), 1, 8) := by kernel_rfl

set_option maxRecDepth 100000 in
set_option maxHeartbeats 8000000 in
theorem Depths_ok (A : Option Addr) (n c : Nat) (ps : List (Tp.Row × Value)) (w : World) (hn : n ≤ c) (hl : ps.length ≤ 1000000) (h : Rd w 3 A n (rwcs ps))
    (hq : ∀ p ∈ ps, (p.1.d = false ∨ p.1.n = defT) ∧ ∃ A2 n2 c2, p.2 = .slice A2 n2 c2) :
    Calls Tryz.prog 52 #[.slice A n c] w fun e w' => ∃ v, e = .returned (.tuple #[v, .int .i64 0]) ∧ Below w.heap.size w w' := by
  obtain ⟨i0, hi, hz0, hz1, hz2⟩ := info_parts depInfo
  have hln := h.rlen
  have HN := Lib.hid hln
  go_enter Tryz.func52, Tryz.ntmps52
  go_wp2_with (at_make; refine wpList_make_own _ rfl _ _ 128 rfl w.heap.size 3 i0 _ 1 Tryz.underlying128 hi hz0 hz1 .i64 .i64 n n rfl rfl rfl (by rw [hz2]; omega) (by unfold maxLen; omega) (Nat.le_refl _) ?_; intro w3 hown3 hgrow3)
  have hb3 : Below w.heap.size w w3 := (Below.refl _ w).grown hgrow3 (Nat.le_refl _) (fun k e => by cases e)
  clear hgrow3
  go_loopw [4, 5, 15] (fun c4 c5 c15 wr => ∃ k : Nat, k ≤ n ∧ c15 = .int .i64 k ∧ c5 = .slice none 0 0 ∧ wr.ownsRow w.heap.size 3 1 c4 k (List.replicate k (.int .i64 0)) ∧ Below w.heap.size w wr) (fun _ _ z _ => n - (intOf z).toNat)
  case atStart => exact ⟨0, Nat.zero_le _, rfl, rfl, hown3, hb3⟩
  case round =>
    obtain ⟨k, hk, rfl, rfl, hrow, hb⟩ := hrel
    obtain ⟨wq, rfl⟩ : ∃ wq : World, wq = wr := ⟨_, rfl⟩
    by_cases hkn : k < n
    · obtain ⟨p, hp⟩ : ∃ p, ps[k]? = some p := ⟨_, List.getElem?_eq_getElem (by rw [hln]; exact hkn)⟩
      obtain ⟨b, o, rfl, hbl, d0, d1, d2⟩ := (h.below (Nat.le_refl _) hb).rw hp
      obtain ⟨hq1, A2, n2, c2, hq2⟩ := hq p (List.mem_of_getElem? hp)
      obtain ⟨⟨pd, pn, pl⟩, pv⟩ := p
      simp only at d0 d1 d2 hq1 hq2
      subst hq2
      have hlb := Below.size hb
      obtain ⟨vA, vc, rfl, hvc, _⟩ := own_form hrow
      clear hp h hq
      have hcs : pd = false ∨ (pd = true ∧ pn = defT) := by
        rcases hq1 with h | h
        · exact .inl h
        · cases pd
          · exact .inl rfl
          · exact .inr ⟨rfl, h⟩
      clear hq1
      rcases hcs with rfl | ⟨rfl, rfl⟩
      · have dA := (Below.refl wq.heap.size wq).alloc (Nat.le_refl _) (.cells #[.bool false, .string (bs pn), .slice A2 n2 c2] 45)
        have oA := own_later hrow dA
        have sA : (wq.alloc (.cells #[.bool false, .string (bs pn), .slice A2 n2 c2] 45)).heap.size = wq.heap.size + 1 := by simp
        have cT := cellsN_new (wq.alloc (.cells #[.bool false, .string (bs pn), .slice A2 n2 c2] 45)) 3 [.int .i64 0]
        rw [sA] at cT
        go_wp2_with (at_builtin; refine wpList_append_own _ rfl _ _ 128 rfl w.heap.size 3 i0 _ 1 8 Tryz.underlying128 hi hz0 hz1 hz2 rfl (by decide) (.slice vA k vc) _ _ rfl (oA.alloc _) ⟨wq.heap.size + 1, 0, none⟩ 1 1 [.int .i64 0] rfl rfl (cT) (by simp [Value.oneCell']) (by unfold maxLen; omega) (by omega) (by simp; omega) ?_; intro v' w4 hown4 hgrow _)
        go_roundw
        case rel => exact ⟨k + 1, by omega, by go_num, rfl, (by rw [List.replicate_succ']; exact hown4), (hb.trans (((dA.alloc dA.size _).mono hlb).grown hgrow (by simp; omega) (fun y hy => (oA.lt y hy).1)))⟩
        case measure => simp [intOf]; omega
      · replace d1 : wq.cell? ⟨b, o + k * 3 + 1, none⟩ = some (.string ⟨#[100, 101, 102, 105, 110, 101]⟩) := d1
        have dA := (Below.refl wq.heap.size wq).alloc (Nat.le_refl _) (.cells #[.bool true, .string ⟨#[100, 101, 102, 105, 110, 101]⟩, .slice A2 n2 c2] 45)
        have oA := own_later hrow dA
        have sA : (wq.alloc (.cells #[.bool true, .string ⟨#[100, 101, 102, 105, 110, 101]⟩, .slice A2 n2 c2] 45)).heap.size = wq.heap.size + 1 := by simp
        have cT := cellsN_new (wq.alloc (.cells #[.bool true, .string ⟨#[100, 101, 102, 105, 110, 101]⟩, .slice A2 n2 c2] 45)) 3 [.int .i64 0]
        rw [sA] at cT
        go_wp2_with (at_builtin; refine wpList_append_own _ rfl _ _ 128 rfl w.heap.size 3 i0 _ 1 8 Tryz.underlying128 hi hz0 hz1 hz2 rfl (by decide) (.slice vA k vc) _ _ rfl (oA.alloc _) ⟨wq.heap.size + 1, 0, none⟩ 1 1 [.int .i64 0] rfl rfl (cT) (by simp [Value.oneCell']) (by unfold maxLen; omega) (by omega) (by simp; omega) ?_; intro v' w4 hown4 hgrow _)
        go_roundw
        case rel => exact ⟨k + 1, by omega, by go_num, rfl, (by rw [List.replicate_succ']; exact hown4), (hb.trans (((dA.alloc dA.size _).mono hlb).grown hgrow (by simp; omega) (fun y hy => (oA.lt y hy).1)))⟩
        case measure => simp [intOf]; omega
    · obtain rfl : k = n := by omega
      go_wp2

      go_ret2
      exact ⟨_, rfl, hb⟩
end Go.Proofs.YtffjblamfbmoeaaGreatDoor
