/- Several texts in one: The plain law: a text without directives is one run: its rows, together, are its tokens; Walks: texts beyond the limit: Check, Chars, Scan; Walks: two lists the same; the chapter's example; Walks: TopPlain. -/
import Derived.Test.YtffjblamfbmoeaaGreatDoorUn
import Derived.Test.YtffjblamfbmoeaaGreatDoorUf
import Derived.Test.YtffjblamfbmoeaaGreatDoorUh
/-! The plain law: a text without directives is one run: its rows, together, are its tokens. -/
set_option linter.unusedVariables false
set_option linter.unusedSimpArgs false
namespace Go.Proofs.YtffjblamfbmoeaaGreatDoor
open Go Go.RowKit
namespace Tp
theorem toks_le (cs : List Part) (l : T) : ∀ (b : Nat) (xs : List (It × Int)), (toks cs l b xs).1.length ≤ xs.length := by
  intro b xs
  induction xs generalizing b with
  | nil => simp [toks]
  | cons x r ih =>
    obtain ⟨i, e⟩ := x
    rw [toks]
    by_cases he : e ≠ 0
    · rw [if_pos he]; simp
    · rw [if_neg he]
      have := ih i.t
      simp only
      split
      · simp
      · simp only [List.length_cons]; omega
theorem piecesGo_flat : ∀ (l acc : List Tok), (piecesGo acc l).flatten = acc ++ l := by
  intro l
  induction l with
  | nil => intro acc; unfold piecesGo; by_cases h : acc = [] <;> simp [h]
  | cons t r ih =>
    intro acc
    unfold piecesGo
    by_cases h : t.k = 9
    · rw [if_pos h, List.flatten_cons, ih]; simp
    · rw [if_neg h, ih]; simp
theorem pieces_flat (l : List Tok) : (pieces l).flatten = l := by unfold pieces; rw [piecesGo_flat]; simp
def flatR (rs : List Row) : List Tok := (rs.map (·.l)).flatten
theorem rowsGo_flat : ∀ (ps : List (List Tok)) (rs : List Row) (run : Bool), (run = true → rs ≠ []) → flatR (rowsGo rs run ps) = flatR rs ++ ps.flatten := by
  intro ps
  induction ps with
  | nil => intro rs run _; simp [rowsGo]
  | cons p ps ih =>
    intro rs run hr
    unfold rowsGo
    by_cases h : (dir p).2 = false ∧ run = true
    · rw [if_pos h, ih _ _ (fun _ => by simp)]
      have hne := hr h.2
      obtain ⟨d, x, rfl⟩ : ∃ d x, rs = d ++ [x] := ⟨rs.dropLast, rs.getLast hne, (List.dropLast_concat_getLast hne).symm⟩
      simp [flatR]
    · rw [if_neg h, ih _ _ (fun _ => by simp)]
      simp [flatR]
theorem rows_flat (l : List Tok) : flatR (rows l) = l := by
  unfold rows
  rw [rowsGo_flat _ _ _ (fun h => by cases h), pieces_flat]
  simp [flatR]
theorem rows_none {l : List Tok} (h : rows l = []) : l = [] := by
  have := rows_flat l
  rw [h] at this
  exact this.symm
theorem rows_one {l : List Tok} {r : Row} (h : rows l = [r]) : r.l = l := by
  have := rows_flat l
  rw [h] at this
  simpa [flatR] using this
theorem items_le (l : T) : ∀ (n a s : Nat), (items l n a s).length ≤ n := by
  intro n
  induction n with
  | zero => intro a s; simp [items]
  | succ n ih =>
    intro a s
    rw [items]
    by_cases h : a < l.length
    · rw [if_pos h]
      by_cases hw : white (g l a) = true
      · rw [if_pos hw]; exact Nat.le_succ_of_le (ih _ _)
      · rw [if_neg hw]
        simp only
        split
        · simp
        · simp only [List.length_cons]; exact Nat.succ_le_succ (ih _ _)
    · rw [if_neg h]; simp
theorem scan_le (t : T) : (scan t).1.length ≤ t.length + 1 := by
  unfold scan
  by_cases h : chk t ≠ 0
  · rw [if_pos h]; simp
  · rw [if_neg h]
    have h1 := toks_le (chars t) (logic t) 0 (items (logic t) ((logic t).length + 1) 0 0)
    have h2 := items_le (logic t) ((logic t).length + 1) 0 0
    have h3 := logic_len t
    have h4 := chars_len t
    omega
theorem scan_big {t : T} (h : (scan t).2 = 0) : t.length ≤ 65536 := by
  by_cases hb : 65536 < t.length
  · have := chk_big hb
    unfold scan at h
    rw [if_pos (by rw [this]; decide)] at h
    rw [this] at h
    cases h
  · omega
theorem bareGo_le : ∀ (l : List Tok) (d : Bool), (bareGo d l).length ≤ l.length := by
  intro l
  induction l with
  | nil => intro d; simp [bareGo]
  | cons t r ih =>
    intro d
    rw [bareGo]
    split
    · have := ih true; simp only [List.length_cons]; omega
    · have := ih false; simp only [List.length_cons]; omega
theorem says_le (r : Row) : (says r).length ≤ r.l.length := by
  have := bareGo_le r.l false
  unfold says
  split
  · exact this
  · rw [List.length_drop]; unfold bare; omega
theorem says_run {r : Row} (h : r.d = false) : says r = bare r.l := by unfold says; rw [if_pos h]
end Tp
/-- A text without directives: what its rows come to. -/
theorem plain_mode (l : List Tp.Tok) (h1 : (Tp.rows l).length ≤ 1) (h2 : ∀ r ∈ Tp.rows l, r.d = false) : RMode (Tp.rows l) ((Tp.of (Tp.bare l)).map lnT) 1 := by
  rcases hr : Tp.rows l with _ | ⟨r, _ | ⟨r', rs⟩⟩
  · refine .inl ⟨rfl, ?_⟩
    rw [Tp.rows_none hr]; rfl
  · have hd := h2 r (by rw [hr]; exact List.mem_singleton.2 rfl)
    exact .inr (.inl ⟨r, rfl, hd, by rw [Tp.says_run hd, Tp.rows_one hr]⟩)
  · rw [hr] at h1; simp at h1
end Go.Proofs.YtffjblamfbmoeaaGreatDoor

/-! Walks: texts beyond the limit: Check, Chars, Scan. -/
set_option linter.unusedVariables false
set_option linter.unusedSimpArgs false
namespace Go.Proofs.YtffjblamfbmoeaaGreatDoor
open Go Go.RowKit
attribute [local go_sem] Oper.semAt_some

set_option maxRecDepth 100000 in
set_option maxHeartbeats 8000000 in
theorem Check_big (t : Tp.T) (w : World) (hbig : 65536 < t.length) :
    Calls Tryz.prog 32 #[.string (bs t)] w fun e w' => e = .returned (.int .i64 (Tp.chk t)) ∧ Below w.heap.size w w' := by
  have hts : (bs t).size = t.length := bs_size t
  rw [Tp.chk_big hbig]
  have hb : (65536 : Int) < (t.length : Int) := by omega
  have hbD : decide ((65536 : Int) < (t.length : Int)) = true := decide_eq_true hb
  go_enter Tryz.func32, Tryz.ntmps32
  go_wp2
  go_step3
  go_wp2
  (try rw [Exit.noGoto_ret])
  go_ret
  exact ⟨rfl, (Below.refl _ w).alloc (Nat.le_refl _) _⟩

set_option maxRecDepth 100000 in
set_option maxHeartbeats 4000000 in
theorem Chars_big (t : Tp.T) (w : World) (hbig : 65536 < t.length) (h : Tp.chk t ≠ 0) :
    Calls Tryz.prog 27 #[.string (bs t)] w fun e w' => e = .returned (.tuple #[.slice none 0 0, .int .i64 (Tp.chk t)]) ∧ Below w.heap.size w w' := by
  have CK := Lib.hid (fun W => Check_big t W hbig)
  generalize Tp.chk t = c at *
  have hb : (c != 0) = true := by simpa using h
  go_enter Tryz.func27, Tryz.ntmps27
  go_wp2_with (first | (go_at_call 32; (with_reducible refine (CK.out _).mono ?_); rintro e w2 ⟨rfl, hb2⟩))
  go_ret2
  exact ⟨rfl, hb2⟩

set_option maxRecDepth 100000 in
set_option maxHeartbeats 4000000 in
theorem Scan_big (t : Tp.T) (w : World) (hbig : 65536 < t.length) (h : Tp.chk t ≠ 0) : Calls Tryz.prog 11 #[.string (bs t)] w (ScP t w) := by
  have HS := Lib.hid (Tp.scan_bad h)
  have CH := Lib.hid (fun W => Chars_big t W hbig h)
  have HP : ∀ (e : Ending) (w' : World), e = .returned (.tuple #[.slice none 0 0, .int .i64 (Tp.chk t)]) → Below w.heap.size w w' → ScP t w e w' := fun e w' he hb => by
    unfold ScP
    rw [HS.out]
    exact ⟨_, he, World.ownsRow_nil _ _ _ _, hb⟩
  replace HP := Lib.hid HP
  generalize ScP t w = Q at *
  clear HS
  generalize Tp.chk t = c at *
  have hb : (c != 0) = true := by simpa using h
  obtain ⟨z1, z2⟩ := two_new w 39 32 (.slice none 0 0) (.int .i64 0)
  have hbw := two_below w (.cells #[.slice none 0 0] 39) (.cells #[.int .i64 0] 32)
  go_enter Tryz.func11, Tryz.ntmps11
  go_wp2_with (first | (go_at_call 27; (with_reducible refine (CH.out _).mono ?_); rintro e w2 ⟨rfl, hb2⟩; have y1 := z1.below hb2 z1.lt; have y2 := z2.below hb2 z2.lt; have c1 := y1.cell; have c2 := y2.cell; have f1 := y1.frozen; have f2 := y2.frozen; have n1 := y1.lt; have n2 := y2.lt))
  obtain ⟨q1, q2⟩ := two_set y1 y2 (.slice none 0 0) (.int .i64 c)
  have r1 := (q1.below ((Below.refl _ _).alloc (Nat.le_refl _) (.cells #[.slice none 0 0] 73)) q1.lt).cell
  have r2 := (q2.below ((Below.refl _ _).alloc (Nat.le_refl _) (.cells #[.slice none 0 0] 73)) q2.lt).cell
  refine bodyPost_ret (v := .tuple #[.slice none 0 0, .int .i64 c]) (by simp [results, Tryz.results11, go_sem, r1, r2]) rfl (HP.out _ _ rfl ?_)
  exact (((hbw.trans (hb2.mono hbw.size)).setCell (p := ⟨_, 0, none⟩) (Nat.le_refl _) _).setCell (p := ⟨_, 0, none⟩) (by simp) _).alloc (by have := n1; simp [World.setCell]; omega) _

/-- Whatever the text: its tokens, or its error. -/
theorem Scan_all (t : Tp.T) (w : World) (hmx : MX w) : Calls Tryz.prog 11 #[.string (bs t)] w (ScP t w) := by
  by_cases h : 65536 < t.length
  · exact Scan_big t w h (by rw [Tp.chk_big h]; decide)
  · exact Scan_any t w (by omega) hmx
end Go.Proofs.YtffjblamfbmoeaaGreatDoor

/-! Walks: two lists the same; the chapter's example. -/
set_option linter.unusedVariables false
set_option linter.unusedSimpArgs false
namespace Go.Proofs.YtffjblamfbmoeaaGreatDoor
open Go Go.RowKit
attribute [local go_sem] Oper.semAt_some

set_option maxRecDepth 100000 in
set_option maxHeartbeats 8000000 in
theorem Same_p (A B : Option Addr) (n c d : Nat) (l : List Tp.PTok) (w : World) (hc : n ≤ c) (hd : n ≤ d) (hl : n ≤ 1000000) (ha : Rd w 4 A n (ptcs l)) (hb : Rd w 4 B n (ptcs l)) :
    Calls Tryz.prog 10 #[.slice A n c, .slice B n d] w fun e w' => e = .returned (.bool true) ∧ Below w.heap.size w w' := by
  have EQ := Lib.hid (EqualFunc_p A B n c d l l w hc hd hl ha hb (fun k p q h1 h2 => by rw [h1] at h2; cases h2; exact ⟨rfl, rfl⟩))
  clear ha hb
  go_enter Tryz.func10, Tryz.ntmps10
  go_wp2_with (first
    | (go_at_call 24; (with_reducible refine EQ.out.mono ?_); rintro e w2 ⟨rfl, hb2⟩))
  go_ret
  exact ⟨rfl, hb2⟩

def exK : List Tp.Tok := (Tp.scan Tp.exT).1
def exR0 : Tp.Row := (Tp.rows exK).getD 0 ⟨false, [], []⟩
def exR1 : Tp.Row := (Tp.rows exK).getD 1 ⟨false, [], []⟩
def exU1 : Tp.Tok := (Tp.says exR0).getD 0 ⟨0, [], 0, 0, false⟩
def exU2 : Tp.Tok := (Tp.says exR0).getD 1 ⟨0, [], 0, 0, false⟩
theorem ex_rows2 : Tp.rows exK = [exR0, exR1] := by kernel_rfl
theorem ex_d0 : exR0.d = true := by kernel_rfl
theorem ex_n0 : exR0.n = defT := by kernel_rfl
theorem ex_d1 : exR1.d = false := by kernel_rfl
theorem ex_says0 : Tp.says exR0 = [exU1, exU2] := by kernel_rfl
theorem ex_u1 : exU1.k = 1 ∧ exU1.x = [88] := ⟨by kernel_rfl, by kernel_rfl⟩
theorem ex_u2 : exU2.k = 2 ∧ exU2.x = [49] ∧ exU2.s = true := ⟨by kernel_rfl, by kernel_rfl, by kernel_rfl⟩
theorem ex_of1 : Tp.of (Tp.says exR1) = [⟨1, [88], false, []⟩, ⟨1, Tp.lineN, true, []⟩] := by kernel_rfl
theorem ex_mode : RMode (Tp.rows exK) [⟨2, [49], false, []⟩, ⟨10, Tp.lineN, true, []⟩] 9 :=
  .inr (.inr ⟨exR0, exR1, exU1, exU2, ex_rows2, ex_d0, ex_n0, ex_says0, ex_u1, ex_u2, ex_d1, by decide, false, true, ex_of1, rfl⟩)
theorem ex_l0 : exR0.l.length ≤ 1000000 := by
  have : exR0.l.length = 5 := by kernel_rfl
  omega
theorem ex_l1 : exR1.l.length ≤ 1000000 := by
  have : exR1.l.length = 3 := by kernel_rfl
  omega
theorem ex_ll : ∀ r ∈ Tp.rows exK, r.l.length ≤ 1000000 := by
  rw [ex_rows2]
  intro r hr
  rcases List.mem_cons.1 hr with rfl | hr
  · exact ex_l0
  · rw [List.mem_singleton.1 hr]; exact ex_l1
theorem ex_kl : exK.length ≤ 1000000 := by
  have : exK.length = 8 := by kernel_rfl
  omega

theorem ex_run (w : World) (hmx : MX w) : Calls Tryz.prog 9 #[.slice none 0 0, .string { data := #[35, 100, 101, 102, 105, 110, 101, 32, 88, 32, 49, 10, 88, 32, 95, 95, 76, 73, 78, 69, 95, 95, 10] }, .slice none 0 0, .int .i64 9] w fun e w' =>
    ∃ v, e = .returned (.tuple #[v, .int .i64 0]) ∧ w'.ownsRow w.heap.size 49 4 v (1 + 1) (ptcs [⟨2, [49], false, []⟩, ⟨10, Tp.lineN, true, []⟩]) ∧ Below w.heap.size w w' :=
  Run_any Tp.exT 9 [⟨2, [49], false, []⟩, ⟨10, Tp.lineN, true, []⟩] w (by decide) (by decide) hmx Tp.ex_scan.1 (by rw [show (Tp.scan Tp.exT).1 = exK from rfl, ex_rows2]; decide) ex_ll ex_kl (fun r hr => Nat.le_trans (Tp.says_le r) (ex_ll r hr)) (by decide) ex_mode

set_option maxRecDepth 100000 in
set_option maxHeartbeats 8000000 in
theorem prepared_any (w : World) (hmx : MX w) : Calls Tryz.prog 6 #[] w fun e w' => e = .returned (.bool true) ∧ Below w.heap.size w w' := by
  have RX := Lib.hid (ex_run w hmx)
  have tl : (bs [49]).toList = [49] := bs_toList [49]
  go_enter Tryz.func6, Tryz.ntmps6
  go_wp2_with (first
    | (go_at_call 9
       (with_reducible refine RX.out.mono ?_)
       rintro e w2 ⟨v, rfl, ho, hb⟩
       obtain ⟨g, cap, rfl⟩ := ownsRow_succ (k := 1) ho
       have c1 : w2.cell? ⟨g, 1, none⟩ = some (.string (bs [49])) := ho.cellAt 1 (by decide)
       have c4 : w2.cell? ⟨g, 4, none⟩ = some (.int .i64 10) := ho.cellAt 4 (by decide)
       clear ho))
  go_ret
  exact ⟨rfl, hb⟩
end Go.Proofs.YtffjblamfbmoeaaGreatDoor

/-! Walks: TopPlain. -/
set_option linter.unusedVariables false
set_option linter.unusedSimpArgs false
namespace Go.Proofs.YtffjblamfbmoeaaGreatDoor
open Go Go.RowKit
attribute [local go_sem] Oper.semAt_some

/-- Tokens of which the first k are as they are wanted. -/
def wantP (L : List Tp.PTok) (k : Nat) : List Value := ptcs ((L.take k).map lnT ++ L.drop k)
theorem wantP_length (L : List Tp.PTok) (k : Nat) : ((L.take k).map lnT ++ L.drop k).length = L.length := by simp; omega
theorem wantP_get {L : List Tp.PTok} {k : Nat} {p : Tp.PTok} (h : L[k]? = some p) : ((L.take k).map lnT ++ L.drop k)[k]? = some p := by
  have hk := (List.getElem?_eq_some_iff.1 h).1
  have hl : ((L.take k).map lnT).length = k := by simp; omega
  rw [List.getElem?_append_right (by omega), hl, Nat.sub_self, List.getElem?_drop, Nat.add_zero, h]
theorem wantP_split {L : List Tp.PTok} {k : Nat} {p : Tp.PTok} (h : L[k]? = some p) : wantP L k = ptcs ((L.take k).map lnT) ++ (ptc p ++ ptcs (L.drop (k + 1))) := by
  have hk := (List.getElem?_eq_some_iff.1 h).1
  have hp : L[k] = p := (List.getElem?_eq_some_iff.1 h).2
  unfold wantP
  rw [List.drop_eq_getElem_cons hk, hp, ptcs_app]
  rfl
theorem wantP_next {L : List Tp.PTok} {k : Nat} {p : Tp.PTok} (h : L[k]? = some p) : wantP L (k + 1) = ptcs ((L.take k).map lnT) ++ (ptc (lnT p) ++ ptcs (L.drop (k + 1))) := by
  unfold wantP
  rw [List.take_add_one, h, Option.toList_some, List.map_append, List.append_assoc, ptcs_app]
  rfl
theorem wantP_keep {L : List Tp.PTok} {k : Nat} {p : Tp.PTok} (h : L[k]? = some p) (hn : ¬ (p.k = 1 ∧ p.x = Tp.lineN)) : wantP L (k + 1) = wantP L k := by
  rw [wantP_next h, wantP_split h]
  unfold lnT
  rw [if_neg hn]
theorem wantP_set {L : List Tp.PTok} {k : Nat} {p : Tp.PTok} (h : L[k]? = some p) (hn : p.k = 1 ∧ p.x = Tp.lineN) : (wantP L k).set (k * 4) (.int .i64 10) = wantP L (k + 1) := by
  have hk := (List.getElem?_eq_some_iff.1 h).1
  rw [wantP_next h, wantP_split h]
  have hl : (ptcs ((L.take k).map lnT)).length = k * 4 := by rw [ptcs_length]; simp; omega
  rw [List.set_append_right _ _ (by omega), hl, Nat.sub_self]
  unfold lnT
  rw [if_pos hn]
  rfl
theorem wantP_zero (L : List Tp.PTok) : wantP L 0 = ptcs L := by unfold wantP; simp
theorem wantP_end (L : List Tp.PTok) : wantP L L.length = ptcs (L.map lnT) := by unfold wantP; simp

theorem nextJ {L : List Tp.PTok} {i : Nat} {p : Tp.PTok} (hJ : ∀ j p, j < i → L[j]? = some p → ¬ (p.k = 1 ∧ p.x = Tp.pragmaN)) (hp : L[i]? = some p) (hn : ¬ (p.k = 1 ∧ p.x = Tp.pragmaN)) : ∀ j q, j < i + 1 → L[j]? = some q → ¬ (q.k = 1 ∧ q.x = Tp.pragmaN) := by
  intro j q hj hq
  by_cases h : j < i
  · exact hJ j q h hq
  · obtain rfl : j = i := by omega
    rw [hp] at hq
    obtain rfl := Option.some.inj hq
    exact hn
theorem plain_q {L : List Tp.PTok} (h : ∀ (j : Nat) p, L[j]? = some p → ¬ (p.k = 1 ∧ p.x = Tp.pragmaN)) : ∀ p ∈ L.map lnT, p.k = 1 → p.x ≠ Tp.pragmaN := by
  intro p hp hk hx
  obtain ⟨q, hq, rfl⟩ := List.mem_map.1 hp
  obtain ⟨j, hj⟩ := List.mem_iff_getElem?.1 hq
  unfold lnT at hk hx
  split at hk
  · cases hk
  · rename_i hn
    rw [if_neg hn] at hx
    exact h j q hj ⟨hk, hx⟩

set_option maxRecDepth 100000 in
set_option maxHeartbeats 8000000 in
theorem TopPlain_any (t : Tp.T) (w : World) (hmx : MX w) : Calls Tryz.prog 4 #[.string (bs t)] w fun e w' => e = .returned (.bool true) ∧ Below w.heap.size w w' := by
  have PR' := Lib.hid (prepared_any w hmx)
  have SC := Lib.hid (fun (W : World) (hb : Below w.heap.size w W) => Scan_all t W (hmx.later hb))
  unfold ScP at SC
  have hts : (bs t).size = t.length := bs_size t
  obtain ⟨er, her⟩ : ∃ er, (Tp.scan t).2 = er := ⟨_, rfl⟩
  obtain ⟨K, hK⟩ : ∃ K, (Tp.scan t).1 = K := ⟨_, rfl⟩
  obtain ⟨nk, hnk⟩ : ∃ nk, K.length = nk := ⟨_, rfl⟩
  rw [her, hK, hnk] at SC
  have HER := Lib.hid her
  have HK := Lib.hid hK
  have HNK := Lib.hid hnk
  have HMX := Lib.hid hmx
  clear her hK hnk hmx
  by_cases he : er = 0
  case neg =>
    have heb : (er != 0) = true := by simpa using he
    go_enter Tryz.func4, Tryz.ntmps4
    go_wp2_with (first
      | (go_at_call 6; (with_reducible refine PR'.out.mono ?_); rintro e w1 ⟨rfl, hb1⟩)
      | (go_at_call 11
         (with_reducible refine (SC.out _ hb1).mono ?_)
         rintro e w2 ⟨v2, rfl, ho2, hb2⟩
         have hbw2 := hb1.trans (hb2.mono hb1.size)
         obtain ⟨A2, c2, rfl, hc2, hr2⟩ := own_form ho2
         have hcm2 := own_cap ho2
         clear ho2))
    go_ret
    exact ⟨rfl, hbw2⟩
  case pos =>
  subst he
  have hbig : t.length ≤ 65536 := Tp.scan_big HER.out
  have hnk : nk ≤ 65537 := by have := Tp.scan_le t; rw [HK.out, HNK.out] at this; omega
  by_cases hlen : 20000 < t.length
  case pos =>
    have hd1 : decide ((20000 : Int) < (t.length : Int)) = true := by simp; omega
    go_enter Tryz.func4, Tryz.ntmps4
    go_wp2_with (first
      | (go_at_call 6; (with_reducible refine PR'.out.mono ?_); rintro e w1 ⟨rfl, hb1⟩)
      | (go_at_call 11
         (with_reducible refine (SC.out _ hb1).mono ?_)
         rintro e w2 ⟨v2, rfl, ho2, hb2⟩
         have hbw2 := hb1.trans (hb2.mono hb1.size)
         obtain ⟨A2, c2, rfl, hc2, hr2⟩ := own_form ho2
         have hcm2 := own_cap ho2
         clear ho2))
    go_ret
    exact ⟨rfl, hbw2⟩
  case neg =>
  have hd1 : decide ((20000 : Int) < (t.length : Int)) = false := by simp; omega
  by_cases hmany : 1 < (Tp.rows K).length
  case pos =>
    have HMANY := Lib.hid hmany
    clear hmany
    go_enter Tryz.func4, Tryz.ntmps4
    go_wp2_with (first
      | (go_at_call 6; (with_reducible refine PR'.out.mono ?_); rintro e w1 ⟨rfl, hb1⟩)
      | (go_at_call 11
         (with_reducible refine (SC.out _ hb1).mono ?_)
         rintro e w2 ⟨v2, rfl, ho2, hb2⟩
         have hbw2 := hb1.trans (hb2.mono hb1.size)
         obtain ⟨A2, c2, rfl, hc2, hr2⟩ := own_form ho2
         have hcm2 := own_cap ho2
         clear ho2)
      | (go_at_call 12
         (with_reducible refine (Rows_any A2 nk c2 K w2 hc2 hcm2 (by rw [HNK.out]; omega) hr2).mono ?_)
         rintro e w3 ⟨v3, ps, rfl, ho3, hps, hrwo, hb3⟩
         have hbw3 := hbw2.trans (hb3.mono hbw2.size)
         have hr3 := hr2.later hb3
         have hnp : 1 < ps.length := by have := HMANY.out; rwa [← hps, List.length_map] at this
         obtain ⟨np, hn⟩ : ∃ np, ps.length = np := ⟨_, rfl⟩
         rw [hn] at ho3 hnp
         have hdn : decide ((1 : Int) < (np : Int)) = true := by simp; omega
         obtain ⟨A3, c3, rfl, hc3, _⟩ := own_form ho3
         clear ho3 hps hrwo hn))
    go_ret
    exact ⟨rfl, hbw3⟩
  case neg =>
  by_cases hdir : ∃ r, Tp.rows K = [r] ∧ r.d = true
  case pos =>
    have HDIR := Lib.hid hdir
    clear hdir hmany
    go_enter Tryz.func4, Tryz.ntmps4
    go_wp2_with (first
      | (go_at_call 6; (with_reducible refine PR'.out.mono ?_); rintro e w1 ⟨rfl, hb1⟩)
      | (go_at_call 11
         (with_reducible refine (SC.out _ hb1).mono ?_)
         rintro e w2 ⟨v2, rfl, ho2, hb2⟩
         have hbw2 := hb1.trans (hb2.mono hb1.size)
         obtain ⟨A2, c2, rfl, hc2, hr2⟩ := own_form ho2
         have hcm2 := own_cap ho2
         clear ho2)
      | (go_at_call 12
         (with_reducible refine (Rows_any A2 nk c2 K w2 hc2 hcm2 (by rw [HNK.out]; omega) hr2).mono ?_)
         rintro e w3 ⟨v3, ps, rfl, ho3, hps, hrwo, hb3⟩
         have hbw3 := hbw2.trans (hb3.mono hbw2.size)
         have hr3 := hr2.later hb3
         obtain ⟨r, hr, hrd⟩ := HDIR.out
         rw [hr] at hps
         obtain ⟨vv, rfl⟩ := map_one hps
         obtain ⟨g, cap, rfl⟩ := ownsRow_succ (k := 0) ho3
         have k0 : w3.cell? ⟨g, 0, none⟩ = some (.bool true) := by have := ho3.cellAt 0 (by simp); rw [this, ← hrd]; rfl
         clear ho3 hps hrwo))
    go_ret
    exact ⟨rfl, hbw3⟩
  case neg =>
  obtain ⟨L, hL⟩ : ∃ L, Tp.of (Tp.bare K) = L := ⟨_, rfl⟩
  obtain ⟨nb, hnb⟩ : ∃ nb, (Tp.bare K).length = nb := ⟨_, rfl⟩
  have hLl : L.length = nb := by rw [← hL, of_len, hnb]
  have hnbk : nb ≤ 65537 := by have := Tp.bareGo_le K false; rw [HNK.out] at this; rw [← hnb]; unfold Tp.bare; omega
  have hnd : ∀ r ∈ Tp.rows K, r.d = false := fun r hr => by
    cases hd : r.d with
    | false => rfl
    | true =>
      refine absurd ⟨r, ?_, hd⟩ hdir
      rcases h : Tp.rows K with _ | ⟨r', _ | ⟨r2, rs⟩⟩
      · rw [h] at hr; cases hr
      · rw [h] at hr; rw [List.mem_singleton.1 hr]
      · rw [h] at hmany; simp at hmany
  have hmode := plain_mode K (by omega) hnd
  rw [hL] at hmode
  have hll : ∀ r ∈ Tp.rows K, r.l.length ≤ 1000000 := fun r hr => by
    rcases h : Tp.rows K with _ | ⟨r', _ | ⟨r2, rs⟩⟩
    · rw [h] at hr; cases hr
    · rw [h] at hr
      rw [List.mem_singleton.1 hr, Tp.rows_one h, HNK.out]
      omega
    · rw [h] at hmany; simp at hmany
  have BR := Lib.hid (fun (W : World) (A : Option Addr) (c : Nat) (h1 : nk ≤ c) (hr : Rd W 5 A nk (tkcs K)) => Bare_any A nk c K W h1 (by rw [HNK.out]; omega) hr)
  rw [hnb] at BR
  have OX := Lib.hid (fun (W : World) (A : Option Addr) (c : Nat) (h1 : nb ≤ c) (hr : Rd W 5 A nb (tkcs (Tp.bare K))) => Of_any A nb c (Tp.bare K) W h1 (by rw [hnb]; omega) hr)
  rw [hL] at OX
  have RU := Lib.hid (fun (W : World) (hb : Below w.heap.size w W) (hq : ∀ p ∈ L.map lnT, p.k = 1 → p.x ≠ Tp.pragmaN) => Run_any t 1 (L.map lnT) W (by omega) (by omega) (HMX.out.later hb) HER.out (by rw [HK.out]; omega) (by rw [HK.out]; exact hll) (by rw [HK.out, HNK.out]; omega) (by rw [HK.out]; exact fun r hr => Nat.le_trans (Tp.says_le r) (hll r hr)) hq (by rw [HK.out]; exact hmode))
  rw [List.length_map, hLl] at RU
  have HL := Lib.hid hL
  have HLL := Lib.hid hLl
  have HND := Lib.hid hnd
  clear hL hnb hLl hmode hll hnd hdir
  have hR : Tp.rows K = [] ∨ ∃ r, Tp.rows K = [r] ∧ r.d = false := by
    rcases h : Tp.rows K with _ | ⟨r', _ | ⟨r2, rs⟩⟩
    · exact .inl rfl
    · exact .inr ⟨r', rfl, HND.out r' (by rw [h]; exact List.mem_singleton.2 rfl)⟩
    · rw [h] at hmany; simp at hmany
  clear hmany HND
  rcases hR with hR | hR
  · have HRR := Lib.hid hR
    clear hR
    go_enter Tryz.func4, Tryz.ntmps4
    go_wp2_with (first
      | (go_at_call 6; (with_reducible refine PR'.out.mono ?_); rintro e w1 ⟨rfl, hb1⟩)
      | (go_at_call 11
         (with_reducible refine (SC.out _ hb1).mono ?_)
         rintro e w2 ⟨v2, rfl, ho2, hb2⟩
         have hbw2 := hb1.trans (hb2.mono hb1.size)
         obtain ⟨A2, c2, rfl, hc2, hr2⟩ := own_form ho2
         have hcm2 := own_cap ho2
         clear ho2)
      | (go_at_call 12
         (with_reducible refine (Rows_any A2 nk c2 K w2 hc2 hcm2 (by rw [HNK.out]; omega) hr2).mono ?_)
         rintro e w3 ⟨v3, ps, rfl, ho3, hps, hrwo, hb3⟩
         have hbw3 := hbw2.trans (hb3.mono hbw2.size)
         have hr3 := hr2.later hb3
         rw [HRR.out] at hps
         obtain rfl : ps = [] := List.map_eq_nil_iff.1 hps
         obtain ⟨A3, c3, rfl, hc3, _⟩ := own_form ho3
         clear ho3 hps hrwo)
      | (go_at_call 14
         (with_reducible refine (BR.out w3 A2 c2 hc2 hr3).mono ?_)
         rintro e w4 ⟨v4, rfl, ho4, hb4⟩
         have hbw4 := hbw3.trans (hb4.mono hbw3.size)
         obtain ⟨A4, c4, rfl, hc4, hr4⟩ := own_form ho4
         clear ho4)
      | (go_at_call 13
         (with_reducible refine (OX.out w4 A4 c4 hc4 hr4).mono ?_)
         rintro e w5 ⟨v5, rfl, ho5, hb5⟩
         have hbw5 := hbw4.trans (hb5.mono hbw4.size)
         have ho5w := own_base ho5 hbw4.size
         rw [← wantP_zero L] at ho5w
         obtain ⟨A5, c5, rfl, hc5, _⟩ := own_form ho5w
         clear ho5 hb5))
    go_loopw [8] (fun z wr => ∃ i : Nat, i ≤ nb ∧ z = .int .i64 i ∧ wr.ownsRow w.heap.size 49 4 (.slice A5 nb c5) nb (wantP L i) ∧ Below w.heap.size w wr ∧ ∀ j p, j < i → L[j]? = some p → ¬ (p.k = 1 ∧ p.x = Tp.pragmaN)) (fun z _ => nb - (intOf z).toNat)
    case atStart => exact ⟨0, Nat.zero_le _, rfl, ho5w, hbw5, fun j p h => absurd h (by omega)⟩
    case round =>
      obtain ⟨i, hi, rfl, ho, hb, hj⟩ := hrel
      obtain ⟨wq, rfl⟩ : ∃ wq : World, wq = wr := ⟨_, rfl⟩
      by_cases hlt : i < nb
      · obtain ⟨p, hp⟩ : ∃ p, L[i]? = some p := ⟨_, List.getElem?_eq_getElem (by rw [HLL.out]; exact hlt)⟩
        obtain ⟨k0', hk0'⟩ : ∃ k0', nb = k0' + 1 := ⟨nb - 1, by omega⟩
        subst hk0'
        have ho' := ho
        obtain ⟨g5, cap5, e5⟩ := ownsRow_succ (k := k0') ho'
        cases e5
        obtain ⟨b, o, e6, hbl, d0, d1, d2, d3⟩ := (Rd.of_own (show wq.ownsRow w.heap.size 49 4 (.slice (some ⟨g5, 0, none⟩) (k0' + 1) c5) (k0' + 1) (ptcs ((L.take i).map lnT ++ L.drop i)) from ho')).pt (wantP_get hp)
        cases e6
        rw [Nat.zero_add] at d0 d1
        have hf0 := ho.frozenAt (i * 4)
        have hgl := (ho.lt g5 rfl)
        have wr1 : IntKind.i64.wrap ((i : Int) + 1) = (i : Int) + 1 := IntWalk.i64_in _ (by omega)
        have hdl : decide ((i : Int) < ((k0' + 1 : Nat) : Int)) = true := by simp; omega
        obtain ⟨pk', px, ps', pp⟩ := p
        simp only at d0 d1
        have tl : (bs px).toList = px := bs_toList px
        have hcs : ¬ pk' = 1 ∨ (pk' = 1 ∧ px = Tp.pragmaN) ∨ (pk' = 1 ∧ px = Tp.lineN) ∨ (pk' = 1 ∧ (px == [95, 80, 114, 97, 103, 109, 97]) = false ∧ (px == [95, 95, 76, 73, 78, 69, 95, 95]) = false) := by
          by_cases e : pk' = 1
          · by_cases e1 : px = Tp.pragmaN
            · exact .inr (.inl ⟨e, e1⟩)
            · by_cases e2 : px = Tp.lineN
              · exact .inr (.inr (.inl ⟨e, e2⟩))
              · exact .inr (.inr (.inr ⟨e, beq_eq_false_iff_ne.2 e1, beq_eq_false_iff_ne.2 e2⟩))
          · exact .inl e
        have HO := Lib.hid ho
        have HJ := Lib.hid hj
        have HP := Lib.hid hp
        clear ho ho' hj hp
        rcases hcs with h1 | ⟨rfl, rfl⟩ | ⟨rfl, rfl⟩ | ⟨rfl, h1, h2⟩
        · have h1I : ¬ (pk' : Int) = 1 := by omega
          go_wp2
          exact ⟨⟨i + 1, by omega, by go_num, by rw [wantP_keep HP.out (fun h => h1 h.1)]; exact HO.out, hb, nextJ HJ.out HP.out (fun h => h1 h.1)⟩, by simp [intOf]; omega⟩
        · go_wp2
          go_ret
          exact ⟨rfl, hb⟩
        · go_wp2
          exact ⟨⟨i + 1, by omega, by go_num, by rw [← wantP_set HP.out ⟨rfl, rfl⟩]; exact (HO.out.stored (i * 4) (.int .i64 10)).1, hb.setCell (p := ⟨g5, _, none⟩) hgl.1 _, nextJ HJ.out HP.out (fun h => absurd (show Tp.lineN = Tp.pragmaN from h.2) (by decide))⟩, by simp [intOf]; omega⟩
        · go_wp2
          exact ⟨⟨i + 1, by omega, by go_num, by rw [wantP_keep HP.out (fun h => beq_eq_false_iff_ne.1 h2 h.2)]; exact HO.out, hb, nextJ HJ.out HP.out (fun h => beq_eq_false_iff_ne.1 h1 h.2)⟩, by simp [intOf]; omega⟩
      · obtain rfl : i = nb := by omega
        have hdl : decide ((i : Int) < (i : Int)) = false := by simp
        have hq : ∀ p ∈ L.map lnT, p.k = 1 → p.x ≠ Tp.pragmaN := plain_q (fun j p h => hj j p (by rw [← HLL.out]; exact (List.getElem?_eq_some_iff.1 h).1) h)
        have ho2 : wq.ownsRow w.heap.size 49 4 (.slice A5 i c5) i (ptcs (L.map lnT)) := by
          have := wantP_end L
          rw [HLL.out] at this
          rwa [this] at ho
        have HO2 := Lib.hid ho2
        clear ho ho2 hj
        go_wp2_with (first
          | (go_at_call 9
             (with_reducible refine (RU.out wq hb hq).mono ?_)
             rintro e w6 ⟨v6, rfl, ho6, hb6⟩
             obtain ⟨A6, c6, rfl, hc6, hr6⟩ := own_form ho6
             clear ho6)
          | (go_at_call 10
             (with_reducible refine (Same_p A6 A5 i c6 c5 (L.map lnT) w6 hc6 hc5 (by omega) hr6 ((Rd.of_own HO2.out).later hb6)).mono ?_)
             rintro e w7 ⟨rfl, hb7⟩))
        go_ret
        exact ⟨rfl, (hb.trans (hb6.mono hb.size)).trans (hb7.mono (Nat.le_trans hb.size hb6.size))⟩
  · have HRR := Lib.hid hR
    clear hR
    go_enter Tryz.func4, Tryz.ntmps4
    go_wp2_with (first
      | (go_at_call 6; (with_reducible refine PR'.out.mono ?_); rintro e w1 ⟨rfl, hb1⟩)
      | (go_at_call 11
         (with_reducible refine (SC.out _ hb1).mono ?_)
         rintro e w2 ⟨v2, rfl, ho2, hb2⟩
         have hbw2 := hb1.trans (hb2.mono hb1.size)
         obtain ⟨A2, c2, rfl, hc2, hr2⟩ := own_form ho2
         have hcm2 := own_cap ho2
         clear ho2)
      | (go_at_call 12
         (with_reducible refine (Rows_any A2 nk c2 K w2 hc2 hcm2 (by rw [HNK.out]; omega) hr2).mono ?_)
         rintro e w3 ⟨v3, ps, rfl, ho3, hps, hrwo, hb3⟩
         have hbw3 := hbw2.trans (hb3.mono hbw2.size)
         have hr3 := hr2.later hb3
         obtain ⟨r, hr, hrd⟩ := HRR.out
         rw [hr] at hps
         obtain ⟨vv, rfl⟩ := map_one hps
         obtain ⟨g, cap, rfl⟩ := ownsRow_succ (k := 0) ho3
         have k0 : w3.cell? ⟨g, 0, none⟩ = some (.bool false) := by have := ho3.cellAt 0 (by simp); rw [this, ← hrd]; rfl
         clear ho3 hps hrwo)
      | (go_at_call 14
         (with_reducible refine (BR.out w3 A2 c2 hc2 hr3).mono ?_)
         rintro e w4 ⟨v4, rfl, ho4, hb4⟩
         have hbw4 := hbw3.trans (hb4.mono hbw3.size)
         obtain ⟨A4, c4, rfl, hc4, hr4⟩ := own_form ho4
         clear ho4)
      | (go_at_call 13
         (with_reducible refine (OX.out w4 A4 c4 hc4 hr4).mono ?_)
         rintro e w5 ⟨v5, rfl, ho5, hb5⟩
         have hbw5 := hbw4.trans (hb5.mono hbw4.size)
         have ho5w := own_base ho5 hbw4.size
         rw [← wantP_zero L] at ho5w
         obtain ⟨A5, c5, rfl, hc5, _⟩ := own_form ho5w
         clear ho5 hb5))
    go_loopw [8] (fun z wr => ∃ i : Nat, i ≤ nb ∧ z = .int .i64 i ∧ wr.ownsRow w.heap.size 49 4 (.slice A5 nb c5) nb (wantP L i) ∧ Below w.heap.size w wr ∧ ∀ j p, j < i → L[j]? = some p → ¬ (p.k = 1 ∧ p.x = Tp.pragmaN)) (fun z _ => nb - (intOf z).toNat)
    case atStart => exact ⟨0, Nat.zero_le _, rfl, ho5w, hbw5, fun j p h => absurd h (by omega)⟩
    case round =>
      obtain ⟨i, hi, rfl, ho, hb, hj⟩ := hrel
      obtain ⟨wq, rfl⟩ : ∃ wq : World, wq = wr := ⟨_, rfl⟩
      by_cases hlt : i < nb
      · obtain ⟨p, hp⟩ : ∃ p, L[i]? = some p := ⟨_, List.getElem?_eq_getElem (by rw [HLL.out]; exact hlt)⟩
        obtain ⟨k0', hk0'⟩ : ∃ k0', nb = k0' + 1 := ⟨nb - 1, by omega⟩
        subst hk0'
        have ho' := ho
        obtain ⟨g5, cap5, e5⟩ := ownsRow_succ (k := k0') ho'
        cases e5
        obtain ⟨b, o, e6, hbl, d0, d1, d2, d3⟩ := (Rd.of_own (show wq.ownsRow w.heap.size 49 4 (.slice (some ⟨g5, 0, none⟩) (k0' + 1) c5) (k0' + 1) (ptcs ((L.take i).map lnT ++ L.drop i)) from ho')).pt (wantP_get hp)
        cases e6
        rw [Nat.zero_add] at d0 d1
        have hf0 := ho.frozenAt (i * 4)
        have hgl := (ho.lt g5 rfl)
        have wr1 : IntKind.i64.wrap ((i : Int) + 1) = (i : Int) + 1 := IntWalk.i64_in _ (by omega)
        have hdl : decide ((i : Int) < ((k0' + 1 : Nat) : Int)) = true := by simp; omega
        obtain ⟨pk', px, ps', pp⟩ := p
        simp only at d0 d1
        have tl : (bs px).toList = px := bs_toList px
        have hcs : ¬ pk' = 1 ∨ (pk' = 1 ∧ px = Tp.pragmaN) ∨ (pk' = 1 ∧ px = Tp.lineN) ∨ (pk' = 1 ∧ (px == [95, 80, 114, 97, 103, 109, 97]) = false ∧ (px == [95, 95, 76, 73, 78, 69, 95, 95]) = false) := by
          by_cases e : pk' = 1
          · by_cases e1 : px = Tp.pragmaN
            · exact .inr (.inl ⟨e, e1⟩)
            · by_cases e2 : px = Tp.lineN
              · exact .inr (.inr (.inl ⟨e, e2⟩))
              · exact .inr (.inr (.inr ⟨e, beq_eq_false_iff_ne.2 e1, beq_eq_false_iff_ne.2 e2⟩))
          · exact .inl e
        have HO := Lib.hid ho
        have HJ := Lib.hid hj
        have HP := Lib.hid hp
        clear ho ho' hj hp
        rcases hcs with h1 | ⟨rfl, rfl⟩ | ⟨rfl, rfl⟩ | ⟨rfl, h1, h2⟩
        · have h1I : ¬ (pk' : Int) = 1 := by omega
          go_wp2
          exact ⟨⟨i + 1, by omega, by go_num, by rw [wantP_keep HP.out (fun h => h1 h.1)]; exact HO.out, hb, nextJ HJ.out HP.out (fun h => h1 h.1)⟩, by simp [intOf]; omega⟩
        · go_wp2
          go_ret
          exact ⟨rfl, hb⟩
        · go_wp2
          exact ⟨⟨i + 1, by omega, by go_num, by rw [← wantP_set HP.out ⟨rfl, rfl⟩]; exact (HO.out.stored (i * 4) (.int .i64 10)).1, hb.setCell (p := ⟨g5, _, none⟩) hgl.1 _, nextJ HJ.out HP.out (fun h => absurd (show Tp.lineN = Tp.pragmaN from h.2) (by decide))⟩, by simp [intOf]; omega⟩
        · go_wp2
          exact ⟨⟨i + 1, by omega, by go_num, by rw [wantP_keep HP.out (fun h => beq_eq_false_iff_ne.1 h2 h.2)]; exact HO.out, hb, nextJ HJ.out HP.out (fun h => beq_eq_false_iff_ne.1 h1 h.2)⟩, by simp [intOf]; omega⟩
      · obtain rfl : i = nb := by omega
        have hdl : decide ((i : Int) < (i : Int)) = false := by simp
        have hq : ∀ p ∈ L.map lnT, p.k = 1 → p.x ≠ Tp.pragmaN := plain_q (fun j p h => hj j p (by rw [← HLL.out]; exact (List.getElem?_eq_some_iff.1 h).1) h)
        have ho2 : wq.ownsRow w.heap.size 49 4 (.slice A5 i c5) i (ptcs (L.map lnT)) := by
          have := wantP_end L
          rw [HLL.out] at this
          rwa [this] at ho
        have HO2 := Lib.hid ho2
        clear ho ho2 hj
        go_wp2_with (first
          | (go_at_call 9
             (with_reducible refine (RU.out wq hb hq).mono ?_)
             rintro e w6 ⟨v6, rfl, ho6, hb6⟩
             obtain ⟨A6, c6, rfl, hc6, hr6⟩ := own_form ho6
             clear ho6)
          | (go_at_call 10
             (with_reducible refine (Same_p A6 A5 i c6 c5 (L.map lnT) w6 hc6 hc5 (by omega) hr6 ((Rd.of_own HO2.out).later hb6)).mono ?_)
             rintro e w7 ⟨rfl, hb7⟩))
        go_ret
        exact ⟨rfl, (hb.trans (hb6.mono hb.size)).trans (hb7.mono (Nat.le_trans hb.size hb6.size))⟩
end Go.Proofs.YtffjblamfbmoeaaGreatDoor
