/- Walks: what makes one text of another one (the document's). -/
import Derived.Test.YtnijaleedbmljaaW27
import Derived.Test.YtnijaleedbmljaaW15
set_option linter.unusedVariables false
set_option linter.unusedSimpArgs false
namespace Go.Proofs.Ytnijaleedbmljaa
open Go Go.RowKit

/-- The pairs that are left at (i, j), and the last one behind both lists. -/
def rest (x y : List Pl.T) (i j : Nat) : List (Nat × Nat) := Pl.pairs i j (x.drop i) (y.drop j) ++ [(x.length, y.length)]
def Stop (x y : List Pl.T) (p q : Nat) : Prop := (p = x.length ∧ q = y.length) ∨ ∃ a, x[p]? = some a ∧ y[q]? = some a

theorem drop_at {x : List Pl.T} {i : Nat} {a : Pl.T} (h : x[i]? = some a) : x.drop i = a :: x.drop (i + 1) := by
  rw [List.drop_eq_getElem_cons (List.getElem?_eq_some_iff.1 h).1, (List.getElem?_eq_some_iff.1 h).2]
theorem rest_match {x y : List Pl.T} {i j : Nat} {a : Pl.T} (hi : x[i]? = some a) (hj : y[j]? = some a) : rest x y i j = (i, j) :: rest x y (i + 1) (j + 1) := by
  unfold rest
  rw [drop_at hi, drop_at hj, Pl.pairs_cons, if_pos rfl]; rfl
theorem rest_down {x y : List Pl.T} {i j : Nat} {a b : Pl.T} (hi : x[i]? = some a) (hj : y[j]? = some b) (hab : a ≠ b) (hle : Pl.lcs (x.drop i) (y.drop (j + 1)) ≤ Pl.lcs (x.drop (i + 1)) (y.drop j)) : rest x y i j = rest x y (i + 1) j := by
  unfold rest
  have e := Pl.pairs_cons i j a b (x.drop (i + 1)) (y.drop (j + 1))
  rw [← drop_at hi, ← drop_at hj, if_neg hab, if_pos hle] at e
  rw [e]
theorem rest_right {x y : List Pl.T} {i j : Nat} {a b : Pl.T} (hi : x[i]? = some a) (hj : y[j]? = some b) (hab : a ≠ b) (hle : ¬ Pl.lcs (x.drop i) (y.drop (j + 1)) ≤ Pl.lcs (x.drop (i + 1)) (y.drop j)) : rest x y i j = rest x y i (j + 1) := by
  unfold rest
  have e := Pl.pairs_cons i j a b (x.drop (i + 1)) (y.drop (j + 1))
  rw [← drop_at hi, ← drop_at hj, if_neg hab, if_neg hle] at e
  rw [e]
theorem rest_down0 {x y : List Pl.T} {i j : Nat} (h : y.length ≤ j) : rest x y i j = rest x y (i + 1) j := by
  unfold rest
  rw [List.drop_of_length_le h, Pl.pairs_nil_right, Pl.pairs_nil_right]
theorem rest_right0 {x y : List Pl.T} {i j : Nat} (h : x.length ≤ i) : rest x y i j = rest x y i (j + 1) := by
  unfold rest
  rw [List.drop_of_length_le h, Pl.pairs_nil_left, Pl.pairs_nil_left]
theorem rest_end (x y : List Pl.T) : rest x y x.length y.length = [(x.length, y.length)] := by
  unfold rest
  rw [List.drop_of_length_le (Nat.le_refl _), Pl.pairs_nil_left]; rfl
theorem bet_match {x y : List Pl.T} {i j : Nat} {a : Pl.T} (hi : x[i]? = some a) (hj : y[j]? = some a) : Pl.bet y i j (rest x y i j) = Pl.bet y (i + 1) (j + 1) (rest x y (i + 1) (j + 1)) := by
  rw [rest_match hi hj]
  simp only [Pl.bet]
  rw [if_neg (by omega)]
theorem bet_end (x y : List Pl.T) : Pl.bet y x.length y.length (rest x y x.length y.length) = [] := by
  rw [rest_end]
  simp only [Pl.bet]
  rw [if_neg (by omega)]
theorem bet_stop {x y : List Pl.T} {i j p q : Nat} (h : Stop x y p q) (hne : i < p ∨ j < q) : Pl.bet y i j (rest x y p q) = ⟨i, p, (Pl.cut y j q).flatten⟩ :: Pl.bet y p q (rest x y p q) := by
  rcases h with ⟨rfl, rfl⟩ | ⟨a, hp, hq⟩
  · rw [bet_end, rest_end]
    simp only [Pl.bet]
    rw [if_pos hne]
  · rw [bet_match hp hq, rest_match hp hq]
    simp only [Pl.bet]
    rw [if_pos hne]

theorem kinds {x y : List Pl.T} {la lb i j : Nat} (hla : la = x.length) (hlb : lb = y.length) (hi : i ≤ la) (hj : j ≤ lb) :
    (la ≤ i ∧ lb ≤ j) ∨ (∃ a, i < la ∧ j < lb ∧ x[i]? = some a ∧ y[j]? = some a) ∨ (∃ a b, i < la ∧ j < lb ∧ x[i]? = some a ∧ y[j]? = some b ∧ a ≠ b) ∨ (i < la ∧ lb ≤ j) ∨ (la ≤ i ∧ j < lb) := by
  by_cases h1 : i < la
  · by_cases h2 : j < lb
    · have e1 := List.getElem?_eq_getElem (l := x) (i := i) (by omega)
      have e2 := List.getElem?_eq_getElem (l := y) (i := j) (by omega)
      by_cases e : x[i]'(by omega) = y[j]'(by omega)
      · exact .inr (.inl ⟨_, h1, h2, e1, by rw [e2, e]⟩)
      · exact .inr (.inr (.inl ⟨_, _, h1, h2, e1, e2, e⟩))
    · exact .inr (.inr (.inr (.inl ⟨h1, by omega⟩)))
  · by_cases h2 : j < lb
    · exact .inr (.inr (.inr (.inr ⟨by omega, h2⟩)))
    · exact .inl ⟨by omega, by omega⟩

theorem TabP.got {w0 w w' : World} {O H : Nat} {x y : List Pl.T} (h : TabP w0 O x y 0 H w) (hb : Below w.heap.size w w') {p : Nat} (hp : p ≤ x.length) :
    ∃ R, w'.cell? ⟨O, p, none⟩ = some (.slice (some ⟨R, 0, none⟩) (y.length + 1) (y.length + 1)) ∧ ∀ q v, q ≤ y.length → v = Pl.lcs (x.drop p) (y.drop q) → w'.cell? ⟨R, q, none⟩ = some (.int .i64 (v : Nat)) := by
  refine ⟨O + 1 + (x.length - p), ?_, fun q v hq hv => ?_⟩
  · have ht := h.top.of_block (hb.block _ h.top.lt)
    have := ht.cell (i := p) (by omega)
    rw [if_pos (Nat.zero_le _)] at this
    rw [this]; rfl
  · have hr := h.rows p (Nat.zero_le _) hp
    have ht := hr.of_block (hb.block _ hr.lt)
    rw [ht.cell (i := q) (by omega), hv]; rfl

theorem big_mul (x y : List Pl.T) : decide ((1048576 : Int) < (x.length : Int) * (y.length : Int)) = betBig x y := by
  unfold betBig
  rw [Bool.eq_iff_iff]
  simp only [Bool.and_eq_true, decide_eq_true_eq]
  rw [← Int.natCast_mul]
  constructor
  · intro h
    have h2 : 1048576 < x.length * y.length := by omega
    have h0 : 0 < x.length := by
      rcases Nat.eq_zero_or_pos x.length with e | e
      · rw [e, Nat.zero_mul] at h2; omega
      · exact e
    exact ⟨h0, (Nat.div_lt_iff_lt_mul h0).2 (by rw [Nat.mul_comm]; exact h2)⟩
  · rintro ⟨h0, h⟩
    have := (Nat.div_lt_iff_lt_mul h0).1 h
    rw [Nat.mul_comm] at this; omega

set_option maxRecDepth 100000 in
set_option maxHeartbeats 16000000 in
theorem refBetween_any (s t : ByteArray) (w : World) (hs : s.size ≤ 4000000) (ht : t.size ≤ 4000000) :
    Calls Try.prog 35 #[.string s, .string t] w (BetPost (Pl.lines s.data.toList) (Pl.lines t.data.toList) w) := by
  obtain ⟨hxn, hxT, hxf⟩ := ref_setup hs
  obtain ⟨hyn, hyT, hyf⟩ := ref_setup ht
  obtain ⟨j0, hj, hj0, hj1, hj2⟩ := info_parts edInfo
  have hxT' : ∀ z ∈ Pl.lines s.data.toList, z.length ≤ 4000000 := fun z hz => by have := Pl.mem_le hz; rw [← Lib.size_eq] at this; omega
  have hyT' : ∀ z ∈ Pl.lines t.data.toList, z.length ≤ 4000000 := fun z hz => by have := Pl.mem_le hz; rw [← Lib.size_eq] at this; omega
  have LS := Lib.hid (fun w => refLines_got s w (by omega))
  have LT := Lib.hid (fun w => refLines_got t w (by omega))
  generalize Pl.lines s.data.toList = x at *
  generalize Pl.lines t.data.toList = y at *
  have dm := big_mul x y
  obtain ⟨la, hla⟩ : ∃ n, n = x.length := ⟨_, rfl⟩
  obtain ⟨lb, hlb⟩ : ∃ n, n = y.length := ⟨_, rfl⟩
  rw [← hla] at hxn dm
  rw [← hlb] at hyn dm
  have hml : la * lb ≤ 4000000 * 4000000 := Nat.mul_le_mul (by omega) (by omega)
  have wm : IntKind.i64.wrap ((la : Int) * (lb : Int)) = (la : Int) * (lb : Int) := by
    rw [← Int.natCast_mul]
    exact IntWalk.i64_in _ (by omega)
  clear hml
  cases hbig : betBig x y
  · have HN := Lib.hid (fun w' B cb hr hb => BetPost.yes (w := w) (w' := w') hbig (B := B) (cb := cb) hr hb)
    have TB := Lib.hid (fun A B c d w h g => Table_any A B c d x y w h g (by omega) (by omega) hxT' hyT')
    have HB0 := Lib.hid (show [] ++ Pl.bet y 0 0 (rest x y 0 0) = Pl.between x y from rfl)
    have HCY := Lib.hid (fun j q => cut_small hyf j q)
    rw [hbig] at dm
    rw [← hla] at TB LS
    rw [← hlb] at TB LT
    have HLA := Lib.hid hla
    have HLB := Lib.hid hlb
    have HYF := Lib.hid hyf
    clear hla hlb hbig hxf hyf hxT hyT hxT' hyT'
    go_enter Try.func35, Try.ntmps35
    go_wp2_with (first
      | (go_at_call 33; with_reducible refine (LS.out _).mono ?_; rintro e w1 ⟨X, cx, rfl, hcx, hX, hb1⟩)
      | (go_at_call 33; with_reducible refine (LT.out _).mono ?_; rintro e w2 ⟨Y, cy, rfl, hcy, hY, hb2⟩)
      | (go_at_call 57; refine (TB.out _ _ _ _ _ (hX.later hb2) hY).mono ?_; rintro e w3 ⟨rfl, HT0⟩; have HT := Lib.hid HT0; have hb3 := HT0.bel; clear HT0))
    have hb12 := hb1.trans (hb2.mono hb1.size)
    have hb123 := hb12.trans (hb3.mono hb12.size)
    have hX2 := hX.later hb2
    clear wm dm
    go_loopw [9, 10, 11] (fun v iv jv wr => ∃ (i j : Nat) (out : List Pl.Ed), i ≤ la ∧ j ≤ lb ∧ iv = .int .i64 i ∧ jv = .int .i64 j ∧ out.length ≤ i + j ∧ wr.ownsRow w3.heap.size 41 3 v out.length (edcs out) ∧ Below w3.heap.size w3 wr ∧ Hid (out ++ Pl.bet y i j (rest x y i j) = Pl.between x y)) (fun _ iv jv _ => (la - (intOf iv).toNat) + (lb - (intOf jv).toNat))
    case atStart => exact ⟨0, 0, [], Nat.zero_le _, Nat.zero_le _, rfl, rfl, Nat.le_refl _, World.ownsRow_nil _ _ _ _, Below.refl _ _, HB0⟩
    case round =>
      obtain ⟨i, j, out, hi, hj', rfl, rfl, hol, hown, hbw, H1⟩ := hrel
      have h2r := hb3.trans (hbw.mono hb3.size)
      have wI : IntKind.i64.wrap ((i : Int) + 1) = (i : Int) + 1 := IntWalk.i64_in _ (by omega)
      have wJ : IntKind.i64.wrap ((j : Int) + 1) = (j : Int) + 1 := IntWalk.i64_in _ (by omega)
      rcases kinds HLA.out HLB.out hi hj' with ⟨hil, hjl⟩ | ⟨a, hil, hjl, ha, hb⟩ | ⟨a, b, hil, hjl, ha, hb, hab⟩ | ⟨hil, hjl⟩ | ⟨hil, hjl⟩
      · obtain rfl : i = la := by omega
        obtain rfl : j = lb := by omega
        have d1 : decide ((i : Int) < (i : Int)) = false := by simp
        have d1n : decide (i < i) = false := by simp
        have d2 : decide ((j : Int) < (j : Int)) = false := by simp
        have d2n : decide (j < j) = false := by simp
        have HE := Lib.hid (show out = Pl.between x y by
          have := H1.out
          rw [HLA.out, HLB.out, bet_end, List.append_nil] at this; exact this)
        clear H1
        obtain ⟨B, cb, rfl, _, hRd⟩ := own_form hown
        go_wp2
        go_ret2
        rw [HE.out] at hRd ⊢
        exact HN.out _ _ _ hRd (hb123.trans (hbw.mono hb123.size))
      · have HM := Lib.hid (bet_match ha hb)
        obtain ⟨s1, o1, e1, q1, f1⟩ := (hX2.later h2r).st ha
        obtain ⟨s2, o2, e2, q2, f2⟩ := (hY.later h2r).st hb
        subst e1 e2
        have d1 : decide ((i : Int) < (la : Int)) = true := by simp; omega
        have d2 : decide ((j : Int) < (lb : Int)) = true := by simp; omega
        have hqe : ((bs a).toList == (bs a).toList) = true := by simp
        have hqa : (0 : Int) ≤ (i : Int) ∧ (i : Int) < (la : Int) := by omega
        have hqb : (0 : Int) ≤ (j : Int) ∧ (j : Int) < (lb : Int) := by omega
        clear ha hb
        go_wp2
        go_quiet (fail)
        go_wp2
        go_roundw
        case rel => exact ⟨i + 1, j + 1, out, by omega, by omega, by go_num, by go_num, by omega, own_later hown (below_drewN (Below.refl _ _) _), below_drewN hbw _, Lib.hid (by rw [← HM.out]; exact H1.out)⟩
        case measure => simp [intOf]; omega
      · have HNS : Hid (¬ Stop x y i j) := Lib.hid (by
          rintro (⟨e1, _⟩ | ⟨c, e1, e2⟩)
          · rw [← HLA.out] at e1; omega
          · rw [ha] at e1; rw [hb] at e2; simp only [Option.some.injEq] at e1 e2; exact hab (e1.trans e2.symm))
        obtain ⟨s1, o1, e1, q1, f1⟩ := (hX2.later h2r).st ha
        obtain ⟨s2, o2, e2, q2, f2⟩ := (hY.later h2r).st hb
        have d1 : decide ((i : Int) < (la : Int)) = true := by simp; omega
        have d2 : decide ((j : Int) < (lb : Int)) = true := by simp; omega
        have hqe : ((bs a).toList == (bs b).toList) = false := by rw [bs_toList, bs_toList]; simp [hab]
        have hqa : (0 : Int) ≤ (i : Int) ∧ (i : Int) < (la : Int) := by omega
        have hqb : (0 : Int) ≤ (j : Int) ∧ (j : Int) < (lb : Int) := by omega
        subst e1 e2
        clear ha hb hab
        obtain ⟨wo, rfl⟩ : ∃ wo : World, wo = wr := ⟨_, rfl⟩
        obtain ⟨oA, oc, rfl, hoc, _⟩ := own_form hown
        go_wp2
        go_quiet (fail)
        go_wp2
        clear d1 d2 hqe hqa hqb f1 f2 q1 q2
        go_loopw [10, 11] (fun iv jv wi => ∃ p q : Nat, i ≤ p ∧ p ≤ la ∧ j ≤ q ∧ q ≤ lb ∧ iv = .int .i64 p ∧ jv = .int .i64 q ∧ wi.ownsRow w3.heap.size 41 3 (.slice oA out.length oc) out.length (edcs out) ∧ Below w3.heap.size w3 wi ∧ Hid (rest x y i j = rest x y p q) ∧ True) (fun iv jv _ => (la - (intOf iv).toNat) + (lb - (intOf jv).toNat))
        case atStart => exact ⟨i, j, Nat.le_refl _, hi, Nat.le_refl _, hj', rfl, rfl, own_later hown (below_drewN (Below.refl _ _) _), below_drewN hbw _, Lib.hid rfl, trivial⟩
        case round =>
          obtain ⟨p, q, hip, hp, hjq, hq, rfl, rfl, howni, hbwi, HR, hx⟩ := hrel
          obtain ⟨wi, rfl⟩ : ∃ wi : World, wi = wr := ⟨_, rfl⟩
          have wP : IntKind.i64.wrap ((p : Int) + 1) = (p : Int) + 1 := IntWalk.i64_in _ (by omega)
          have wQ : IntKind.i64.wrap ((q : Int) + 1) = (q : Int) + 1 := IntWalk.i64_in _ (by omega)
          have h2i := hb3.trans (hbwi.mono hb3.size)
          clear wI wJ
          rcases kinds HLA.out HLB.out hp hq with ⟨hpl, hql⟩ | ⟨a, hpl, hql, ha, hb⟩ | ⟨a, b, hpl, hql, ha, hb, hab⟩ | ⟨hpl, hql⟩ | ⟨hpl, hql⟩
          · have hend : p = la ∧ q = lb := by omega
            have e1 : decide ((p : Int) < (la : Int)) = false := by simp; omega
            have e1n : decide (p < la) = false := by simp; omega
            have e2 : decide ((q : Int) < (lb : Int)) = false := by simp; omega
            have e2n : decide (q < lb) = false := by simp; omega
            have HS : Hid (Stop x y p q) := Lib.hid (.inl ⟨by rw [← HLA.out]; exact hend.1, by rw [← HLB.out]; exact hend.2⟩)
            clear hend hpl hql
            have hown2 := howni
            have hbw2 := hbwi
            have h2w := hb3.trans (hbwi.mono hb3.size)
            have hne : i < p ∨ j < q := by
              rcases Nat.lt_or_ge i p with e | e
              · exact .inl e
              · rcases Nat.lt_or_ge j q with e2 | e2
                · exact .inr e2
                · exact absurd HS.out (by rw [show p = i by omega, show q = j by omega]; exact HNS.out)
            have H3 : Hid ((out ++ [⟨i, p, (Pl.cut y j q).flatten⟩]) ++ Pl.bet y p q (rest x y p q) = Pl.between x y) := Lib.hid (by rw [← H1.out, HR.out, bet_stop HS.out hne, List.append_assoc]; rfl)
            have HN3 := Lib.hid (edcs_snoc out ⟨i, p, (Pl.cut y j q).flatten⟩)
            simp only at HN3
            have JC := Lib.hid (fun c w' (hb : Below w2.heap.size w2 w') => join_any (some ⟨s2, o2, none⟩) c y (j : Int) (q : Int) w' (by omega) (by rw [← HLB.out]; omega) (by rw [← HLB.out]; omega) (by have := HYF.out; omega) (by rw [← HLB.out]; exact hY.later hb))
            simp only [Int.toNat_natCast] at JC
            rw [← HLB.out] at JC
            generalize (Pl.cut y j q).flatten = z at *
            go_wp2_with (first
              | (go_at_call 51; refine (JC.out _ _ h2w).mono ?_; rintro e w4 ⟨rfl, rfl⟩)
              | (at_builtin; refine wpList_append_own _ rfl _ _ 22 rfl w3.heap.size 41 j0 _ 3 32 Try.underlying22 hj hj0 hj1 hj2 rfl (by decide) _ _ _ rfl (hown2.alloc _) ⟨wi.heap.size, 0, none⟩ 1 1 [.int .i64 i, .int .i64 p, .string (bs z)] rfl rfl (cell_three_new _ _ _ _ _) (by simp [Value.oneCell']) (by unfold maxLen; omega) (by omega) (by have := hbw2.size; simp; omega) ?_; intro v' w5 hown5 hgrow _))
            have hbw5 := (hbw2.alloc hbw2.size (.cells #[.int .i64 i, .int .i64 p, .string (bs z)] 41)).grown hgrow (by have := hbw2.size; simp; omega) (fun q' hq' => (hown2.lt q' hq').1)
            go_wp2
            go_roundw
            case rel => exact ⟨p, q, _, by omega, by omega, rfl, rfl, by rw [List.length_append]; simp; omega, by rw [List.length_append]; rw [HN3.out] at hown5; exact hown5, hbw5, H3⟩
            case measure => simp [intOf]; omega
          · have HS : Hid (Stop x y p q) := Lib.hid (.inr ⟨a, ha, hb⟩)
            obtain ⟨a1, o3, e1, q1, f1⟩ := (hX2.later h2i).st ha
            obtain ⟨a2, o4, e2, q2, f2⟩ := (hY.later h2i).st hb
            simp only [Option.some.injEq, Addr.mk.injEq, and_true] at e1 e2
            obtain ⟨rfl, rfl⟩ := e1
            obtain ⟨rfl, rfl⟩ := e2
            have d1 : decide ((p : Int) < (la : Int)) = true := by simp; omega
            have d2 : decide ((q : Int) < (lb : Int)) = true := by simp; omega
            have hqa : (0 : Int) ≤ (p : Int) ∧ (p : Int) < (la : Int) := by omega
            have hqb : (0 : Int) ≤ (q : Int) ∧ (q : Int) < (lb : Int) := by omega
            have hqe : ((bs a).toList == (bs a).toList) = true := by simp
            clear ha hb
            go_wp2
            go_quiet (fail)
            have hown2 := own_later howni (below_drewN (Below.refl _ _) nq)
            have hbw2 := below_drewN hbwi nq
            have h2w := below_drewN h2i nq
            generalize wi.drewN nq = wj at *
            clear d1 d2 hqa hqb f1 f2 hqe
            have hne : i < p ∨ j < q := by
              rcases Nat.lt_or_ge i p with e | e
              · exact .inl e
              · rcases Nat.lt_or_ge j q with e2 | e2
                · exact .inr e2
                · exact absurd HS.out (by rw [show p = i by omega, show q = j by omega]; exact HNS.out)
            have H3 : Hid ((out ++ [⟨i, p, (Pl.cut y j q).flatten⟩]) ++ Pl.bet y p q (rest x y p q) = Pl.between x y) := Lib.hid (by rw [← H1.out, HR.out, bet_stop HS.out hne, List.append_assoc]; rfl)
            have HN3 := Lib.hid (edcs_snoc out ⟨i, p, (Pl.cut y j q).flatten⟩)
            simp only at HN3
            have JC := Lib.hid (fun c w' (hb : Below w2.heap.size w2 w') => join_any (some ⟨s2, o2, none⟩) c y (j : Int) (q : Int) w' (by omega) (by rw [← HLB.out]; omega) (by rw [← HLB.out]; omega) (by have := HYF.out; omega) (by rw [← HLB.out]; exact hY.later hb))
            simp only [Int.toNat_natCast] at JC
            rw [← HLB.out] at JC
            generalize (Pl.cut y j q).flatten = z at *
            go_wp2_with (first
              | (go_at_call 51; refine (JC.out _ _ h2w).mono ?_; rintro e w4 ⟨rfl, rfl⟩)
              | (at_builtin; refine wpList_append_own _ rfl _ _ 22 rfl w3.heap.size 41 j0 _ 3 32 Try.underlying22 hj hj0 hj1 hj2 rfl (by decide) _ _ _ rfl (hown2.alloc _) ⟨wj.heap.size, 0, none⟩ 1 1 [.int .i64 i, .int .i64 p, .string (bs z)] rfl rfl (cell_three_new _ _ _ _ _) (by simp [Value.oneCell']) (by unfold maxLen; omega) (by omega) (by have := hbw2.size; simp; omega) ?_; intro v' w5 hown5 hgrow _))
            have hbw5 := (hbw2.alloc hbw2.size (.cells #[.int .i64 i, .int .i64 p, .string (bs z)] 41)).grown hgrow (by have := hbw2.size; simp; omega) (fun q' hq' => (hown2.lt q' hq').1)
            go_wp2
            go_roundw
            case rel => exact ⟨p, q, _, by omega, by omega, rfl, rfl, by rw [List.length_append]; simp; omega, by rw [List.length_append]; rw [HN3.out] at hown5; exact hown5, hbw5, H3⟩
            case measure => simp [intOf]; omega
          · obtain ⟨a1, o3, e1, q1, f1⟩ := (hX2.later h2i).st ha
            obtain ⟨a2, o4, e2, q2, f2⟩ := (hY.later h2i).st hb
            simp only [Option.some.injEq, Addr.mk.injEq, and_true] at e1 e2
            obtain ⟨rfl, rfl⟩ := e1
            obtain ⟨rfl, rfl⟩ := e2
            have d1 : decide ((p : Int) < (la : Int)) = true := by simp; omega
            have d2 : decide ((q : Int) < (lb : Int)) = true := by simp; omega
            have hqa : (0 : Int) ≤ (p : Int) ∧ (p : Int) < (la : Int) := by omega
            have hqb : (0 : Int) ≤ (q : Int) ∧ (q : Int) < (lb : Int) := by omega
            have hqe : ((bs a).toList == (bs b).toList) = false := by rw [bs_toList, bs_toList]; simp [hab]
            have e3 : ((q : Int) == (lb : Int)) = false := by simp; omega
            obtain ⟨R0, k0, K0⟩ := HT.out.got hbwi (p := p) (by rw [← HLA.out]; omega)
            obtain ⟨R1, k1, K1⟩ := HT.out.got hbwi (p := p + 1) (by rw [← HLA.out]; omega)
            rw [← HLB.out] at k0 k1
            have m0 := K0 (q + 1) _ (by rw [← HLB.out]; omega) rfl
            have m1 := K1 q _ (by rw [← HLB.out]; omega) rfl
            have HD := fun h => rest_down ha hb hab h
            have HRI := fun h => rest_right ha hb hab h
            generalize Pl.lcs (x.drop p) (y.drop (q + 1)) = v01 at *
            generalize Pl.lcs (x.drop (p + 1)) (y.drop q) = v10 at *
            have l1 : 0 ≤ (p : Int) := by omega
            have l1' : (p : Int) < (la : Int) + 1 := by omega
            have l2 : 0 ≤ (p : Int) + 1 := by omega
            have l2' : (p : Int) + 1 < (la : Int) + 1 := by omega
            have l3 : 0 ≤ (q : Int) := by omega
            have l3' : (q : Int) < (lb : Int) + 1 := by omega
            have l4 : 0 ≤ (q : Int) + 1 := by omega
            have l4' : (q : Int) + 1 < (lb : Int) + 1 := by omega
            have z2 : ((p : Int) + 1).toNat = p + 1 := by omega
            have z4 : ((q : Int) + 1).toNat = q + 1 := by omega
            clear K0 K1 ha hb hab
            by_cases hle : v01 ≤ v10
            · have HQ := Lib.hid (HD hle)
              clear HD HRI
              have d3 : decide ((v01 : Int) ≤ (v10 : Int)) = true := by simp; omega
              go_wp2
              go_quiet (fail)
              go_wp2
              go_quiet (fail)
              go_wp2
              go_roundw
              case rel => exact ⟨p + 1, q, by omega, by omega, by omega, by omega, by go_num, rfl, own_later howni (below_drewN (Below.refl _ _) _), below_drewN hbwi _, Lib.hid (HR.out.trans (HQ.out)), trivial⟩
              case measure => simp [intOf]; omega
            · have HQ := Lib.hid (HRI hle)
              clear HD HRI
              have d3 : decide ((v01 : Int) ≤ (v10 : Int)) = false := by simp; omega
              go_wp2
              go_quiet (fail)
              go_wp2
              go_quiet (fail)
              go_wp2
              go_roundw
              case rel => exact ⟨p, q + 1, by omega, by omega, by omega, by omega, rfl, by go_num, own_later howni (below_drewN (Below.refl _ _) _), below_drewN hbwi _, Lib.hid (HR.out.trans (HQ.out)), trivial⟩
              case measure => simp [intOf]; omega
          · have e1 : decide ((p : Int) < (la : Int)) = true := by simp; omega
            have e2 : decide ((q : Int) < (lb : Int)) = false := by simp; omega
            have e2n : decide (q < lb) = false := by simp; omega
            have e3 : ((q : Int) == (lb : Int)) = true := by simp; omega
            have HQL := Lib.hid hql; clear hql
            go_wp2
            go_quiet (fail)
            go_wp2
            go_quiet (fail)
            go_wp2
            go_roundw
            case rel => exact ⟨p + 1, q, by omega, by omega, by omega, by omega, by go_num, rfl, own_later howni (below_drewN (Below.refl _ _) _), below_drewN hbwi _, Lib.hid (HR.out.trans (rest_down0 (by rw [← HLB.out]; exact HQL.out))), trivial⟩
            case measure => simp [intOf]; omega
          · have e1n : decide (p < la) = false := by simp; omega
            have e1 : decide ((p : Int) < (la : Int)) = false := by simp; omega
            have e2 : decide ((q : Int) < (lb : Int)) = true := by simp; omega
            have e3 : ((q : Int) == (lb : Int)) = false := by simp; omega
            have HPL := Lib.hid hpl; clear hpl
            go_wp2
            go_quiet (fail)
            go_wp2
            go_quiet (fail)
            go_wp2
            go_roundw
            case rel => exact ⟨p, q + 1, by omega, by omega, by omega, by omega, rfl, by go_num, own_later howni (below_drewN (Below.refl _ _) _), below_drewN hbwi _, Lib.hid (HR.out.trans (rest_right0 (by rw [← HLA.out]; exact HPL.out))), trivial⟩
            case measure => simp [intOf]; omega
      · have HNS : Hid (¬ Stop x y i j) := Lib.hid (by
          rintro (⟨e1, _⟩ | ⟨c, e1, e2⟩)
          · rw [← HLA.out] at e1; omega
          · have := (List.getElem?_eq_some_iff.1 e2).1; rw [← HLB.out] at this; omega)
        have d1 : decide ((i : Int) < (la : Int)) = true := by simp; omega
        have d2 : decide ((j : Int) < (lb : Int)) = false := by simp; omega
        have d2n : decide (j < lb) = false := by simp; omega
        have HJL := Lib.hid hjl; clear hjl
        obtain ⟨wo, rfl⟩ : ∃ wo : World, wo = wr := ⟨_, rfl⟩
        obtain ⟨oA, oc, rfl, hoc, _⟩ := own_form hown
        go_wp2
        go_quiet (fail)
        go_wp2
        clear d1 d2 d2n
        go_loopw [10, 11] (fun iv jv wi => ∃ p q : Nat, i ≤ p ∧ p ≤ la ∧ j ≤ q ∧ q ≤ lb ∧ iv = .int .i64 p ∧ jv = .int .i64 q ∧ wi.ownsRow w3.heap.size 41 3 (.slice oA out.length oc) out.length (edcs out) ∧ Below w3.heap.size w3 wi ∧ Hid (rest x y i j = rest x y p q) ∧ Hid (lb ≤ q)) (fun iv jv _ => (la - (intOf iv).toNat) + (lb - (intOf jv).toNat))
        case atStart => exact ⟨i, j, Nat.le_refl _, hi, Nat.le_refl _, hj', rfl, rfl, own_later hown (below_drewN (Below.refl _ _) _), below_drewN hbw _, Lib.hid rfl, HJL⟩
        case round =>
          obtain ⟨p, q, hip, hp, hjq, hq, rfl, rfl, howni, hbwi, HR, hx⟩ := hrel
          obtain ⟨wi, rfl⟩ : ∃ wi : World, wi = wr := ⟨_, rfl⟩
          have wP : IntKind.i64.wrap ((p : Int) + 1) = (p : Int) + 1 := IntWalk.i64_in _ (by omega)
          have wQ : IntKind.i64.wrap ((q : Int) + 1) = (q : Int) + 1 := IntWalk.i64_in _ (by omega)
          have h2i := hb3.trans (hbwi.mono hb3.size)
          clear wI wJ
          rcases Nat.lt_or_ge p la with hpl | hpl
          · have e1 : decide ((p : Int) < (la : Int)) = true := by simp; omega
            have e2 : decide ((q : Int) < (lb : Int)) = false := by have := hx.out; simp; omega
            have e2n : decide (q < lb) = false := by have := hx.out; simp; omega
            have e3 : ((q : Int) == (lb : Int)) = true := by have := hx.out; simp; omega
            go_wp2
            go_quiet (fail)
            go_wp2
            go_quiet (fail)
            go_wp2
            go_roundw
            case rel => exact ⟨p + 1, q, by omega, by omega, by omega, by omega, by go_num, rfl, own_later howni (below_drewN (Below.refl _ _) _), below_drewN hbwi _, Lib.hid (HR.out.trans (rest_down0 (by rw [← HLB.out]; exact hx.out))), hx⟩
            case measure => simp [intOf]; omega
          · have hend : p = la ∧ q = lb := by have := hx.out; omega
            have e1 : decide ((p : Int) < (la : Int)) = false := by simp; omega
            have e1n : decide (p < la) = false := by simp; omega
            have e2 : decide ((q : Int) < (lb : Int)) = false := by simp; omega
            have e2n : decide (q < lb) = false := by simp; omega
            have HS : Hid (Stop x y p q) := Lib.hid (.inl ⟨by rw [← HLA.out]; exact hend.1, by rw [← HLB.out]; exact hend.2⟩)
            clear hend hpl
            have hown2 := howni
            have hbw2 := hbwi
            have h2w := hb3.trans (hbwi.mono hb3.size)
            have hne : i < p ∨ j < q := by
              rcases Nat.lt_or_ge i p with e | e
              · exact .inl e
              · rcases Nat.lt_or_ge j q with e2 | e2
                · exact .inr e2
                · exact absurd HS.out (by rw [show p = i by omega, show q = j by omega]; exact HNS.out)
            have H3 : Hid ((out ++ [⟨i, p, (Pl.cut y j q).flatten⟩]) ++ Pl.bet y p q (rest x y p q) = Pl.between x y) := Lib.hid (by rw [← H1.out, HR.out, bet_stop HS.out hne, List.append_assoc]; rfl)
            have HN3 := Lib.hid (edcs_snoc out ⟨i, p, (Pl.cut y j q).flatten⟩)
            simp only at HN3
            have JC := Lib.hid (fun c w' (hb : Below w2.heap.size w2 w') => join_any Y c y (j : Int) (q : Int) w' (by omega) (by rw [← HLB.out]; omega) (by rw [← HLB.out]; omega) (by have := HYF.out; omega) (by rw [← HLB.out]; exact hY.later hb))
            simp only [Int.toNat_natCast] at JC
            rw [← HLB.out] at JC
            generalize (Pl.cut y j q).flatten = z at *
            go_wp2_with (first
              | (go_at_call 51; refine (JC.out _ _ h2w).mono ?_; rintro e w4 ⟨rfl, rfl⟩)
              | (at_builtin; refine wpList_append_own _ rfl _ _ 22 rfl w3.heap.size 41 j0 _ 3 32 Try.underlying22 hj hj0 hj1 hj2 rfl (by decide) _ _ _ rfl (hown2.alloc _) ⟨wi.heap.size, 0, none⟩ 1 1 [.int .i64 i, .int .i64 p, .string (bs z)] rfl rfl (cell_three_new _ _ _ _ _) (by simp [Value.oneCell']) (by unfold maxLen; omega) (by omega) (by have := hbw2.size; simp; omega) ?_; intro v' w5 hown5 hgrow _))
            have hbw5 := (hbw2.alloc hbw2.size (.cells #[.int .i64 i, .int .i64 p, .string (bs z)] 41)).grown hgrow (by have := hbw2.size; simp; omega) (fun q' hq' => (hown2.lt q' hq').1)
            go_wp2
            go_roundw
            case rel => exact ⟨p, q, _, by omega, by omega, rfl, rfl, by rw [List.length_append]; simp; omega, by rw [List.length_append]; rw [HN3.out] at hown5; exact hown5, hbw5, H3⟩
            case measure => simp [intOf]; omega
      · have HNS : Hid (¬ Stop x y i j) := Lib.hid (by
          rintro (⟨_, e1⟩ | ⟨c, e1, e2⟩)
          · rw [← HLB.out] at e1; omega
          · have := (List.getElem?_eq_some_iff.1 e1).1; rw [← HLA.out] at this; omega)
        have d1 : decide ((i : Int) < (la : Int)) = false := by simp; omega
        have d1n : decide (i < la) = false := by simp; omega
        have d2 : decide ((j : Int) < (lb : Int)) = true := by simp; omega
        have HIL := Lib.hid hil; clear hil
        obtain ⟨wo, rfl⟩ : ∃ wo : World, wo = wr := ⟨_, rfl⟩
        obtain ⟨oA, oc, rfl, hoc, _⟩ := own_form hown
        go_wp2
        go_quiet (fail)
        go_wp2
        clear d1 d2 d1n
        go_loopw [10, 11] (fun iv jv wi => ∃ p q : Nat, i ≤ p ∧ p ≤ la ∧ j ≤ q ∧ q ≤ lb ∧ iv = .int .i64 p ∧ jv = .int .i64 q ∧ wi.ownsRow w3.heap.size 41 3 (.slice oA out.length oc) out.length (edcs out) ∧ Below w3.heap.size w3 wi ∧ Hid (rest x y i j = rest x y p q) ∧ Hid (la ≤ p)) (fun iv jv _ => (la - (intOf iv).toNat) + (lb - (intOf jv).toNat))
        case atStart => exact ⟨i, j, Nat.le_refl _, hi, Nat.le_refl _, hj', rfl, rfl, own_later hown (below_drewN (Below.refl _ _) _), below_drewN hbw _, Lib.hid rfl, HIL⟩
        case round =>
          obtain ⟨p, q, hip, hp, hjq, hq, rfl, rfl, howni, hbwi, HR, hx⟩ := hrel
          obtain ⟨wi, rfl⟩ : ∃ wi : World, wi = wr := ⟨_, rfl⟩
          have wP : IntKind.i64.wrap ((p : Int) + 1) = (p : Int) + 1 := IntWalk.i64_in _ (by omega)
          have wQ : IntKind.i64.wrap ((q : Int) + 1) = (q : Int) + 1 := IntWalk.i64_in _ (by omega)
          have h2i := hb3.trans (hbwi.mono hb3.size)
          clear wI wJ
          rcases Nat.lt_or_ge q lb with hql | hql
          · have e1 : decide ((p : Int) < (la : Int)) = false := by have := hx.out; simp; omega
            have e1n : decide (p < la) = false := by have := hx.out; simp; omega
            have e2 : decide ((q : Int) < (lb : Int)) = true := by simp; omega
            have e3 : ((q : Int) == (lb : Int)) = false := by simp; omega
            go_wp2
            go_quiet (fail)
            go_wp2
            go_quiet (fail)
            go_wp2
            go_roundw
            case rel => exact ⟨p, q + 1, by omega, by omega, by omega, by omega, rfl, by go_num, own_later howni (below_drewN (Below.refl _ _) _), below_drewN hbwi _, Lib.hid (HR.out.trans (rest_right0 (by rw [← HLA.out]; exact hx.out))), hx⟩
            case measure => simp [intOf]; omega
          · have hend : p = la ∧ q = lb := by have := hx.out; omega
            have e1 : decide ((p : Int) < (la : Int)) = false := by simp; omega
            have e1n : decide (p < la) = false := by simp; omega
            have e2 : decide ((q : Int) < (lb : Int)) = false := by simp; omega
            have e2n : decide (q < lb) = false := by simp; omega
            have HS : Hid (Stop x y p q) := Lib.hid (.inl ⟨by rw [← HLA.out]; exact hend.1, by rw [← HLB.out]; exact hend.2⟩)
            clear hend hql
            have hown2 := howni
            have hbw2 := hbwi
            have h2w := hb3.trans (hbwi.mono hb3.size)
            have hne : i < p ∨ j < q := by
              rcases Nat.lt_or_ge i p with e | e
              · exact .inl e
              · rcases Nat.lt_or_ge j q with e2 | e2
                · exact .inr e2
                · exact absurd HS.out (by rw [show p = i by omega, show q = j by omega]; exact HNS.out)
            have H3 : Hid ((out ++ [⟨i, p, (Pl.cut y j q).flatten⟩]) ++ Pl.bet y p q (rest x y p q) = Pl.between x y) := Lib.hid (by rw [← H1.out, HR.out, bet_stop HS.out hne, List.append_assoc]; rfl)
            have HN3 := Lib.hid (edcs_snoc out ⟨i, p, (Pl.cut y j q).flatten⟩)
            simp only at HN3
            have JC := Lib.hid (fun c w' (hb : Below w2.heap.size w2 w') => join_any Y c y (j : Int) (q : Int) w' (by omega) (by rw [← HLB.out]; omega) (by rw [← HLB.out]; omega) (by have := HYF.out; omega) (by rw [← HLB.out]; exact hY.later hb))
            simp only [Int.toNat_natCast] at JC
            rw [← HLB.out] at JC
            generalize (Pl.cut y j q).flatten = z at *
            go_wp2_with (first
              | (go_at_call 51; refine (JC.out _ _ h2w).mono ?_; rintro e w4 ⟨rfl, rfl⟩)
              | (at_builtin; refine wpList_append_own _ rfl _ _ 22 rfl w3.heap.size 41 j0 _ 3 32 Try.underlying22 hj hj0 hj1 hj2 rfl (by decide) _ _ _ rfl (hown2.alloc _) ⟨wi.heap.size, 0, none⟩ 1 1 [.int .i64 i, .int .i64 p, .string (bs z)] rfl rfl (cell_three_new _ _ _ _ _) (by simp [Value.oneCell']) (by unfold maxLen; omega) (by omega) (by have := hbw2.size; simp; omega) ?_; intro v' w5 hown5 hgrow _))
            have hbw5 := (hbw2.alloc hbw2.size (.cells #[.int .i64 i, .int .i64 p, .string (bs z)] 41)).grown hgrow (by have := hbw2.size; simp; omega) (fun q' hq' => (hown2.lt q' hq').1)
            go_wp2
            go_roundw
            case rel => exact ⟨p, q, _, by omega, by omega, rfl, rfl, by rw [List.length_append]; simp; omega, by rw [List.length_append]; rw [HN3.out] at hown5; exact hown5, hbw5, H3⟩
            case measure => simp [intOf]; omega
  · have HN := Lib.hid (fun w' hb => BetPost.no (w := w) (w' := w') hbig hb)
    rw [hbig] at dm
    rw [← hla] at LS
    rw [← hlb] at LT
    clear hla hlb hbig
    go_enter Try.func35, Try.ntmps35
    go_wp2_with (first
      | (go_at_call 33; with_reducible refine (LS.out _).mono ?_; rintro e w1 ⟨X, cx, rfl, hcx, hX, hb1⟩)
      | (go_at_call 33; with_reducible refine (LT.out _).mono ?_; rintro e w2 ⟨Y, cy, rfl, hcy, hY, hb2⟩))
    go_ret2
    exact HN.out _ (hb1.trans (hb2.mono hb1.size))

end Go.Proofs.Ytnijaleedbmljaa
