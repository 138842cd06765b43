/- Several texts in one. -/
import Derived.Test.YtliabgcpciekpaaDoorTrM
import Derived.Test.YtliabgcpciekpaaDoorTrN
import Derived.Test.YtliabgcpciekpaaDoorTrK
import Derived.Laws.DeepStrings4
import Derived.BigQuiet
import Derived.Laws.AppendOwnNone
import Derived.Test.YtliabgcpciekpaaDoorTrJ
import Derived.Test.YtliabgcpciekpaaDoorYrM
import Derived.Test.YtliabgcpciekpaaDoorYrJ
import Derived.Test.YtliabgcpciekpaaDoorYrP
/-! Walks: a path's names, as the document reads them. -/
set_option linter.unusedVariables false
set_option linter.unusedSimpArgs false
namespace Go.Proofs.YtliabgcpciekpaaDoor
open Go Go.RowKit Go.Maps

namespace Tr
theorem spl_has {u : T} {c : UInt8} (h : c ∈ u) (hc : c ≠ 47) : ∃ x ∈ spl 47 u, c ∈ x := by
  induction u with
  | nil => simp at h
  | cons y r ih =>
    simp only [spl]
    split
    · next hy =>
      rcases List.mem_cons.1 h with h | h
      · exact absurd (h.trans hy) hc
      · obtain ⟨x, h1, h2⟩ := ih h
        exact ⟨x, List.mem_cons_of_mem _ h1, h2⟩
    · cases hs : spl 47 r with
      | nil => exact absurd hs (spl_ne 47 r)
      | cons p q =>
        simp only
        rcases List.mem_cons.1 h with h | h
        · exact ⟨y :: p, by simp, by simp [h]⟩
        · obtain ⟨x, h1, h2⟩ := ih h
          rw [hs] at h1
          rcases List.mem_cons.1 h1 with rfl | h1
          · exact ⟨y :: x, by simp, by simp [h2]⟩
          · exact ⟨x, by simp [h1], h2⟩
theorem bad_char {t : T} {k : Nat} {c : UInt8} (h : t[k]? = some c) (hc : c ≠ 47) (ho : okc c = false) : isPath t = false := by
  obtain ⟨x, h1, h2⟩ := spl_has (List.mem_of_getElem? h) hc
  refine isPath_bad h1 ?_
  have : ¬ isName x = true := fun e => by rw [List.all_eq_true.1 ((isName_iff x).1 e).2.2.2.2 c h2] at ho; cases ho
  simpa using this
/-- What the document's Names has read. -/
structure NmI (t : T) (f i : Nat) (l : List T) : Prop where
  fi : f ≤ i
  le : i ≤ t.length
  cat : l ++ spl 47 (t.drop f) = spl 47 t
  ok : ∀ x ∈ l, isName x = true
  ch : ((t.take i).drop f).all okc = true
  ln : l.length ≤ f
theorem NmI.start (t : T) : NmI t 0 0 [] := ⟨Nat.le_refl _, Nat.zero_le _, rfl, by simp, by simp, Nat.le_refl _⟩
theorem NmI.char {t : T} {f i : Nat} {l : List T} (h : NmI t f i l) {c : UInt8} (hc : t[i]? = some c) (ho : okc c = true) : NmI t f (i + 1) l := by
  have hi := (List.getElem?_eq_some_iff.1 hc).1
  refine ⟨by have := h.fi; omega, hi, h.cat, h.ok, ?_, h.ln⟩
  have hf := h.fi
  rw [List.take_add_one, hc, List.drop_append, List.all_append, h.ch]
  simp only [List.length_take, Bool.true_and]
  rw [show f - min i t.length = 0 by omega]
  simp [ho]
theorem NmI.free {t : T} {f i : Nat} {l : List T} (h : NmI t f i l) : 47 ∉ (t.take i).drop f := fun e => by
  have := List.all_eq_true.1 h.ch 47 e
  simp [okc] at this
/-- The piece that ends here, and what is left. -/
theorem NmI.cut {t : T} {f i : Nat} {l : List T} (h : NmI t f i l) (hi : t[i]? = some 47) : spl 47 (t.drop f) = (t.take i).drop f :: spl 47 (t.drop (i + 1)) := by
  have hil := (List.getElem?_eq_some_iff.1 hi).1
  have hf := h.fi
  have := spl_at (c := 47) (t := t.drop f) (j := i - f) (by simp; omega) (by have := h.free; rwa [List.drop_take] at this) (by rw [List.getElem?_drop, show f + (i - f) = i by omega]; exact hi)
  rw [this, List.drop_drop, List.drop_take, show f + (i - f + 1) = i + 1 by omega]
theorem NmI.last {t : T} {f : Nat} {l : List T} (h : NmI t f t.length l) : spl 47 (t.drop f) = [(t.take t.length).drop f] := by
  have := h.free
  rw [List.take_length] at this ⊢
  exact spl_no this
/-- A piece that is no name. -/
theorem NmI.no {t : T} {f i : Nat} {l r : List T} (h : NmI t f i l) (hs : spl 47 (t.drop f) = (t.take i).drop f :: r) (hx : isName ((t.take i).drop f) = false) : isPath t = false :=
  isPath_bad (x := (t.take i).drop f) (by rw [← h.cat, hs]; simp) hx
theorem NmI.yes {t : T} {f i : Nat} {l r : List T} (h : NmI t f i l) (h1 : (t.take i).drop f ≠ []) (h2 : ((t.take i).drop f).length ≤ 32) (h3 : (t.take i).drop f ≠ [46]) (h4 : (t.take i).drop f ≠ [46, 46]) : isName ((t.take i).drop f) = true :=
  (isName_iff _).2 ⟨h1, h2, h3, h4, h.ch⟩
theorem NmI.next {t : T} {f i : Nat} {l : List T} (h : NmI t f i l) (hi : t[i]? = some 47) (hx : isName ((t.take i).drop f) = true) : NmI t (i + 1) (i + 1) (l ++ [(t.take i).drop f]) := by
  have hil := (List.getElem?_eq_some_iff.1 hi).1
  have h5 := h.fi
  have h6 := h.ln
  refine ⟨Nat.le_refl _, hil, ?_, fun x hx2 => ?_, by simp, by simp; omega⟩
  · rw [← h.cat, h.cut hi, List.append_assoc]; rfl
  · rcases List.mem_append.1 hx2 with e | e
    · exact h.ok x e
    · rw [List.mem_singleton.1 e]; exact hx
theorem NmI.done {t : T} {f : Nat} {l : List T} (h : NmI t f t.length l) (hx : isName ((t.take t.length).drop f) = true) : l ++ [(t.take t.length).drop f] = spl 47 t ∧ isPath t = decide ((spl 47 t).length ≤ 20) := by
  have e : l ++ [(t.take t.length).drop f] = spl 47 t := by rw [← h.cat, h.last]
  refine ⟨e, ?_⟩
  unfold isPath
  have : (spl 47 t).all isName = true := by
    rw [← e, List.all_append, List.all_eq_true.2 h.ok]
    simp only [List.all_cons, List.all_nil, hx, Bool.and_true]
  rw [this, Bool.and_true]
/-- Before and behind the last piece. -/
def NmS (t : T) (f k : Nat) (l : List T) : Prop := NmI t f k l ∨ (k = t.length + 1 ∧ f = t.length + 1 ∧ l = spl 47 t ∧ isPath t = decide ((spl 47 t).length ≤ 20))
end Tr

def NmRes (t : Tr.T) (w : World) (e : Ending) (w' : World) : Prop :=
  ∃ v, e = .returned (.tuple #[v, .bool (Tr.isPath t)]) ∧ (Tr.isPath t = true → w'.ownsRow w.heap.size 9 1 v (Tr.spl 47 t).length (sts (Tr.spl 47 t))) ∧ Below w.heap.size w w'

theorem NmRes.of {t : Tr.T} {w w' : World} {v : Value} {b : Bool} (h : Tr.isPath t = b) (ho : b = true → w'.ownsRow w.heap.size 9 1 v (Tr.spl 47 t).length (sts (Tr.spl 47 t))) (hb : Below w.heap.size w w') :
    NmRes t w (.returned (.tuple #[v, .bool b])) w' := ⟨v, by rw [h], fun e => ho (h ▸ e), hb⟩
theorem bs_extract (t : Tr.T) (a b : Nat) : (bs t).extract a b = bs ((t.take b).drop a) := by
  rw [Lib.extract_eq, bs_data, List.drop_take]; rfl

set_option maxRecDepth 100000 in
set_option maxHeartbeats 8000000 in
theorem Names_any (t : Tr.T) (w : World) (hl : t.length ≤ 4000000) :
    Calls Tryd.prog 29 #[.string (bs t)] w (NmRes t w) := by
  obtain ⟨i0, hi, hz0, hz1, hz2⟩ := info_parts strInfo
  have hts : (bs t).size = t.length := bs_size t
  go_enter Tryd.func29, Tryd.ntmps29
  go_wp2
  go_loopw [4, 5, 6] (fun v fr i wr => ∃ (f k : Nat) (l : List Tr.T), fr = .int .i64 f ∧ i = .int .i64 k ∧ f ≤ k ∧ k ≤ t.length + 1 ∧ l.length ≤ k ∧ Hid (Tr.NmS t f k l) ∧ wr.ownsRow w.heap.size 9 1 v l.length (sts l) ∧ Below w.heap.size w wr) (fun _ _ i _ => t.length + 1 - (intOf i).toNat)
  case atStart => exact ⟨0, 0, [], rfl, rfl, Nat.le_refl _, Nat.zero_le _, Nat.le_refl _, Lib.hid (.inl (Tr.NmI.start t)), World.ownsRow_nil _ _ _ _, Below.refl _ _⟩
  case round =>
    obtain ⟨f, k, l, rfl, rfl, hfk, hk, hlk, HS, hown, hb⟩ := hrel
    obtain ⟨A, c, rfl, hnc, hrd⟩ := own_form hown
    obtain ⟨wo, rfl⟩ : ∃ wo : World, wo = wr := ⟨_, rfl⟩
    clear hrd
    have HB := Lib.hid hb
    have HO := Lib.hid hown
    have hbs := hb.size
    clear hb hown
    by_cases hend : k = t.length + 1
    · subst hend
      have HP := Lib.hid (show l = Tr.spl 47 t ∧ Tr.isPath t = decide ((Tr.spl 47 t).length ≤ 20) from by
        rcases HS.out with h | h
        · have := h.le; omega
        · exact ⟨h.2.2.1, h.2.2.2⟩)
      clear HS
      obtain ⟨n, hn⟩ : ∃ n, l.length = n := ⟨_, rfl⟩
      rw [hn]
      have HN := Lib.hid hn
      rw [hn] at hlk hnc
      clear hn
      have HQ := Lib.hid (show Tr.isPath t = decide ((n : Int) ≤ 20) by rw [HP.out.2, ← HP.out.1, HN.out, decide_eq_decide]; omega)
      go_wp2
      go_ret2
      exact NmRes.of HQ.out (fun _ => by rw [← HP.out.1, HN.out]; have := HO.out; rwa [HN.out] at this) HB.out
    have HI := Lib.hid (show Tr.NmI t f k l from by
      rcases HS.out with h | h
      · exact h
      · exact absurd h.1 hend)
    clear HS
    have hkl : k ≤ t.length := by omega
    clear hend hk
    by_cases hlt : k < t.length
    · have hks : k < (bs t).size := by omega
      have hgk := ba_get (bs t) k hks
      rw [bs_data] at hgk
      by_cases c3 : (bs t)[k].toNat = 47
      · have c3I : (((bs t)[k]).toNat : Int) = 47 := by omega
        have hc47 : (bs t)[k] = 47 := UInt8.toNat_inj.1 c3
        rw [hc47] at hgk
        have hcut := bs_extract t f k
        have HSP := Lib.hid (HI.out.cut hgk)
        have HNO := Lib.hid (fun h => HI.out.no HSP.out h)
        have HYES := Lib.hid (fun h1 h2 h3 h4 => HI.out.yes (r := []) h1 h2 h3 h4)
        have HNEXT := Lib.hid (fun h => (show Tr.NmS t (k + 1) (k + 1) (l ++ [(t.take k).drop f]) from .inl (HI.out.next hgk h)))
        clear hgk HI
        generalize hX : (t.take k).drop f = X at *
        clear hX
        have htl : (bs X).toList = X := bs_toList X
        obtain ⟨ml, hml⟩ : ∃ ml, X.length = ml := ⟨_, rfl⟩
        have hxs : (bs X).size = ml := by rw [bs_size]; exact hml
        by_cases h1 : ml = 0
        · have HF := Lib.hid (HNO.out (Tr.isName_no fun h => h.1 (List.eq_nil_of_length_eq_zero (hml.trans h1))))
          subst h1
          clear hml
          go_wp2
          go_ret2
          exact NmRes.of HF.out (fun h => by cases h) HB.out
        have h1L : 1 ≤ ml := by omega
        have h1I : ¬ (ml : Int) < 1 := by omega
        by_cases h2 : 32 < ml
        · have HF := Lib.hid (HNO.out (Tr.isName_no fun h => by have := h.2.1; omega))
          clear hml h1
          go_wp2
          go_ret2
          exact NmRes.of HF.out (fun h => by cases h) HB.out
        by_cases h3 : X = [46]
        · have HF := Lib.hid (HNO.out (Tr.isName_no fun h => h.2.2.1 h3))
          subst h3
          simp only [List.length_cons, List.length_nil] at hml
          subst hml
          clear h1 h1L h1I
          go_wp2
          go_ret2
          exact NmRes.of HF.out (fun h => by cases h) HB.out
        have b3 : (X == [46]) = false := beq_eq_false_iff_ne.2 h3
        by_cases h4 : X = [46, 46]
        · have HF := Lib.hid (HNO.out (Tr.isName_no fun h => h.2.2.2.1 h4))
          subst h4
          simp only [List.length_cons, List.length_nil] at hml
          subst hml
          clear h1 h1L h1I h3 b3
          go_wp2
          go_ret2
          exact NmRes.of HF.out (fun h => by cases h) HB.out
        have b4 : (X == [46, 46]) = false := beq_eq_false_iff_ne.2 h4
        have HNX := Lib.hid (HYES.out (fun e => h1 (by rw [← hml, e]; rfl)) (by omega) h3 h4)
        clear hml h1 h3 h4 HNO HYES
        have hbd : (l.length + 1) * 16 ≤ 140737488355328 := by omega
        go_wp2_with (first
          | (at_builtin; refine wpList_append_own _ rfl _ _ 38 rfl w.heap.size 9 i0 (.string ⟨#[]⟩) 1 16 Tryd.underlying38 hi hz0 hz1 hz2 rfl (by decide) _ _ _ rfl (HO.out.alloc _) ⟨wo.heap.size, 0, none⟩ 1 1 [.string (bs X)] rfl rfl (cell_one_new _ _ _) (by simp [Value.oneCell']) (by unfold maxLen; omega) (by omega) (by simp; omega) ?_; intro v' w6 hown' hg3 hnil3; have hown' := Lib.hid hown'; have hg3 := Lib.hid hg3; clear hnil3; go_frame))
        have hb5 := HB.out.alloc HB.out.size (.cells #[.string (bs X)] 9)
        have hb6 := hb5.grown hg3.out hb5.size (fun k e => (HO.out.lt k e).1)
        have ho6 := hown'.out
        rw [← sts_snoc] at ho6
        go_roundw
        case rel => exact ⟨k + 1, k + 1, l ++ [X], by go_num, by go_num, Nat.le_refl _, by omega, by simp; omega, Lib.hid (HNEXT.out HNX.out), by rw [List.length_append]; exact ho6, hb6⟩
        case measure => simp [intOf]; omega
      have c3I : ¬ (((bs t)[k]).toNat : Int) = 47 := by omega
      have c3B : ((((bs t)[k]).toNat : Int) == 47) = false := beq_eq_false_iff_ne.2 c3I
      have c3N : (((bs t)[k]).toNat == 47) = false := beq_eq_false_iff_ne.2 c3
      have hc47 : (bs t)[k] ≠ 47 := fun e => c3 (by rw [e]; rfl)
      by_cases c1 : (bs t)[k].toNat < 33
      · have HF := Lib.hid (Tr.bad_char hgk hc47 (Tr.okc_no (by omega)))
        clear hgk hc47
        go_wp2
        go_ret2
        exact NmRes.of HF.out (fun h => by cases h) HB.out
      by_cases c2 : 126 < (bs t)[k].toNat
      · have HF := Lib.hid (Tr.bad_char hgk hc47 (Tr.okc_no (by omega)))
        clear hgk hc47
        go_wp2
        go_ret2
        exact NmRes.of HF.out (fun h => by cases h) HB.out
      have HI2 := Lib.hid (HI.out.char hgk ((Tr.okc_iff _).2 ⟨by omega, by omega, c3⟩))
      clear hgk hc47
      go_wp2
      go_roundw
      case rel => exact ⟨f, k + 1, l, rfl, by go_num, by omega, by omega, by omega, Lib.hid (.inl HI2.out), HO.out, HB.out⟩
      case measure => simp [intOf]; omega
    · obtain rfl : k = t.length := by omega
      have hcut := bs_extract t f t.length
      have HSP := Lib.hid (HI.out.last)
      have HNO := Lib.hid (fun h => HI.out.no HSP.out h)
      have HYES := Lib.hid (fun h1 h2 h3 h4 => HI.out.yes (r := []) h1 h2 h3 h4)
      have HNEXT := Lib.hid (fun h => (show Tr.NmS t (t.length + 1) (t.length + 1) (l ++ [(t.take t.length).drop f]) from .inr ⟨rfl, rfl, HI.out.done h⟩))
      clear HI
      generalize hX : (t.take t.length).drop f = X at *
      clear hX
      have htl : (bs X).toList = X := bs_toList X
      obtain ⟨ml, hml⟩ : ∃ ml, X.length = ml := ⟨_, rfl⟩
      have hxs : (bs X).size = ml := by rw [bs_size]; exact hml
      by_cases h1 : ml = 0
      · have HF := Lib.hid (HNO.out (Tr.isName_no fun h => h.1 (List.eq_nil_of_length_eq_zero (hml.trans h1))))
        subst h1
        clear hml
        go_wp2
        go_ret2
        exact NmRes.of HF.out (fun h => by cases h) HB.out
      have h1L : 1 ≤ ml := by omega
      have h1I : ¬ (ml : Int) < 1 := by omega
      by_cases h2 : 32 < ml
      · have HF := Lib.hid (HNO.out (Tr.isName_no fun h => by have := h.2.1; omega))
        clear hml h1
        go_wp2
        go_ret2
        exact NmRes.of HF.out (fun h => by cases h) HB.out
      by_cases h3 : X = [46]
      · have HF := Lib.hid (HNO.out (Tr.isName_no fun h => h.2.2.1 h3))
        subst h3
        simp only [List.length_cons, List.length_nil] at hml
        subst hml
        clear h1 h1L h1I
        go_wp2
        go_ret2
        exact NmRes.of HF.out (fun h => by cases h) HB.out
      have b3 : (X == [46]) = false := beq_eq_false_iff_ne.2 h3
      by_cases h4 : X = [46, 46]
      · have HF := Lib.hid (HNO.out (Tr.isName_no fun h => h.2.2.2.1 h4))
        subst h4
        simp only [List.length_cons, List.length_nil] at hml
        subst hml
        clear h1 h1L h1I h3 b3
        go_wp2
        go_ret2
        exact NmRes.of HF.out (fun h => by cases h) HB.out
      have b4 : (X == [46, 46]) = false := beq_eq_false_iff_ne.2 h4
      have HNX := Lib.hid (HYES.out (fun e => h1 (by rw [← hml, e]; rfl)) (by omega) h3 h4)
      clear hml h1 h3 h4 HNO HYES
      have hbd : (l.length + 1) * 16 ≤ 140737488355328 := by omega
      go_wp2_with (first
        | (at_builtin; refine wpList_append_own _ rfl _ _ 38 rfl w.heap.size 9 i0 (.string ⟨#[]⟩) 1 16 Tryd.underlying38 hi hz0 hz1 hz2 rfl (by decide) _ _ _ rfl (HO.out.alloc _) ⟨wo.heap.size, 0, none⟩ 1 1 [.string (bs X)] rfl rfl (cell_one_new _ _ _) (by simp [Value.oneCell']) (by unfold maxLen; omega) (by omega) (by simp; omega) ?_; intro v' w6 hown' hg3 hnil3; have hown' := Lib.hid hown'; have hg3 := Lib.hid hg3; clear hnil3; go_frame))
      have hb5 := HB.out.alloc HB.out.size (.cells #[.string (bs X)] 9)
      have hb6 := hb5.grown hg3.out hb5.size (fun k e => (HO.out.lt k e).1)
      have ho6 := hown'.out
      rw [← sts_snoc] at ho6
      go_roundw
      case rel => exact ⟨t.length + 1, t.length + 1, l ++ [X], by go_num, by go_num, Nat.le_refl _, by omega, by simp; omega, Lib.hid (HNEXT.out HNX.out), by rw [List.length_append]; exact ho6, hb6⟩
      case measure => simp [intOf]

end Go.Proofs.YtliabgcpciekpaaDoor

/-! Walks: a file's text, and two lists of texts compared, as the document has them. -/
set_option linter.unusedVariables false
set_option linter.unusedSimpArgs false
namespace Go.Proofs.YtliabgcpciekpaaDoor
open Go Go.RowKit Go.Maps

namespace Tr
theorem txt_nil (x : T) : txt [] x = [] := rfl
theorem txt_cons (f : T × T) (r : List (T × T)) (x : T) : txt (f :: r) x = if f.1 = x then f.2 else txt r x := by
  unfold txt nms
  rw [List.map_cons, List.idxOf_cons]
  by_cases e : f.1 = x
  · rw [if_pos e, beq_iff_eq.2 e]; rfl
  · rw [if_neg e, beq_eq_false_iff_ne.2 e]; rfl
theorem txt_first {x : T} : ∀ {fs : List (T × T)} {k : Nat} {f : T × T}, fs[k]? = some f → f.1 = x → (∀ g ∈ fs.take k, g.1 ≠ x) → txt fs x = f.2 ∧ x ∈ nms fs
  | [], k, f => by intro h; simp at h
  | e :: r, 0, f => by
    intro h hx _
    simp only [List.getElem?_cons_zero, Option.some.injEq] at h
    subst h
    exact ⟨by rw [txt_cons, if_pos hx], by simp [nms, hx]⟩
  | e :: r, k + 1, f => by
    intro h hx hn
    simp only [List.getElem?_cons_succ] at h
    have h1 := hn e (by simp)
    have := txt_first h hx (fun g hg => hn g (by simp [hg]))
    exact ⟨by rw [txt_cons, if_neg h1]; exact this.1, by have h2 := this.2; simp [nms] at h2 ⊢; exact .inr h2⟩
theorem txt_none {x : T} : ∀ {fs : List (T × T)}, (∀ g ∈ fs, g.1 ≠ x) → txt fs x = [] ∧ x ∉ nms fs
  | [], _ => ⟨rfl, by simp [nms]⟩
  | e :: r, hn => by
    have h1 := hn e (by simp)
    have := txt_none (fs := r) (fun g hg => hn g (by simp [hg]))
    refine ⟨by rw [txt_cons, if_neg h1]; exact this.1, ?_⟩
    have h2 := this.2
    simp only [nms, List.map_cons, List.mem_cons, not_or] at h2 ⊢
    exact ⟨fun e2 => h1 e2.symm, h2⟩
end Tr

set_option maxRecDepth 100000 in
set_option maxHeartbeats 4000000 in
theorem text_any (A : Option Addr) (c : Nat) (fs : List (Tr.T × Tr.T)) (x : Tr.T) (w : World) (h : Rd w 2 A fs.length (fls fs)) (hn : fs.length ≤ 4000000) :
    Calls Tryd.prog 61 #[.slice A fs.length c, .string (bs x)] w fun e w' => e = .returned (.tuple #[.string (bs (Tr.txt fs x)), .bool (decide (x ∈ Tr.nms fs))]) ∧ w' = w := by
  have htx : (bs x).toList = x := bs_toList x
  go_enter Tryd.func61, Tryd.ntmps61
  go_wp2
  go_loop [6] (fun i => ∃ k : Nat, k ≤ fs.length ∧ i = .int .i64 k ∧ Hid (∀ g ∈ fs.take k, g.1 ≠ x)) (fun i => fs.length - (intOf i).toNat)
  case atStart => exact ⟨0, Nat.zero_le _, rfl, Lib.hid (by simp)⟩
  case round =>
    obtain ⟨k, hk, rfl, HN⟩ := hrel
    by_cases hlt : k < fs.length
    · have hf := List.getElem?_eq_getElem hlt
      obtain ⟨b, o, rfl, hb, k0, k1⟩ := h.fi hf
      by_cases e : fs[k].1 = x
      · have HT := Lib.hid (Tr.txt_first hf e HN.out)
        generalize fs[k] = f at *
        have htf : (bs f.1).toList = f.1 := bs_toList f.1
        subst e
        clear hf
        go_wp2
        go_ret2
        exact ⟨by rw [HT.out.1, decide_eq_true HT.out.2]; rfl, rfl⟩
      · have HN2 : Hid (∀ g ∈ fs.take (k + 1), g.1 ≠ x) := Lib.hid (fun g hg => by
          rw [List.take_add_one, hf] at hg
          rcases List.mem_append.1 hg with hg | hg
          · exact HN.out g hg
          · simp at hg; rw [hg]; exact e)
        generalize fs[k] = f at *
        have htf : (bs f.1).toList = f.1 := bs_toList f.1
        have hb1 : (f.1 == x) = false := beq_eq_false_iff_ne.2 e
        clear hf
        go_wp2
        go_round
        case rel => exact ⟨k + 1, by omega, by go_num, HN2⟩
        case measure => simp [intOf]; omega
    · obtain rfl : k = fs.length := by omega
      have HT := Lib.hid (Tr.txt_none (fs := fs) (x := x) (by have := HN.out; rwa [List.take_length] at this))
      go_wp2
      go_ret2
      exact ⟨by rw [HT.out.1, decide_eq_false HT.out.2]; rfl, rfl⟩

set_option maxRecDepth 100000 in
set_option maxHeartbeats 4000000 in
theorem Texts_any (A B : Option Addr) (c d : Nat) (l : List Tr.T) (w : World) (h : Rd w 1 A l.length (sts l)) (g : Rd w 1 B l.length (sts l)) (hn : l.length ≤ 4000000) :
    Calls Tryd.prog 35 #[.slice A l.length c, .slice B l.length d] w fun e w' => e = .returned (.bool true) ∧ Below w.heap.size w w' := by
  go_enter Tryd.func35, Tryd.ntmps35
  go_wp2
  go_loopw [5] (fun i wr => ∃ k : Nat, k ≤ l.length ∧ i = .int .i64 k ∧ ∃ m, wr = w.drewN m) (fun i _ => l.length - (intOf i).toNat)
  case atStart => exact ⟨0, Nat.zero_le _, rfl, 0, rfl⟩
  case round =>
    obtain ⟨k, hk, rfl, m, rfl⟩ := hrel
    by_cases hlt : k < l.length
    · have hf := List.getElem?_eq_getElem hlt
      obtain ⟨b, o, rfl, hb, k0⟩ := h.st hf
      obtain ⟨b2, o2, rfl, hb2, k2⟩ := g.st hf
      generalize l[k] = f at *
      clear hf
      go_wp2
      go_quiet (fail)
      go_wp2
      exact ⟨⟨k + 1, by omega, by go_num, _, rfl⟩, by simp [intOf]; omega⟩
    · obtain rfl : k = l.length := by omega
      go_wp2
      go_ret
      exact ⟨rfl, below_drewN (Below.refl _ _) m⟩

end Go.Proofs.YtliabgcpciekpaaDoor

/-! Walks: a text put in its place, as the document does it. -/
set_option linter.unusedVariables false
set_option linter.unusedSimpArgs false
namespace Go.Proofs.YtliabgcpciekpaaDoor
open Go Go.RowKit Go.Maps

namespace Tr
theorem add_split {x : T} : ∀ {l : List T} {k : Nat}, (∀ z ∈ l.take k, z < x) → add l x = l.take k ++ add (l.drop k) x
  | l, 0 => by intro _; simp
  | [], k + 1 => by intro _; simp
  | y :: r, k + 1 => by
    intro h
    rw [List.take_succ_cons, List.drop_succ_cons, add, if_pos (h y (by simp)), List.cons_append, ← add_split (fun z hz => h z (by simp [hz]))]
theorem add_end {l : List T} {x : T} (h : ∀ z ∈ l, z < x) : add l x = l ++ [x] := add_snoc h
theorem add_here {l : List T} {x : T} {k : Nat} (h : ∀ z ∈ l.take k, z < x) (hk : l[k]? = some x) : add l x = l := by
  have hl := (List.getElem?_eq_some_iff.1 hk).1
  rw [add_split h, List.drop_eq_getElem_cons hl, (List.getElem?_eq_some_iff.1 hk).2, add, if_neg (lt_irr x), if_pos rfl]
  conv => rhs; rw [← List.take_append_drop k l, List.drop_eq_getElem_cons hl, (List.getElem?_eq_some_iff.1 hk).2]
theorem add_mid {l : List T} {x y : T} {k : Nat} (h : ∀ z ∈ l.take k, z < x) (hk : l[k]? = some y) (h1 : ¬ y < x) (h2 : y ≠ x) : add l x = l.take k ++ [x] ++ l.drop k := by
  have hl := (List.getElem?_eq_some_iff.1 hk).1
  rw [add_split h, List.drop_eq_getElem_cons hl, (List.getElem?_eq_some_iff.1 hk).2, add, if_neg h1, if_neg h2, List.append_assoc]
  rfl
end Tr

/-- 'append' to a row of the call's own, whatever the shape of what is appended. -/
theorem wpList_append_any {P : Program} (w : World) {ops : Array Oper} {rest : List Oper} {o : Oper} {a : Act} {Q : Exit → Act → World → Prop} (hgd : o.guard = none) (s x : Operand) (t : TypeId)
    (ho : o.op = .call { callee := .builtin .append, args := #[s, x], argTypes := #[t, t] })
    (base : Nat) (e : TypeId) (i : TypeInfo) (z : Value) (size bytes : Nat) (ht : P.underlying t = some (.slice e)) (hi : P.info? e = some i) (hz : i.zero = some z)
    (hsize : i.size = size) (hby : i.bytes = bytes) (hzs : z.cells.size = size) (hsz : 0 < size)
    (v : Value) (n : Nat) (xs : List Value) (hs : a.eval s = v) (hown : w.ownsRow base e size v n xs)
    (ao : Option Addr) (m c : Nat) (news : List Value) (hx : a.eval x = .slice ao m c) (hnone : ao = none → m = 0 ∧ c = 0) (hl : news.length = m * size) (hnews : ∀ ad, ao = some ad → ∀ j u, news[j]? = some u → w.cell? (ad.add j) = some u) (h1 : ∀ u ∈ news, u.oneCell' = true)
    (h63 : n + m ≤ maxLen) (hbytes : (n + m) * bytes ≤ 140737488355328) (hbase : base ≤ w.heap.size)
    (h : ∀ v' w', w'.ownsRow base e size v' (n + m) (xs ++ news) → w.grownBy w' v.ownBlock → wpList P ops Q rest (a.put o.dst v') w') : wpList P ops Q (o :: rest) a w := by
  cases ao with
  | none =>
    obtain ⟨rfl, rfl⟩ := hnone rfl
    have hn : news = [] := List.eq_nil_of_length_eq_zero (by rw [hl]; simp)
    subst hn
    exact wpList_append_own_none hgd s x t ho base e i size ht hi v n xs hs hown hx (h v w (by simpa using hown) (World.grownBy.refl _ _))
  | some ad =>
    exact wpList_append_own w hgd s x t ho base e i z size bytes ht hi hz hsize hby hzs hsz v n xs hs hown ad m c news hx hl (hnews ad rfl) h1 h63 hbytes hbase fun v' w' h2 h3 _ => h v' w' h2 h3
theorem sts_one (l : List Tr.T) : ∀ u ∈ sts l, u.oneCell' = true := by
  intro u hu
  unfold sts at hu
  obtain ⟨t, _, rfl⟩ := List.mem_map.1 hu
  rfl

theorem rd_cells {w : World} {g : Nat} {l : List Tr.T} (h : Rd w 1 (some ⟨g, 0, none⟩) l.length (sts l)) (a m : Nat) : ∀ ad : Addr, some (⟨g, a, none⟩ : Addr) = some ad → ∀ j u, (sts ((l.drop a).take m))[j]? = some u → w.cell? (ad.add j) = some u := by
  intro ad e j u hu
  cases e
  rw [show (⟨g, a, none⟩ : Addr).add j = ⟨g, a + j, none⟩ by unfold Addr.add; split <;> simp_all]
  unfold sts at hu
  rw [List.getElem?_map, List.getElem?_take] at hu
  split at hu
  · rw [List.getElem?_drop] at hu
    cases ht : l[a + j]? with
    | none => rw [ht] at hu; cases hu
    | some t =>
      rw [ht] at hu
      simp only [Option.map_some, Option.some.injEq] at hu
      obtain ⟨b, o, e, _, k0⟩ := h.st ht
      cases e
      rw [Nat.zero_add] at k0
      rw [k0, hu]
  · cases hu
theorem rd_cells0 {w : World} {g : Nat} {l : List Tr.T} (h : Rd w 1 (some ⟨g, 0, none⟩) l.length (sts l)) (m : Nat) : ∀ ad : Addr, some (⟨g, 0, none⟩ : Addr) = some ad → ∀ j u, (sts (l.take m))[j]? = some u → w.cell? (ad.add j) = some u := rd_cells h 0 m
theorem rd_cellsE {w : World} {g : Nat} {l : List Tr.T} (h : Rd w 1 (some ⟨g, 0, none⟩) l.length (sts l)) (a : Nat) : ∀ ad : Addr, some (⟨g, a, none⟩ : Addr) = some ad → ∀ j u, (sts (l.drop a))[j]? = some u → w.cell? (ad.add j) = some u := by
  have := rd_cells h a (l.drop a).length
  rwa [List.take_length] at this

set_option maxRecDepth 100000 in
set_option maxHeartbeats 8000000 in
theorem add_any (base : Nat) (v : Value) (l : List Tr.T) (x : Tr.T) (w : World) (hown : w.ownsRow base 9 1 v l.length (sts l)) (hbase : base ≤ w.heap.size) (hl : l.length ≤ 4000000) :
    Calls Tryd.prog 63 #[v, .string (bs x)] w fun e w' => ∃ v', e = .returned v' ∧ w'.ownsRow base 9 1 v' (Tr.add l x).length (sts (Tr.add l x)) ∧ Below w.heap.size w w' := by
  obtain ⟨i0, hi, hz0, hz1, hz2⟩ := info_parts strInfo
  have htx : (bs x).toList = x := bs_toList x
  have HO := Lib.hid hown
  rcases hown.2 with ⟨hv, h0⟩ | ⟨g, cap, cur, hv, hg, hb, h1, h2, h3, h4⟩
  · have hl0 : l = [] := List.eq_nil_of_length_eq_zero h0
    subst hl0 hv
    clear hown h0
    go_enter Tryd.func63, Tryd.ntmps63
    go_wp2
    go_loop [5] (fun i => i = .int .i64 0) (fun _ => 0)
    case atStart => rfl
    case round =>
      subst hrel
      go_wp2_with (first
        | (at_builtin; refine wpList_append_any _ rfl _ _ 38 rfl base 9 i0 (.string ⟨#[]⟩) 1 16 Tryd.underlying38 hi hz0 hz1 hz2 rfl (by decide) (.slice none 0 0) 0 [] rfl (World.ownsRow_nil (w.alloc (.cells #[.string (bs x)] 9)) _ _ _) (some ⟨w.heap.size, 0, none⟩) 1 1 [.string (bs x)] rfl (fun h => by cases h) rfl (fun ad e => by cases e; exact cell_one_new _ _ _) (by simp [Value.oneCell']) (by unfold maxLen; omega) (by omega) (by simp; omega) ?_; intro v1 w1 o1 g1; have o1 := Lib.hid o1; have g1 := Lib.hid g1; go_frame)
        | (at_builtin; refine wpList_append_own_none rfl _ _ 38 rfl base 9 i0 1 Tryd.underlying38 hi v1 _ _ rfl o1.out rfl ?_; go_frame))
      go_ret
      have hb5 := (Below.refl w.heap.size w).alloc (Nat.le_refl _) (.cells #[.string (bs x)] 9)
      exact ⟨_, rfl, o1.out, hb5.grown g1.out (by simp) (fun k e => by cases e)⟩
  · subst hv
    have hrd := Rd.of_own hown
    clear h2 h3 h4 hb hown
    go_enter Tryd.func63, Tryd.ntmps63
    go_wp2
    go_loop [5] (fun i => ∃ k : Nat, k ≤ l.length ∧ i = .int .i64 k ∧ Hid (∀ z ∈ l.take k, z < x)) (fun i => l.length - (intOf i).toNat)
    case atStart => exact ⟨0, Nat.zero_le _, rfl, Lib.hid (by simp)⟩
    case round =>
      obtain ⟨k, hk, rfl, HN⟩ := hrel
      have hkc : k ≤ cap := by omega
      by_cases hlt : k < l.length
      · have hf := List.getElem?_eq_getElem hlt
        obtain ⟨b, o, e, _, k0⟩ := hrd.st hf
        cases e
        rw [Nat.zero_add] at k0
        have HF := Lib.hid hf
        by_cases hlx : l[k] < x
        · have HN2 : Hid (∀ z ∈ l.take (k + 1), z < x) := Lib.hid (fun z hz => by
            rw [List.take_add_one, hf] at hz
            rcases List.mem_append.1 hz with hz | hz
            · exact HN.out z hz
            · simp at hz; rw [hz]; exact hlx)
          have hb1 : Op.bytesLess l[k] x = true := by rw [Tr.bytesLess_eq]; exact decide_eq_true hlx
          generalize l[k] = y at *
          have hty : (bs y).toList = y := bs_toList y
          clear hf hrd
          go_wp2
          go_round
          case rel => exact ⟨k + 1, by omega, by go_num, HN2⟩
          case measure => simp [intOf]; omega
        · have hb1 : Op.bytesLess l[k] x = false := by rw [Tr.bytesLess_eq]; exact decide_eq_false hlx
          by_cases hex : l[k] = x
          · have HA := Lib.hid (Tr.add_here HN.out (hf.trans (by rw [hex])))
            generalize l[k] = y at *
            have hty : (bs y).toList = y := bs_toList y
            subst hex
            clear hf hrd
            go_wp2
            go_ret
            exact ⟨_, rfl, by rw [HA.out]; exact HO.out, Below.refl _ _⟩
          · have HA := Lib.hid (Tr.add_mid HN.out hf hlx hex)
            generalize l[k] = y at *
            have hty : (bs y).toList = y := bs_toList y
            have hb2 : (y == x) = false := beq_eq_false_iff_ne.2 hex
            have HRD := Lib.hid hrd
            clear hf hrd
            have hkc2 : k < cap := by omega
            go_wp2_with (first
              | (at_builtin; refine wpList_append_any _ rfl _ _ 38 rfl w.heap.size 9 i0 (.string ⟨#[]⟩) 1 16 Tryd.underlying38 hi hz0 hz1 hz2 rfl (by decide) (.slice none 0 0) 0 [] rfl (World.ownsRow_nil w _ _ _) (some ⟨g, 0, none⟩) k cap (sts (l.take k)) rfl (fun h => by cases h) (by rw [sts_length, List.length_take]; omega) (rd_cells0 HRD.out _) (sts_one _) (by unfold maxLen; omega) (by omega) (Nat.le_refl _) ?_; intro v1 w1 o1 g1; have b1 := (Below.refl w.heap.size w).grown g1 (Nat.le_refl _) (fun k e => by cases e); have o1 := Lib.hid o1; have H1 := Lib.hid (HRD.out.later b1); have s1 := b1.size; have b1 := Lib.hid b1; clear g1; go_frame)
              | (at_builtin; refine wpList_append_any _ rfl _ _ 38 rfl w.heap.size 9 i0 (.string ⟨#[]⟩) 1 16 Tryd.underlying38 hi hz0 hz1 hz2 rfl (by decide) v1 _ _ rfl (o1.out.alloc (.cells #[.string (bs x)] 9)) (some ⟨w1.heap.size, 0, none⟩) 1 1 [.string (bs x)] rfl (fun h => by cases h) rfl (fun ad e => by cases e; exact cell_one_new _ _ _) (by simp [Value.oneCell']) (by unfold maxLen; omega) (by omega) (by simp; omega) ?_; intro v2 w2 o2 g2; have b2 := (b1.out.alloc b1.out.size (.cells #[.string (bs x)] 9)).grown g2 (by simp; omega) (fun k e => (o1.out.lt k e).1); have o2 := Lib.hid o2; have H2 := Lib.hid (HRD.out.later b2); have s2 := b2.size; have b2 := Lib.hid b2; clear g2; go_frame)
              | (at_builtin; refine wpList_append_any _ rfl _ _ 38 rfl w.heap.size 9 i0 (.string ⟨#[]⟩) 1 16 Tryd.underlying38 hi hz0 hz1 hz2 rfl (by decide) v2 _ _ rfl o2.out _ _ _ (sts (l.drop k)) rfl (fun h => by cases h) (by simp [sts_length]) (rd_cellsE H2.out _) (sts_one _) (by unfold maxLen; omega) (by omega) (by omega) ?_; intro v3 w3 o3 g3; have b3 := b2.out.grown g3 b2.out.size (fun k e => (o2.out.lt k e).1); have o3 := Lib.hid o3; have b3 := Lib.hid b3; clear g3; go_frame))
            go_ret
            exact ⟨_, rfl, by rw [HA.out, show (l.take k ++ [x] ++ l.drop k).length = k + 1 + (l.length - k) by simp; omega]; have := own_base o3.out hbase; simpa [sts_cat, sts] using this, b3.out⟩
      · obtain rfl : k = l.length := by omega
        have HA := Lib.hid (Tr.add_end (l := l) (x := x) (by have := HN.out; rwa [List.take_length] at this))
        have HRD := Lib.hid hrd
        clear hrd
        rcases Nat.lt_or_ge l.length cap with hcl | hcl
        · go_wp2_with (first
            | (at_builtin; refine wpList_append_any _ rfl _ _ 38 rfl w.heap.size 9 i0 (.string ⟨#[]⟩) 1 16 Tryd.underlying38 hi hz0 hz1 hz2 rfl (by decide) (.slice none 0 0) 0 [] rfl (World.ownsRow_nil w _ _ _) (some ⟨g, 0, none⟩) l.length cap (sts (l.take l.length)) rfl (fun h => by cases h) (by rw [sts_length, List.length_take]; omega) (rd_cells0 HRD.out _) (sts_one _) (by unfold maxLen; omega) (by omega) (Nat.le_refl _) ?_; intro v1 w1 o1 g1; have b1 := (Below.refl w.heap.size w).grown g1 (Nat.le_refl _) (fun k e => by cases e); have o1 := Lib.hid o1; have H1 := Lib.hid (HRD.out.later b1); have s1 := b1.size; have b1 := Lib.hid b1; clear g1; go_frame)
            | (at_builtin; refine wpList_append_any _ rfl _ _ 38 rfl w.heap.size 9 i0 (.string ⟨#[]⟩) 1 16 Tryd.underlying38 hi hz0 hz1 hz2 rfl (by decide) v1 _ _ rfl (o1.out.alloc (.cells #[.string (bs x)] 9)) (some ⟨w1.heap.size, 0, none⟩) 1 1 [.string (bs x)] rfl (fun h => by cases h) rfl (fun ad e => by cases e; exact cell_one_new _ _ _) (by simp [Value.oneCell']) (by unfold maxLen; omega) (by omega) (by simp; omega) ?_; intro v2 w2 o2 g2; have b2 := (b1.out.alloc b1.out.size (.cells #[.string (bs x)] 9)).grown g2 (by simp; omega) (fun k e => (o1.out.lt k e).1); have o2 := Lib.hid o2; have H2 := Lib.hid (HRD.out.later b2); have s2 := b2.size; have b2 := Lib.hid b2; clear g2; go_frame)
            | (at_builtin; refine wpList_append_any _ rfl _ _ 38 rfl w.heap.size 9 i0 (.string ⟨#[]⟩) 1 16 Tryd.underlying38 hi hz0 hz1 hz2 rfl (by decide) v2 _ _ rfl o2.out _ _ _ [] rfl (fun h => by cases h) (by simp) (fun ad _ j u hu => by simp at hu) (fun u hu => by simp at hu) (by unfold maxLen; omega) (by omega) (by omega) ?_; intro v3 w3 o3 g3; have b3 := b2.out.grown g3 b2.out.size (fun k e => (o2.out.lt k e).1); have o3 := Lib.hid o3; have b3 := Lib.hid b3; clear g3; go_frame))
          go_ret
          exact ⟨_, rfl, by rw [HA.out]; have := own_base o3.out hbase; simpa [sts_cat, sts] using this, b3.out⟩

        · obtain rfl : cap = l.length := by omega
          go_wp2_with (first
            | (at_builtin; refine wpList_append_any _ rfl _ _ 38 rfl w.heap.size 9 i0 (.string ⟨#[]⟩) 1 16 Tryd.underlying38 hi hz0 hz1 hz2 rfl (by decide) (.slice none 0 0) 0 [] rfl (World.ownsRow_nil w _ _ _) (some ⟨g, 0, none⟩) l.length l.length (sts (l.take l.length)) rfl (fun h => by cases h) (by rw [sts_length, List.length_take]; omega) (rd_cells0 HRD.out _) (sts_one _) (by unfold maxLen; omega) (by omega) (Nat.le_refl _) ?_; intro v1 w1 o1 g1; have b1 := (Below.refl w.heap.size w).grown g1 (Nat.le_refl _) (fun k e => by cases e); have o1 := Lib.hid o1; have H1 := Lib.hid (HRD.out.later b1); have s1 := b1.size; have b1 := Lib.hid b1; clear g1; go_frame)
            | (at_builtin; refine wpList_append_any _ rfl _ _ 38 rfl w.heap.size 9 i0 (.string ⟨#[]⟩) 1 16 Tryd.underlying38 hi hz0 hz1 hz2 rfl (by decide) v1 _ _ rfl (o1.out.alloc (.cells #[.string (bs x)] 9)) (some ⟨w1.heap.size, 0, none⟩) 1 1 [.string (bs x)] rfl (fun h => by cases h) rfl (fun ad e => by cases e; exact cell_one_new _ _ _) (by simp [Value.oneCell']) (by unfold maxLen; omega) (by omega) (by simp; omega) ?_; intro v2 w2 o2 g2; have b2 := (b1.out.alloc b1.out.size (.cells #[.string (bs x)] 9)).grown g2 (by simp; omega) (fun k e => (o1.out.lt k e).1); have o2 := Lib.hid o2; have H2 := Lib.hid (HRD.out.later b2); have s2 := b2.size; have b2 := Lib.hid b2; clear g2; go_frame)
            | (at_builtin; refine wpList_append_any _ rfl _ _ 38 rfl w.heap.size 9 i0 (.string ⟨#[]⟩) 1 16 Tryd.underlying38 hi hz0 hz1 hz2 rfl (by decide) v2 _ _ rfl o2.out _ _ _ [] rfl (fun h => by cases h) (by simp) (fun ad _ j u hu => by simp at hu) (fun u hu => by simp at hu) (by unfold maxLen; omega) (by omega) (by omega) ?_; intro v3 w3 o3 g3; have b3 := b2.out.grown g3 b2.out.size (fun k e => (o2.out.lt k e).1); have o3 := Lib.hid o3; have b3 := Lib.hid b3; clear g3; go_frame))
          go_ret
          exact ⟨_, rfl, by rw [HA.out]; have := own_base o3.out hbase; simpa [sts_cat, sts] using this, b3.out⟩


end Go.Proofs.YtliabgcpciekpaaDoor

/-! Walks: does a style's file hold for a path; the nearest one, as the document has it. -/
set_option linter.unusedVariables false
set_option linter.unusedSimpArgs false
namespace Go.Proofs.YtliabgcpciekpaaDoor
open Go Go.RowKit Go.Maps

namespace Tr
/-- What holds gives: how deep the file's folder lies, or -1. -/
def HvOk (f p : T) (h : Int) : Prop :=
  (h = -1 ∧ ∀ i, isPath p = true → i < (spl 47 p).length → f ≠ at_ (spl 47 p) i) ∨ ∃ i : Nat, h = (i : Int) ∧ i < (spl 47 p).length ∧ isPath p = true ∧ f = at_ (spl 47 p) i
theorem hv_f {f p : T} (h : isPath f = false) : HvOk f p (-1) := .inl ⟨rfl, fun i hp hi e => by rw [e, at_path hp hi] at h; cases h⟩
theorem hv_p {f p : T} (h : isPath p = false) : HvOk f p (-1) := .inl ⟨rfl, fun i hp hi e => by rw [hp] at h; cases h⟩
theorem hv_spl {f p : T} {i : Nat} (hp : isPath p = true) (e : f = at_ (spl 47 p) i) : spl 47 f = (spl 47 p).take i ++ [dot] := by rw [e, spl_at_ (isPath_good hp)]
theorem hv_last {f p y : T} {k : Nat} (hk : (spl 47 f).length = k + 1) (hy : (spl 47 f)[k]? = some y) (hne : y ≠ dot) : HvOk f p (-1) := .inl ⟨rfl, fun i hp hi e => by
  have := hv_spl hp e
  have hl := congrArg List.length this
  simp at hl
  rw [this, List.getElem?_append_right (by simp; omega)] at hy
  simp at hy
  obtain ⟨_, hy⟩ := List.getElem?_eq_some_iff.1 hy
  simp at hy
  exact hne hy.symm⟩
theorem hv_long {f p : T} (h : (spl 47 p).length < (spl 47 f).length) : HvOk f p (-1) := .inl ⟨rfl, fun i hp hi e => by
  have hl := congrArg List.length (hv_spl hp e)
  simp at hl
  omega⟩
theorem hv_differ {f p x y : T} {j k : Nat} (hk : (spl 47 f).length = k + 1) (hj : j < k) (hx : (spl 47 f)[j]? = some x) (hy : (spl 47 p)[j]? = some y) (hne : x ≠ y) : HvOk f p (-1) := .inl ⟨rfl, fun i hp hi e => by
  have := hv_spl hp e
  have hl := congrArg List.length this
  simp at hl
  rw [this, List.getElem?_append_left (by simp; omega), List.getElem?_take, if_pos (by omega), hy] at hx
  exact hne (Option.some.inj hx).symm⟩
theorem hv_yes {f p : T} {k : Nat} (hp : isPath p = true) (hk : (spl 47 f).length = k + 1) (hd : (spl 47 f)[k]? = some dot) (hl : k + 1 ≤ (spl 47 p).length) (ht : (spl 47 f).take k = (spl 47 p).take k) : HvOk f p (k : Int) := .inr ⟨k, rfl, by omega, hp, by
  have e : spl 47 f = (spl 47 p).take k ++ [dot] := by
    rw [← ht]
    have := List.take_append_drop k (spl 47 f)
    rw [List.drop_eq_getElem_cons (by omega), (List.getElem?_eq_some_iff.1 hd).2, List.drop_eq_nil_of_le (by omega)] at this
    exact this.symm
  have := congrArg jn e
  rw [jn_spl] at this
  exact this⟩
theorem HvOk.bd {f p : T} {h : Int} (g : HvOk f p h) : -1 ≤ h ∧ h < 100 := by
  rcases g with ⟨rfl, _⟩ | ⟨i, rfl, h1, h2, _⟩
  · omega
  · have := ((isPath_iff p).1 h2).1; omega

/-! ### The nearest, file by file -/
theorem nr_snoc_no {ms : List T} {p x : T} (h : ∀ i, i < (spl 47 p).length → x ≠ at_ (spl 47 p) i) : nr (ms ++ [x]) p = nr ms p := by
  rcases hn : nr ms p with _ | i
  · rw [nr_none] at hn ⊢
    intro j hj hm
    rcases List.mem_append.1 hm with e | e
    · exact hn j hj e
    · exact h j hj (List.mem_singleton.1 e).symm
  · rw [nr_some] at hn ⊢
    refine ⟨hn.1, List.mem_append_left _ hn.2.1, fun j h1 h2 hm => ?_⟩
    rcases List.mem_append.1 hm with e | e
    · exact hn.2.2 j h1 h2 e
    · exact h j h2 (List.mem_singleton.1 e).symm
theorem nr_snoc_up {ms : List T} {p : T} {j : Nat} (hp : isPath p = true) (hj : j < (spl 47 p).length) (h : ∀ i, nr ms p = some i → i ≤ j) : nr (ms ++ [at_ (spl 47 p) j]) p = some j := by
  rw [nr_some]
  refine ⟨hj, by simp, fun k h1 h2 hm => ?_⟩
  rcases List.mem_append.1 hm with e | e
  · rcases hn : nr ms p with _ | i
    · exact nr_none.1 hn k h2 e
    · have := h i hn
      exact (nr_some.1 hn).2.2 k (by omega) h2 e
  · have := at_inj (isPath_good hp) (Nat.le_of_lt h2) (Nat.le_of_lt hj) (List.mem_singleton.1 e)
    omega
theorem nr_snoc_low {ms : List T} {p : T} {i j : Nat} (hp : isPath p = true) (hj : j < (spl 47 p).length) (hn : nr ms p = some i) (h : j ≤ i) : nr (ms ++ [at_ (spl 47 p) j]) p = some i := by
  rw [nr_some] at hn ⊢
  refine ⟨hn.1, List.mem_append_left _ hn.2.1, fun k h1 h2 hm => ?_⟩
  rcases List.mem_append.1 hm with e | e
  · exact hn.2.2 k h1 h2 e
  · have := at_inj (isPath_good hp) (Nat.le_of_lt h2) (Nat.le_of_lt hj) (List.mem_singleton.1 e)
    omega
/-- The best so far. -/
def BsI (ms : List T) (p : T) (h : Int) (x : T) : Prop := (h = -1 ∧ x = [] ∧ nr ms p = none) ∨ ∃ i : Nat, h = (i : Int) ∧ i < (spl 47 p).length ∧ x = at_ (spl 47 p) i ∧ nr ms p = some i
theorem BsI.more {ms : List T} {p x y : T} {h g : Int} (hp : isPath p = true) (b : BsI ms p h y) (hv : HvOk x p g) (hlt : h < g) : BsI (ms ++ [x]) p g x := by
  rcases hv with ⟨rfl, _⟩ | ⟨j, rfl, h1, _, rfl⟩
  · rcases b with ⟨rfl, _⟩ | ⟨i, rfl, _⟩ <;> omega
  · refine .inr ⟨j, rfl, h1, rfl, nr_snoc_up hp h1 fun i hi => ?_⟩
    rcases b with ⟨_, _, e⟩ | ⟨i', rfl, _, _, e⟩
    · rw [e] at hi; cases hi
    · rw [e] at hi; cases hi; omega
theorem BsI.same {ms : List T} {p x y : T} {h g : Int} (hp : isPath p = true) (b : BsI ms p h y) (hv : HvOk x p g) (hlt : ¬ h < g) : BsI (ms ++ [x]) p h y := by
  rcases hv with ⟨rfl, h2⟩ | ⟨j, rfl, h1, _, rfl⟩
  · have e := nr_snoc_no (ms := ms) (fun i hi => h2 i hp hi)
    unfold BsI
    rw [e]
    exact b
  · rcases b with ⟨rfl, _⟩ | ⟨i, rfl, h3, h4, e⟩
    · omega
    · exact .inr ⟨i, rfl, h3, h4, nr_snoc_low hp h1 e (by omega)⟩
theorem BsI.res {ms : List T} {p y : T} {h : Int} (b : BsI ms p h y) : y = near ms p ∧ decide (0 ≤ h) = has ms p := by
  rcases b with ⟨rfl, rfl, e⟩ | ⟨i, rfl, _, rfl, e⟩
  · unfold near has; rw [e]; exact ⟨rfl, rfl⟩
  · unfold near has; rw [e]; exact ⟨rfl, decide_eq_true (by omega)⟩
theorem BsI.bd {ms : List T} {p y : T} {h : Int} (hp : isPath p = true) (b : BsI ms p h y) : -1 ≤ h ∧ h < 100 := by
  have := ((isPath_iff p).1 hp).1
  rcases b with ⟨rfl, _⟩ | ⟨i, rfl, h1, _⟩ <;> omega
end Tr

theorem Names_no (t : Tr.T) (hl : t.length ≤ 4000000) (h : Tr.isPath t = false) (w : World) :
    Calls Tryd.prog 29 #[.string (bs t)] w fun e w' => ∃ v, e = .returned (.tuple #[v, .bool false]) ∧ Below w.heap.size w w' :=
  (Names_any t w hl).mono fun e w' ⟨v, h1, _, h3⟩ => ⟨v, by rw [h1, h], h3⟩
theorem Names_yes (t : Tr.T) (hl : t.length ≤ 4000000) (h : Tr.isPath t = true) {n : Nat} (hn : (Tr.spl 47 t).length = n) (w : World) :
    Calls Tryd.prog 29 #[.string (bs t)] w fun e w' => ∃ A c, e = .returned (.tuple #[.slice A n c, .bool true]) ∧ n ≤ c ∧ Rd w' 1 A n (sts (Tr.spl 47 t)) ∧ Below w.heap.size w w' :=
  (Names_any t w hl).mono fun e w' ⟨v, h1, h2, h3⟩ => by
    have h4 := h2 h
    rw [hn] at h4
    obtain ⟨A, c, rfl, h5, h6⟩ := own_form h4
    exact ⟨A, c, by rw [h1, h], h5, h6, h3⟩

set_option maxRecDepth 100000 in
set_option maxHeartbeats 8000000 in
theorem holds_any (f p : Tr.T) (w : World) (hfl : f.length ≤ 4000000) (hpl : p.length ≤ 4000000) :
    Calls Tryd.prog 60 #[.string (bs f), .string (bs p)] w fun e w' => ∃ h : Int, e = .returned (.int .i64 h) ∧ Tr.HvOk f p h ∧ Below w.heap.size w w' := by
  cases hf : Tr.isPath f
  · have HV := Lib.hid (Tr.hv_f (p := p) hf)
    have N1 := Lib.hid (Names_no f hfl hf)
    cases hp : Tr.isPath p
    · have N2 := Lib.hid (Names_no p hpl hp)
      go_enter Tryd.func60, Tryd.ntmps60
      go_wp2_with (first
        | (go_at_call 29; (with_reducible refine (N1.out w).mono ?_); rintro e w1 ⟨v1, rfl, b1⟩)
        | (go_at_call 29; (with_reducible refine (N2.out w1).mono ?_); rintro e w2 ⟨v2, rfl, b2⟩))
      go_ret
      exact ⟨_, rfl, HV.out, b1.trans (b2.mono b1.size)⟩
    · obtain ⟨n, hn⟩ : ∃ n, (Tr.spl 47 p).length = n := ⟨_, rfl⟩
      have N2 := Lib.hid (Names_yes p hpl hp hn)
      clear hn
      go_enter Tryd.func60, Tryd.ntmps60
      go_wp2_with (first
        | (go_at_call 29; (with_reducible refine (N1.out w).mono ?_); rintro e w1 ⟨v1, rfl, b1⟩)
        | (go_at_call 29; (with_reducible refine (N2.out w1).mono ?_); rintro e w2 ⟨A2, c2, rfl, nc2, r2, b2⟩))
      go_ret
      exact ⟨_, rfl, HV.out, b1.trans (b2.mono b1.size)⟩
  · obtain ⟨k, hk⟩ : ∃ k, (Tr.spl 47 f).length = k + 1 := ⟨(Tr.spl 47 f).length - 1, by have := List.length_pos_iff.2 (Tr.spl_ne 47 f); omega⟩
    have hk20 := ((Tr.isPath_iff f).1 hf).1
    have N1 := Lib.hid (Names_yes f hfl hf hk)
    have hlast := List.getElem?_eq_getElem (show k < (Tr.spl 47 f).length by omega)
    obtain ⟨y, hy⟩ : ∃ y, (Tr.spl 47 f)[k]? = some y := ⟨_, hlast⟩
    clear hlast
    cases hp : Tr.isPath p
    · have HV := Lib.hid (Tr.hv_p (f := f) hp)
      have N2 := Lib.hid (Names_no p hpl hp)
      have hy := Lib.hid hy
      clear hk hk20
      go_enter Tryd.func60, Tryd.ntmps60
      go_wp2_with (first
        | (go_at_call 29; (with_reducible refine (N1.out w).mono ?_); rintro e w1 ⟨A1, c1, rfl, nc1, r1, b1⟩)
        | (go_at_call 29; (with_reducible refine (N2.out w1).mono ?_); rintro e w2 ⟨v2, rfl, b2⟩))
      go_ret
      exact ⟨_, rfl, HV.out, b1.trans (b2.mono b1.size)⟩
    · obtain ⟨n, hn⟩ : ∃ n, (Tr.spl 47 p).length = n := ⟨_, rfl⟩
      have N2 := Lib.hid (Names_yes p hpl hp hn)
      have hp20 := ((Tr.isPath_iff p).1 hp).1
      rw [hn] at hp20
      rw [hk] at hk20
      by_cases hyd : y = Tr.dot
      · by_cases hkn : n < k + 1
        · have HV := Lib.hid (Tr.hv_long (f := f) (p := p) (by omega))
          have HY := Lib.hid hy
          unfold Tr.dot at hyd
          have ty : (bs y).toList = y := bs_toList y
          clear hk hn hy
          go_enter Tryd.func60, Tryd.ntmps60
          go_wp2_with (first
            | (go_at_call 29; (with_reducible refine (N1.out w).mono ?_); rintro e w1 ⟨A1, c1, rfl, nc1, r1, b1⟩; obtain ⟨g1, o1, rfl, _, q1⟩ := r1.st HY.out; have r1 := Lib.hid r1)
            | (go_at_call 29; (with_reducible refine (N2.out w1).mono ?_); rintro e w2 ⟨A2, c2, rfl, nc2, r2, b2⟩; obtain ⟨_, _, e0, _, q2⟩ := (r1.out.later b2).st HY.out; cases e0; subst hyd))
          go_ret
          exact ⟨_, rfl, HV.out, b1.trans (b2.mono b1.size)⟩
        · have HY := Lib.hid hy
          have HYES := Lib.hid (fun h => Tr.hv_yes hp hk (by rw [hy, hyd]) (by omega) h)
          have HDIF := Lib.hid (fun (j : Nat) (a b : Tr.T) hj ha hb hne => Tr.hv_differ (f := f) (p := p) (x := a) (y := b) (j := j) hk hj ha hb hne)
          have HK := Lib.hid hk
          have HN := Lib.hid hn
          unfold Tr.dot at hyd
          have ty : (bs y).toList = y := bs_toList y
          clear hk hn hy
          go_enter Tryd.func60, Tryd.ntmps60
          go_wp2_with (first
            | (go_at_call 29; (with_reducible refine (N1.out w).mono ?_); rintro e w1 ⟨A1, c1, rfl, nc1, r1, b1⟩; obtain ⟨g1, o1, rfl, _, q1⟩ := r1.st HY.out; have r1 := Lib.hid r1)
            | (go_at_call 29; (with_reducible refine (N2.out w1).mono ?_); rintro e w2 ⟨A2, c2, rfl, nc2, r2, b2⟩; obtain ⟨_, _, e0, _, q2⟩ := (r1.out.later b2).st HY.out; cases e0; subst hyd))
          have R1 := Lib.hid (r1.out.later b2)
          have R2 := Lib.hid r2
          have BB := Lib.hid (b1.trans (b2.mono b1.size))
          clear r1 r2 q1 q2 b1 b2
          go_loopw [9] (fun i wr => ∃ j : Nat, j ≤ k ∧ i = .int .i64 j ∧ Hid ((Tr.spl 47 f).take j = (Tr.spl 47 p).take j) ∧ ∃ m, wr = w2.drewN m) (fun i _ => k - (intOf i).toNat)
          case atStart => exact ⟨0, Nat.zero_le _, rfl, Lib.hid (by simp), 0, rfl⟩
          case round =>
            obtain ⟨j, hj, rfl, HT, m, rfl⟩ := hrel
            by_cases hlt : j < k
            · have hf1 := List.getElem?_eq_getElem (show j < (Tr.spl 47 f).length by have := HK.out; omega)
              have hf2 := List.getElem?_eq_getElem (show j < (Tr.spl 47 p).length by have := HN.out; omega)
              obtain ⟨_, _, e0, _, q1⟩ := R1.out.st hf1
              cases e0
              obtain ⟨g2, o2, rfl, _, q2⟩ := R2.out.st hf2
              have HD := Lib.hid (fun h => HDIF.out j _ _ hlt hf1 hf2 h)
              have HS := Lib.hid (show (Tr.spl 47 f)[j]'(by have := HK.out; omega) = (Tr.spl 47 p)[j]'(by have := HN.out; omega) → (Tr.spl 47 f).take (j + 1) = (Tr.spl 47 p).take (j + 1) from fun h => by rw [List.take_add_one, List.take_add_one, HT.out, hf1, hf2, h])
              generalize (Tr.spl 47 f)[j]'(by have := HK.out; omega) = a at *
              generalize (Tr.spl 47 p)[j]'(by have := HN.out; omega) = b at *
              have ha : (bs a).toList = a := bs_toList a
              have hb : (bs b).toList = b := bs_toList b
              clear hf1 hf2
              by_cases e : a = b
              · have HS2 := Lib.hid (HS.out e)
                subst e
                go_wp2
                go_quiet (fail)
                go_wp2
                exact ⟨⟨j + 1, by omega, by go_num, HS2, _, rfl⟩, by simp [intOf]; omega⟩
              · have HV := Lib.hid (HD.out e)
                have eb : (a == b) = false := beq_eq_false_iff_ne.2 e
                go_wp2
                go_quiet (fail)
                go_wp2
                go_ret
                exact ⟨_, rfl, HV.out, below_drewN (below_drewN BB.out _) _⟩
            · obtain rfl : j = k := by omega
              have HV := Lib.hid (HYES.out HT.out)
              go_wp2
              go_ret
              exact ⟨_, rfl, HV.out, below_drewN BB.out m⟩
      · have HV := Lib.hid (Tr.hv_last (p := p) hk hy hyd)
        have HY := Lib.hid hy
        have ty : (bs y).toList = y := bs_toList y
        unfold Tr.dot at hyd
        have eb : (y == [46, 99, 102, 109, 116]) = false := beq_eq_false_iff_ne.2 hyd
        clear hk hn hy
        go_enter Tryd.func60, Tryd.ntmps60
        go_wp2_with (first
          | (go_at_call 29; (with_reducible refine (N1.out w).mono ?_); rintro e w1 ⟨A1, c1, rfl, nc1, r1, b1⟩; obtain ⟨g1, o1, rfl, _, q1⟩ := r1.st HY.out; have r1 := Lib.hid r1)
          | (go_at_call 29; (with_reducible refine (N2.out w1).mono ?_); rintro e w2 ⟨A2, c2, rfl, nc2, r2, b2⟩; obtain ⟨_, _, e0, _, q2⟩ := (r1.out.later b2).st HY.out; cases e0))
        go_ret
        exact ⟨_, rfl, HV.out, b1.trans (b2.mono b1.size)⟩

end Go.Proofs.YtliabgcpciekpaaDoor

/-! Walks: the nearest style's file, as the document has it. -/
set_option linter.unusedVariables false
set_option linter.unusedSimpArgs false
namespace Go.Proofs.YtliabgcpciekpaaDoor
open Go Go.RowKit Go.Maps

set_option maxRecDepth 100000 in
set_option maxHeartbeats 8000000 in
theorem refNearest_any (A : Option Addr) (cap : Nat) (fs : List (Tr.T × Tr.T)) (p : Tr.T) (w : World) (hrd : Rd w 2 A fs.length (fls fs)) (hn : fs.length ≤ 4000000) (hz : ∀ f ∈ fs, f.1.length ≤ 4000000) (hpl : p.length ≤ 4000000) :
    Calls Tryd.prog 30 #[.slice A fs.length cap, .string (bs p)] w fun e w' => e = .returned (nsRes (Tr.nms fs) p) ∧ Below w.heap.size w w' := by
  cases hp : Tr.isPath p
  · have HR := Lib.hid (show nsRes (Tr.nms fs) p = .tuple #[.string (bs []), .bool false, .int .i64 220] by unfold nsRes Tr.nsN Tr.nsH Tr.nsE; rw [hp]; rfl)
    have N1 := Lib.hid (Names_no p hpl hp)
    clear hrd
    go_enter Tryd.func30, Tryd.ntmps30
    go_wp2_with (first
      | (go_at_call 29; (with_reducible refine (N1.out w).mono ?_); rintro e w1 ⟨v1, rfl, b1⟩))
    go_ret3
    exact ⟨by rw [HR.out]; rfl, b1⟩
  · have HR := Lib.hid (show nsRes (Tr.nms fs) p = .tuple #[.string (bs (Tr.near (Tr.nms fs) p)), .bool (Tr.has (Tr.nms fs) p), .int .i64 0] by unfold nsRes Tr.nsN Tr.nsH Tr.nsE; rw [hp]; rfl)
    have N1 := Lib.hid (Names_yes p hpl hp rfl)
    have HP := Lib.hid hp
    have HZ := Lib.hid hz
    have RA := Lib.hid (fun W (hb : Below w.heap.size w W) (k : Nat) (f : Tr.T × Tr.T) (hf : fs[k]? = some f) => (hrd.later hb).fi hf)
    have HA := Lib.hid hrd
    clear hrd hz
    go_enter Tryd.func30, Tryd.ntmps30
    go_wp2_with (first
      | (go_at_call 29; (with_reducible refine (N1.out w).mono ?_); rintro e w1 ⟨A1, c1, rfl, -, -, b1⟩))
    go_loopw [9, 10, 11] (fun be na i wr => ∃ (k : Nat) (h : Int) (x : Tr.T), k ≤ fs.length ∧ be = .int .i64 h ∧ -1 ≤ h ∧ h < 100 ∧ na = .string (bs x) ∧ i = .int .i64 k ∧ Hid (Tr.BsI (Tr.nms (fs.take k)) p h x) ∧ Below w.heap.size w wr) (fun _ _ i _ => fs.length - (intOf i).toNat)
    case atStart => exact ⟨0, -1, [], Nat.zero_le _, rfl, by omega, by omega, rfl, rfl, Lib.hid (.inl ⟨rfl, rfl, Tr.nr_none.2 (fun j _ hm => by simp [Tr.nms] at hm)⟩), b1⟩
    case round =>
      obtain ⟨k, h, x, hk, rfl, h1, h2, rfl, rfl, HB, hb⟩ := hrel
      obtain ⟨wo, rfl⟩ : ∃ wo : World, wo = wr := ⟨_, rfl⟩
      by_cases hlt : k < fs.length
      · have hf := List.getElem?_eq_getElem hlt
        have hfl := HZ.out _ (List.getElem_mem hlt)
        obtain ⟨b, o, rfl, _, k0, -⟩ := RA.out wo hb k _ hf
        have HS := Lib.hid (show Tr.nms (fs.take (k + 1)) = Tr.nms (fs.take k) ++ [fs[k].1] by rw [List.take_add_one, hf]; unfold Tr.nms; rw [List.map_append]; rfl)
        have RA2 := Lib.hid (fun W (hb : Below w.heap.size w W) => RA.out W hb k _ hf)
        generalize fs[k] = f at *
        have HO := Lib.hid (fun W => holds_any f.1 p W hfl hpl)
        have hb := Lib.hid hb
        clear hf
        go_upto_region 10 with (first
          | (go_at_call 60; (with_reducible refine (HO.out wo).mono ?_); rintro e w2 ⟨g, rfl, HV, b2⟩; have b2 := Lib.hid (hb.out.trans (b2.mono hb.out.size)); obtain ⟨_, _, e0, _, k1, -⟩ := RA2.out w2 b2.out; cases e0; have hgb := HV.bd; have HV := Lib.hid HV))
        by_cases hgt : h < g
        · have HB2 : Hid (Tr.BsI (Tr.nms (fs.take (k + 1))) p g f.1) := Lib.hid (by rw [HS.out]; exact HB.out.more HP.out HV.out hgt)
          go_wp2
          go_roundw
          case rel => exact ⟨k + 1, g, f.1, by omega, rfl, by omega, by omega, rfl, by go_num, HB2, b2.out⟩
          case measure => simp [intOf]; omega
        · have HB2 : Hid (Tr.BsI (Tr.nms (fs.take (k + 1))) p h x) := Lib.hid (by rw [HS.out]; exact HB.out.same HP.out HV.out hgt)
          go_wp2
          go_roundw
          case rel => exact ⟨k + 1, h, x, by omega, rfl, by omega, by omega, rfl, by go_num, HB2, b2.out⟩
          case measure => simp [intOf]; omega
      · obtain rfl : k = fs.length := by omega
        have HQ := Lib.hid (show x = Tr.near (Tr.nms fs) p ∧ decide (0 ≤ h) = Tr.has (Tr.nms fs) p by have := HB.out.res; rwa [List.take_length] at this)
        have hb := Lib.hid hb
        go_wp2
        go_ret3
        exact ⟨by rw [HR.out, ← HQ.out.1, ← HQ.out.2]; rfl, hb.out⟩

end Go.Proofs.YtliabgcpciekpaaDoor

/-! Walks: the style of a text (the document's). -/
set_option linter.unusedVariables false
set_option linter.unusedSimpArgs false
namespace Go.Proofs.YtliabgcpciekpaaDoor
open Go Go.RowKit

namespace St
theorem lns_step {t : T} {a j : Nat} (ha : a < t.length) (hj : a + j ≤ t.length) (hn : 10 ∉ (t.drop a).take j) (he : a + j = t.length ∨ t[a + j]? = some 10) :
    lns a (t.drop a) = (a, (t.drop a).take j) :: lns (a + j + 1) (t.drop (a + j + 1)) := by
  rcases he with he | he
  · have e1 : (t.drop a).take j = t.drop a := List.take_of_length_le (by simp; omega)
    rw [e1] at hn ⊢
    rw [lns_no hn (by intro e; have := congrArg List.length e; simp at this; omega), List.drop_eq_nil_of_le (by omega : t.length ≤ a + j + 1)]
    rfl
  · have h1 : a + j < t.length := (List.getElem?_eq_some_iff.1 he).1
    have := lns_at (t := t.drop a) (a := a) (j := j) (by simp; omega) hn (by rw [List.getElem?_drop]; exact he)
    rw [this, List.drop_drop, show a + (j + 1) = a + j + 1 by omega]
end St
def flg (h : Nat → Bool) : List Value := (List.range 18).map fun i => .bool (h i)
theorem flg_len (h : Nat → Bool) : (flg h).length = 18 := by simp [flg]
theorem flg_at (h : Nat → Bool) {i : Nat} (hi : i < 18) : (flg h)[i]? = some (.bool (h i)) := by simp [flg, hi]
theorem flg_set (h : Nat → Bool) {i : Nat} (hi : i < 18) : (flg h).set i (.bool true) = flg (St.had h i) := by
  apply List.ext_getElem?
  intro j
  rw [List.getElem?_set, flg_len]
  by_cases hj : j < 18
  · rw [flg_at _ hj, flg_at _ hj]
    unfold St.had
    by_cases e : i = j
    · subst e; simp [hi]
    · rw [if_neg e, if_neg (fun e' => e e'.symm)]
  · have : ¬ i = j := by omega
    rw [if_neg this, List.getElem?_eq_none (by rw [flg_len]; omega), List.getElem?_eq_none (by rw [flg_len]; omega)]
theorem vals_set (v : Nat → Int) {i : Nat} (hi : i < 18) (x : Int) : (vals v).set i (.int .i64 x) = vals (St.sput v i x) := by
  apply List.ext_getElem?
  intro j
  rw [List.getElem?_set, vals_len]
  by_cases hj : j < 18
  · rw [vals_at _ hj, vals_at _ hj]
    unfold St.sput
    by_cases e : i = j
    · subst e; simp [hi]
    · rw [if_neg e, if_neg (fun e' => e e'.symm)]
  · have : ¬ i = j := by omega
    rw [if_neg this, List.getElem?_eq_none (by rw [vals_len]; omega), List.getElem?_eq_none (by rw [vals_len]; omega)]
theorem made_flg : (madeCells (Value.bool false).cells (18 * 1)).toList = flg (fun _ => false) := by
  rw [Nat.mul_one, show (Value.bool false).cells = #[.bool false] from rfl, toList_madeCells_one]
  rfl
theorem boolInfo : (Tryd.prog.info? 4).map (fun i => (i.zero, i.size, i.bytes)) = some (some (.bool false), 1, 1) := by kernel_rfl

/-- What holds between the lines. -/
structure RpI (w : World) (g k : Nat) (v : Nat → Int) (h : Nat → Bool) (W : World) : Prop where
  r0 : Sty W w.heap.size (fv 0)
  nb : W.heap[g]? = some (.cells (vals v).toArray 3 (0, 0))
  hb : W.ownsRow w.heap.size 4 1 (.slice (some ⟨k, 0, none⟩) 18 18) 18 (flg h)
  og : w.heap.size < g
  ok : g < k
  bel : Below w.heap.size w W
section
variable {w W W' : World} {g k : Nat} {v : Nat → Int} {h : Nat → Bool}
theorem blk_set {W : World} {b i : Nat} {cs : List Value} {T : TypeId} (h : W.heap[b]? = some (.cells cs.toArray T (0, 0))) (u : Value) : (W.setCell ⟨b, i, none⟩ u).heap[b]? = some (.cells (cs.set i u).toArray T (0, 0)) := by
  simp [World.setCell, Array.getElem?_modify, h]
theorem blk_cell {W : World} {b i : Nat} {cs : List Value} {T : TypeId} (h : W.heap[b]? = some (.cells cs.toArray T (0, 0))) : W.cell? ⟨b, i, none⟩ = cs[i]? := by simp [World.cell?, h]
theorem blk_frozen {W : World} {b i : Nat} {cs : List Value} {T : TypeId} (h : W.heap[b]? = some (.cells cs.toArray T (0, 0))) : W.frozen? ⟨b, i, none⟩ = false := by simp [World.frozen?, h]
theorem grownBy_setI (w : World) (b i : Nat) (u : Value) : w.grownBy (w.setCell ⟨b, i, none⟩ u) (some b) :=
  ⟨rfl, rfl, rfl, by simp [World.setCell], fun k _ hk => Below.heap_setCell _ _ _ _ (fun e => hk (by rw [e]))⟩
theorem RpI.later (p : RpI w g k v h W) (hb : Below W.heap.size W W') : RpI w g k v h W' :=
  ⟨p.r0.later hb, (hb.block _ (Array.getElem?_eq_some_iff.1 p.nb).1).trans p.nb, own_later p.hb hb, p.og, p.ok, p.bel.trans (hb.mono p.bel.size)⟩
theorem RpI.put (p : RpI w g k v h W) {i : Nat} (hi : i < 18) (x : Int) : RpI w g k (St.sput v i x) (St.had h i) ((W.setCell ⟨k, i, none⟩ (.bool true)).setCell ⟨g, i, none⟩ (.int .i64 x)) := by
  have := p.og; have := p.ok
  refine ⟨(Below.heap_setCell _ _ _ _ (by simp; omega)).trans ((Below.heap_setCell _ _ _ _ (by simp; omega)).trans p.r0), ?_, ?_, p.og, p.ok, (p.bel.setCell (p := ⟨k, i, none⟩) (by simp; omega) _).setCell (p := ⟨g, i, none⟩) (by simp; omega) _⟩
  · have h1 : (W.setCell ⟨k, i, none⟩ (.bool true)).heap[g]? = some (.cells (vals v).toArray 3 (0, 0)) := (Below.heap_setCell _ _ _ _ (by simp; omega)).trans p.nb
    have h2 := blk_set (i := i) h1 (.int .i64 x)
    rw [vals_set v hi] at h2
    exact h2
  · have h2 := (p.hb.stored i (.bool true)).1
    rw [flg_set h hi] at h2
    exact h2.kept (grownBy_setI _ g i _ ) (.inr (by simp [Value.ownBlock]; omega))
end
theorem pr_results {w W : World} {v : Nat → Int} {p e : Int} {tmps : Array Value} (g : W.rangeAt w.heap.size 0 (St.stv v)) (h2 : tmps.getD 2 undef = .pointer (some ⟨w.heap.size, 0, none⟩)) (h3 : tmps.getD 3 undef = .int .i64 p) (h4 : tmps.getD 4 undef = .int .i64 e) :
    (results Tryd.f18 tmps).run Tryd.prog W = .ok (.tuple #[.agg (St.stv v).toArray, .int .i64 p, .int .i64 e]) W := by
  have h2' : tmps[2]?.getD undef = .pointer (some ⟨w.heap.size, 0, none⟩) := by simpa using h2
  have h3' : tmps[3]?.getD undef = .int .i64 p := by simpa using h3
  have h4' : tmps[4]?.getD undef = .int .i64 e := by simpa using h4
  have hinfo : (Tryd.prog.info? 23).map (·.size) = some (St.stv v).length := by rw [St.stv_len]; kernel_rfl
  have e0 := run_loadVar_mid (P := Tryd.prog) W w.heap.size 0 23 (St.stv v) _ g Tryd.underlying23 rfl hinfo
  simp [results, Tryd.results18, h2', h3', h4', asAddr, e0]

theorem pr_wipe {w W : World} {v : Nat → Int} (h : Sty W w.heap.size v) (hb : Below w.heap.size w W) (u : Nat → Int) : W.there w.heap.size 0 (St.stv u).toArray.size ∧ (W.setCells w.heap.size 0 (St.stv u).toArray.toList).rangeAt w.heap.size 0 (St.stv u) ∧ Below w.heap.size w (W.setCells w.heap.size 0 (St.stv u).toArray.toList) := by
  rw [List.toList_toArray]
  exact ⟨sty_there h u, (h.store u).range, below_setCells (Nat.le_refl _) _ _ _ hb⟩
theorem pr_wipe0 {w W : World} {v : Nat → Int} (h : Sty W w.heap.size v) (hb : Below w.heap.size w W) : W.there w.heap.size 0 (#[.int .i64 0, .int .i64 0, .int .i64 0, .int .i64 0, .bool false, .bool false, .bool false, .int .i64 0, .int .i64 0, .int .i64 0, .int .i64 0, .int .i64 0, .int .i64 0, .int .i64 0, .int .i64 0, .int .i64 0, .int .i64 0, .int .i64 0] : Array Value).size ∧ (W.setCells w.heap.size 0 (#[.int .i64 0, .int .i64 0, .int .i64 0, .int .i64 0, .bool false, .bool false, .bool false, .int .i64 0, .int .i64 0, .int .i64 0, .int .i64 0, .int .i64 0, .int .i64 0, .int .i64 0, .int .i64 0, .int .i64 0, .int .i64 0, .int .i64 0] : Array Value).toList).rangeAt w.heap.size 0 (St.stv (fv 0)) ∧ Below w.heap.size w (W.setCells w.heap.size 0 (#[.int .i64 0, .int .i64 0, .int .i64 0, .int .i64 0, .bool false, .bool false, .bool false, .int .i64 0, .int .i64 0, .int .i64 0, .int .i64 0, .int .i64 0, .int .i64 0, .int .i64 0, .int .i64 0, .int .i64 0, .int .i64 0, .int .i64 0] : Array Value).toList) := by
  have := pr_wipe h hb (fv 0)
  rwa [zeroSt] at this
set_option maxRecDepth 100000 in
set_option maxHeartbeats 4000000 in
theorem refParse_any (s : ByteArray) (w : World) :
    Calls Tryd.prog 18 #[.string s] w fun e w' => e = .returned (psRes s.data.toList) ∧ Below w.heap.size w w' := by
  have HSZ := Lib.hid (Lib.size_eq s)
  obtain ⟨j0, hj, hy0, hy1, hy2⟩ := info_parts boolInfo
  have hb0 : Below w.heap.size w (w.alloc (.cells #[.int .i64 0, .int .i64 0, .int .i64 0, .int .i64 0, .bool false, .bool false, .bool false, .int .i64 0, .int .i64 0, .int .i64 0, .int .i64 0, .int .i64 0, .int .i64 0, .int .i64 0, .int .i64 0, .int .i64 0, .int .i64 0, .int .i64 0] 23)) := (Below.refl _ _).alloc (Nat.le_refl _) _
  by_cases hlong : 65536 < s.size
  · obtain ⟨q1, q2, q3⟩ := St.ps_long (t := s.data.toList) (by rw [← HSZ.out]; exact hlong)
    have HR := Lib.hid (show psRes s.data.toList = .tuple #[.agg (St.stv (fv 0)).toArray, .int .i64 0, .int .i64 3] by unfold psRes; rw [q1, q2, q3])
    clear q1 q2 q3
    obtain ⟨zt, ze⟩ := pr_wipe0 (sty_zero w) hb0
    have ZE := Lib.hid ze
    clear ze
    have hgo : (65536 : Int) < (s.size : Int) := by omega
    go_enter Tryd.func18, Tryd.ntmps18
    go_wp2_with (refine wpList_store_mid rfl _ _ _ rfl _ _ (#[.int .i64 0, .int .i64 0, .int .i64 0, .int .i64 0, .bool false, .bool false, .bool false, .int .i64 0, .int .i64 0, .int .i64 0, .int .i64 0, .int .i64 0, .int .i64 0, .int .i64 0, .int .i64 0, .int .i64 0, .int .i64 0, .int .i64 0] : Array Value) rfl rfl zt zlit_info zlit_one ?_; refine gen_world2 (Q := fun W => wpList _ _ _ _ _ W) (fun W4 => W4.rangeAt w.heap.size 0 (St.stv (fv 0)) ∧ Below w.heap.size w W4) ZE.out ?_; rintro w4 ⟨E4, B4⟩; (try dsimp only); simp only [Act.put, List.setIfInBounds_toArray, List.set_cons_zero, List.set_cons_succ])
    exact bodyPost_ret (pr_results E4 rfl rfl rfl) rfl ⟨by rw [HR.out], B4⟩
  · have hgo : ¬ (65536 : Int) < (s.size : Int) := by omega
    have hgo2 : decide ((65536 : Int) < (s.size : Int)) = false := decide_eq_false hgo
    obtain ⟨v0, hv0⟩ : ∃ v0, v0 = fv 18 := ⟨_, rfl⟩
    have FA := fun W => refFirst_any W
    have NB := fun W => numbers_blk (fv 18) (fv_fl 18) W
    rw [← hv0] at FA NB
    have FA := Lib.hid FA
    have NB := Lib.hid NB
    have HV0 := Lib.hid hv0
    clear hv0
    have Z0 := Lib.hid (sty_zero w)
    have HB0 := Lib.hid hb0
    go_enter Tryd.func18, Tryd.ntmps18
    go_wp2_with (first
      | (go_at_call 20; (with_reducible refine (FA.out _).mono ?_); rintro e w2 ⟨rfl, b2⟩)
      | (go_at_call 43; (with_reducible refine (NB.out _).mono ?_); rintro e w3 ⟨rfl, n3, b3⟩)
      | (at_make; refine wpList_make_full _ rfl _ _ 99 rfl w3.heap.size 4 j0 _ 1 Tryd.underlying99 hj hy0 hy1 .i64 .i64 18 18 18 rfl rfl rfl rfl (by rw [hy2]; omega) (by unfold maxLen; omega) (Nat.le_refl _) ?_; intro w4 hown4 hgrow4; rw [made_flg] at hown4))
    have P0 : RpI w (w2.heap.size + 1) w3.heap.size v0 (fun _ => false) w4 := by
      have h3 := (Array.getElem?_eq_some_iff.1 n3).1
      have hs2 := b2.size
      simp only [World.size_alloc] at hs2
      have b4 : Below w3.heap.size w3 w4 := (Below.refl _ w3).grown hgrow4 (Nat.le_refl _) (fun k e => by cases e)
      exact ⟨((Z0.out.later b2).below b3 (by omega)).later b4, (b4.block _ h3).trans n3, own_base hown4 (by omega), by omega, h3, ((HB0.out.trans (b2.mono (by simp))).trans (b3.mono (by omega))).trans (b4.mono (by omega))⟩
    generalize w2.heap.size + 1 = g at *
    generalize w3.heap.size = k at *
    clear hown4 hgrow4 n3 b3 b2 FA NB hj hy0 hy1 hy2 hb0 HB0 Z0
    have P0 := Lib.hid P0
    go_loopw [7, 8] (fun p _ wr => ∃ (a : Nat) (pre : List (Nat × St.T)) (st : St.S), a ≤ s.size + 1 ∧ p = .int .i64 a ∧ Hid (pre ++ St.lns a (s.data.toList.drop a) = St.lns 0 s.data.toList) ∧ Hid (St.run St.s0 pre = .ok st) ∧ Hid (RpI w g k st.1 st.2 wr)) (fun p _ _ => s.size + 1 - (intOf p).toNat)
    case atStart => exact ⟨0, [], (v0, fun _ => false), by omega, rfl, Lib.hid (by simp), Lib.hid (by rw [HV0.out]; rfl), P0⟩
    case round =>
      obtain ⟨a, pre, st, ha, rfl, HPRE, HRUN, HI⟩ := hrel
      obtain ⟨wo, rfl⟩ : ∃ wo : World, wo = wr := ⟨_, rfl⟩
      by_cases hlt : a < s.size
      · go_wp2
        go_loop [8] (fun e => ∃ j : Nat, a + j ≤ s.size ∧ e = .int .i64 ((a + j : Nat) : Int) ∧ Hid (10 ∉ (s.data.toList.drop a).take j)) (fun e => s.size - (intOf e).toNat)
        case atStart => exact ⟨0, by omega, by simp, Lib.hid (by simp)⟩
        case round =>
          obtain ⟨j, hj, rfl, HJ⟩ := hrel
          by_cases hin : ∃ h : a + j < s.size, s[a + j] ≠ 10
          · obtain ⟨h1, h2⟩ := hin
            have hcN : ¬ (s[a + j]).toNat = 10 := fun e => h2 (UInt8.toNat_inj.1 (by rw [e]; rfl))
            have hcI : ¬ ((s[a + j]).toNat : Int) = 10 := by omega
            have HJ2 := Lib.hid (show 10 ∉ (s.data.toList.drop a).take (j + 1) by
              have hg := ba_get s (a + j) h1
              have h3 : (s.data.toList.drop a)[j]? = some s[a + j] := by rw [List.getElem?_drop]; exact hg
              rw [List.take_add_one, h3, List.mem_append, not_or]
              exact ⟨HJ.out, by simpa using fun e => h2 e.symm⟩)
            clear h2
            go_wp2
            go_round
            case rel => exact ⟨j + 1, by omega, by go_num, HJ2⟩
            case measure => simp [intOf]; omega
          · have hex : a + j = s.size ∨ ∃ h : a + j < s.size, s[a + j] = 10 := by
              by_cases h : a + j < s.size
              · right
                refine ⟨h, ?_⟩
                by_cases hc : s[a + j] = 10
                · exact hc
                · exact absurd ⟨h, hc⟩ hin
              · left; omega
            have hls := St.lns_step (t := s.data.toList) (a := a) (j := j) (by rw [← HSZ.out]; exact hlt) (by rw [← HSZ.out]; exact hj) HJ.out (by
              rcases hex with h | ⟨h, hc⟩
              · left; rw [← HSZ.out]; exact h
              · right; rw [ba_get s (a + j) h, hc])
            have hx : s.extract a (a + j) = bs ((s.data.toList.drop a).take j) := ba_mid s a j
            have hrl : ((s.data.toList.drop a).take j).length = j := by rw [List.length_take, List.length_drop, ← HSZ.out]; omega
            have TRM := trim_any (s.extract a (a + j)) wo (by rw [hx, bs_size, hrl]; omega)
            rw [show (s.extract a (a + j)).data.toList = (s.data.toList.drop a).take j by rw [hx, bs_data]] at TRM
            rw [show ((s.extract a (a + j)).size : Int) = (j : Int) by rw [hx, bs_size, hrl]] at TRM
            generalize (s.data.toList.drop a).take j = raw at *
            rw [show St.trimR (St.trimL raw) = St.line raw from rfl] at TRM
            have hL := St.trimL_len raw
            have hN := St.line_len raw
            rw [hrl] at hL hN
            obtain ⟨ah, hah⟩ : ∃ ah : Nat, (j : Int) - ((St.trimL raw).length : Int) = (ah : Int) := ⟨j - (St.trimL raw).length, by omega⟩
            rw [hah] at TRM
            have hpl : St.place (a, raw) = a + (raw.length - (St.trimL raw).length) := rfl
            have HPI := Lib.hid (show (a : Int) + (ah : Int) = ((St.place (a, raw) : Nat) : Int) by rw [hpl, hrl]; omega)
            have hahj : ah ≤ j := by omega
            have HPRE2 := Lib.hid (show (pre ++ [(a, raw)]) ++ St.lns (a + j + 1) (s.data.toList.drop (a + j + 1)) = St.lns 0 s.data.toList by rw [← HPRE.out, hls]; simp)
            have HSTEP := Lib.hid (fun st' (h : St.step st (a, raw) = .ok st') => (St.run_snoc HRUN.out).trans h)
            have HSTOP := Lib.hid (fun q (h : St.step st (a, raw) = .error q) => show psRes s.data.toList = .tuple #[.agg (St.stv (fv 0)).toArray, .int .i64 (q : Int), .int .i64 90] by
              have hr : St.run St.s0 (St.lns 0 s.data.toList) = .error q := by rw [← HPRE2.out]; exact St.run_stop ((St.run_snoc HRUN.out).trans h)
              obtain ⟨q1, q2, q3⟩ := St.ps_bad (t := s.data.toList) (by rw [← HSZ.out]; exact hlong) hr
              unfold psRes; rw [q1, q2, q3])
            clear hls hx hpl hin HPRE HRUN hah HJ hL
            have HTST := True.intro
            rcases hex with hex | ⟨hex, hxc⟩
            · have hexn : ¬ a + j < s.size := by omega
              have hexI : ¬ (a : Int) + (j : Int) < (s.size : Int) := by omega
              clear HTST hex
              cases hl : St.line raw with
              | nil =>
                have HD := Lib.hid (HSTEP.out _ (St.step_dull (s := st) (x := (a, raw)) (show St.dull raw = true by unfold St.dull; rw [hl])))
                rw [hl] at TRM
                have TRM := Lib.hid TRM
                have t1 : (bs []).size = 0 := rfl
                clear hl hN HSTOP
                generalize bs [] = NB at *
                go_wp2_with (first
                  | (go_at_call 50; (with_reducible refine TRM.out.mono ?_); rintro e w5 ⟨rfl, rfl⟩))
                go_roundw
                case rel => exact ⟨a + j + 1, _, st, by omega, by go_num, HPRE2, HD, HI⟩
                case measure => simp [intOf]; omega
              | cons c r =>
                have h0 : 0 < (bs (c :: r)).size := by rw [bs_size]; simp
                have h0I : (0 : Int) < ((bs (c :: r)).size : Int) := by omega
                have hc0 := ba_first h0
                have hdl : St.dull raw = decide (c = 35) := by unfold St.dull; rw [hl]
                rw [hl] at TRM hN
                have TRM := Lib.hid TRM
                have hcs : (bs (c :: r)).size ≤ 65536 := by rw [bs_size]; omega
                have SD := fun W => said_any (bs (c :: r)) W (by omega)
                simp only [bs_data] at SD
                have hstep : ∀ o, St.sd (c :: r) = o → St.sd (St.line raw) = o := fun o h => by rw [hl]; exact h
                clear hl
                generalize hNB : bs (c :: r) = NB at *
                clear hNB
                by_cases hc : c = 35
                · have HD := Lib.hid (HSTEP.out _ (St.step_dull (s := st) (x := (a, raw)) (by rw [hdl, hc]; rfl)))
                  have hcN : (NB[0]).toNat = 35 := by rw [hc0, hc]; rfl
                  have hcI : ((NB[0]).toNat : Int) = 35 := by omega
                  clear hc0 hdl hc SD HSTOP hN
                  go_wp2_with (first
                    | (go_at_call 50; (with_reducible refine TRM.out.mono ?_); rintro e w5 ⟨rfl, rfl⟩))
                  go_roundw
                  case rel => exact ⟨a + j + 1, _, st, by omega, by go_num, HPRE2, HD, HI⟩
                  case measure => simp [intOf]; omega
                · have hdf : St.dull raw = false := by rw [hdl, decide_eq_false hc]
                  have hcN : ¬ (NB[0]).toNat = 35 := by rw [hc0]; exact fun e => hc (UInt8.toNat_inj.1 (by rw [e]; rfl))
                  have hcI : ¬ ((NB[0]).toNat : Int) = 35 := by omega
                  clear hc0 hdl hc
                  cases hs : St.sd (c :: r) with
                  | none =>
                    have HE := Lib.hid (HSTOP.out _ (St.step_none (s := st) (x := (a, raw)) hdf (hstep _ hs)))
                    rw [hs] at SD
                    simp only [sdV] at SD
                    have SD := Lib.hid SD
                    clear hs hstep hdf HSTEP hN
                    go_wp2_with (first
                      | (go_at_call 50; (with_reducible refine TRM.out.mono ?_); rintro e w5 ⟨rfl, rfl⟩)
                      | (go_at_call 51; (with_reducible refine (SD.out _).mono ?_); rintro e w6 ⟨rfl, b6⟩; have I6 := HI.out.later b6; obtain ⟨r0, nb, hb, og, ogk, bel⟩ := I6; obtain ⟨zt, ze⟩ := pr_wipe0 r0 bel; have ZE := Lib.hid ze; clear ze)
                      | (refine wpList_store_mid rfl _ _ _ rfl _ _ (#[.int .i64 0, .int .i64 0, .int .i64 0, .int .i64 0, .bool false, .bool false, .bool false, .int .i64 0, .int .i64 0, .int .i64 0, .int .i64 0, .int .i64 0, .int .i64 0, .int .i64 0, .int .i64 0, .int .i64 0, .int .i64 0, .int .i64 0] : Array Value) rfl rfl zt zlit_info zlit_one ?_; refine gen_world2 (Q := fun W => wpList _ _ _ _ _ W) (fun W4 => W4.rangeAt w.heap.size 0 (St.stv (fv 0)) ∧ Below w.heap.size w W4) ZE.out ?_; rintro w7 ⟨E4, B4⟩; (try dsimp only); simp only [Act.put, List.setIfInBounds_toArray, List.set_cons_zero, List.set_cons_succ]))
                    exact bodyPost_ret (pr_results E4 rfl rfl rfl) rfl ⟨by rw [HE.out, ← HPI.out], B4⟩
                  | some q =>
                    obtain ⟨i, x⟩ := q
                    rw [hs] at SD
                    simp only [sdV] at SD
                    have SD := Lib.hid SD
                    have hi := (St.sd_spec hs).1
                    have hiI : (i : Int) < 18 := by omega
                    have hiN : ¬ (i : Int) < 0 := by omega
                    have hhad : st.2 i = true ∨ st.2 i = false := by cases st.2 i <;> simp
                    rcases hhad with hh | hh
                    · have HE := Lib.hid (HSTOP.out _ (St.step_twice (s := st) (x := (a, raw)) hdf (hstep _ hs) hh))
                      clear hs hstep hdf HSTEP hN
                      go_wp2_with (first
                        | (go_at_call 50; (with_reducible refine TRM.out.mono ?_); rintro e w5 ⟨rfl, rfl⟩)
                        | (go_at_call 51; (with_reducible refine (SD.out _).mono ?_); rintro e w6 ⟨rfl, b6⟩; have I6 := HI.out.later b6; obtain ⟨r0, nb, hb, og, ogk, bel⟩ := I6; have ck := hb.cellAt i (by omega); rw [flg_at _ hi, hh] at ck; have fk := hb.frozenAt i; obtain ⟨zt, ze⟩ := pr_wipe0 r0 bel; have ZE := Lib.hid ze; clear ze)
                        | (refine wpList_store_mid rfl _ _ _ rfl _ _ (#[.int .i64 0, .int .i64 0, .int .i64 0, .int .i64 0, .bool false, .bool false, .bool false, .int .i64 0, .int .i64 0, .int .i64 0, .int .i64 0, .int .i64 0, .int .i64 0, .int .i64 0, .int .i64 0, .int .i64 0, .int .i64 0, .int .i64 0] : Array Value) rfl rfl zt zlit_info zlit_one ?_; refine gen_world2 (Q := fun W => wpList _ _ _ _ _ W) (fun W4 => W4.rangeAt w.heap.size 0 (St.stv (fv 0)) ∧ Below w.heap.size w W4) ZE.out ?_; rintro w7 ⟨E4, B4⟩; (try dsimp only); simp only [Act.put, List.setIfInBounds_toArray, List.set_cons_zero, List.set_cons_succ]))
                      exact bodyPost_ret (pr_results E4 rfl rfl rfl) rfl ⟨by rw [HE.out, ← HPI.out], B4⟩
                    · have HD := Lib.hid (HSTEP.out _ (St.step_set (s := st) (x := (a, raw)) hdf (hstep _ hs) hh))
                      clear hs hstep hdf HSTOP hN
                      go_wp2_with (first
                        | (go_at_call 50; (with_reducible refine TRM.out.mono ?_); rintro e w5 ⟨rfl, rfl⟩)
                        | (go_at_call 51; (with_reducible refine (SD.out _).mono ?_); go_loud (rintro e w6 ⟨rfl, b6⟩; have I6 := HI.out.later b6; obtain ⟨r0, nb, hb, og, ogk, bel⟩ := I6; have ck := hb.cellAt i (by omega); rw [flg_at _ hi, hh] at ck; have fk := hb.frozenAt i; have cn := (blk_cell (i := i) nb).trans (vals_at _ hi); have fn := blk_frozen (i := i) nb; have hgk : ¬ g = k := (by omega); have hkg : ¬ k = g := (by omega); have I7 := Lib.hid (HI.out.later b6))))
                      go_roundw
                      case rel => exact ⟨a + j + 1, _, _, by omega, by go_num, HPRE2, HD, Lib.hid (I7.out.put hi x)⟩
                      case measure => simp [intOf]; omega
            · have hxN : (s[a + j]).toNat = 10 := by rw [hxc]; rfl
              have hxI : ((s[a + j]).toNat : Int) = 10 := by omega
              clear hxc HTST
              cases hl : St.line raw with
              | nil =>
                have HD := Lib.hid (HSTEP.out _ (St.step_dull (s := st) (x := (a, raw)) (show St.dull raw = true by unfold St.dull; rw [hl])))
                rw [hl] at TRM
                have TRM := Lib.hid TRM
                have t1 : (bs []).size = 0 := rfl
                clear hl hN HSTOP
                generalize bs [] = NB at *
                go_wp2_with (first
                  | (go_at_call 50; (with_reducible refine TRM.out.mono ?_); rintro e w5 ⟨rfl, rfl⟩))
                go_roundw
                case rel => exact ⟨a + j + 1, _, st, by omega, by go_num, HPRE2, HD, HI⟩
                case measure => simp [intOf]; omega
              | cons c r =>
                have h0 : 0 < (bs (c :: r)).size := by rw [bs_size]; simp
                have h0I : (0 : Int) < ((bs (c :: r)).size : Int) := by omega
                have hc0 := ba_first h0
                have hdl : St.dull raw = decide (c = 35) := by unfold St.dull; rw [hl]
                rw [hl] at TRM hN
                have TRM := Lib.hid TRM
                have hcs : (bs (c :: r)).size ≤ 65536 := by rw [bs_size]; omega
                have SD := fun W => said_any (bs (c :: r)) W (by omega)
                simp only [bs_data] at SD
                have hstep : ∀ o, St.sd (c :: r) = o → St.sd (St.line raw) = o := fun o h => by rw [hl]; exact h
                clear hl
                generalize hNB : bs (c :: r) = NB at *
                clear hNB
                by_cases hc : c = 35
                · have HD := Lib.hid (HSTEP.out _ (St.step_dull (s := st) (x := (a, raw)) (by rw [hdl, hc]; rfl)))
                  have hcN : (NB[0]).toNat = 35 := by rw [hc0, hc]; rfl
                  have hcI : ((NB[0]).toNat : Int) = 35 := by omega
                  clear hc0 hdl hc SD HSTOP hN
                  go_wp2_with (first
                    | (go_at_call 50; (with_reducible refine TRM.out.mono ?_); rintro e w5 ⟨rfl, rfl⟩))
                  go_roundw
                  case rel => exact ⟨a + j + 1, _, st, by omega, by go_num, HPRE2, HD, HI⟩
                  case measure => simp [intOf]; omega
                · have hdf : St.dull raw = false := by rw [hdl, decide_eq_false hc]
                  have hcN : ¬ (NB[0]).toNat = 35 := by rw [hc0]; exact fun e => hc (UInt8.toNat_inj.1 (by rw [e]; rfl))
                  have hcI : ¬ ((NB[0]).toNat : Int) = 35 := by omega
                  clear hc0 hdl hc
                  cases hs : St.sd (c :: r) with
                  | none =>
                    have HE := Lib.hid (HSTOP.out _ (St.step_none (s := st) (x := (a, raw)) hdf (hstep _ hs)))
                    rw [hs] at SD
                    simp only [sdV] at SD
                    have SD := Lib.hid SD
                    clear hs hstep hdf HSTEP hN
                    go_wp2_with (first
                      | (go_at_call 50; (with_reducible refine TRM.out.mono ?_); rintro e w5 ⟨rfl, rfl⟩)
                      | (go_at_call 51; (with_reducible refine (SD.out _).mono ?_); rintro e w6 ⟨rfl, b6⟩; have I6 := HI.out.later b6; obtain ⟨r0, nb, hb, og, ogk, bel⟩ := I6; obtain ⟨zt, ze⟩ := pr_wipe0 r0 bel; have ZE := Lib.hid ze; clear ze)
                      | (refine wpList_store_mid rfl _ _ _ rfl _ _ (#[.int .i64 0, .int .i64 0, .int .i64 0, .int .i64 0, .bool false, .bool false, .bool false, .int .i64 0, .int .i64 0, .int .i64 0, .int .i64 0, .int .i64 0, .int .i64 0, .int .i64 0, .int .i64 0, .int .i64 0, .int .i64 0, .int .i64 0] : Array Value) rfl rfl zt zlit_info zlit_one ?_; refine gen_world2 (Q := fun W => wpList _ _ _ _ _ W) (fun W4 => W4.rangeAt w.heap.size 0 (St.stv (fv 0)) ∧ Below w.heap.size w W4) ZE.out ?_; rintro w7 ⟨E4, B4⟩; (try dsimp only); simp only [Act.put, List.setIfInBounds_toArray, List.set_cons_zero, List.set_cons_succ]))
                    exact bodyPost_ret (pr_results E4 rfl rfl rfl) rfl ⟨by rw [HE.out, ← HPI.out], B4⟩
                  | some q =>
                    obtain ⟨i, x⟩ := q
                    rw [hs] at SD
                    simp only [sdV] at SD
                    have SD := Lib.hid SD
                    have hi := (St.sd_spec hs).1
                    have hiI : (i : Int) < 18 := by omega
                    have hiN : ¬ (i : Int) < 0 := by omega
                    have hhad : st.2 i = true ∨ st.2 i = false := by cases st.2 i <;> simp
                    rcases hhad with hh | hh
                    · have HE := Lib.hid (HSTOP.out _ (St.step_twice (s := st) (x := (a, raw)) hdf (hstep _ hs) hh))
                      clear hs hstep hdf HSTEP hN
                      go_wp2_with (first
                        | (go_at_call 50; (with_reducible refine TRM.out.mono ?_); rintro e w5 ⟨rfl, rfl⟩)
                        | (go_at_call 51; (with_reducible refine (SD.out _).mono ?_); rintro e w6 ⟨rfl, b6⟩; have I6 := HI.out.later b6; obtain ⟨r0, nb, hb, og, ogk, bel⟩ := I6; have ck := hb.cellAt i (by omega); rw [flg_at _ hi, hh] at ck; have fk := hb.frozenAt i; obtain ⟨zt, ze⟩ := pr_wipe0 r0 bel; have ZE := Lib.hid ze; clear ze)
                        | (refine wpList_store_mid rfl _ _ _ rfl _ _ (#[.int .i64 0, .int .i64 0, .int .i64 0, .int .i64 0, .bool false, .bool false, .bool false, .int .i64 0, .int .i64 0, .int .i64 0, .int .i64 0, .int .i64 0, .int .i64 0, .int .i64 0, .int .i64 0, .int .i64 0, .int .i64 0, .int .i64 0] : Array Value) rfl rfl zt zlit_info zlit_one ?_; refine gen_world2 (Q := fun W => wpList _ _ _ _ _ W) (fun W4 => W4.rangeAt w.heap.size 0 (St.stv (fv 0)) ∧ Below w.heap.size w W4) ZE.out ?_; rintro w7 ⟨E4, B4⟩; (try dsimp only); simp only [Act.put, List.setIfInBounds_toArray, List.set_cons_zero, List.set_cons_succ]))
                      exact bodyPost_ret (pr_results E4 rfl rfl rfl) rfl ⟨by rw [HE.out, ← HPI.out], B4⟩
                    · have HD := Lib.hid (HSTEP.out _ (St.step_set (s := st) (x := (a, raw)) hdf (hstep _ hs) hh))
                      clear hs hstep hdf HSTOP hN
                      go_wp2_with (first
                        | (go_at_call 50; (with_reducible refine TRM.out.mono ?_); rintro e w5 ⟨rfl, rfl⟩)
                        | (go_at_call 51; (with_reducible refine (SD.out _).mono ?_); go_loud (rintro e w6 ⟨rfl, b6⟩; have I6 := HI.out.later b6; obtain ⟨r0, nb, hb, og, ogk, bel⟩ := I6; have ck := hb.cellAt i (by omega); rw [flg_at _ hi, hh] at ck; have fk := hb.frozenAt i; have cn := (blk_cell (i := i) nb).trans (vals_at _ hi); have fn := blk_frozen (i := i) nb; have hgk : ¬ g = k := (by omega); have hkg : ¬ k = g := (by omega); have I7 := Lib.hid (HI.out.later b6))))
                      go_roundw
                      case rel => exact ⟨a + j + 1, _, _, by omega, by go_num, HPRE2, HD, Lib.hid (I7.out.put hi x)⟩
                      case measure => simp [intOf]; omega
      · have hdr : s.data.toList.drop a = [] := List.drop_eq_nil_of_le (by rw [← HSZ.out]; omega)
        have hrun := HRUN.out
        have hpre := HPRE.out
        rw [hdr, St.lns, List.append_nil] at hpre
        rw [hpre] at hrun
        obtain ⟨q1, q2, q3⟩ := St.ps_good (t := s.data.toList) (by rw [← HSZ.out]; exact hlong) hrun
        have HR := Lib.hid (show psRes s.data.toList = .tuple #[.agg (St.stv st.1).toArray, .int .i64 0, .int .i64 0] by unfold psRes; rw [q1, q2, q3])
        have OF := Lib.hid (of_any st.1 g 18 wo (rd_block HI.out.nb (by simp) (by rw [vals_len])))
        clear q1 q2 q3 hrun hpre hdr HPRE HRUN
        have hAf : ∀ W, Below wo.heap.size wo W → W.there w.heap.size 0 (St.stv st.1).toArray.size ∧ (W.setCells w.heap.size 0 (St.stv st.1).toArray.toList).rangeAt w.heap.size 0 (St.stv st.1) ∧ Below w.heap.size w (W.setCells w.heap.size 0 (St.stv st.1).toArray.toList) := fun W hb =>
          pr_wipe (HI.out.later hb).r0 (HI.out.later hb).bel st.1
        have HAF := Lib.hid hAf
        clear hAf
        go_wp2_with (first
          | (go_at_call 52; (with_reducible refine OF.out.mono ?_); rintro e w5 ⟨rfl, b5⟩; obtain ⟨zt, ze⟩ := HAF.out _ b5; have ZE := Lib.hid ze; clear ze)
          | (refine wpList_store_mid rfl _ _ _ rfl _ _ (St.stv st.1).toArray rfl rfl zt (sty_info _) (sty_one _) ?_; refine gen_world2 (Q := fun W => wpList _ _ _ _ _ W) (fun W4 => W4.rangeAt w.heap.size 0 (St.stv st.1) ∧ Below w.heap.size w W4) ZE.out ?_; rintro w7 ⟨E4, B4⟩; (try dsimp only); simp only [Act.put, List.setIfInBounds_toArray, List.set_cons_zero, List.set_cons_succ]))
        exact bodyPost_ret (pr_results E4 rfl rfl rfl) rfl ⟨by rw [HR.out], B4⟩

end Go.Proofs.YtliabgcpciekpaaDoor

/-! Walks: a path's style, as the document has it. -/
set_option linter.unusedVariables false
set_option linter.unusedSimpArgs false
namespace Go.Proofs.YtliabgcpciekpaaDoor
open Go Go.RowKit Go.Maps

theorem rf_results {W : World} {b : Nat} {v : Nat → Int} {nm : ByteArray} {e : Int} {tmps : Array Value} (g : W.rangeAt b 0 (St.stv v)) (h4 : tmps.getD 4 undef = .pointer (some ⟨b, 0, none⟩)) (h5 : tmps.getD 5 undef = .string nm) (h6 : tmps.getD 6 undef = .int .i64 e) :
    (results Tryd.f31 tmps).run Tryd.prog W = .ok (.tuple #[.agg (St.stv v).toArray, .string nm, .int .i64 e]) W := by
  have h4' : tmps[4]?.getD undef = .pointer (some ⟨b, 0, none⟩) := by simpa using h4
  have h5' : tmps[5]?.getD undef = .string nm := by simpa using h5
  have h6' : tmps[6]?.getD undef = .int .i64 e := by simpa using h6
  have hinfo : (Tryd.prog.info? 23).map (·.size) = some (St.stv v).length := by rw [St.stv_len]; kernel_rfl
  have e0 := run_loadVar_mid (P := Tryd.prog) W b 0 23 (St.stv v) _ g Tryd.underlying23 rfl hinfo
  simp [results, Tryd.results31, h4', h5', h6', asAddr, e0]

set_option maxRecDepth 100000 in
set_option maxHeartbeats 8000000 in
theorem refFor_any (A : Option Addr) (cap : Nat) (fs : List (Tr.T × Tr.T)) (p : Tr.T) (w : World) (hrd : Rd w 2 A fs.length (fls fs)) (hn : fs.length ≤ 4000000) (hz : ∀ f ∈ fs, f.1.length ≤ 4000000) (hpl : p.length ≤ 4000000) :
    Calls Tryd.prog 31 #[.slice A fs.length cap, .string (bs p)] w fun e w' => e = .returned (frRes fs p) ∧ Below w.heap.size w w' := by
  have hb0 := (Below.refl w.heap.size w).alloc (Nat.le_refl _) (.cells (#[.int .i64 0, .int .i64 0, .int .i64 0, .int .i64 0, .bool false, .bool false, .bool false, .int .i64 0, .int .i64 0, .int .i64 0, .int .i64 0, .int .i64 0, .int .i64 0, .int .i64 0, .int .i64 0, .int .i64 0, .int .i64 0, .int .i64 0] : Array Value) 23)
  have HB0 := Lib.hid hb0
  have HS0 := Lib.hid (sty_zero w)
  have NA := fun W (hb : Below w.heap.size w W) => refNearest_any A cap fs p W (hrd.later hb) hn hz hpl
  have TX := Lib.hid (fun W (hb : Below w.heap.size w W) => text_any A cap fs (Tr.near (Tr.nms fs) p) W (hrd.later hb) hn)
  clear hb0 hrd
  cases hp : Tr.isPath p
  · have HR := Lib.hid (show frRes fs p = .tuple #[.agg (St.stv (fv 0)).toArray, .string (bs []), .int .i64 220] by unfold frRes Tr.frV Tr.frE Tr.nsN; rw [hp]; rfl)
    have hNR : nsRes (Tr.nms fs) p = .tuple #[.string (bs []), .bool false, .int .i64 220] := by unfold nsRes Tr.nsN Tr.nsH Tr.nsE; rw [hp]; rfl
    rw [hNR] at NA
    have NA := Lib.hid NA
    clear hNR
    go_enter Tryd.func31, Tryd.ntmps31
    go_wp2_with (first
      | (go_at_call 30; (with_reducible refine (NA.out _ HB0.out).mono ?_); rintro e w1 ⟨rfl, b1⟩; have S1 := Lib.hid (HS0.out.later b1); have B1 := Lib.hid (HB0.out.trans (b1.mono HB0.out.size)))
      | (refine wpList_store_mid rfl _ _ _ rfl _ _ (#[.int .i64 0, .int .i64 0, .int .i64 0, .int .i64 0, .bool false, .bool false, .bool false, .int .i64 0, .int .i64 0, .int .i64 0, .int .i64 0, .int .i64 0, .int .i64 0, .int .i64 0, .int .i64 0, .int .i64 0, .int .i64 0, .int .i64 0] : Array Value) rfl rfl (zlit_there S1.out) zlit_info zlit_one ?_; refine gen_world2 (Q := fun W => wpList _ _ _ _ _ W) (fun W => Sty W w.heap.size (fv 0) ∧ Below w.heap.size w W) ⟨by rw [← zeroSt]; exact S1.out.store (fv 0), below_setCells (Nat.le_refl _) _ _ _ B1.out⟩ ?_; rintro w2 ⟨SZ, cZ⟩; have SZ := Lib.hid SZ; (try dsimp only); simp only [Act.put, List.setIfInBounds_toArray, List.set_cons_zero, List.set_cons_succ]))
    exact bodyPost_ret (rf_results SZ.out.range rfl rfl rfl) rfl ⟨by rw [HR.out]; rfl, cZ⟩
  · have HR := Lib.hid (show frRes fs p = .tuple #[.agg (St.stv (St.psV (Tr.ftx fs p))).toArray, .string (bs (Tr.near (Tr.nms fs) p)), .int .i64 (St.psE (Tr.ftx fs p))] by unfold frRes Tr.frV Tr.frE Tr.nsN; rw [hp]; rfl)
    have VB := Lib.hid (fun h => Tr.psV_bad (t := Tr.ftx fs p) h)
    cases hnr : Tr.nr (Tr.nms fs) p with
    | none =>
      obtain ⟨-, e2, e3⟩ := Tr.nrI_none hnr
      have e4 := Tr.ftx_none (fs := fs) hnr
      have hNR : nsRes (Tr.nms fs) p = .tuple #[.string (bs []), .bool false, .int .i64 0] := by unfold nsRes Tr.nsN Tr.nsH Tr.nsE; rw [hp, e2, e3]; rfl
      have KP := fun W => refParse_any ⟨#[]⟩ W
      have hKP : psRes (⟨#[]⟩ : ByteArray).data.toList = psRes (Tr.ftx fs p) := by rw [e4]
      rw [hKP] at KP
      rw [e2] at HR
      clear e2 e3 e4 hKP
      rw [hNR] at NA
      clear hnr hNR
      have NA := Lib.hid NA
      unfold psRes at KP
      generalize St.psV (Tr.ftx fs p) = V at *
      generalize St.psE (Tr.ftx fs p) = er at *
      generalize St.psP (Tr.ftx fs p) = pp at *
      have KP := Lib.hid KP
      have hinfo : (Tryd.prog.info? 23).map (·.size) = some (St.stv V).length := by rw [St.stv_len]; kernel_rfl
      by_cases her : er = 0
      · subst her
        go_enter Tryd.func31, Tryd.ntmps31
        go_wp2_with (first
          | (go_at_call 30; (with_reducible refine (NA.out _ HB0.out).mono ?_); rintro e w1 ⟨rfl, b1⟩; have S1 := Lib.hid (HS0.out.later b1); have B1 := Lib.hid (HB0.out.trans (b1.mono HB0.out.size)))
          | (go_at_call 18; (with_reducible refine (KP.out _).mono ?_); rintro e w2 ⟨rfl, b2⟩; have S2 := Lib.hid (S1.out.later b2); have B2 := Lib.hid (B1.out.trans (b2.mono B1.out.size)))
          | (refine wpList_store_mid rfl _ _ _ rfl _ _ (St.stv V).toArray rfl rfl (st_there w2 V) (sty_info V) (sty_one V) ?_; refine gen_world2 (Q := fun W => wpList _ _ _ _ _ W) (fun W => Sty W w2.heap.size V ∧ Below w2.heap.size w2 W ∧ W.heap.size = w2.heap.size + 1) (st_first w2 V) ?_; rintro w3 ⟨S4, c4, -⟩; have SR4 := S4.range; have S3 := Lib.hid (S2.out.later c4); have B3 := Lib.hid (B2.out.trans (c4.mono B2.out.size)); clear S4; (try dsimp only); simp only [Act.put, List.setIfInBounds_toArray, List.set_cons_zero, List.set_cons_succ])
          | (refine wpList_load_mid rfl _ _ rfl _ _ rfl (St.stv V) _ SR4 Tryd.underlying23 rfl hinfo ?_)
          | (refine wpList_store_mid rfl _ _ _ rfl _ _ (St.stv V).toArray rfl rfl (sty_there S3.out V) (sty_info V) (sty_one V) ?_; refine gen_world2 (Q := fun W => wpList _ _ _ _ _ W) (fun W => Sty W w.heap.size V ∧ Below w.heap.size w W) ⟨S3.out.store V, below_setCells (Nat.le_refl _) _ _ _ B3.out⟩ ?_; rintro w4 ⟨SZ, cZ⟩; have SZ := Lib.hid SZ; (try dsimp only); simp only [Act.put, List.setIfInBounds_toArray, List.set_cons_zero, List.set_cons_succ]))
        exact bodyPost_ret (rf_results SZ.out.range rfl rfl rfl) rfl ⟨by rw [HR.out], cZ⟩
      · have hV := VB.out her
        subst hV
        have herB : (er == 0) = false := beq_eq_false_iff_ne.2 her
        go_enter Tryd.func31, Tryd.ntmps31
        go_wp2_with (first
          | (go_at_call 30; (with_reducible refine (NA.out _ HB0.out).mono ?_); rintro e w1 ⟨rfl, b1⟩; have S1 := Lib.hid (HS0.out.later b1); have B1 := Lib.hid (HB0.out.trans (b1.mono HB0.out.size)))
          | (go_at_call 18; (with_reducible refine (KP.out _).mono ?_); rintro e w2 ⟨rfl, b2⟩; have S2 := Lib.hid (S1.out.later b2); have B2 := Lib.hid (B1.out.trans (b2.mono B1.out.size)))
          | (refine wpList_store_mid rfl _ _ _ rfl _ _ (St.stv (fv 0)).toArray rfl rfl (st_there w2 (fv 0)) (sty_info (fv 0)) (sty_one (fv 0)) ?_; refine gen_world2 (Q := fun W => wpList _ _ _ _ _ W) (fun W => Sty W w2.heap.size (fv 0) ∧ Below w2.heap.size w2 W ∧ W.heap.size = w2.heap.size + 1) (st_first w2 (fv 0)) ?_; rintro w3 ⟨S4, c4, -⟩; have SR4 := S4.range; have S3 := Lib.hid (S2.out.later c4); have B3 := Lib.hid (B2.out.trans (c4.mono B2.out.size)); clear S4; (try dsimp only); simp only [Act.put, List.setIfInBounds_toArray, List.set_cons_zero, List.set_cons_succ])
          | (refine wpList_store_mid rfl _ _ _ rfl _ _ (#[.int .i64 0, .int .i64 0, .int .i64 0, .int .i64 0, .bool false, .bool false, .bool false, .int .i64 0, .int .i64 0, .int .i64 0, .int .i64 0, .int .i64 0, .int .i64 0, .int .i64 0, .int .i64 0, .int .i64 0, .int .i64 0, .int .i64 0] : Array Value) rfl rfl (zlit_there S3.out) zlit_info zlit_one ?_; refine gen_world2 (Q := fun W => wpList _ _ _ _ _ W) (fun W => Sty W w.heap.size (fv 0) ∧ Below w.heap.size w W) ⟨by rw [← zeroSt]; exact S3.out.store (fv 0), below_setCells (Nat.le_refl _) _ _ _ B3.out⟩ ?_; rintro w4 ⟨SZ, cZ⟩; have SZ := Lib.hid SZ; (try dsimp only); simp only [Act.put, List.setIfInBounds_toArray, List.set_cons_zero, List.set_cons_succ]))
        exact bodyPost_ret (rf_results SZ.out.range rfl rfl rfl) rfl ⟨by rw [HR.out], cZ⟩
    | some i =>
      obtain ⟨_, -, -, -, -, e3⟩ := Tr.nrI_some hnr
      have e4 := Tr.ftx_some (fs := fs) hnr
      have hNR : nsRes (Tr.nms fs) p = .tuple #[.string (bs (Tr.near (Tr.nms fs) p)), .bool true, .int .i64 0] := by unfold nsRes Tr.nsN Tr.nsH Tr.nsE; rw [hp, e3]; rfl
      have KP := fun W => refParse_any (bs (Tr.ftx fs p)) W
      simp only [bs_data] at KP
      rw [← e4] at TX
      generalize Tr.near (Tr.nms fs) p = nm at *
      generalize decide (nm ∈ Tr.nms fs) = dn at *
      clear e3 e4
      rw [hNR] at NA
      clear hnr hNR
      have NA := Lib.hid NA
      unfold psRes at KP
      generalize St.psV (Tr.ftx fs p) = V at *
      generalize St.psE (Tr.ftx fs p) = er at *
      generalize St.psP (Tr.ftx fs p) = pp at *
      have KP := Lib.hid KP
      have hinfo : (Tryd.prog.info? 23).map (·.size) = some (St.stv V).length := by rw [St.stv_len]; kernel_rfl
      by_cases her : er = 0
      · subst her
        go_enter Tryd.func31, Tryd.ntmps31
        go_wp2_with (first
          | (go_at_call 30; (with_reducible refine (NA.out _ HB0.out).mono ?_); rintro e w1 ⟨rfl, b1⟩; have S1 := Lib.hid (HS0.out.later b1); have B1 := Lib.hid (HB0.out.trans (b1.mono HB0.out.size)))
          | (go_at_call 61; (with_reducible refine (TX.out _ B1.out).mono ?_); rintro e w1' ⟨rfl, rfl⟩)
          | (go_at_call 18; (with_reducible refine (KP.out _).mono ?_); rintro e w2 ⟨rfl, b2⟩; have S2 := Lib.hid (S1.out.later b2); have B2 := Lib.hid (B1.out.trans (b2.mono B1.out.size)))
          | (refine wpList_store_mid rfl _ _ _ rfl _ _ (St.stv V).toArray rfl rfl (st_there w2 V) (sty_info V) (sty_one V) ?_; refine gen_world2 (Q := fun W => wpList _ _ _ _ _ W) (fun W => Sty W w2.heap.size V ∧ Below w2.heap.size w2 W ∧ W.heap.size = w2.heap.size + 1) (st_first w2 V) ?_; rintro w3 ⟨S4, c4, -⟩; have SR4 := S4.range; have S3 := Lib.hid (S2.out.later c4); have B3 := Lib.hid (B2.out.trans (c4.mono B2.out.size)); clear S4; (try dsimp only); simp only [Act.put, List.setIfInBounds_toArray, List.set_cons_zero, List.set_cons_succ])
          | (refine wpList_load_mid rfl _ _ rfl _ _ rfl (St.stv V) _ SR4 Tryd.underlying23 rfl hinfo ?_)
          | (refine wpList_store_mid rfl _ _ _ rfl _ _ (St.stv V).toArray rfl rfl (sty_there S3.out V) (sty_info V) (sty_one V) ?_; refine gen_world2 (Q := fun W => wpList _ _ _ _ _ W) (fun W => Sty W w.heap.size V ∧ Below w.heap.size w W) ⟨S3.out.store V, below_setCells (Nat.le_refl _) _ _ _ B3.out⟩ ?_; rintro w4 ⟨SZ, cZ⟩; have SZ := Lib.hid SZ; (try dsimp only); simp only [Act.put, List.setIfInBounds_toArray, List.set_cons_zero, List.set_cons_succ]))
        exact bodyPost_ret (rf_results SZ.out.range rfl rfl rfl) rfl ⟨by rw [HR.out], cZ⟩
      · have hV := VB.out her
        subst hV
        have herB : (er == 0) = false := beq_eq_false_iff_ne.2 her
        go_enter Tryd.func31, Tryd.ntmps31
        go_wp2_with (first
          | (go_at_call 30; (with_reducible refine (NA.out _ HB0.out).mono ?_); rintro e w1 ⟨rfl, b1⟩; have S1 := Lib.hid (HS0.out.later b1); have B1 := Lib.hid (HB0.out.trans (b1.mono HB0.out.size)))
          | (go_at_call 61; (with_reducible refine (TX.out _ B1.out).mono ?_); rintro e w1' ⟨rfl, rfl⟩)
          | (go_at_call 18; (with_reducible refine (KP.out _).mono ?_); rintro e w2 ⟨rfl, b2⟩; have S2 := Lib.hid (S1.out.later b2); have B2 := Lib.hid (B1.out.trans (b2.mono B1.out.size)))
          | (refine wpList_store_mid rfl _ _ _ rfl _ _ (St.stv (fv 0)).toArray rfl rfl (st_there w2 (fv 0)) (sty_info (fv 0)) (sty_one (fv 0)) ?_; refine gen_world2 (Q := fun W => wpList _ _ _ _ _ W) (fun W => Sty W w2.heap.size (fv 0) ∧ Below w2.heap.size w2 W ∧ W.heap.size = w2.heap.size + 1) (st_first w2 (fv 0)) ?_; rintro w3 ⟨S4, c4, -⟩; have SR4 := S4.range; have S3 := Lib.hid (S2.out.later c4); have B3 := Lib.hid (B2.out.trans (c4.mono B2.out.size)); clear S4; (try dsimp only); simp only [Act.put, List.setIfInBounds_toArray, List.set_cons_zero, List.set_cons_succ])
          | (refine wpList_store_mid rfl _ _ _ rfl _ _ (#[.int .i64 0, .int .i64 0, .int .i64 0, .int .i64 0, .bool false, .bool false, .bool false, .int .i64 0, .int .i64 0, .int .i64 0, .int .i64 0, .int .i64 0, .int .i64 0, .int .i64 0, .int .i64 0, .int .i64 0, .int .i64 0, .int .i64 0] : Array Value) rfl rfl (zlit_there S3.out) zlit_info zlit_one ?_; refine gen_world2 (Q := fun W => wpList _ _ _ _ _ W) (fun W => Sty W w.heap.size (fv 0) ∧ Below w.heap.size w W) ⟨by rw [← zeroSt]; exact S3.out.store (fv 0), below_setCells (Nat.le_refl _) _ _ _ B3.out⟩ ?_; rintro w4 ⟨SZ, cZ⟩; have SZ := Lib.hid SZ; (try dsimp only); simp only [Act.put, List.setIfInBounds_toArray, List.set_cons_zero, List.set_cons_succ]))
        exact bodyPost_ret (rf_results SZ.out.range rfl rfl rfl) rfl ⟨by rw [HR.out], cZ⟩

end Go.Proofs.YtliabgcpciekpaaDoor

/-! Walks: style's files that are none, as the document has it. -/
set_option linter.unusedVariables false
set_option linter.unusedSimpArgs false
namespace Go.Proofs.YtliabgcpciekpaaDoor
open Go Go.RowKit Go.Maps

namespace Tr
theorem isSt_last {x y : T} {n : Nat} (h : isPath x = true) (hn : (spl 47 x).length = n + 1) (hy : (spl 47 x)[n]? = some y) : isSt x = decide (y = dot) := by
  have := isSt_iff h
  rw [List.getLast?_eq_getElem?, hn, Nat.add_sub_cancel, hy, Option.some.injEq] at this
  by_cases e : y = dot
  · rw [decide_eq_true e]; exact this.2 e
  · rw [decide_eq_false e]
    have : ¬ isSt x = true := fun h2 => e (this.1 h2)
    simpa using this
theorem nms_stp {fs : List (T × T)} {k : Nat} {f : T × T} (h : fs[k]? = some f) : nms (fs.take (k + 1)) = nms (fs.take k) ++ [f.1] := by
  rw [List.take_add_one, h]; unfold nms; rw [List.map_append]; rfl
theorem und_no {fs : List (T × T)} {k : Nat} {f : T × T} {q : T → Bool} {l : List T} (h : fs[k]? = some f) (hl : l = und (nms (fs.take k)) q) (hq : (isPath f.1 && q f.1) = false) : l = und (nms (fs.take (k + 1))) q := by
  rw [nms_stp h, und_snoc, hq, hl]; rfl
theorem und_yes {fs : List (T × T)} {k : Nat} {f : T × T} {q : T → Bool} {l : List T} (h : fs[k]? = some f) (hl : l = und (nms (fs.take k)) q) (hq : (isPath f.1 && q f.1) = true) : add l f.1 = und (nms (fs.take (k + 1))) q := by
  rw [nms_stp h, und_snoc, hq, hl]; rfl
theorem add_len (l : List T) (x : T) : (add l x).length ≤ l.length + 1 := by
  induction l with
  | nil => simp [add]
  | cons y r ih =>
    rw [add]
    split
    · simpa using ih
    · split <;> simp
end Tr

set_option maxRecDepth 100000 in
set_option maxHeartbeats 8000000 in
theorem refWrong_any (A : Option Addr) (cap : Nat) (fs : List (Tr.T × Tr.T)) (w : World) (hrd : Rd w 2 A fs.length (fls fs)) (hn : fs.length ≤ 3000000) (hz : ∀ f ∈ fs, f.1.length ≤ 4000000) :
    Calls Tryd.prog 33 #[.slice A fs.length cap] w fun e w' => ∃ v, e = .returned v ∧ w'.ownsRow w.heap.size 9 1 v (Tr.und (Tr.nms fs) (Tr.wrq fs)).length (sts (Tr.und (Tr.nms fs) (Tr.wrq fs))) ∧ Below w.heap.size w w' := by
  have HZ := Lib.hid hz
  have RA := Lib.hid (fun W (hb : Below w.heap.size w W) (k : Nat) (f : Tr.T × Tr.T) (hf : fs[k]? = some f) => (hrd.later hb).fi hf)
  have TX := Lib.hid (fun W x (hb : Below w.heap.size w W) => text_any A cap fs x W (hrd.later hb) (by omega))
  clear hrd hz
  go_enter Tryd.func33, Tryd.ntmps33
  go_wp2
  go_loopw [3, 4] (fun v i wr => ∃ (k : Nat) (l : List Tr.T), k ≤ fs.length ∧ i = .int .i64 k ∧ Hid (l = Tr.und (Tr.nms (fs.take k)) (Tr.wrq fs)) ∧ l.length ≤ k ∧ wr.ownsRow w.heap.size 9 1 v l.length (sts l) ∧ Below w.heap.size w wr) (fun _ i _ => fs.length - (intOf i).toNat)
  case atStart => exact ⟨0, [], Nat.zero_le _, rfl, Lib.hid rfl, Nat.le_refl _, World.ownsRow_nil _ _ _ _, Below.refl _ _⟩
  case round =>
    obtain ⟨k, l, hk, rfl, HL, hlk, hown, hb⟩ := hrel
    obtain ⟨wo, rfl⟩ : ∃ wo : World, wo = wr := ⟨_, rfl⟩
    by_cases hlt : k < fs.length
    · have hf := List.getElem?_eq_getElem hlt
      have hfl := HZ.out _ (List.getElem_mem hlt)
      obtain ⟨b, o, rfl, _, k0, -⟩ := RA.out wo hb k _ hf
      have RA2 := Lib.hid (fun W (hb : Below w.heap.size w W) => RA.out W hb k _ hf)
      have TX2 := Lib.hid (fun W (hb : Below w.heap.size w W) => TX.out W fs[k].1 hb)
      have HNO := Lib.hid (fun h => Tr.und_no hf HL.out h)
      have HYES := Lib.hid (fun h => Tr.und_yes hf HL.out h)
      have HWQ := Lib.hid (show Tr.wrq fs fs[k].1 = (Tr.isSt fs[k].1 && decide (St.psE (Tr.txt fs fs[k].1) ≠ 0)) from rfl)
      have KP := fun W => refParse_any (bs (Tr.txt fs fs[k].1)) W
      simp only [bs_data] at KP
      unfold psRes at KP
      have HO := Lib.hid hown
      have HB := Lib.hid hb
      have hbs := hb.size
      generalize fs[k] = f at *
      clear hf hown hb RA TX HL HZ
      generalize Tr.txt fs f.1 = tx at *
      generalize decide (f.1 ∈ Tr.nms fs) = dn at *
      generalize St.psV tx = V at *
      generalize St.psE tx = er at *
      generalize St.psP tx = pp at *
      cases hp : Tr.isPath f.1
      · have N1 := Lib.hid (Names_no f.1 hfl hp)
        have HL2 := Lib.hid (HNO.out (by rw [hp]; rfl))
        clear KP
        go_wp2_with (first
          | (go_at_call 29; (with_reducible refine (N1.out wo).mono ?_); rintro e w1 ⟨v1, rfl, b1⟩))
        go_roundw
        case rel => exact ⟨k + 1, l, by omega, by go_num, HL2, by omega, own_later HO.out b1, HB.out.trans (b1.mono HB.out.size)⟩
        case measure => simp [intOf]; omega
      · obtain ⟨n, hnn⟩ : ∃ n, (Tr.spl 47 f.1).length = n + 1 := ⟨(Tr.spl 47 f.1).length - 1, by have := List.length_pos_iff.2 (Tr.spl_ne 47 f.1); omega⟩
        have hn20 := ((Tr.isPath_iff f.1).1 hp).1
        rw [hnn] at hn20
        have N1 := Lib.hid (Names_yes f.1 hfl hp hnn)
        obtain ⟨y, hy⟩ : ∃ y, (Tr.spl 47 f.1)[n]? = some y := ⟨_, List.getElem?_eq_getElem (show n < (Tr.spl 47 f.1).length by omega)⟩
        have hst := Tr.isSt_last hp hnn hy
        have HY := Lib.hid hy
        have ty : (bs y).toList = y := bs_toList y
        clear hnn hy
        by_cases hyd : y = Tr.dot
        · rw [decide_eq_true hyd] at hst
          rw [hst] at HWQ
          unfold Tr.dot at hyd
          clear hst
          have KP := Lib.hid KP
          by_cases her : er = 0
          · have HL2 := Lib.hid (HNO.out (by rw [hp, HWQ.out, her]; rfl))
            subst her
            go_wp2_with (first
              | (go_at_call 29; (with_reducible refine (N1.out wo).mono ?_); rintro e w1 ⟨A1, c1, rfl, nc1, r1, b1⟩; obtain ⟨g1, o1, rfl, _, q1⟩ := r1.st HY.out; clear r1; subst hyd; have B1 := HB.out.trans (b1.mono HB.out.size); obtain ⟨_, _, e0, _, k1, -⟩ := RA2.out w1 B1; cases e0; have B1 := Lib.hid B1)
              | (go_at_call 61; (with_reducible refine (TX2.out _ B1.out).mono ?_); rintro e w1' ⟨rfl, rfl⟩)
              | (go_at_call 18; (with_reducible refine (KP.out _).mono ?_); rintro e w2 ⟨rfl, b2⟩)
              | (refine wpList_store_mid rfl _ _ _ rfl _ _ (St.stv V).toArray rfl rfl (st_there w2 V) (sty_info V) (sty_one V) ?_; refine gen_world2 (Q := fun W => wpList _ _ _ _ _ W) (fun W => Sty W w2.heap.size V ∧ Below w2.heap.size w2 W ∧ W.heap.size = w2.heap.size + 1) (st_first w2 V) ?_; rintro w3 ⟨-, b3, -⟩; (try dsimp only); simp only [Act.put, List.setIfInBounds_toArray, List.set_cons_zero, List.set_cons_succ]))
            go_roundw
            case rel =>
              have c3 := b1.trans ((b2.trans (b3.mono b2.size)).mono b1.size)
              exact ⟨k + 1, l, by omega, by go_num, HL2, by omega, own_later HO.out c3, HB.out.trans (c3.mono HB.out.size)⟩
            case measure => simp [intOf]; omega
          · have HL2 := Lib.hid (HYES.out (by rw [hp, HWQ.out]; simp [her]))
            have herB : (er == 0) = false := beq_eq_false_iff_ne.2 her
            have hal := Tr.add_len l f.1
            go_wp2_with (first
              | (go_at_call 29; (with_reducible refine (N1.out wo).mono ?_); rintro e w1 ⟨A1, c1, rfl, nc1, r1, b1⟩; obtain ⟨g1, o1, rfl, _, q1⟩ := r1.st HY.out; clear r1; subst hyd; have B1 := HB.out.trans (b1.mono HB.out.size); obtain ⟨_, _, e0, _, k1, -⟩ := RA2.out w1 B1; cases e0; have B1 := Lib.hid B1)
              | (go_at_call 61; (with_reducible refine (TX2.out _ B1.out).mono ?_); rintro e w1' ⟨rfl, rfl⟩)
              | (go_at_call 18; (with_reducible refine (KP.out _).mono ?_); rintro e w2 ⟨rfl, b2⟩)
              | (refine wpList_store_mid rfl _ _ _ rfl _ _ (St.stv V).toArray rfl rfl (st_there w2 V) (sty_info V) (sty_one V) ?_; refine gen_world2 (Q := fun W => wpList _ _ _ _ _ W) (fun W => Sty W w2.heap.size V ∧ Below w2.heap.size w2 W ∧ W.heap.size = w2.heap.size + 1) (st_first w2 V) ?_; rintro w3 ⟨-, b3, -⟩; have c3 := b1.trans ((b2.trans (b3.mono b2.size)).mono b1.size); have O3 := Lib.hid (own_later HO.out c3); have B3 := HB.out.trans (c3.mono HB.out.size); obtain ⟨_, _, e0, _, k3, -⟩ := RA2.out w3 B3; cases e0; have B3 := Lib.hid B3; clear c3; (try dsimp only); simp only [Act.put, List.setIfInBounds_toArray, List.set_cons_zero, List.set_cons_succ])
              | (go_at_call 63; (refine (add_any w.heap.size _ l f.1 w3 O3.out B3.out.size (by omega)).mono ?_); rintro e w4 ⟨v4, rfl, o4, b4⟩; have o4 := Lib.hid o4))
            go_roundw
            case rel => exact ⟨k + 1, Tr.add l f.1, by omega, by go_num, HL2, by omega, o4.out, B3.out.trans (b4.mono B3.out.size)⟩
            case measure => simp [intOf]; omega
        · rw [decide_eq_false hyd] at hst
          rw [hst] at HWQ
          unfold Tr.dot at hyd
          have eb : (y == [46, 99, 102, 109, 116]) = false := beq_eq_false_iff_ne.2 hyd
          have HL2 := Lib.hid (HNO.out (by rw [HWQ.out]; simp))
          clear hst KP
          go_wp2_with (first
            | (go_at_call 29; (with_reducible refine (N1.out wo).mono ?_); rintro e w1 ⟨A1, c1, rfl, nc1, r1, b1⟩; obtain ⟨g1, o1, rfl, _, q1⟩ := r1.st HY.out; clear r1))
          go_roundw
          case rel => exact ⟨k + 1, l, by omega, by go_num, HL2, by omega, own_later HO.out b1, HB.out.trans (b1.mono HB.out.size)⟩
          case measure => simp [intOf]; omega
    · obtain rfl : k = fs.length := by omega
      have HQ := Lib.hid (show l = Tr.und (Tr.nms fs) (Tr.wrq fs) by have := HL.out; rwa [List.take_length] at this)
      have HO := Lib.hid hown
      have HB := Lib.hid hb
      clear hown hb
      go_wp2
      go_ret
      exact ⟨_, rfl, by rw [← HQ.out]; exact HO.out, HB.out⟩

end Go.Proofs.YtliabgcpciekpaaDoor

/-! Walks: the files in a folder, as the document has them. -/
set_option linter.unusedVariables false
set_option linter.unusedSimpArgs false
namespace Go.Proofs.YtliabgcpciekpaaDoor
open Go Go.RowKit Go.Maps

namespace Tr
/-- A folder's names. -/
def fdl (fd : T) : List T := if fd = [] then [] else spl 47 fd
theorem inF_fdl {fd x : T} (hx : isPath x = true) : inF fd x = true ↔ (fdl fd).length < (spl 47 x).length ∧ (spl 47 x).take (fdl fd).length = fdl fd := by
  unfold fdl
  by_cases e : fd = []
  · rw [if_pos e]
    subst e
    have := List.length_pos_iff.2 (spl_ne 47 x)
    simp only [List.length_nil, List.take_zero, and_true]
    exact ⟨fun _ => this, fun _ => by unfold inF; simp⟩
  · rw [if_neg e]; exact inF_spl e
theorem inF_short {fd x : T} (hx : isPath x = true) (h : (spl 47 x).length ≤ (fdl fd).length) : inF fd x = false := by
  have : ¬ inF fd x = true := fun e => by have := ((inF_fdl hx).1 e).1; omega
  simpa using this
theorem inF_differ {fd x a b : T} {j : Nat} (hx : isPath x = true) (hj : j < (fdl fd).length) (ha : (spl 47 x)[j]? = some a) (hb : (fdl fd)[j]? = some b) (hne : a ≠ b) : inF fd x = false := by
  have : ¬ inF fd x = true := fun e => by
    have h2 := ((inF_fdl hx).1 e).2
    have := congrArg (fun z => z[j]?) h2
    simp only [List.getElem?_take, if_pos hj, ha, hb] at this
    exact hne (Option.some.inj this)
  simpa using this
theorem inF_yes {fd x : T} (hx : isPath x = true) (h : (fdl fd).length < (spl 47 x).length) (h2 : (spl 47 x).take (fdl fd).length = (fdl fd).take (fdl fd).length) : inF fd x = true :=
  (inF_fdl hx).2 ⟨h, by rw [h2, List.take_length]⟩
end Tr

theorem own_drewN {w : World} {base n sz : Nat} {e : TypeId} {v : Value} {xs : List Value} (h : w.ownsRow base e sz v n xs) (m : Nat) : (w.drewN m).ownsRow base e sz v n xs := h
/-- The walk behind the folder's names. -/
def UnRes (fs : List (Tr.T × Tr.T)) (fd : Tr.T) (w : World) (e : Ending) (w' : World) : Prop :=
  ∃ v, e = .returned (.tuple #[v, .int .i64 (Tr.unE fd)]) ∧ w'.ownsRow w.heap.size 9 1 v (Tr.unL (Tr.nms fs) fd).length (sts (Tr.unL (Tr.nms fs) fd)) ∧ Below w.heap.size w w'

set_option maxRecDepth 100000 in
set_option maxHeartbeats 8000000 in
theorem refUnder_any (A : Option Addr) (cap : Nat) (fs : List (Tr.T × Tr.T)) (fd : Tr.T) (w : World) (hrd : Rd w 2 A fs.length (fls fs)) (hn : fs.length ≤ 3000000) (hz : ∀ f ∈ fs, f.1.length ≤ 4000000) (hfl : fd.length ≤ 4000000) :
    Calls Tryd.prog 34 #[.slice A fs.length cap, .string (bs fd)] w (UnRes fs fd w) := by
  have tfd : (bs fd).toList = fd := bs_toList fd
  have HZ := Lib.hid hz
  have RA := Lib.hid (fun W (hb : Below w.heap.size w W) (k : Nat) (f : Tr.T × Tr.T) (hf : fs[k]? = some f) => (hrd.later hb).fi hf)
  clear hrd hz
  by_cases h0 : fd = []
  · subst h0
    have HL := Lib.hid (show Tr.unL (Tr.nms fs) [] = Tr.und (Tr.nms fs) (Tr.inF []) by unfold Tr.unL; simp)
    have HE := Lib.hid (show Tr.unE [] = 0 by unfold Tr.unE; simp)
    have t2 : (bs []).toList.isEmpty = true := by rw [tfd]; rfl
    have HM := Lib.hid (show (Tr.fdl []).length = 0 from rfl)
    go_enter Tryd.func34, Tryd.ntmps34
    go_wp2
    have B0 := Lib.hid (Below.refl w.heap.size w)
    have HR := Lib.hid (fun W (hb : Below w.heap.size w W) => (show Rd W 1 none 0 (sts (Tr.fdl [])) from Rd.nil _ _ _))
    go_loopw [9, 10] (fun v i wr => ∃ (k : Nat) (l : List Tr.T), k ≤ fs.length ∧ i = .int .i64 k ∧ Hid (l = Tr.und (Tr.nms (fs.take k)) (Tr.inF [])) ∧ l.length ≤ k ∧ wr.ownsRow w.heap.size 9 1 v l.length (sts l) ∧ Below w.heap.size w wr) (fun _ i _ => fs.length - (intOf i).toNat)
    case atStart => exact ⟨0, [], Nat.zero_le _, rfl, Lib.hid rfl, Nat.le_refl _, World.ownsRow_nil _ _ _ _, Below.refl _ _⟩
    case round =>
      obtain ⟨k, l, hk, rfl, HL1, hlk, hown, hbw⟩ := hrel
      obtain ⟨wo, rfl⟩ : ∃ wo : World, wo = wr := ⟨_, rfl⟩
      have hb := B0.out.trans (hbw.mono B0.out.size)
      by_cases hlt : k < fs.length
      · have hf := List.getElem?_eq_getElem hlt
        have hfl2 := HZ.out _ (List.getElem_mem hlt)
        obtain ⟨b, o, rfl, _, k0, -⟩ := RA.out wo hb k _ hf
        have RA2 := Lib.hid (fun W (hb : Below w.heap.size w W) => RA.out W hb k _ hf)
        have HNO := Lib.hid (fun h => Tr.und_no hf HL1.out h)
        have HYES := Lib.hid (fun h => Tr.und_yes hf HL1.out h)
        have HO := Lib.hid hown
        have HB := Lib.hid hb
        have HBW := Lib.hid hbw
        have hbs := hb.size
        generalize fs[k] = f at *
        clear hf hown hb hbw RA HL1 HZ
        cases hpx : Tr.isPath f.1
        · have N2 := Lib.hid (Names_no f.1 hfl2 hpx)
          have HL2 := Lib.hid (HNO.out (by rw [hpx]; rfl))
          go_upto_region 13 with (first
            | (go_at_call 29; (with_reducible refine (N2.out wo).mono ?_); rintro e w2 ⟨v2, rfl, b2⟩))
          go_wp2
          go_loopw [13, 14] (fun ins i wr => ins = .bool false ∧ i = .int .i64 0 ∧ wr = w2) (fun _ _ _ => 0)
          case atStart => exact ⟨rfl, rfl, rfl⟩
          case round =>
            obtain ⟨rfl, rfl, rfl⟩ := hrel
            go_wp2
            all_goals exact ⟨⟨k + 1, l, by omega, by go_num, HL2, by omega, own_later HO.out b2, HBW.out.trans (b2.mono HBW.out.size)⟩, by simp [intOf]; omega⟩
        · obtain ⟨n, hnn⟩ : ∃ n, (Tr.spl 47 f.1).length = n := ⟨_, rfl⟩
          have hn20 := ((Tr.isPath_iff f.1).1 hpx).1
          rw [hnn] at hn20
          have N2 := Lib.hid (Names_yes f.1 hfl2 hpx hnn)
          have HN := Lib.hid hnn
          have hal := Tr.add_len l f.1
          have hn1 : 1 ≤ n := by have := List.length_pos_iff.2 (Tr.spl_ne 47 f.1); omega
          clear hnn
          by_cases hsh : n ≤ 0
          · exfalso; omega
          · have HDIF := Lib.hid (fun (j : Nat) (x y : Tr.T) hj hx hy hne => Tr.inF_differ (fd := []) (x := f.1) (a := x) (b := y) (j := j) hpx hj hx hy hne)
            have HALL := Lib.hid (fun h => Tr.inF_yes (fd := []) hpx (by have := HM.out; have := HN.out; omega) h)
            go_upto_region 13 with (first
              | (go_at_call 29; (with_reducible refine (N2.out wo).mono ?_); rintro e w2 ⟨A2, c2, rfl, nc2, r2, b2⟩; have R2 := Lib.hid r2; clear r2))
            have RF := Lib.hid (HR.out w2 (HBW.out.trans (b2.mono HBW.out.size)))
            have O2 := Lib.hid (own_later HO.out b2)
            have W2 := Lib.hid (HBW.out.trans (b2.mono HBW.out.size))
            have c2B := HB.out.trans (b2.mono HB.out.size)
            have hs2 := c2B.size
            have C2 := Lib.hid c2B
            clear b2 c2B
            go_wp2
            go_loopw [13, 14] (fun ins i wr => ∃ (j : Nat) (q : Bool) (z : Nat), ins = .bool q ∧ j ≤ 0 ∧ i = .int .i64 j ∧ Hid (q = true → (Tr.spl 47 f.1).take j = (Tr.fdl []).take j) ∧ Hid (q = false → Tr.inF [] f.1 = false) ∧ wr = w2.drewN z) (fun _ i _ => 0 - (intOf i).toNat)
            case atStart => exact ⟨0, true, 0, by first | rfl | (congr 1; exact decide_eq_true (by omega)), Nat.zero_le _, rfl, Lib.hid (fun _ => by simp), Lib.hid (fun h => by cases h), rfl⟩
            case round =>
              obtain ⟨j, q, z, rfl, hj, rfl, HT, HF, rfl⟩ := hrel
              cases q
              · have HL2 := Lib.hid (HNO.out (by rw [HF.out rfl]; simp))
                go_wp2
                all_goals exact ⟨⟨k + 1, l, by omega, by go_num, HL2, by omega, own_drewN O2.out z, below_drewN W2.out z⟩, by simp [intOf]; omega⟩
              · by_cases hjm : j < 0
                · exact absurd hjm (Nat.not_lt_zero _)
                · obtain rfl : j = 0 := by omega
                  have HL2 := Lib.hid (HYES.out (by rw [hpx, HALL.out (by rw [HM.out]; exact HT.out rfl)]; rfl))
                  obtain ⟨_, _, e0, _, k2, -⟩ := RA2.out (w2.drewN z) (below_drewN C2.out z)
                  cases e0
                  go_wp2_with (first
                    | (go_at_call 63; (refine (add_any w.heap.size _ l f.1 (w2.drewN z) (own_drewN O2.out z) (below_drewN C2.out z).size (by omega)).mono ?_); rintro e w4 ⟨v4, rfl, o4, b4⟩; have o4 := Lib.hid o4))
                  go_roundw
                  case rel => exact ⟨k + 1, Tr.add l f.1, by omega, by go_num, HL2, by omega, o4.out, (below_drewN W2.out z).trans (b4.mono (below_drewN W2.out z).size)⟩
                  case measure => simp [intOf]; omega
      · obtain rfl : k = fs.length := by omega
        have HQ := Lib.hid (show l = Tr.und (Tr.nms fs) (Tr.inF []) by have := HL1.out; rwa [List.take_length] at this)
        have HO := Lib.hid hown
        have HB := Lib.hid hb
        clear hown hb
        go_wp2
        go_ret2
        exact ⟨_, by rw [HE.out]; rfl, by rw [HL.out, ← HQ.out]; exact HO.out, HB.out⟩
  have b0 : (fd == []) = false := beq_eq_false_iff_ne.2 h0
  have c0 : fd.isEmpty = false := by rw [List.isEmpty_eq_false_iff]; exact h0
  cases hp : Tr.isPath fd
  · have HL := Lib.hid (show Tr.unL (Tr.nms fs) fd = [] by unfold Tr.unL; rw [hp]; simp [h0])
    have HE := Lib.hid (show Tr.unE fd = 220 by unfold Tr.unE; rw [hp]; simp [h0])
    have N1 := Lib.hid (Names_no fd hfl hp)
    go_enter Tryd.func34, Tryd.ntmps34
    go_wp2_with (first
      | (go_at_call 29; (with_reducible refine (N1.out w).mono ?_); rintro e w1 ⟨v1, rfl, b1⟩))
    go_ret2
    exact ⟨_, by rw [HE.out]; rfl, by rw [HL.out]; exact World.ownsRow_nil _ _ _ _, b1⟩
  · have HL := Lib.hid (show Tr.unL (Tr.nms fs) fd = Tr.und (Tr.nms fs) (Tr.inF fd) by unfold Tr.unL; rw [hp]; simp)
    have HE := Lib.hid (show Tr.unE fd = 0 by unfold Tr.unE; rw [hp]; simp)
    have hfe : Tr.fdl fd = Tr.spl 47 fd := by unfold Tr.fdl; rw [if_neg h0]
    obtain ⟨m, hm⟩ : ∃ m, (Tr.fdl fd).length = m := ⟨_, rfl⟩
    have hm20 := ((Tr.isPath_iff fd).1 hp).1
    rw [← hfe, hm] at hm20
    have N1 := Names_yes fd hfl hp (n := m) (by rw [← hfe]; exact hm)
    rw [← hfe] at N1
    have N1 := Lib.hid N1
    have HM := Lib.hid hm
    clear hm hfe
    go_enter Tryd.func34, Tryd.ntmps34
    go_upto_region 8 with (first
      | (go_at_call 29; (with_reducible refine (N1.out w).mono ?_); rintro e w1 ⟨A1, c1, rfl, nc1, r1, b1⟩))
    have HR := Lib.hid (fun W (hb : Below w1.heap.size w1 W) => r1.later hb)
    have B0 := Lib.hid b1
    clear b0 c0 r1 b1 h0
    go_wp2
    go_loopw [9, 10] (fun v i wr => ∃ (k : Nat) (l : List Tr.T), k ≤ fs.length ∧ i = .int .i64 k ∧ Hid (l = Tr.und (Tr.nms (fs.take k)) (Tr.inF fd)) ∧ l.length ≤ k ∧ wr.ownsRow w.heap.size 9 1 v l.length (sts l) ∧ Below w1.heap.size w1 wr) (fun _ i _ => fs.length - (intOf i).toNat)
    case atStart => exact ⟨0, [], Nat.zero_le _, rfl, Lib.hid rfl, Nat.le_refl _, World.ownsRow_nil _ _ _ _, Below.refl _ _⟩
    case round =>
      obtain ⟨k, l, hk, rfl, HL1, hlk, hown, hbw⟩ := hrel
      obtain ⟨wo, rfl⟩ : ∃ wo : World, wo = wr := ⟨_, rfl⟩
      have hb := B0.out.trans (hbw.mono B0.out.size)
      by_cases hlt : k < fs.length
      · have hf := List.getElem?_eq_getElem hlt
        have hfl2 := HZ.out _ (List.getElem_mem hlt)
        obtain ⟨b, o, rfl, _, k0, -⟩ := RA.out wo hb k _ hf
        have RA2 := Lib.hid (fun W (hb : Below w.heap.size w W) => RA.out W hb k _ hf)
        have HNO := Lib.hid (fun h => Tr.und_no hf HL1.out h)
        have HYES := Lib.hid (fun h => Tr.und_yes hf HL1.out h)
        have HO := Lib.hid hown
        have HB := Lib.hid hb
        have HBW := Lib.hid hbw
        have hbs := hb.size
        generalize fs[k] = f at *
        clear hf hown hb hbw RA HL1 HZ
        cases hpx : Tr.isPath f.1
        · have N2 := Lib.hid (Names_no f.1 hfl2 hpx)
          have HL2 := Lib.hid (HNO.out (by rw [hpx]; rfl))
          go_upto_region 13 with (first
            | (go_at_call 29; (with_reducible refine (N2.out wo).mono ?_); rintro e w2 ⟨v2, rfl, b2⟩))
          go_wp2
          go_loopw [13, 14] (fun ins i wr => ins = .bool false ∧ i = .int .i64 0 ∧ wr = w2) (fun _ _ _ => 0)
          case atStart => exact ⟨rfl, rfl, rfl⟩
          case round =>
            obtain ⟨rfl, rfl, rfl⟩ := hrel
            go_wp2
            all_goals exact ⟨⟨k + 1, l, by omega, by go_num, HL2, by omega, own_later HO.out b2, HBW.out.trans (b2.mono HBW.out.size)⟩, by simp [intOf]; omega⟩
        · obtain ⟨n, hnn⟩ : ∃ n, (Tr.spl 47 f.1).length = n := ⟨_, rfl⟩
          have hn20 := ((Tr.isPath_iff f.1).1 hpx).1
          rw [hnn] at hn20
          have N2 := Lib.hid (Names_yes f.1 hfl2 hpx hnn)
          have HN := Lib.hid hnn
          have hal := Tr.add_len l f.1
          have hn1 : 1 ≤ n := by have := List.length_pos_iff.2 (Tr.spl_ne 47 f.1); omega
          clear hnn
          by_cases hsh : n ≤ m
          · have HL2 := Lib.hid (HNO.out (by rw [Tr.inF_short hpx (by have := HM.out; have := HN.out; omega)]; simp))
            go_upto_region 13 with (first
              | (go_at_call 29; (with_reducible refine (N2.out wo).mono ?_); rintro e w2 ⟨A2, c2, rfl, nc2, r2, b2⟩; clear r2))
            go_wp2
            go_loopw [13, 14] (fun ins i wr => ins = .bool false ∧ i = .int .i64 0 ∧ wr = w2) (fun _ _ _ => 0)
            case atStart => exact ⟨by first | rfl | (congr 1; exact decide_eq_false (by omega)), rfl, rfl⟩
            case round =>
              obtain ⟨rfl, rfl, rfl⟩ := hrel
              go_wp2
              all_goals exact ⟨⟨k + 1, l, by omega, by go_num, HL2, by omega, own_later HO.out b2, HBW.out.trans (b2.mono HBW.out.size)⟩, by simp [intOf]; omega⟩
          · have HDIF := Lib.hid (fun (j : Nat) (x y : Tr.T) hj hx hy hne => Tr.inF_differ (fd := fd) (x := f.1) (a := x) (b := y) (j := j) hpx hj hx hy hne)
            have HALL := Lib.hid (fun h => Tr.inF_yes (fd := fd) hpx (by have := HM.out; have := HN.out; omega) h)
            go_upto_region 13 with (first
              | (go_at_call 29; (with_reducible refine (N2.out wo).mono ?_); rintro e w2 ⟨A2, c2, rfl, nc2, r2, b2⟩; have R2 := Lib.hid r2; clear r2))
            have RF := Lib.hid (HR.out w2 (HBW.out.trans (b2.mono HBW.out.size)))
            have O2 := Lib.hid (own_later HO.out b2)
            have W2 := Lib.hid (HBW.out.trans (b2.mono HBW.out.size))
            have c2B := HB.out.trans (b2.mono HB.out.size)
            have hs2 := c2B.size
            have C2 := Lib.hid c2B
            clear b2 c2B
            go_wp2
            go_loopw [13, 14] (fun ins i wr => ∃ (j : Nat) (q : Bool) (z : Nat), ins = .bool q ∧ j ≤ m ∧ i = .int .i64 j ∧ Hid (q = true → (Tr.spl 47 f.1).take j = (Tr.fdl fd).take j) ∧ Hid (q = false → Tr.inF fd f.1 = false) ∧ wr = w2.drewN z) (fun _ i _ => m - (intOf i).toNat)
            case atStart => exact ⟨0, true, 0, by first | rfl | (congr 1; exact decide_eq_true (by omega)), Nat.zero_le _, rfl, Lib.hid (fun _ => by simp), Lib.hid (fun h => by cases h), rfl⟩
            case round =>
              obtain ⟨j, q, z, rfl, hj, rfl, HT, HF, rfl⟩ := hrel
              cases q
              · have HL2 := Lib.hid (HNO.out (by rw [HF.out rfl]; simp))
                go_wp2
                all_goals exact ⟨⟨k + 1, l, by omega, by go_num, HL2, by omega, own_drewN O2.out z, below_drewN W2.out z⟩, by simp [intOf]; omega⟩
              · by_cases hjm : j < m
                · have hf1 := List.getElem?_eq_getElem (show j < (Tr.spl 47 f.1).length by have := HN.out; omega)
                  have hf2 := List.getElem?_eq_getElem (show j < (Tr.fdl fd).length by have := HM.out; omega)
                  obtain ⟨g2, o2, rfl, _, q2⟩ := R2.out.st hf1
                  obtain ⟨g1, o1, rfl, _, q1⟩ := RF.out.st hf2
                  have HD := Lib.hid (fun h => HDIF.out j _ _ (by have := HM.out; omega) hf1 hf2 h)
                  have HS := Lib.hid (show (Tr.spl 47 f.1)[j]'(by have := HN.out; omega) = (Tr.fdl fd)[j]'(by have := HM.out; omega) → (Tr.spl 47 f.1).take (j + 1) = (Tr.fdl fd).take (j + 1) from fun h => by rw [List.take_add_one, List.take_add_one, HT.out rfl, hf1, hf2, h])
                  generalize (Tr.spl 47 f.1)[j]'(by have := HN.out; omega) = x at *
                  generalize (Tr.fdl fd)[j]'(by have := HM.out; omega) = y at *
                  have ha : (bs x).toList = x := bs_toList x
                  have hb : (bs y).toList = y := bs_toList y
                  clear hf1 hf2
                  by_cases e : x = y
                  · have HS2 := Lib.hid (HS.out e)
                    subst e
                    go_wp2
                    go_quiet (fail)
                    go_wp2
                    exact ⟨⟨j + 1, true, _, rfl, by omega, by go_num, Lib.hid (fun _ => HS2.out), Lib.hid (fun h => by cases h), rfl⟩, by simp [intOf]; omega⟩
                  · have HV := Lib.hid (HD.out e)
                    have eb : (x == y) = false := beq_eq_false_iff_ne.2 e
                    go_wp2
                    go_quiet (fail)
                    go_wp2
                    exact ⟨⟨j + 1, false, _, rfl, by omega, by go_num, Lib.hid (fun h => by cases h), Lib.hid (fun _ => HV.out), rfl⟩, by simp [intOf]; omega⟩
                · obtain rfl : j = m := by omega
                  have HL2 := Lib.hid (HYES.out (by rw [hpx, HALL.out (by rw [HM.out]; exact HT.out rfl)]; rfl))
                  obtain ⟨_, _, e0, _, k2, -⟩ := RA2.out (w2.drewN z) (below_drewN C2.out z)
                  cases e0
                  go_wp2_with (first
                    | (go_at_call 63; (refine (add_any w.heap.size _ l f.1 (w2.drewN z) (own_drewN O2.out z) (below_drewN C2.out z).size (by omega)).mono ?_); rintro e w4 ⟨v4, rfl, o4, b4⟩; have o4 := Lib.hid o4))
                  go_roundw
                  case rel => exact ⟨k + 1, Tr.add l f.1, by omega, by go_num, HL2, by omega, o4.out, (below_drewN W2.out z).trans (b4.mono (below_drewN W2.out z).size)⟩
                  case measure => simp [intOf]; omega
      · obtain rfl : k = fs.length := by omega
        have HQ := Lib.hid (show l = Tr.und (Tr.nms fs) (Tr.inF fd) by have := HL1.out; rwa [List.take_length] at this)
        have HO := Lib.hid hown
        have HB := Lib.hid hb
        clear hown hb
        go_wp2
        go_ret2
        exact ⟨_, by rw [HE.out]; rfl, by rw [HL.out, ← HQ.out]; exact HO.out, HB.out⟩

end Go.Proofs.YtliabgcpciekpaaDoor

/-! The law TreeTells, walked. -/
set_option linter.unusedVariables false
set_option linter.unusedSimpArgs false
namespace Go.Proofs.YtliabgcpciekpaaDoor
open Go Go.RowKit Go.Maps

namespace Tr
theorem unL_length (ms : List T) (fd : T) : (unL ms fd).length ≤ ms.length := by
  unfold unL; split
  · exact und_length _ _
  · simp
end Tr

set_option maxRecDepth 100000 in
set_option maxHeartbeats 16000000 in
theorem TreeTells_any (A : Option Addr) (cap : Nat) (fs : List (Tr.T × Tr.T)) (p fd : Tr.T) (w : World) (hrd : Rd w 2 A fs.length (fls fs)) (hn : fs.length ≤ 3000000) (hz : ∀ f ∈ fs, f.1.length ≤ 4000000) (hpl : p.length ≤ 4000000) (hfl : fd.length ≤ 4000000) :
    Calls Tryd.prog 11 #[.slice A fs.length cap, .string (bs p), .string (bs fd)] w fun e w' => e = .returned (.bool true) ∧ Below w.heap.size w w' := by
  have e1 : (bs p).size = p.length := bs_size p
  have e2 : (bs fd).size = fd.length := bs_size fd
  have hz2 : ∀ f ∈ fs, f.1.length ≤ 140737488355328 := fun f hf => Nat.le_trans (hz f hf) (by decide)
  have GR := Lib.hid (great_any A cap fs w (by omega) hrd)
  have RDL := Lib.hid (fun W (hb : Below w.heap.size w W) => hrd.later hb)
  have KN := Lib.hid (fun W => Names_any p W hpl)
  have KP := fun W => Path_any (bs p) W (by rw [bs_size]; omega)
  simp only [bs_data] at KP
  have KP := Lib.hid KP
  have K1 := fun W (hb : Below w.heap.size w W) => Nearest_any A cap fs p W (hrd.later hb) (by omega) hz2 (by omega)
  have K2 := fun W (hb : Below w.heap.size w W) => refNearest_any A cap fs p W (hrd.later hb) (by omega) hz hpl
  have K3 := fun W (hb : Below w.heap.size w W) => For_any A cap fs p W (hrd.later hb) (by omega) hz2 (by omega)
  have K4 := fun W (hb : Below w.heap.size w W) => refFor_any A cap fs p W (hrd.later hb) (by omega) hz hpl
  have K5 := fun W (hb : Below w.heap.size w W) => Wrong_any A cap fs W (hrd.later hb) (by omega) hz2
  have K6 := fun W (hb : Below w.heap.size w W) => refWrong_any A cap fs W (hrd.later hb) hn hz
  have K7 := fun W (hb : Below w.heap.size w W) => Under_any A cap fs fd W (hrd.later hb) (by omega) hz2 (by omega)
  have K8 := fun W (hb : Below w.heap.size w W) => refUnder_any A cap fs fd W (hrd.later hb) hn hz hfl
  have hl1 := Tr.und_length (Tr.nms fs) (Tr.wrq fs)
  have hl2 := Tr.unL_length (Tr.nms fs) fd
  rw [Tr.nms_length] at hl1 hl2
  unfold UnRes at K8
  unfold nsRes at K1 K2
  unfold frRes at K3 K4
  unfold NmRes at KN
  generalize Tr.und (Tr.nms fs) (Tr.wrq fs) = L1 at *
  generalize Tr.unL (Tr.nms fs) fd = L2 at *
  generalize Tr.unE fd = ue at *
  generalize bs (Tr.nsN (Tr.nms fs) p) = N1 at *
  generalize Tr.nsH (Tr.nms fs) p = H1 at *
  generalize Tr.nsE p = ne at *
  generalize Tr.frV fs p = V at *
  generalize Tr.frE fs p = fe at *
  generalize Tr.isPath p = ok at *
  have T1 := Lib.hid (fun A1 A2 c1 c2 W h g => Texts_any A1 A2 c1 c2 L1 W h g (by omega))
  have T2 := Lib.hid (fun A1 A2 c1 c2 W h g => Texts_any A1 A2 c1 c2 L2 W h g (by omega))
  obtain ⟨n1, hn1⟩ : ∃ n, L1.length = n := ⟨_, rfl⟩
  obtain ⟨n2, hn2⟩ : ∃ n, L2.length = n := ⟨_, rfl⟩
  rw [hn1] at T1 K5 K6
  rw [hn2] at T2 K7 K8
  have K1 := Lib.hid K1
  have K2 := Lib.hid K2
  have K3 := Lib.hid K3
  have K4 := Lib.hid K4
  have K5 := Lib.hid K5
  have K6 := Lib.hid K6
  have K7 := Lib.hid K7
  have K8 := Lib.hid K8
  have hE := fun w => eqStB V w
  have hgd := eq_guardSt
  have hinfo : (Tryd.prog.info? 23).map (·.size) = some (St.stv V).length := by rw [St.stv_len]; kernel_rfl
  generalize Tr.grI fs = gi at *
  clear hrd hz hz2 hl1 hl2 hn1 hn2
  by_cases hg : 3000 < gi
  · rw [decide_eq_true hg] at GR
    go_enter Tryd.func11, Tryd.ntmps11
    go_wp2_with (first
      | (go_at_call 23; refine GR.out.mono ?_; rintro e w1 ⟨rfl, b1⟩))
    go_ret
    exact ⟨rfl, b1⟩
  rw [decide_eq_false hg] at GR
  by_cases hp : 1000 < p.length
  · go_enter Tryd.func11, Tryd.ntmps11
    go_wp2_with (first
      | (go_at_call 23; refine GR.out.mono ?_; rintro e w1 ⟨rfl, b1⟩))
    go_ret
    exact ⟨rfl, b1⟩
  by_cases hf : 1000 < fd.length
  · go_enter Tryd.func11, Tryd.ntmps11
    go_wp2_with (first
      | (go_at_call 23; refine GR.out.mono ?_; rintro e w1 ⟨rfl, b1⟩))
    go_ret
    exact ⟨rfl, b1⟩
  have B0 := Lib.hid (Below.refl w.heap.size w)
  go_enter Tryd.func11, Tryd.ntmps11
  go_wp2_with (first
    | (go_at_call 23; refine GR.out.mono ?_; rintro e w1 ⟨rfl, b1⟩; have B1 := Lib.hid (B0.out.trans (b1.mono B0.out.size)))
    | (go_at_call 29; (with_reducible refine (KN.out w1).mono ?_); rintro e w2 ⟨vn, rfl, -, b2⟩; have B2 := Lib.hid (B1.out.trans (b2.mono B1.out.size)))
    | (go_at_call 24; (with_reducible refine (K1.out w2 B2.out).mono ?_); rintro e w3 ⟨rfl, b3⟩; have B3 := Lib.hid (B2.out.trans (b3.mono B2.out.size)))
    | (go_at_call 30; (with_reducible refine (K2.out w3 B3.out).mono ?_); rintro e w4 ⟨rfl, b4⟩; have B4 := Lib.hid (B3.out.trans (b4.mono B3.out.size)))
    | (go_at_call 26; (with_reducible refine (K3.out w4 B4.out).mono ?_); rintro e w5 ⟨rfl, b5⟩; have B5 := Lib.hid (B4.out.trans (b5.mono B4.out.size)))
    | (refine wpList_store_mid rfl _ _ _ rfl _ _ (St.stv V).toArray rfl rfl (st_there w5 V) (sty_info V) (sty_one V) ?_; refine gen_world2 (Q := fun W => wpList _ _ _ _ _ W) (fun W => Sty W w5.heap.size V ∧ Below w5.heap.size w5 W ∧ W.heap.size = w5.heap.size + 1) (st_first w5 V) ?_; rintro w6 ⟨q6, b6, -⟩; have B6 := Lib.hid (B5.out.trans (b6.mono B5.out.size)); have SA_6 := Lib.hid q6; clear q6; (try dsimp only); simp only [Act.put, List.setIfInBounds_toArray, List.set_cons_zero, List.set_cons_succ])
    | (go_at_call 31; (with_reducible refine (K4.out w6 B6.out).mono ?_); rintro e w7 ⟨rfl, b7⟩; have B7 := Lib.hid (B6.out.trans (b7.mono B6.out.size)); have SA_7 := Lib.hid (SA_6.out.later b7))
    | (refine wpList_store_mid rfl _ _ _ rfl _ _ (St.stv V).toArray rfl rfl (st_there w7 V) (sty_info V) (sty_one V) ?_; refine gen_world2 (Q := fun W => wpList _ _ _ _ _ W) (fun W => Sty W w7.heap.size V ∧ Below w7.heap.size w7 W ∧ W.heap.size = w7.heap.size + 1) (st_first w7 V) ?_; rintro w8 ⟨q8, b8, -⟩; have B8 := Lib.hid (B7.out.trans (b8.mono B7.out.size)); have SA_8 := Lib.hid (SA_7.out.later b8); have SB_8 := Lib.hid q8; clear q8; (try dsimp only); simp only [Act.put, List.setIfInBounds_toArray, List.set_cons_zero, List.set_cons_succ])
    | (go_at_call 32; (with_reducible refine (K5.out w8 B8.out).mono ?_); rintro e w9 ⟨va, rfl, oa, b9⟩; have B9 := Lib.hid (B8.out.trans (b9.mono B8.out.size)); have SA_9 := Lib.hid (SA_8.out.later b9); have SB_9 := Lib.hid (SB_8.out.later b9); obtain ⟨Aa, ca, rfl, -, ra⟩ := own_form oa; have Ra_9 := Lib.hid ra; clear oa ra)
    | (go_at_call 33; (with_reducible refine (K6.out w9 B9.out).mono ?_); rintro e w10 ⟨vb, rfl, ob, b10⟩; have B10 := Lib.hid (B9.out.trans (b10.mono B9.out.size)); have SA_10 := Lib.hid (SA_9.out.later b10); have SB_10 := Lib.hid (SB_9.out.later b10); have Ra_10 := Lib.hid (Ra_9.out.later b10); obtain ⟨Ab, cb, rfl, -, rb⟩ := own_form ob; have Rb_10 := Lib.hid rb; clear ob rb)
    | (go_at_call 27; (with_reducible refine (K7.out w10 B10.out).mono ?_); rintro e w11 ⟨vc, rfl, oc, b11⟩; have B11 := Lib.hid (B10.out.trans (b11.mono B10.out.size)); have SA_11 := Lib.hid (SA_10.out.later b11); have SB_11 := Lib.hid (SB_10.out.later b11); have Ra_11 := Lib.hid (Ra_10.out.later b11); have Rb_11 := Lib.hid (Rb_10.out.later b11); obtain ⟨Ac, cc, rfl, -, rc⟩ := own_form oc; have Rc_11 := Lib.hid rc; clear oc rc)
    | (go_at_call 34; (with_reducible refine (K8.out w11 B11.out).mono ?_); rintro e w12 ⟨vd, rfl, od, b12⟩; have B12 := Lib.hid (B11.out.trans (b12.mono B11.out.size)); have SA_12 := Lib.hid (SA_11.out.later b12); have SB_12 := Lib.hid (SB_11.out.later b12); have Ra_12 := Lib.hid (Ra_11.out.later b12); have Rb_12 := Lib.hid (Rb_11.out.later b12); have Rc_12 := Lib.hid (Rc_11.out.later b12); obtain ⟨Ad, cd, rfl, -, rd⟩ := own_form od; have Rd_12 := Lib.hid rd; clear od rd)
    | (go_at_call 25; (with_reducible refine (KP.out w12).mono ?_); rintro e w13 ⟨rfl, b13⟩; have B13 := Lib.hid (B12.out.trans (b13.mono B12.out.size)); have SA_13 := Lib.hid (SA_12.out.later b13); have SB_13 := Lib.hid (SB_12.out.later b13); have Ra_13 := Lib.hid (Ra_12.out.later b13); have Rb_13 := Lib.hid (Rb_12.out.later b13); have Rc_13 := Lib.hid (Rc_12.out.later b13); have Rd_13 := Lib.hid (Rd_12.out.later b13); have SRA := SA_13.out.range; have SRB := SB_13.out.range)
    | (refine wpList_load_guarded (by rfl) _ _ rfl _ _ rfl (St.stv V) _ SRA Tryd.underlying23 rfl hinfo ?_)
    | (refine wpList_load_guarded (by rfl) _ _ rfl _ _ rfl (St.stv V) _ SRB Tryd.underlying23 rfl hinfo ?_)
    | (go_at_call 35; (with_reducible refine (T1.out _ _ _ _ _ Ra_13.out Rb_13.out).mono ?_); rintro e w14 ⟨rfl, b14⟩; have B14 := Lib.hid (B13.out.trans (b14.mono B13.out.size)); have SA_14 := Lib.hid (SA_13.out.later b14); have SB_14 := Lib.hid (SB_13.out.later b14); have Ra_14 := Lib.hid (Ra_13.out.later b14); have Rb_14 := Lib.hid (Rb_13.out.later b14); have Rc_14 := Lib.hid (Rc_13.out.later b14); have Rd_14 := Lib.hid (Rd_13.out.later b14))
    | (go_at_call 35; (with_reducible refine (T2.out _ _ _ _ _ Rc_14.out Rd_14.out).mono ?_); rintro e w15 ⟨rfl, b15⟩; have B15 := Lib.hid (B14.out.trans (b15.mono B14.out.size)); have SA_15 := Lib.hid (SA_14.out.later b15); have SB_15 := Lib.hid (SB_14.out.later b15); have Ra_15 := Lib.hid (Ra_14.out.later b15); have Rb_15 := Lib.hid (Rb_14.out.later b15); have Rc_15 := Lib.hid (Rc_14.out.later b15); have Rd_15 := Lib.hid (Rd_14.out.later b15)))
  go_ret
  exact ⟨rfl, B15.out⟩

end Go.Proofs.YtliabgcpciekpaaDoor
