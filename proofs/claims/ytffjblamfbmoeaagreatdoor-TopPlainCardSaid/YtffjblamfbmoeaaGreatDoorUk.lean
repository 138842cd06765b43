/- Several texts in one: A region that draws its order: an invariant over what has come up; Walks: what a list yields: where there are no macros, or X -> 1 alone and the list is X and __LINE__. -/
import Derived.Test.YtffjblamfbmoeaaGreatDoorUf
import Derived.Test.YtffjblamfbmoeaaGreatDoorUj
/-! A region that draws its order: an invariant over what has come up. -/
set_option linter.unusedVariables false
set_option linter.unusedSimpArgs false
namespace Go.Proofs.YtffjblamfbmoeaaGreatDoor
open Go Go.RowKit

/-- How many operations have not come up. -/
def unl (listed : Array Bool) : Nat := listed.toList.countP fun b => !b
theorem getD_lt {listed : Array Bool} {i : Nat} (h : listed.getD i true = false) : ∃ hi : i < listed.size, listed[i] = false := by
  by_cases hi : i < listed.size
  · exact ⟨hi, by simpa [Array.getD, hi] using h⟩
  · simp [Array.getD, hi] at h
theorem unl_set {listed : Array Bool} {i : Nat} (h : listed.getD i true = false) : unl (listed.setIfInBounds i true) + 1 = unl listed := by
  obtain ⟨hi, hv⟩ := getD_lt h
  unfold unl
  rw [Array.toList_setIfInBounds]
  have hl : i < listed.toList.length := by simpa using hi
  rw [List.countP_set hl]
  have hv' : listed.toList[i] = false := by simpa using hv
  have hpos : 0 < listed.toList.countP fun b => !b := List.countP_pos_iff.2 ⟨false, by rw [← hv']; exact List.getElem_mem hl, rfl⟩
  rw [hv']
  simp only [Bool.not_false, Bool.not_true, if_true]
  simp only [Bool.false_eq_true, if_false]
  omega
theorem unl_zero {listed : Array Bool} (h : unl listed = 0) (i : Nat) : listed.getD i true = true := by
  by_cases hi : i < listed.size
  · have := List.countP_eq_zero.1 h listed[i] (by simp)
    simpa [Array.getD, hi] using this
  · simp [Array.getD, hi]
def lowB (md : Region.Mode) (ops : Array Oper) : Bool := (List.range ops.size).all fun k => match ops[k]? with
  | some o => o.after.toList.all fun e => !(Region.binds md e) || decide (e.on < k)
  | none => true
section
variable {P : Program} {ops : Array Oper} {md : Region.Mode} {Q : Exit → Act → World → Prop}
theorem low_of (h : lowB md ops = true) {k : Nat} {o : Oper} (hk : ops[k]? = some o) {e : Edge} (he : e ∈ o.after) (hb : Region.binds md e = true) : e.on < k := by
  have hks : k < ops.size := (Array.getElem?_eq_some_iff.1 hk).1
  have h1 := List.all_eq_true.1 h k (List.mem_range.2 hks)
  rw [hk] at h1
  have h2 := List.all_eq_true.1 h1 e (by simpa using he)
  simpa [hb] using h2
theorem low_ready (h : lowB md ops = true) {listed : Array Bool} (hs : listed.size = ops.size) : ∀ (n i : Nat), i ≤ n → i < ops.size → listed.getD i true = false → Region.ready md ops listed ≠ [] := by
  intro n
  induction n with
  | zero =>
    intro i hn hi hu hr
    have : i ∈ Region.ready md ops listed := mem_ready.2 ⟨hu, ops[i], Array.getElem?_eq_getElem hi, fun e he hb => by have := low_of h (Array.getElem?_eq_getElem hi) he hb; omega⟩
    rw [hr] at this; cases this
  | succ n ih =>
    intro i hn hi hu hr
    by_cases hall : ∀ e ∈ ops[i].after, Region.binds md e = true → listed.getD e.on false = true
    · have : i ∈ Region.ready md ops listed := mem_ready.2 ⟨hu, ops[i], Array.getElem?_eq_getElem hi, hall⟩
      rw [hr] at this; cases this
    · simp only [Classical.not_forall] at hall
      obtain ⟨e, he, hb, hne⟩ := hall
      have hlt := low_of h (Array.getElem?_eq_getElem hi) he hb
      refine ih e.on (by omega) (by omega) ?_ hr
      have hes : e.on < listed.size := by omega
      simp only [Array.getD, hes, dite_true] at hne ⊢
      simpa using hne
theorem wpAny_inv (J : Array Bool → Act → World → Prop) (hlow : lowB md ops = true)
    (hstep : ∀ (i : Nat) (o : Oper) (listed : Array Bool) (a : Act) (w : World), ops[i]? = some o → J listed a w → listed.size = ops.size → listed.getD i true = false → (∀ e ∈ o.after, Region.binds md e = true → listed.getD e.on false = true) →
      wpOp P ops Q i (fun a' w' => J (listed.setIfInBounds i true) a' w') a w)
    (hend : ∀ (listed : Array Bool) (a : Act) (w : World), J listed a w → (∀ i, i < ops.size → listed.getD i false = true) → Q .normal a w) :
    ∀ (fuel : Nat) (listed : Array Bool) (a : Act) (w : World), J listed a w → listed.size = ops.size → unl listed ≤ fuel → wpAny P md ops Q fuel listed a w := by
  have hfin : ∀ (listed : Array Bool) (a : Act) (w : World), J listed a w → listed.size = ops.size → Region.ready md ops listed = [] → Q .normal a w := by
    intro listed a w hJ hs hr
    refine hend listed a w hJ fun i hi => ?_
    have hes : i < listed.size := by omega
    cases hv : listed.getD i false with
    | true => rfl
    | false =>
      refine absurd hr (low_ready hlow hs i i (Nat.le_refl _) hi ?_)
      simp only [Array.getD, hes, dite_true] at hv ⊢
      exact hv
  intro fuel
  induction fuel with
  | zero =>
    intro listed a w hJ hs hu
    have hr : Region.ready md ops listed = [] := by
      cases hq : Region.ready md ops listed with
      | nil => rfl
      | cons j r =>
        have hj := (mem_ready.1 (show j ∈ Region.ready md ops listed by rw [hq]; simp)).1
        rw [unl_zero (by omega) j] at hj
        cases hj
    exact ⟨hr, hfin listed a w hJ hs hr⟩
  | succ fuel ih =>
    intro listed a w hJ hs hu
    refine ⟨fun hr => hfin listed a w hJ hs hr, fun i hi => ?_⟩
    obtain ⟨h1, o, h2, h3⟩ := mem_ready.1 hi
    have := unl_set h1
    exact wpOp_mono (fun a' w' hJ' => ih _ a' w' hJ' (by simpa using hs) (by omega)) (hstep i o listed a w h2 hJ hs h1 h3)
theorem wp_region_inv {id : Nat} {a : Act} {w : World} {l : List Oper} (J : Array Bool → Act → World → Prop) (hm : P.follows .mixedOrders = true) (hlow : lowB .any l.toArray = true)
    (h0 : J (Array.replicate l.toArray.size false) a w.drew)
    (hstep : ∀ (i : Nat) (o : Oper) (listed : Array Bool) (a : Act) (w : World), l.toArray[i]? = some o → J listed a w → listed.size = l.toArray.size → listed.getD i true = false → (∀ e ∈ o.after, Region.binds .any e = true → listed.getD e.on false = true) →
      wpOp P l.toArray Q i (fun a' w' => J (listed.setIfInBounds i true) a' w') a w)
    (hend : ∀ (listed : Array Bool) (a : Act) (w : World), J listed a w → (∀ i, i < l.toArray.size → listed.getD i false = true) → Q .normal a w) :
    (Code.region id l.toArray true).wp P Q a w :=
  wp_region_any hm (wpAny_inv J hlow hstep hend _ _ _ _ h0 (by simp) (by unfold unl; refine Nat.le_trans List.countP_le_length ?_; simp))
/-- The one operation: it is wanted, and its own law gives what follows. -/
theorem inv_op {i : Nat} {o : Oper} {K : Act → World → Prop} {a : Act} {w : World} (hi : ops[i]? = some o) (hw : Region.wanted o (yielded ops a.tmps) = true) (h : o.wp P a w K Q) : wpOp P ops Q i K a w := by
  unfold wpOp
  rw [hi]
  simp only
  rw [if_pos hw]
  exact .inl h
end
end Go.Proofs.YtffjblamfbmoeaaGreatDoor

/-! Walks: what a list yields: where there are no macros, or X -> 1 alone and the list is X and __LINE__. -/
set_option linter.unusedVariables false
set_option linter.unusedSimpArgs false
namespace Go.Proofs.YtffjblamfbmoeaaGreatDoor
open Go Go.RowKit
attribute [local go_sem] Oper.semAt_some

/-- No macro is defined, and none is planned. -/
def NM (W : World) (E Mm Mp : Nat) (left : Int) : Prop := Xp W E Mm Mp left ∧ ∃ c1 c2, W.heap[Mm]? = some (.map #[] c1) ∧ W.heap[Mp]? = some (.map #[] c2)
theorem XM.below {W W' : World} {E Mm Mp : Nat} {left : Int} (h : XM W E Mm Mp left) (hb : Below W.heap.size W W') : XM W' E Mm Mp left := by
  obtain ⟨h0, ⟨c2, h2⟩, A, c, b, c1, h3, h4, h5⟩ := h
  exact ⟨h0.below hb, ⟨c2, (hb.block Mp (Array.getElem?_eq_some_iff.1 h2).1).trans h2⟩, A, c, b, c1, h3, (hb.block Mm (Array.getElem?_eq_some_iff.1 h4).1).trans h4, h5.later hb⟩
theorem NM.below {W W' : World} {E Mm Mp : Nat} {left : Int} (h : NM W E Mm Mp left) (hb : Below W.heap.size W W') : NM W' E Mm Mp left := by
  obtain ⟨h0, c1, c2, h1, h2⟩ := h
  exact ⟨h0.below hb, c1, c2, (hb.block Mm (Array.getElem?_eq_some_iff.1 h1).1).trans h1, (hb.block Mp (Array.getElem?_eq_some_iff.1 h2).1).trans h2⟩
/-- No token of a list is a name of a macro. -/
def Qt (W : World) (E Mm Mp : Nat) (left : Int) (l : List HTok) : Prop := ∀ t ∈ l, t.1.k ≠ 1 ∨ t.1.x = Tp.lineN ∨ NM W E Mm Mp left
/-- The macro X -> 1 alone, and the list is X and __LINE__. -/
def LsX (w : World) (m E Mm Mp : Nat) (left : Int) (l : List HTok) (tot : List Tp.PTok) : Prop :=
  m ≤ E ∧ m ≤ Mp ∧ E ≠ Mp ∧ left = 65536 ∧ XM w E Mm Mp left ∧ ∃ s1 s2, l = [(⟨1, [88], s1, []⟩, none), (⟨1, Tp.lineN, s2, []⟩, none)] ∧ tot = [⟨2, [49], s1, []⟩, ⟨10, Tp.lineN, s2, []⟩]
/-- What a round starts from. -/
def LsR (w0 w : World) (m E Mm Mp : Nat) (left : Int) (p0 : Pl) (pa0 : Option Addr) (pi0 : Int) (l : List HTok) (tot : List Tp.PTok) (c6 c7 : Value) (wr : World) : Prop :=
  ∃ (P : Nat) (p : Pl) (rest out : List HTok) (wB wP : World), c7 = .pointer (some ⟨P, 0, none⟩) ∧ w.heap.size < P ∧ wB.heap.size ≤ P ∧ wr.heap[P]? = some (.cells #[p.c, .int .i64 p.i] 179 (0, 0)) ∧
    wr.heap[w.heap.size]? = some (.cells #[.pointer pa0, .int .i64 pi0, .pointer none, .int .i64 0] 192 (0, 0)) ∧
    Below m w wB ∧ w.heap.size ≤ wB.heap.size ∧ Below wB.heap.size wB wr ∧ Path wP p rest ∧ Below wP.heap.size wP wB ∧ wr.ownsRow wB.heap.size 184 5 c6 out.length (txhs out) ∧
    ((out.map (·.1) ++ rest.map (fun t => lnT t.1) = tot ∧ Qt wB E Mm Mp left rest) ∨ (out = [] ∧ rest = l ∧ wB = w ∧ wP = w0 ∧ P = w.heap.size + 1 ∧ c6 = .slice none 0 0 ∧ LsX w m E Mm Mp left l tot))
noncomputable def lsN (w : World) (tot : List Tp.PTok) (c6 c7 : Value) : Nat := (tot.length - (match c6 with | .slice _ k _ => k | _ => 0)) * 2 + (@ite Nat (c7 = .pointer (some ⟨w.heap.size + 1, 0, none⟩)) (Classical.propDecidable _) 1 0)
theorem lsN_step {w : World} {tot : List Tp.PTok} {A A' : Option Addr} {k c c' : Nat} {v v' : Value} (h : k < tot.length) : lsN w tot (.slice A' (k + 1) c') v' < lsN w tot (.slice A k c) v := by
  unfold lsN
  simp only
  split <;> split <;> omega
theorem lsN_X {w : World} {tot : List Tp.PTok} {u v' : Value} (h : v' ≠ .pointer (some ⟨w.heap.size + 1, 0, none⟩)) : lsN w tot u v' < lsN w tot u (.pointer (some ⟨w.heap.size + 1, 0, none⟩)) := by
  unfold lsN
  rw [if_pos rfl, if_neg h]
  omega

theorem called_h (E Mm Mp : Nat) (left : Int) (px : Tp.T) (ps : Bool) (hd : Option Addr) (w : World) (h : NM w E Mm Mp left) :
    Calls Tryz.prog 118 #[.pointer (some ⟨E, 0, none⟩), .agg #[.int .i64 1, .string (bs px), .bool ps, .slice none 0 0, .pointer hd]] w fun e w' => e = .returned (.pointer none) ∧ Below w.heap.size w w' := by
  obtain ⟨h0, c1, c2, h1, h2⟩ := h
  exact called_none E Mm Mp c1 c2 left ⟨1, px, ps, []⟩ (.pointer hd) w h0 h1 h2

set_option maxRecDepth 100000 in
set_option maxHeartbeats 8000000 in
theorem list_any (w0 w : World) (m E Mm Mp : Nat) (left : Int) (p0 : Pl) (l : List HTok) (tot : List Tp.PTok) (hP : Path w0 p0 l) (h0 : Below w0.heap.size w0 w) (hm0 : w0.heap.size ≤ m) (hm : m ≤ w.heap.size) (htl : tot.length ≤ 1000000)
    (hmode : (tot = l.map (fun t => lnT t.1) ∧ Qt w E Mm Mp left l) ∨ LsX w m E Mm Mp left l tot) :
    Calls Tryz.prog 102 #[.pointer (some ⟨E, 0, none⟩), .agg #[p0.c, .int .i64 p0.i, .pointer none, .int .i64 0]] w fun e w' =>
      ∃ v out, e = .returned (.tuple #[v, .int .i64 0]) ∧ out.map (·.1) = tot ∧ (∃ B, w.heap.size ≤ B ∧ w'.ownsRow B 184 5 v out.length (txhs out)) ∧ Below m w w' := by
  obtain ⟨i0, hi, hz0, hz1, hz2⟩ := info_parts txInfo
  obtain ⟨pa0, pi0, hpp⟩ : ∃ a i, p0.c = .pointer a ∧ p0.i = i := by cases p0 <;> exact ⟨_, _, rfl, rfl⟩
  obtain ⟨ww, hww⟩ : ∃ ww, (w.alloc (.cells #[p0.c, .int .i64 p0.i, .pointer none, .int .i64 0] 192)).alloc (.cells #[p0.c, .int .i64 p0.i] 179) = ww := ⟨_, rfl⟩
  have hB : Below w.heap.size w ww := by rw [← hww]; exact ((Below.refl _ _).alloc (Nat.le_refl _) _).alloc (by simp) _
  have hsB : ww.heap.size = w.heap.size + 2 := by rw [← hww]; simp
  have kV : ww.heap[w.heap.size]? = some (.cells #[p0.c, .int .i64 p0.i, .pointer none, .int .i64 0] 192) := by rw [← hww]; exact (Below.heap_alloc _ _ _ (by simp)).trans (heap_alloc_new w _)
  have kP : ww.heap[w.heap.size + 1]? = some (.cells #[p0.c, .int .i64 p0.i] 179) := by
    rw [← hww]
    have := heap_alloc_new (w.alloc (.cells #[p0.c, .int .i64 p0.i, .pointer none, .int .i64 0] 192)) (.cells #[p0.c, .int .i64 p0.i] 179)
    rwa [World.size_alloc] at this
  have HW := Lib.hid hww
  have R0 : LsR w0 w m E Mm Mp left p0 pa0 pi0 l tot (.slice none 0 0) (.pointer (some ⟨w.heap.size + 1, 0, none⟩)) ww := by
    refine ⟨w.heap.size + 1, p0, l, [], w, w0, rfl, by omega, by omega, kP, by rw [hpp.1, hpp.2] at kV; exact kV, Below.refl _ _, Nat.le_refl _, hB, hP, h0, World.ownsRow_nil _ _ _ _, ?_⟩
    rcases hmode with ⟨h1, h2⟩ | h
    · exact .inl ⟨by simp [h1], h2⟩
    · exact .inr ⟨rfl, rfl, rfl, rfl, rfl, rfl, h⟩
  rw [hpp.1, hpp.2] at HW kV kP ⊢
  have R0 := Lib.hid R0
  clear hww hP hpp hmode hB kV kP
  have hne := fun (F : Nat) (k : Int) (W : World) => place_ne F k W
  have hen := place_end
  go_enter Tryz.func102, Tryz.ntmps102
  go_wp2
  rw [HW.out]
  go_loopw [6, 7] (fun c6 c7 wr => LsR w0 w m E Mm Mp left p0 pa0 pi0 l tot c6 c7 wr) (fun c6 c7 _ => lsN w tot c6 c7)
  case atStart => exact R0.out
  case round =>
    obtain ⟨P, p, rest, out, wB, wP, rfl, hPw, hPB, hPc, hV, hmB, hwB, hb, hpath, hbP, hown, hmode⟩ := hrel
    obtain ⟨k, hk⟩ : ∃ k, out.length = k := ⟨_, rfl⟩
    rw [hk] at hown
    obtain ⟨A6, cp6, rfl, hkc6, _⟩ := own_form hown
    obtain ⟨wq, rfl⟩ : ∃ wq : World, wq = wr := ⟨_, rfl⟩
    obtain ⟨v0, v1, v2, v3⟩ := (show wq.cell? ⟨w.heap.size, 0, none⟩ = _ ∧ wq.cell? ⟨w.heap.size, 1, none⟩ = _ ∧ wq.cell? ⟨w.heap.size, 2, none⟩ = _ ∧ wq.cell? ⟨w.heap.size, 3, none⟩ = _ from ⟨Lib.cell_of_heap hV 0, Lib.cell_of_heap hV 1, Lib.cell_of_heap hV 2, Lib.cell_of_heap hV 3⟩)
    simp only [List.getElem?_toArray, List.getElem?_cons_zero, List.getElem?_cons_succ] at v0 v1 v2 v3
    obtain ⟨p0, p1, pf0, pf1, plt⟩ := pl_cells hPc
    cases rest with
    | cons t r =>
      have HMODE := Lib.hid hmode
      clear hmode R0
      obtain ⟨F, ci, g, o, p', rfl, hci, hst, hpok, hpfr, hpr⟩ := hpath
      have HPR := Lib.hid hpr
      clear hpr
      unfold Pl.c at p0
      unfold Pl.i at p1
      simp only at p0 p1
      have HV := Lib.hid hV
      have HPC := Lib.hid hPc
      have HB := Lib.hid hb
      have HMB := Lib.hid hmB
      have HBP := Lib.hid hbP
      have HO := Lib.hid hown
      have hsP : wP.heap.size ≤ wB.heap.size := hbP.size
      have hsBq : wB.heap.size ≤ wq.heap.size := hb.size
      obtain ⟨qa, qi, hqp⟩ : ∃ a i, p'.c = .pointer a ∧ p'.i = i := by cases p' <;> exact ⟨_, _, rfl, rfl⟩
      have hqv : plv p' = .agg #[.pointer qa, .int .i64 qi] := by unfold plv; rw [hqp.1, hqp.2]
      have NX := Lib.hid (fun (W : World) (hb : Below wP.heap.size wP W) => by have := next_any F ci p' W hci (hpok.below hb) (hpfr.below hb); rw [hqv] at this; exact this)
      have TK := Lib.hid (show ∀ (W : World), Below wP.heap.size wP W → Calls Tryz.prog 116 #[.agg #[.pointer (some ⟨F, 0, none⟩), .int .i64 ci]] W fun e w' => e = .returned (.pointer (some ⟨g, o + ci * 5, none⟩)) ∧ Below W.heap.size W w' from fun W hb => by
        obtain ⟨⟨n, c, q, j, h1, h2, h3⟩, _⟩ := hst
        exact token_any F ci g o n c q j W h2 h3 (h1.below hb))
      have HQP := Lib.hid hqp
      have D := Lib.hid (show ∀ W, Below wq.heap.size wq W → (W.cell? ⟨P, 0, none⟩ = some (.pointer (some ⟨F, 0, none⟩)) ∧ W.cell? ⟨P, 1, none⟩ = some (.int .i64 ci) ∧ W.cell? ⟨g, o + ci * 5, none⟩ = some (.int .i64 t.1.k) ∧ W.cell? ⟨g, o + ci * 5 + 1, none⟩ = some (.string (bs t.1.x)) ∧ W.cell? ⟨g, o + ci * 5 + 2, none⟩ = some (.bool t.1.s) ∧ W.cell? ⟨g, o + ci * 5 + 3, none⟩ = some (.slice none 0 0) ∧ W.cell? ⟨g, o + ci * 5 + 4, none⟩ = some (.pointer t.2)) ∧ Below wP.heap.size wP W ∧ P < W.heap.size ∧ g < W.heap.size from fun W hb => by
        have h1 := HBP.out.trans ((HB.out.trans (hb.mono hsBq)).mono hsP)
        obtain ⟨_, hlt, t0, t1, t2, t3, t4⟩ := hst.below h1
        exact ⟨⟨(hb.cell (p := ⟨P, 0, none⟩) plt).trans p0, (hb.cell (p := ⟨P, 1, none⟩) plt).trans p1, t0, t1, t2, t3, t4⟩, h1, by have := hb.size; omega, hlt⟩)
      clear hqp hqv hpok hpfr hst hV hPc hb hown hmB hbP
      obtain ⟨⟨pk', px, ps, pp⟩, hd⟩ := t
      simp only at D
      go_upto_region 4 with fail
      obtain ⟨J, hJ⟩ : ∃ J : Array Bool → Act → World → Prop, J = (fun ls a W => ∃ t8 t9 t23 t24 t25 t26 t27 t28, a = { tmps := #[.pointer (some ⟨E, 0, none⟩), .agg #[.pointer pa0, .int .i64 pi0, .pointer none, .int .i64 0], undef, .pointer (some ⟨w.heap.size, 0, none⟩), u4, u5, .slice A6 k cp6, .pointer (some ⟨P, 0, none⟩), t8, t9, u10, u11, u12, u13, u14, u15, u16, .pointer (some ⟨w.heap.size, 0, none⟩), .agg #[.pointer pa0, .int .i64 pi0], .agg #[.pointer (some ⟨F, 0, none⟩), .int .i64 ci], .pointer (some ⟨w.heap.size, 2, none⟩), .agg #[.pointer none, .int .i64 0], .bool true, t23, t24, t25, t26, t27, t28, u29, u30, u31, u32, u33, u34, u35, u36, u37, u38, u39, u40, u41, u42, u43, u44, u45, u46, u47, u48, u49, u50, u51, u52, u53, u54, u55, u56, u57, u58, u59, u60, u61, u62, u63, u64, u65, u66, u67, u68, u69, u70, u71, u72, u73, u74, u75, u76, u77, u78, u79, u80, u81, u82, u83, u84, u85, u86, u87, u88, u89, u90, u91, u92, u93, u94, u95, u96, u97, u98, u99, u100, u101, u102, u103, u104, u105, u106, u107, u108, u109, u110, u111, u112, u113, u114, u115, u116, u117, u118, u119, u120, u121, u122, u123, u124, u125, u126, u127, u128, u129, u130, u131, u132, u133, u134, u135, u136, u137, undef], defers := [] } ∧ Below wq.heap.size wq W ∧
        (ls.getD 0 false = true → t23 = .agg #[.pointer (some ⟨F, 0, none⟩), .int .i64 ci]) ∧ (ls.getD 1 false = true → t24 = .pointer (some ⟨g, o + ci * 5, none⟩)) ∧ (ls.getD 2 false = true → t25 = .pointer (some ⟨g, o + ci * 5, none⟩)) ∧ (ls.getD 3 false = true → t26 = .agg #[.int .i64 pk', .string (bs px), .bool ps, .slice none 0 0, .pointer hd]) ∧ (ls.getD 4 false = true → t27 = .agg #[.pointer (some ⟨F, 0, none⟩), .int .i64 ci]) ∧ (ls.getD 5 false = true → t28 = .agg #[.pointer qa, .int .i64 qi]) ∧
        (ls.getD 6 false = true → ∃ P8, t8 = .pointer (some ⟨P8, 0, none⟩) ∧ wq.heap.size ≤ P8 ∧ W.heap[P8]? = some (.cells (if ls.getD 8 false = true then #[.int .i64 pk', .string (bs px), .bool ps, .slice none 0 0, .pointer hd] else #[.int .i64 0, .string ⟨#[]⟩, .bool false, .slice none 0 0, .pointer none]) 184 (0, 0))) ∧
        (ls.getD 7 false = true → ∃ P9, t9 = .pointer (some ⟨P9, 0, none⟩) ∧ wq.heap.size ≤ P9 ∧ W.heap[P9]? = some (.cells (if ls.getD 9 false = true then #[.pointer qa, .int .i64 qi] else #[.pointer none, .int .i64 0]) 179 (0, 0))) ∧ (ls.getD 8 false = true → ls.getD 6 false = true) ∧ (ls.getD 9 false = true → ls.getD 7 false = true)) := ⟨_, rfl⟩
      have HJ := Lib.hid hJ
      clear hJ
      refine wp_region_inv J (by kernel_rfl) (by kernel_rfl) ?h0 ?hstep ?hend
      case h0 =>
        rw [HJ.out]
        refine ⟨_, _, _, _, _, _, _, _, rfl, (Below.refl _ _).drew, ?_, ?_, ?_, ?_, ?_, ?_, ?_, ?_, ?_, ?_⟩
        all_goals (intro h; simp at h)
      case hstep =>
        intro i op ls a W hi hJ hs hu hdep
        rw [HJ.out] at hJ
        obtain ⟨t8, t9, t23, t24, t25, t26, t27, t28, rfl, hbW, j0, j1, j2, j3, j4, j5, j6, j7, j86, j97⟩ := hJ
        have hi10 : i < 10 := (Array.getElem?_eq_some_iff.1 hi).1
        have gd : ∀ k, ¬ i = k → (ls.setIfInBounds i true).getD k false = ls.getD k false := fun k h => getD_set_other h false
        have gs : (ls.setIfInBounds i true).getD i false = true := getD_set_self hu false
        obtain ⟨⟨s0, s1, s2, s3, s4, s5, s6⟩, hBw, hs7, hs8⟩ := D.out W hbW
        have hsW := hbW.size
        have un : ∀ k, ls.getD k true = false → ls.getD k false = true → False := fun k h1 h2 => by
          obtain ⟨hk, hv⟩ := getD_lt h1
          have h3 : ls[k] = true := by simpa [Array.getD, hk] using h2
          rw [hv] at h3; cases h3
        have hcs : i = 0 ∨ i = 1 ∨ i = 2 ∨ i = 3 ∨ i = 4 ∨ i = 5 ∨ i = 6 ∨ i = 7 ∨ i = 8 ∨ i = 9 := by omega
        rcases hcs with rfl | rfl | rfl | rfl | rfl | rfl | rfl | rfl | rfl | rfl
        · simp only [List.getElem?_toArray, List.getElem?_cons_zero, List.getElem?_cons_succ, Option.some.injEq] at hi
          subst hi
          refine inv_op rfl (by rfl) ?_
          go_simp
          rw [HJ.out]
          refine ⟨_, _, _, _, _, _, _, _, rfl, hbW, (fun _ => rfl), (fun h => j1 ((gd 1 (by decide)).symm.trans h)), (fun h => j2 ((gd 2 (by decide)).symm.trans h)), (fun h => j3 ((gd 3 (by decide)).symm.trans h)), (fun h => j4 ((gd 4 (by decide)).symm.trans h)), (fun h => j5 ((gd 5 (by decide)).symm.trans h)), ?_, ?_, (fun h => (gd 6 (by decide)).trans (j86 ((gd 8 (by decide)).symm.trans h))), (fun h => (gd 7 (by decide)).trans (j97 ((gd 9 (by decide)).symm.trans h)))⟩
          · intro h; rw [gd 8 (by decide)]; exact j6 ((gd 6 (by decide)).symm.trans h)
          · intro h; rw [gd 9 (by decide)]; exact j7 ((gd 7 (by decide)).symm.trans h)
        · simp only [List.getElem?_toArray, List.getElem?_cons_zero, List.getElem?_cons_succ, Option.some.injEq] at hi
          subst hi
          have e0 := j0 (hdep ⟨0, .data⟩ (by simp) rfl)
          subst e0
          refine inv_op rfl (by rfl) ?_
          go_simp
          (with_reducible refine (TK.out _ hBw).mono ?_)
          rintro e wt ⟨rfl, hbt⟩
          rw [HJ.out]
          refine ⟨_, _, _, _, _, _, _, _, rfl, hbW.trans (hbt.mono hsW), (fun h => j0 ((gd 0 (by decide)).symm.trans h)), (fun _ => rfl), (fun h => j2 ((gd 2 (by decide)).symm.trans h)), (fun h => j3 ((gd 3 (by decide)).symm.trans h)), (fun h => j4 ((gd 4 (by decide)).symm.trans h)), (fun h => j5 ((gd 5 (by decide)).symm.trans h)), ?_, ?_, (fun h => (gd 6 (by decide)).trans (j86 ((gd 8 (by decide)).symm.trans h))), (fun h => (gd 7 (by decide)).trans (j97 ((gd 9 (by decide)).symm.trans h)))⟩
          · intro h; rw [gd 8 (by decide)]; obtain ⟨P8, e, h1, h2⟩ := j6 ((gd 6 (by decide)).symm.trans h); exact ⟨P8, e, h1, (hbt.block P8 (Array.getElem?_eq_some_iff.1 h2).1).trans h2⟩
          · intro h; rw [gd 9 (by decide)]; obtain ⟨P9, e, h1, h2⟩ := j7 ((gd 7 (by decide)).symm.trans h); exact ⟨P9, e, h1, (hbt.block P9 (Array.getElem?_eq_some_iff.1 h2).1).trans h2⟩
        · simp only [List.getElem?_toArray, List.getElem?_cons_zero, List.getElem?_cons_succ, Option.some.injEq] at hi
          subst hi
          have e1 := j1 (hdep ⟨1, .data⟩ (by simp) rfl)
          subst e1
          refine inv_op rfl (by rfl) ?_
          go_simp
          rw [HJ.out]
          refine ⟨_, _, _, _, _, _, _, _, rfl, hbW, (fun h => j0 ((gd 0 (by decide)).symm.trans h)), (fun h => j1 ((gd 1 (by decide)).symm.trans h)), (fun _ => rfl), (fun h => j3 ((gd 3 (by decide)).symm.trans h)), (fun h => j4 ((gd 4 (by decide)).symm.trans h)), (fun h => j5 ((gd 5 (by decide)).symm.trans h)), ?_, ?_, (fun h => (gd 6 (by decide)).trans (j86 ((gd 8 (by decide)).symm.trans h))), (fun h => (gd 7 (by decide)).trans (j97 ((gd 9 (by decide)).symm.trans h)))⟩
          · intro h; rw [gd 8 (by decide)]; exact j6 ((gd 6 (by decide)).symm.trans h)
          · intro h; rw [gd 9 (by decide)]; exact j7 ((gd 7 (by decide)).symm.trans h)
        · simp only [List.getElem?_toArray, List.getElem?_cons_zero, List.getElem?_cons_succ, Option.some.injEq] at hi
          subst hi
          have e2 := j2 (hdep ⟨2, .data⟩ (by simp) rfl)
          subst e2
          refine inv_op rfl (by rfl) ?_
          go_simp
          rw [HJ.out]
          refine ⟨_, _, _, _, _, _, _, _, rfl, hbW, (fun h => j0 ((gd 0 (by decide)).symm.trans h)), (fun h => j1 ((gd 1 (by decide)).symm.trans h)), (fun h => j2 ((gd 2 (by decide)).symm.trans h)), (fun _ => rfl), (fun h => j4 ((gd 4 (by decide)).symm.trans h)), (fun h => j5 ((gd 5 (by decide)).symm.trans h)), ?_, ?_, (fun h => (gd 6 (by decide)).trans (j86 ((gd 8 (by decide)).symm.trans h))), (fun h => (gd 7 (by decide)).trans (j97 ((gd 9 (by decide)).symm.trans h)))⟩
          · intro h; rw [gd 8 (by decide)]; exact j6 ((gd 6 (by decide)).symm.trans h)
          · intro h; rw [gd 9 (by decide)]; exact j7 ((gd 7 (by decide)).symm.trans h)
        · simp only [List.getElem?_toArray, List.getElem?_cons_zero, List.getElem?_cons_succ, Option.some.injEq] at hi
          subst hi
          refine inv_op rfl (by rfl) ?_
          go_simp
          rw [HJ.out]
          refine ⟨_, _, _, _, _, _, _, _, rfl, hbW, (fun h => j0 ((gd 0 (by decide)).symm.trans h)), (fun h => j1 ((gd 1 (by decide)).symm.trans h)), (fun h => j2 ((gd 2 (by decide)).symm.trans h)), (fun h => j3 ((gd 3 (by decide)).symm.trans h)), (fun _ => rfl), (fun h => j5 ((gd 5 (by decide)).symm.trans h)), ?_, ?_, (fun h => (gd 6 (by decide)).trans (j86 ((gd 8 (by decide)).symm.trans h))), (fun h => (gd 7 (by decide)).trans (j97 ((gd 9 (by decide)).symm.trans h)))⟩
          · intro h; rw [gd 8 (by decide)]; exact j6 ((gd 6 (by decide)).symm.trans h)
          · intro h; rw [gd 9 (by decide)]; exact j7 ((gd 7 (by decide)).symm.trans h)
        · simp only [List.getElem?_toArray, List.getElem?_cons_zero, List.getElem?_cons_succ, Option.some.injEq] at hi
          subst hi
          have e4 := j4 (hdep ⟨4, .data⟩ (by simp) rfl)
          subst e4
          refine inv_op rfl (by rfl) ?_
          go_simp
          (with_reducible refine (NX.out _ hBw).mono ?_)
          rintro e wt ⟨rfl, hbt⟩
          rw [HJ.out]
          refine ⟨_, _, _, _, _, _, _, _, rfl, hbW.trans (hbt.mono hsW), (fun h => j0 ((gd 0 (by decide)).symm.trans h)), (fun h => j1 ((gd 1 (by decide)).symm.trans h)), (fun h => j2 ((gd 2 (by decide)).symm.trans h)), (fun h => j3 ((gd 3 (by decide)).symm.trans h)), (fun h => j4 ((gd 4 (by decide)).symm.trans h)), (fun _ => rfl), ?_, ?_, (fun h => (gd 6 (by decide)).trans (j86 ((gd 8 (by decide)).symm.trans h))), (fun h => (gd 7 (by decide)).trans (j97 ((gd 9 (by decide)).symm.trans h)))⟩
          · intro h; rw [gd 8 (by decide)]; obtain ⟨P8, e, h1, h2⟩ := j6 ((gd 6 (by decide)).symm.trans h); exact ⟨P8, e, h1, (hbt.block P8 (Array.getElem?_eq_some_iff.1 h2).1).trans h2⟩
          · intro h; rw [gd 9 (by decide)]; obtain ⟨P9, e, h1, h2⟩ := j7 ((gd 7 (by decide)).symm.trans h); exact ⟨P9, e, h1, (hbt.block P9 (Array.getElem?_eq_some_iff.1 h2).1).trans h2⟩
        · simp only [List.getElem?_toArray, List.getElem?_cons_zero, List.getElem?_cons_succ, Option.some.injEq] at hi
          subst hi
          refine inv_op rfl (by rfl) ?_
          go_simp
          rw [HJ.out]
          refine ⟨_, _, _, _, _, _, _, _, rfl, hbW.alloc hsW _, (fun h => j0 ((gd 0 (by decide)).symm.trans h)), (fun h => j1 ((gd 1 (by decide)).symm.trans h)), (fun h => j2 ((gd 2 (by decide)).symm.trans h)), (fun h => j3 ((gd 3 (by decide)).symm.trans h)), (fun h => j4 ((gd 4 (by decide)).symm.trans h)), (fun h => j5 ((gd 5 (by decide)).symm.trans h)), ?_, ?_, (fun _ => gs), (fun h => (gd 7 (by decide)).trans (j97 ((gd 9 (by decide)).symm.trans h)))⟩
          · intro h; rw [gd 8 (by decide)]; refine ⟨W.heap.size, rfl, hsW, ?_⟩; rw [if_neg (fun h8 => un 6 hu (j86 h8))]; exact heap_alloc_new W _
          · intro h; rw [gd 9 (by decide)]; obtain ⟨P9, e, h1, h2⟩ := j7 ((gd 7 (by decide)).symm.trans h); exact ⟨P9, e, h1, (Below.heap_alloc _ _ _ (Array.getElem?_eq_some_iff.1 h2).1).trans h2⟩
        · simp only [List.getElem?_toArray, List.getElem?_cons_zero, List.getElem?_cons_succ, Option.some.injEq] at hi
          subst hi
          refine inv_op rfl (by rfl) ?_
          go_simp
          rw [HJ.out]
          refine ⟨_, _, _, _, _, _, _, _, rfl, hbW.alloc hsW _, (fun h => j0 ((gd 0 (by decide)).symm.trans h)), (fun h => j1 ((gd 1 (by decide)).symm.trans h)), (fun h => j2 ((gd 2 (by decide)).symm.trans h)), (fun h => j3 ((gd 3 (by decide)).symm.trans h)), (fun h => j4 ((gd 4 (by decide)).symm.trans h)), (fun h => j5 ((gd 5 (by decide)).symm.trans h)), ?_, ?_, (fun h => (gd 6 (by decide)).trans (j86 ((gd 8 (by decide)).symm.trans h))), (fun _ => gs)⟩
          · intro h; rw [gd 8 (by decide)]; obtain ⟨P8, e, h1, h2⟩ := j6 ((gd 6 (by decide)).symm.trans h); exact ⟨P8, e, h1, (Below.heap_alloc _ _ _ (Array.getElem?_eq_some_iff.1 h2).1).trans h2⟩
          · intro h; rw [gd 9 (by decide)]; refine ⟨W.heap.size, rfl, hsW, ?_⟩; rw [if_neg (fun h9 => un 7 hu (j97 h9))]; exact heap_alloc_new W _
        · simp only [List.getElem?_toArray, List.getElem?_cons_zero, List.getElem?_cons_succ, Option.some.injEq] at hi
          subst hi
          have e6 := j6 (hdep ⟨6, .data⟩ (by simp) rfl)
          have e3 := j3 (hdep ⟨3, .data⟩ (by simp) rfl)
          subst e3
          obtain ⟨P8, rfl, hPn, hC8⟩ := e6
          rw [if_neg (fun h => un 8 hu h)] at hC8
          have x0 := Lib.cell_of_heap hC8 0
          have y0 := Lib.frozen_of_heap hC8 0
          have x1 := Lib.cell_of_heap hC8 1
          have y1 := Lib.frozen_of_heap hC8 1
          have x2 := Lib.cell_of_heap hC8 2
          have y2 := Lib.frozen_of_heap hC8 2
          have x3 := Lib.cell_of_heap hC8 3
          have y3 := Lib.frozen_of_heap hC8 3
          have x4 := Lib.cell_of_heap hC8 4
          have y4 := Lib.frozen_of_heap hC8 4
          simp only [List.getElem?_toArray, List.getElem?_cons_zero, List.getElem?_cons_succ] at x0 x1 x2 x3 x4
          have hlt := (Array.getElem?_eq_some_iff.1 hC8).1
          have r0 := heap_setCell_same _ _ 0 _ _ (.int .i64 pk') hC8
          have r1 := heap_setCell_same _ _ 1 _ _ (.string (bs px)) r0
          have r2 := heap_setCell_same _ _ 2 _ _ (.bool ps) r1
          have r3 := heap_setCell_same _ _ 3 _ _ (.slice none 0 0) r2
          have r4 := heap_setCell_same _ _ 4 _ _ (.pointer hd) r3
          refine inv_op rfl (by rfl) ?_
          go_simp
          rw [HJ.out]
          refine ⟨_, _, _, _, _, _, _, _, rfl, ((((((((((hbW).setCell (p := ⟨P8, 0, none⟩) hPn (.int .i64 pk'))).setCell (p := ⟨P8, 1, none⟩) hPn (.string (bs px)))).setCell (p := ⟨P8, 2, none⟩) hPn (.bool ps))).setCell (p := ⟨P8, 3, none⟩) hPn (.slice none 0 0))).setCell (p := ⟨P8, 4, none⟩) hPn (.pointer hd)), (fun h => j0 ((gd 0 (by decide)).symm.trans h)), (fun h => j1 ((gd 1 (by decide)).symm.trans h)), (fun h => j2 ((gd 2 (by decide)).symm.trans h)), (fun h => j3 ((gd 3 (by decide)).symm.trans h)), (fun h => j4 ((gd 4 (by decide)).symm.trans h)), (fun h => j5 ((gd 5 (by decide)).symm.trans h)), (fun h => ⟨P8, rfl, hPn, by rw [if_pos gs]; exact r4⟩), (fun h => by rw [gd 9 (by decide)]; obtain ⟨P9, e, h1, h2⟩ := j7 ((gd 7 (by decide)).symm.trans h); have hne : ¬ P9 = P8 := (fun e => by subst e; rw [hC8] at h2; revert h2; split <;> intro h2 <;> simp at h2); exact ⟨P9, e, h1, ((Below.heap_setCell _ _ _ _ (by simpa using hne)).trans ((Below.heap_setCell _ _ _ _ (by simpa using hne)).trans ((Below.heap_setCell _ _ _ _ (by simpa using hne)).trans ((Below.heap_setCell _ _ _ _ (by simpa using hne)).trans ((Below.heap_setCell _ _ _ _ (by simpa using hne)).trans (h2))))))⟩), (fun _ => (gd 6 (by decide)).trans (hdep ⟨6, .data⟩ (by simp) rfl)), (fun h => (gd 7 (by decide)).trans (j97 ((gd 9 (by decide)).symm.trans h)))⟩
        · simp only [List.getElem?_toArray, List.getElem?_cons_zero, List.getElem?_cons_succ, Option.some.injEq] at hi
          subst hi
          have e7 := j7 (hdep ⟨7, .data⟩ (by simp) rfl)
          have e5 := j5 (hdep ⟨5, .data⟩ (by simp) rfl)
          subst e5
          obtain ⟨P9, rfl, hPn, hC9⟩ := e7
          rw [if_neg (fun h => un 9 hu h)] at hC9
          have x0 := Lib.cell_of_heap hC9 0
          have y0 := Lib.frozen_of_heap hC9 0
          have x1 := Lib.cell_of_heap hC9 1
          have y1 := Lib.frozen_of_heap hC9 1
          simp only [List.getElem?_toArray, List.getElem?_cons_zero, List.getElem?_cons_succ] at x0 x1
          have hlt := (Array.getElem?_eq_some_iff.1 hC9).1
          have r0 := heap_setCell_same _ _ 0 _ _ (.pointer qa) hC9
          have r1 := heap_setCell_same _ _ 1 _ _ (.int .i64 qi) r0
          refine inv_op rfl (by rfl) ?_
          go_simp
          rw [HJ.out]
          refine ⟨_, _, _, _, _, _, _, _, rfl, ((((hbW).setCell (p := ⟨P9, 0, none⟩) hPn (.pointer qa))).setCell (p := ⟨P9, 1, none⟩) hPn (.int .i64 qi)), (fun h => j0 ((gd 0 (by decide)).symm.trans h)), (fun h => j1 ((gd 1 (by decide)).symm.trans h)), (fun h => j2 ((gd 2 (by decide)).symm.trans h)), (fun h => j3 ((gd 3 (by decide)).symm.trans h)), (fun h => j4 ((gd 4 (by decide)).symm.trans h)), (fun h => j5 ((gd 5 (by decide)).symm.trans h)), (fun h => by rw [gd 8 (by decide)]; obtain ⟨P8, e, h1, h2⟩ := j6 ((gd 6 (by decide)).symm.trans h); have hne : ¬ P8 = P9 := (fun e => by subst e; rw [hC9] at h2; revert h2; split <;> intro h2 <;> simp at h2); exact ⟨P8, e, h1, ((Below.heap_setCell _ _ _ _ (by simpa using hne)).trans ((Below.heap_setCell _ _ _ _ (by simpa using hne)).trans (h2)))⟩), (fun h => ⟨P9, rfl, hPn, by rw [if_pos gs]; exact r1⟩), (fun h => (gd 6 (by decide)).trans (j86 ((gd 8 (by decide)).symm.trans h))), (fun _ => (gd 7 (by decide)).trans (hdep ⟨7, .data⟩ (by simp) rfl))⟩
      case hend =>
        intro ls a W hJ hall
        rw [HJ.out] at hJ
        obtain ⟨t8, t9, t23, t24, t25, t26, t27, t28, rfl, hbW, j0, j1, j2, j3, j4, j5, j6, j7, j86, j97⟩ := hJ
        obtain rfl := j0 (hall 0 (by decide))
        obtain rfl := j1 (hall 1 (by decide))
        obtain rfl := j2 (hall 2 (by decide))
        obtain rfl := j3 (hall 3 (by decide))
        obtain rfl := j4 (hall 4 (by decide))
        obtain rfl := j5 (hall 5 (by decide))
        obtain ⟨P8, rfl, hP8, hC8⟩ := j6 (hall 6 (by decide))
        obtain ⟨P9, rfl, hP9, hC9⟩ := j7 (hall 7 (by decide))
        rw [if_pos (hall 8 (by decide))] at hC8
        rw [if_pos (hall 9 (by decide))] at hC9
        clear j0 j1 j2 j3 j4 j5 j6 j7 hall
        dsimp only
        have HOW := Lib.hid (own_later HO.out hbW)
        have HBK := Lib.hid hbW
        have hbw2 := (D.out W hbW).2.1
        have HBW2 := Lib.hid hbw2
        have hl8 := (Array.getElem?_eq_some_iff.1 hC8).1
        have hl9 := (Array.getElem?_eq_some_iff.1 hC9).1
        have h89 : ¬ P8 = P9 := fun e => by subst e; rw [hC8] at hC9; simp at hC9
        have hPW := (hbW.block P plt).trans HPC.out
        have hVW := (hbW.block w.heap.size (by omega)).trans HV.out
        have h8P : ¬ P = P8 := by omega
        have hsw2 := hbw2.size
        have HPW := Lib.hid hPW
        have HVW := Lib.hid hVW
        clear hPW hVW
        rcases HMODE.out with ⟨htot, hqt⟩ | hX
        rotate_left
        · obtain ⟨ho0, hr0, hwB0, hwP0, hP0, hc60, hLS⟩ := hX
          obtain ⟨hmE, hmM, hEM, hleft, hXM, s1, s2, hl, htot⟩ := hLS
          rw [hl] at hr0
          simp only [List.cons.injEq, Prod.mk.injEq, Tp.PTok.mk.injEq] at hr0
          obtain ⟨⟨⟨rfl, hpx, rfl, rfl⟩, rfl⟩, rfl⟩ := hr0
          subst hwB0
          subst hwP0
          subst hP0
          obtain ⟨rfl, rfl, rfl⟩ : A6 = none ∧ k = 0 ∧ cp6 = 0 := by simpa using hc60
          have t0 := Lib.cell_of_heap hC8 0
          have t1 := Lib.cell_of_heap hC8 1
          have t2 := Lib.cell_of_heap hC8 2
          have t3 := Lib.cell_of_heap hC8 3
          have t4 := Lib.cell_of_heap hC8 4
          simp only [List.getElem?_toArray, List.getElem?_cons_zero, List.getElem?_cons_succ] at t0 t1 t2 t3 t4
          have hbWw := HB.out.trans (hbW.mono hsBq)
          have CX := called_X E Mm Mp left ps W (hXM.below hbWw)
          rw [← hpx] at CX
          have CX := Lib.hid CX
          have tl : (bs px).toList = px := bs_toList px
          have hpb : (px == [95, 95, 76, 73, 78, 69, 95, 95]) = false := by rw [hpx]; rfl
          have HPX := Lib.hid hpx
          have HXM := Lib.hid hXM
          have hMw : Mp < wB.heap.size := by obtain ⟨_, ⟨_, h⟩, _⟩ := hXM; exact (Array.getElem?_eq_some_iff.1 h).1
          have hEw : E < wB.heap.size := hXM.1.cells.2.2.2.2
          have hsWw := hbWw.size
          have hsWq := hbW.size
          clear hpx hl hXM
          go_wp2_with (first
            | (go_at_call 118
               (with_reducible refine CX.out.mono ?_)
               rintro e w3 ⟨PL, rfl, hPL, hPLs, hk3, hb3⟩
               have hC83 := (hk3.2 P8 hl8 (by omega)).trans hC8
               have hC93 := (hk3.2 P9 hl9 (by omega)).trans hC9
               have hV3 := (hk3.2 wB.heap.size (by omega) (by omega)).trans HVW.out
               have hs3 := hk3.1
               have hPL' := Lib.hid hPL
               obtain ⟨A7, c7, gi, ci', U, cu, q1, _, _⟩ := hPL
               have n1 := Lib.cell_of_heap q1 1
               have n5 := Lib.cell_of_heap q1 5
               have nl := (Array.getElem?_eq_some_iff.1 q1).1
               have r0 := Lib.cell_of_heap hC83 0
               have r1 := Lib.cell_of_heap hC83 1
               have r2 := Lib.cell_of_heap hC83 2
               have r3 := Lib.cell_of_heap hC83 3
               have r4 := Lib.cell_of_heap hC83 4
               have y0 := Lib.cell_of_heap hC93 0
               have y1 := Lib.cell_of_heap hC93 1
               simp only [List.getElem?_toArray, List.getElem?_cons_zero, List.getElem?_cons_succ] at n1 n5 r0 r1 r2 r3 r4 y0 y1
               have Q1 := Lib.hid q1
               have HC83 := Lib.hid hC83
               have HC93 := Lib.hid hC93
               have HV3 := Lib.hid hV3
               have HK3 := Lib.hid hk3
               have HB3 := Lib.hid hb3
               clear q1 hC83 hC93 hV3 hk3 hb3)
            | (go_at_call 122
               have hX3 : Xp w3 E Mm Mp left := (HK3.out.2 E (by omega) hEM).trans ((hbWw.block E hEw).trans HXM.out.1)
               (with_reducible refine (fill_X E Mm Mp PL left w3 hX3 hPL'.out (by omega)).mono ?_)
               rintro e w4 ⟨g2, c2, rfl, ho4, hk4, hb4⟩
               have o4 := Lib.hid ho4
               have gz := ho4.lt g2 rfl
               have z2 : w4.cell? ⟨g2, 2, none⟩ = some (.bool false) := ho4.cellAt 2 (by omega)
               have z4 : w4.cell? ⟨g2, 4, none⟩ = some (.pointer none) := ho4.cellAt 4 (by omega)
               have zf2 := ho4.frozenAt 2
               have zf4 := ho4.frozenAt 4
               have HK4 := Lib.hid hk4
               have HB4 := Lib.hid hb4
               have hs4 := hk4.1
               have hC84 := (hk4.2 P8 (by omega) (by omega)).trans HC83.out
               have hC94 := (hk4.2 P9 (by omega) (by omega)).trans HC93.out
               have m5 := Lib.cell_of_heap ((hk4.2 PL (by omega) (by omega)).trans Q1.out) 5
               simp only [List.getElem?_toArray, List.getElem?_cons_zero, List.getElem?_cons_succ] at m5
               clear ho4 hk4 hb4 n1 n5)
            | (go_at_call 124
               (with_reducible refine (with_nil w4).mono ?_)
               rintro e w5 ⟨s, rfl, hb5⟩
               have z45 := (hb5.cell (p := ⟨g2, 4, none⟩) gz.2).trans z4
               have zf45 := (hb5.frozen (p := ⟨g2, 4, none⟩) gz.2).trans zf4
               have HB5 := Lib.hid hb5
               have hs5 := hb5.size
               clear hb5)
            | (go_at_call 123
               go_loud (
                (with_reducible refine (hideAll_1 g2 1 (some ⟨s, 0, none⟩) w5 z45 zf45 (by omega)).mono ?_)
                rintro e w6 ⟨⟨v6, rfl⟩, hw6⟩
                have hs6 : w6.heap.size = w5.heap.size := by rw [hw6]; simp [World.setCell]
                have h6 : ∀ k, k < w4.heap.size → k ≠ g2 → w6.heap[k]? = w4.heap[k]? := fun k h1 h2 => by rw [hw6]; exact (Below.heap_setCell _ _ _ _ (by simpa using h2)).trans (HB5.out.block k h1)
                have o6 : w6.ownsRow w3.heap.size 184 5 (.slice (some ⟨g2, 0, none⟩) 1 c2) 1 ((t1c false).set 4 (.pointer (some ⟨s, 0, none⟩))) := by rw [hw6]; exact ((own_later o4.out HB5.out).stored 4 _).1
                have bl6 : ∀ n, n ≤ g2 → Below n w5 w6 := fun n h => by rw [hw6]; exact (Below.refl n w5).setCell (p := ⟨g2, 4, none⟩) h _
                have hC86 := (h6 P8 (by omega) (by omega)).trans hC84
                have hC96 := (h6 P9 (by omega) (by omega)).trans hC94
                have a2 := Lib.cell_of_heap hC86 2
                have e0 := Lib.cell_of_heap hC96 0
                have e1 := Lib.cell_of_heap hC96 1
                have ef0 := Lib.frozen_of_heap hC96 0
                have ef1 := Lib.frozen_of_heap hC96 1
                have el := (Array.getElem?_eq_some_iff.1 hC96).1
                simp only [List.getElem?_toArray, List.getElem?_cons_zero, List.getElem?_cons_succ] at a2 e0 e1
                have zz2 : w6.cell? ⟨g2, 2, none⟩ = some (.bool false) := o6.cellAt 2 (by omega)
                have zzf2 := o6.frozenAt 2
                have zzl := (o6.lt g2 rfl).2
                have hC7 := (h6 (wB.heap.size + 1) (by omega) (by omega)).trans ((HK4.out.2 (wB.heap.size + 1) (by omega) (by omega)).trans ((HK3.out.2 (wB.heap.size + 1) (by omega) (by omega)).trans HPW.out))
                have j0 := Lib.cell_of_heap hC7 0
                have j1 := Lib.cell_of_heap hC7 1
                have jf0 := Lib.frozen_of_heap hC7 0
                have jf1 := Lib.frozen_of_heap hC7 1
                have jl := (Array.getElem?_eq_some_iff.1 hC7).1
                have n89 : ¬ P8 = g2 := by omega
                have n99 : ¬ P9 = g2 := by omega
                have n79 : ¬ wB.heap.size + 1 = g2 := by omega
                have n98 : ¬ P9 = wB.heap.size + 1 := by omega
                have n97 : ¬ wB.heap.size + 1 = P9 := by omega
                have O6 := Lib.hid o6
                have H6 := Lib.hid h6
                have BL6 := Lib.hid bl6
                have C96 := Lib.hid hC96
                have C76 := Lib.hid hC7
                have HS6 := Lib.hid hs6
                clear hw6 o6 h6 bl6 hC86 hC96 hC7 hs6 z2 z4 zf2 zf4)))
          have hm3 : m ≤ w3.heap.size := by omega
          have hs6 := HS6.out
          have hgz := gz.1
          obtain ⟨w7, hw7⟩ : ∃ w7, ((((w6.setCell ⟨g2, 2, none⟩ (.bool ps)).setCell ⟨P9, 0, none⟩ (.pointer (some ⟨w6.heap.size, 0, none⟩))).setCell ⟨P9, 1, none⟩ (.int .i64 0)).setCell ⟨wB.heap.size + 1, 0, none⟩ (.pointer (some ⟨w6.heap.size, 0, none⟩))).setCell ⟨wB.heap.size + 1, 1, none⟩ (.int .i64 0) = w7 := ⟨_, rfl⟩
          rw [hw7]
          have hs7 : w7.heap.size = w6.heap.size := by rw [← hw7]; simp [World.setCell]
          have b7 : Below m w6 w7 := by rw [← hw7]; exact (((((Below.refl m w6).setCell (p := ⟨g2, 2, none⟩) (show m ≤ g2 by omega) _).setCell (p := ⟨P9, 0, none⟩) (show m ≤ P9 by omega) _).setCell (p := ⟨P9, 1, none⟩) (show m ≤ P9 by omega) _).setCell (p := ⟨wB.heap.size + 1, 0, none⟩) (show m ≤ wB.heap.size + 1 by omega) _).setCell (p := ⟨wB.heap.size + 1, 1, none⟩) (show m ≤ wB.heap.size + 1 by omega) _
          have hV7 : w7.heap[wB.heap.size]? = w6.heap[wB.heap.size]? := by
            rw [← hw7]
            exact (Below.heap_setCell _ _ _ _ (by simp)).trans ((Below.heap_setCell _ _ _ _ (by simp)).trans ((Below.heap_setCell _ _ _ _ (by simp; omega)).trans ((Below.heap_setCell _ _ _ _ (by simp; omega)).trans (Below.heap_setCell _ _ _ _ (by simp; omega)))))
          have o7 : w7.ownsRow w3.heap.size 184 5 (.slice (some ⟨g2, 0, none⟩) 1 c2) 1 (((t1c false).set 4 (.pointer (some ⟨s, 0, none⟩))).set 2 (.bool ps)) := by
            rw [← hw7]
            have q9 : (Value.slice (some ⟨g2, 0, none⟩) 1 c2).ownBlock ≠ some P9 := by simpa [Value.ownBlock] using fun e : g2 = P9 => n99 e.symm
            have q7 : (Value.slice (some ⟨g2, 0, none⟩) 1 c2).ownBlock ≠ some (wB.heap.size + 1) := by simpa [Value.ownBlock] using fun e : g2 = wB.heap.size + 1 => n79 e.symm
            exact (((((O6.out.stored 2 (.bool ps)).1.kept (grownBy_setR _ P9 0 _) (.inr q9)).kept (grownBy_setR _ P9 1 _) (.inr q9)).kept (grownBy_setR _ (wB.heap.size + 1) 0 _) (.inr q7)).kept (grownBy_setR _ (wB.heap.size + 1) 1 _) (.inr q7))
          have r7 : Rd w7 5 (some ⟨g2, 0, none⟩) 1 (txhs [(⟨2, [49], ps, []⟩, some ⟨s, 0, none⟩)]) := Rd.of_own o7
          obtain ⟨wD, hwD⟩ : ∃ wD, w7.alloc (.cells #[.slice (some ⟨g2, 0, none⟩) 1 1, .pointer qa, .int .i64 qi] 181) = wD := ⟨_, rfl⟩
          have bD : Below w7.heap.size w7 wD := by rw [← hwD]; exact (Below.refl _ _).alloc (Nat.le_refl _) _
          have sD : wD.heap.size = w6.heap.size + 1 := by rw [← hwD]; simp [hs7]
          have cD : CellAt wD w6.heap.size (some ⟨g2, 0, none⟩) 1 1 p'.c p'.i := by
            rw [HQP.out.1, HQP.out.2, ← hwD, ← hs7]
            exact heap_alloc_new w7 _
          have bBD : Below m wB wD := (((((hbWw.mono hm).trans (HB3.out m hmM (by omega))).trans (HB4.out m hmE hm3)).trans (HB5.out.mono (by omega))).trans (BL6.out m (by omega))).trans (b7.trans (bD.mono (by omega)))
          have hpth : Path wD p' [(⟨1, Tp.lineN, s2, []⟩, none)] := HPR.out.below (HBP.out.trans (bBD.mono hm0))
          have hC' : p' = .done ∨ ∃ C' i, p' = .at C' i ∧ C' ≠ w6.heap.size := by
            have hok := HPR.out.ok
            cases p' with
            | done => exact .inl rfl
            | «at» C' i =>
              refine .inr ⟨C', i, rfl, ?_⟩
              obtain ⟨_, _, _, _, _, h, _⟩ := hok
              have := h.lt
              omega
          have hVw : wD.heap[wB.heap.size]? = _ := (bD.block wB.heap.size (by omega)).trans (hV7.trans ((H6.out wB.heap.size (by omega) (by omega)).trans ((HK4.out.2 wB.heap.size (by omega) (by omega)).trans HV3.out)))
          rw [hwD]
          have bE := (Below.refl wD.heap.size wD).alloc (Nat.le_refl _) (.cells #[.pointer (some ⟨w6.heap.size, 0, none⟩), .int .i64 0] 179)
          refine ⟨⟨w6.heap.size + 1, .at w6.heap.size 0, _, [], wD, wD, rfl, by omega, by omega, ?_, (bE.block wB.heap.size (by omega)).trans hVw, bBD, by omega, bE, path_push cD hC' (r7.later bD) hpth, Below.refl _ _, World.ownsRow_nil _ _ _ _, .inl ⟨?_, ?_⟩⟩, lsN_X ?_⟩
          · rw [← sD]
            exact heap_alloc_new wD _
          · rw [htot]
            rfl
          · intro t ht
            simp only [List.mem_cons, List.not_mem_nil, or_false] at ht
            rcases ht with rfl | rfl
            · exact .inl (by simp)
            · exact .inr (.inl rfl)
          · intro e
            simp only [Value.pointer.injEq, Option.some.injEq, Addr.mk.injEq, and_true] at e
            omega
        have HTOT := Lib.hid htot
        have HQT := Lib.hid hqt
        have hkt : k < tot.length := by rw [← htot]; simp [hk]
        have HK := Lib.hid hk
        clear htot hqt hk
        by_cases hln2 : pk' = 1 ∧ px = Tp.lineN
        · obtain ⟨rfl, rfl⟩ := hln2
          have hC8' : W.heap[P8]? = some (.cells #[.int .i64 1, .string ⟨#[95, 95, 76, 73, 78, 69, 95, 95]⟩, .bool ps, .slice none 0 0, .pointer hd] 184 (0, 0)) := hC8
          have HLN := Lib.hid (show txh (lnT ⟨1, Tp.lineN, ps, pp⟩, hd) = [.int .i64 10, .string ⟨#[95, 95, 76, 73, 78, 69, 95, 95]⟩, .bool ps, .slice none 0 0, .pointer hd] from rfl)
          have t0 := Lib.cell_of_heap hC8' 0
          have t1 := Lib.cell_of_heap hC8' 1
          have tf := Lib.frozen_of_heap hC8' 0
          simp only [List.getElem?_toArray, List.getElem?_cons_zero, List.getElem?_cons_succ] at t0 t1
          go_wp2
          obtain ⟨X1, hX1⟩ : ∃ X1, W.setCell ⟨P8, 0, none⟩ (.int .i64 10) = X1 := ⟨_, rfl⟩
          have hX8 : X1.heap[P8]? = some (.cells #[.int .i64 10, .string ⟨#[95, 95, 76, 73, 78, 69, 95, 95]⟩, .bool ps, .slice none 0 0, .pointer hd] 184 (0, 0)) := by rw [← hX1]; exact heap_setCell_same _ _ 0 _ _ _ hC8'
          have hX9 : X1.heap[P9]? = some (.cells #[.pointer qa, .int .i64 qi] 179 (0, 0)) := by rw [← hX1]; exact (Below.heap_setCell _ _ _ _ (by simpa using fun e : P9 = P8 => h89 e.symm)).trans hC9
          have hXb : Below wq.heap.size wq X1 := by rw [← hX1]; exact hbW.setCell (p := ⟨P8, 0, none⟩) hP8 _
          have hXP := (show X1.heap[P]? = W.heap[P]? by rw [← hX1]; exact Below.heap_setCell _ _ _ _ (by simpa using h8P)).trans HPW.out
          have hXV := (show X1.heap[w.heap.size]? = W.heap[w.heap.size]? by rw [← hX1]; exact Below.heap_setCell _ _ _ _ (by simp; omega)).trans HVW.out
          rw [hX1]
          clear hX1
          have hb1 := hXb.drew
          have z0 : X1.drew.cell? ⟨P8, 0, none⟩ = _ := Lib.cell_of_heap hX8 0
          have z1 : X1.drew.cell? ⟨P8, 1, none⟩ = _ := Lib.cell_of_heap hX8 1
          have z2 : X1.drew.cell? ⟨P8, 2, none⟩ = _ := Lib.cell_of_heap hX8 2
          have z3 : X1.drew.cell? ⟨P8, 3, none⟩ = _ := Lib.cell_of_heap hX8 3
          have z4 : X1.drew.cell? ⟨P8, 4, none⟩ = _ := Lib.cell_of_heap hX8 4
          have z5 : X1.drew.cell? ⟨P9, 0, none⟩ = _ := Lib.cell_of_heap hX9 0
          have z6 : X1.drew.cell? ⟨P9, 1, none⟩ = _ := Lib.cell_of_heap hX9 1
          simp only [List.getElem?_toArray, List.getElem?_cons_zero, List.getElem?_cons_succ] at z0 z1 z2 z3 z4 z5 z6
          obtain ⟨S, hS⟩ : ∃ S : World → Prop, S = (fun w' => w'.cell? ⟨P8, 0, none⟩ = some (.int .i64 10) ∧ w'.cell? ⟨P8, 1, none⟩ = some (.string ⟨#[95, 95, 76, 73, 78, 69, 95, 95]⟩) ∧ w'.cell? ⟨P8, 2, none⟩ = some (.bool ps) ∧ w'.cell? ⟨P8, 3, none⟩ = some (.slice none 0 0) ∧ w'.cell? ⟨P8, 4, none⟩ = some (.pointer hd) ∧ w'.cell? ⟨P9, 0, none⟩ = some (.pointer qa) ∧ w'.cell? ⟨P9, 1, none⟩ = some (.int .i64 qi)) := ⟨_, rfl⟩
          have HS := Lib.hid hS
          clear hS
          refine wp_region_G S 6 (by kernel_rfl) (by rw [HS.out]; exact ⟨z0, z1, z2, z3, z4, z5, z6⟩) (fun hHeld => ?_)
          refine wpAnyG_take (i := 0) (v := ?_) rfl (by kernel_rfl) (by kernel_rfl) (by kernel_rfl) (by kernel_rfl) (by decide) (by kernel_rfl) (fun _ _ _ h => h) (Or.inl ⟨by rfl, ?_⟩) (by assumption) ?_
          rotate_left
          · intro w hSw
            rw [HS.out] at hSw
            (try dsimp only at hSw)
            go_simp
            all_goals (with_reducible rfl)
          try simp only [List.getElem_toArray, List.getElem_cons_succ, List.getElem_cons_zero, Act.put, List.setIfInBounds_toArray, List.set_cons_zero, List.set_cons_succ]
          refine wpAnyG_take (i := 1) (v := ?_) rfl (by kernel_rfl) (by kernel_rfl) (by kernel_rfl) (by kernel_rfl) (by decide) (by kernel_rfl) (fun _ _ _ h => h) (Or.inl ⟨by rfl, ?_⟩) (by assumption) ?_
          rotate_left
          · intro w hSw
            rw [HS.out] at hSw
            (try dsimp only at hSw)
            go_simp
            all_goals (with_reducible rfl)
          try simp only [List.getElem_toArray, List.getElem_cons_succ, List.getElem_cons_zero, Act.put, List.setIfInBounds_toArray, List.set_cons_zero, List.set_cons_succ]
          refine wpAnyG_take (i := 4) (v := ?_) rfl (by kernel_rfl) (by kernel_rfl) (by kernel_rfl) (by kernel_rfl) (by decide) (by kernel_rfl) (fun _ _ _ h => h) (Or.inl ⟨by rfl, ?_⟩) (by assumption) ?_
          rotate_left
          · intro w hSw
            rw [HS.out] at hSw
            (try dsimp only at hSw)
            go_simp
            all_goals (with_reducible rfl)
          try simp only [List.getElem_toArray, List.getElem_cons_succ, List.getElem_cons_zero, Act.put, List.setIfInBounds_toArray, List.set_cons_zero, List.set_cons_succ]
          have aT := (Below.refl X1.drew.heap.size X1.drew).alloc (Nat.le_refl _) (.cells #[.int .i64 10, .string ⟨#[95, 95, 76, 73, 78, 69, 95, 95]⟩, .bool ps, .slice none 0 0, .pointer hd] 184)
          have hl8d : P8 < X1.drew.heap.size := (Array.getElem?_eq_some_iff.1 hX8).1
          have hl9d : P9 < X1.drew.heap.size := (Array.getElem?_eq_some_iff.1 hX9).1
          have hHeld2 : (X1.drew.alloc (.cells #[.int .i64 10, .string ⟨#[95, 95, 76, 73, 78, 69, 95, 95]⟩, .bool ps, .slice none 0 0, .pointer hd] 184)).cell? ⟨P8, 0, none⟩ = some (.int .i64 10) ∧ (X1.drew.alloc (.cells #[.int .i64 10, .string ⟨#[95, 95, 76, 73, 78, 69, 95, 95]⟩, .bool ps, .slice none 0 0, .pointer hd] 184)).cell? ⟨P8, 1, none⟩ = some (.string ⟨#[95, 95, 76, 73, 78, 69, 95, 95]⟩) ∧ (X1.drew.alloc (.cells #[.int .i64 10, .string ⟨#[95, 95, 76, 73, 78, 69, 95, 95]⟩, .bool ps, .slice none 0 0, .pointer hd] 184)).cell? ⟨P8, 2, none⟩ = some (.bool ps) ∧ (X1.drew.alloc (.cells #[.int .i64 10, .string ⟨#[95, 95, 76, 73, 78, 69, 95, 95]⟩, .bool ps, .slice none 0 0, .pointer hd] 184)).cell? ⟨P8, 3, none⟩ = some (.slice none 0 0) ∧ (X1.drew.alloc (.cells #[.int .i64 10, .string ⟨#[95, 95, 76, 73, 78, 69, 95, 95]⟩, .bool ps, .slice none 0 0, .pointer hd] 184)).cell? ⟨P8, 4, none⟩ = some (.pointer hd) ∧ (X1.drew.alloc (.cells #[.int .i64 10, .string ⟨#[95, 95, 76, 73, 78, 69, 95, 95]⟩, .bool ps, .slice none 0 0, .pointer hd] 184)).cell? ⟨P9, 0, none⟩ = some (.pointer qa) ∧ (X1.drew.alloc (.cells #[.int .i64 10, .string ⟨#[95, 95, 76, 73, 78, 69, 95, 95]⟩, .bool ps, .slice none 0 0, .pointer hd] 184)).cell? ⟨P9, 1, none⟩ = some (.int .i64 qi) :=
            ⟨(aT.cell (p := ⟨P8, 0, none⟩) hl8d).trans z0, (aT.cell (p := ⟨P8, 1, none⟩) hl8d).trans z1, (aT.cell (p := ⟨P8, 2, none⟩) hl8d).trans z2, (aT.cell (p := ⟨P8, 3, none⟩) hl8d).trans z3, (aT.cell (p := ⟨P8, 4, none⟩) hl8d).trans z4, (aT.cell (p := ⟨P9, 0, none⟩) hl9d).trans z5, (aT.cell (p := ⟨P9, 1, none⟩) hl9d).trans z6⟩
          have hHeld2 := Lib.hid hHeld2
          have cT := cellsN_new X1.drew 184 [.int .i64 10, .string ⟨#[95, 95, 76, 73, 78, 69, 95, 95]⟩, .bool ps, .slice none 0 0, .pointer hd]
          have oT : (X1.drew.alloc (.cells #[.int .i64 10, .string ⟨#[95, 95, 76, 73, 78, 69, 95, 95]⟩, .bool ps, .slice none 0 0, .pointer hd] 184)).ownsRow wB.heap.size 184 5 (.slice A6 k cp6) k (txhs out) := own_later (own_later HO.out hb1) aT
          refine G_one (i := 2) rfl (by kernel_rfl) (by rfl) ?_
          try simp only [List.getElem_toArray, List.getElem_cons_succ, List.getElem_cons_zero]
          go_simp
          refine ⟨by rw [HS.out]; exact hHeld2.out, ?_⟩
          refine G_one (i := 3) rfl (by kernel_rfl) (by rfl) ?_
          refine wp_append_own _ (.tmp 41) (.tmp 43) 177 rfl wB.heap.size 184 i0 _ 5 64 Tryz.underlying177 hi hz0 hz1 hz2 rfl (by decide) (.slice A6 k cp6) k _ rfl oT ⟨X1.heap.size, 0, none⟩ 1 1 [.int .i64 10, .string ⟨#[95, 95, 76, 73, 78, 69, 95, 95]⟩, .bool ps, .slice none 0 0, .pointer hd] rfl rfl cT (by simp [Value.oneCell']) (by unfold maxLen; omega) (by omega) (by have := hXb.size; simp; omega) ?_
          intro v' w4 hown4 hgrow _
          obtain ⟨A4, cp4, rfl, _, _⟩ := own_form hown4
          have hbn : ∀ b, wq.heap.size ≤ b → some b ≠ (Value.slice A6 k cp6).ownBlock := fun b hb e => by have := (HO.out.lt b e.symm).2; omega
          have K4 : KpT [179, 192] X1.drew w4 := (KpT.below aT).trans (KpT.own oT hgrow (by decide))
          have h84 := (hgrow.block P8 (by have := hl8d; simp at this ⊢; omega) (hbn P8 hP8)).trans ((Below.heap_alloc _ _ _ hl8d).trans hX8)
          have h94 := (hgrow.block P9 (by have := hl9d; simp at this ⊢; omega) (hbn P9 hP9)).trans ((Below.heap_alloc _ _ _ hl9d).trans hX9)
          have hP4 := K4 P _ _ _ (by decide) hXP
          have hV4 := K4 w.heap.size _ _ _ (by decide) hXV
          have hB4 : Below wB.heap.size wB w4 := (HB.out.trans ((hb1.trans (aT.mono hb1.size)).mono hsBq)).grown hgrow (by have := hXb.size; simp; omega) (fun z hz => (oT.lt z hz).1)
          have S4 : S w4 := by
            rw [HS.out]
            exact ⟨Lib.cell_of_heap h84 0, Lib.cell_of_heap h84 1, Lib.cell_of_heap h84 2, Lib.cell_of_heap h84 3, Lib.cell_of_heap h84 4, Lib.cell_of_heap h94 0, Lib.cell_of_heap h94 1⟩
          refine ⟨fun _ => S4, ?_⟩
          try simp only [List.getElem_toArray, List.getElem_cons_succ, List.getElem_cons_zero, Act.put, List.setIfInBounds_toArray, List.set_cons_zero, List.set_cons_succ]
          refine G_one (i := 5) rfl (by kernel_rfl) (by rfl) ?_
          try simp only [List.getElem_toArray, List.getElem_cons_succ, List.getElem_cons_zero]
          go_simp
          refine ⟨S4, ?_⟩
          refine G_tail rfl (by kernel_rfl) (by kernel_rfl) ?_
          simp only [List.drop_succ_cons, List.drop_zero]
          obtain ⟨y0, y1, yf0, yf1, yl⟩ := pl_cells hP4
          go_wp2
          have hn4 : (Value.slice A4 (k + 1) cp4).ownBlock ≠ some P := by
            intro e
            rcases hown4.2 with ⟨e1, _⟩ | ⟨g', _, _, e1, _, h', _⟩
            · rw [e1] at e; simp [Value.ownBlock] at e
            · rw [e1] at e; simp only [Value.ownBlock, Option.some.injEq] at e; subst e; rw [h'] at hP4; simp at hP4
          have o5 := ((hown4.kept (grownBy_setR w4 P 0 (.pointer qa)) (.inr hn4)).kept (grownBy_setR _ P 1 (.int .i64 qi)) (.inr hn4)).alloc (.cells #[.pointer qa, .int .i64 qi] 179)
          have hs5 : ((w4.setCell ⟨P, 0, none⟩ (.pointer qa)).setCell ⟨P, 1, none⟩ (.int .i64 qi)).heap.size = w4.heap.size := by simp [World.setCell]
          have hn5 := heap_alloc_new ((w4.setCell ⟨P, 0, none⟩ (.pointer qa)).setCell ⟨P, 1, none⟩ (.int .i64 qi)) (.cells #[.pointer qa, .int .i64 qi] 179)
          rw [hs5] at hn5
          have hV5 := (Below.heap_alloc ((w4.setCell ⟨P, 0, none⟩ (.pointer qa)).setCell ⟨P, 1, none⟩ (.int .i64 qi)) (.cells #[.pointer qa, .int .i64 qi] 179) w.heap.size (by rw [hs5]; have := hB4.size; omega)).trans ((Below.heap_setCell _ _ _ _ (by simp; omega)).trans ((Below.heap_setCell _ _ _ _ (by simp; omega)).trans hV4))
          have hB5 := ((hB4.setCell (p := ⟨P, 0, none⟩) (by simp; omega) (.pointer qa)).setCell (p := ⟨P, 1, none⟩) (by simp; omega) (.int .i64 qi)).alloc (by rw [hs5]; exact hB4.size) (.cells #[.pointer qa, .int .i64 qi] 179)
          have hb4s := hB4.size
          have hLT := HLN.out
          clear hown4 hgrow aT cT oT
          go_roundw
          case rel =>
            refine ⟨w4.heap.size, p', r, out ++ [(lnT ⟨1, Tp.lineN, ps, pp⟩, hd)], wB, wP, rfl, by omega, by omega, (by rw [HQP.out.1, HQP.out.2]; exact hn5), hV5, HMB.out, hwB, hB5, HPR.out, HBP.out, ?_, .inl ⟨?_, fun t ht => HQT.out t (List.mem_cons_of_mem _ ht)⟩⟩
            · rw [List.length_append, HK.out, txhs_snoc, hLT]
              exact o5
            · rw [← HTOT.out, List.map_append, List.map_cons, List.map_nil, List.map_cons, List.append_assoc]
              rfl
          case measure => exact lsN_step hkt
        · have HLN := Lib.hid (show txh (lnT ⟨pk', px, ps, pp⟩, hd) = [.int .i64 pk', .string (bs px), .bool ps, .slice none 0 0, .pointer hd] by unfold lnT; rw [if_neg hln2]; rfl)
          have t0 := Lib.cell_of_heap hC8 0
          have t1 := Lib.cell_of_heap hC8 1
          have t2 := Lib.cell_of_heap hC8 2
          have t3 := Lib.cell_of_heap hC8 3
          have t4 := Lib.cell_of_heap hC8 4
          simp only [List.getElem?_toArray, List.getElem?_cons_zero, List.getElem?_cons_succ] at t0 t1 t2 t3 t4
          have tl : (bs px).toList = px := bs_toList px
          have HL2 := Lib.hid hln2
          have hcs : ¬ pk' = 1 ∨ (pk' = 1 ∧ (px == [95, 95, 76, 73, 78, 69, 95, 95]) = false ∧ NM W E Mm Mp left) := by
            by_cases e : pk' = 1
            · rcases HQT.out _ List.mem_cons_self with h | h | h
              · exact absurd e h
              · exact absurd ⟨e, h⟩ hln2
              · exact .inr ⟨e, beq_eq_false_iff_ne.2 (fun e2 => hln2 ⟨e, e2⟩), h.below (HB.out.trans (hbW.mono hsBq))⟩
            · exact .inl e
          clear hln2
          rcases hcs with h1 | ⟨rfl, h1, hnm⟩
          · have h1I : ¬ (pk' : Int) = 1 := by omega
            have CN := Lib.hid (called_no E ⟨pk', px, ps, pp⟩ (.pointer hd) W h1)
            unfold tkx at CN
            simp only at CN
            go_wp2_with (first
              | (go_at_call 118
                 (with_reducible refine CN.out.mono ?_)
                 rintro e w3 ⟨rfl, hb3⟩))
            obtain ⟨X1, hX1⟩ : ∃ X1, w3 = X1 := ⟨_, rfl⟩
            have hX8 := (hb3.block P8 hl8).trans hC8
            have hX9 := (hb3.block P9 hl9).trans hC9
            have hXb : Below wq.heap.size wq w3 := hbW.trans (hb3.mono hbW.size)
            have hXP := (hb3.block P (by have := hbW.size; omega)).trans HPW.out
            have hXV := (hb3.block w.heap.size (by omega)).trans HVW.out
            rw [hX1] at hX8 hX9 hXb hXP hXV ⊢
            clear hX1
            have hb1 := hXb.drew
            have z0 : X1.drew.cell? ⟨P8, 0, none⟩ = _ := Lib.cell_of_heap hX8 0
            have z1 : X1.drew.cell? ⟨P8, 1, none⟩ = _ := Lib.cell_of_heap hX8 1
            have z2 : X1.drew.cell? ⟨P8, 2, none⟩ = _ := Lib.cell_of_heap hX8 2
            have z3 : X1.drew.cell? ⟨P8, 3, none⟩ = _ := Lib.cell_of_heap hX8 3
            have z4 : X1.drew.cell? ⟨P8, 4, none⟩ = _ := Lib.cell_of_heap hX8 4
            have z5 : X1.drew.cell? ⟨P9, 0, none⟩ = _ := Lib.cell_of_heap hX9 0
            have z6 : X1.drew.cell? ⟨P9, 1, none⟩ = _ := Lib.cell_of_heap hX9 1
            simp only [List.getElem?_toArray, List.getElem?_cons_zero, List.getElem?_cons_succ] at z0 z1 z2 z3 z4 z5 z6
            obtain ⟨S, hS⟩ : ∃ S : World → Prop, S = (fun w' => w'.cell? ⟨P8, 0, none⟩ = some (.int .i64 pk') ∧ w'.cell? ⟨P8, 1, none⟩ = some (.string (bs px)) ∧ w'.cell? ⟨P8, 2, none⟩ = some (.bool ps) ∧ w'.cell? ⟨P8, 3, none⟩ = some (.slice none 0 0) ∧ w'.cell? ⟨P8, 4, none⟩ = some (.pointer hd) ∧ w'.cell? ⟨P9, 0, none⟩ = some (.pointer qa) ∧ w'.cell? ⟨P9, 1, none⟩ = some (.int .i64 qi)) := ⟨_, rfl⟩
            have HS := Lib.hid hS
            clear hS
            refine wp_region_G S 6 (by kernel_rfl) (by rw [HS.out]; exact ⟨z0, z1, z2, z3, z4, z5, z6⟩) (fun hHeld => ?_)
            refine wpAnyG_take (i := 0) (v := ?_) rfl (by kernel_rfl) (by kernel_rfl) (by kernel_rfl) (by kernel_rfl) (by decide) (by kernel_rfl) (fun _ _ _ h => h) (Or.inl ⟨by rfl, ?_⟩) (by assumption) ?_
            rotate_left
            · intro w hSw
              rw [HS.out] at hSw
              (try dsimp only at hSw)
              go_simp
              all_goals (with_reducible rfl)
            try simp only [List.getElem_toArray, List.getElem_cons_succ, List.getElem_cons_zero, Act.put, List.setIfInBounds_toArray, List.set_cons_zero, List.set_cons_succ]
            refine wpAnyG_take (i := 1) (v := ?_) rfl (by kernel_rfl) (by kernel_rfl) (by kernel_rfl) (by kernel_rfl) (by decide) (by kernel_rfl) (fun _ _ _ h => h) (Or.inl ⟨by rfl, ?_⟩) (by assumption) ?_
            rotate_left
            · intro w hSw
              rw [HS.out] at hSw
              (try dsimp only at hSw)
              go_simp
              all_goals (with_reducible rfl)
            try simp only [List.getElem_toArray, List.getElem_cons_succ, List.getElem_cons_zero, Act.put, List.setIfInBounds_toArray, List.set_cons_zero, List.set_cons_succ]
            refine wpAnyG_take (i := 4) (v := ?_) rfl (by kernel_rfl) (by kernel_rfl) (by kernel_rfl) (by kernel_rfl) (by decide) (by kernel_rfl) (fun _ _ _ h => h) (Or.inl ⟨by rfl, ?_⟩) (by assumption) ?_
            rotate_left
            · intro w hSw
              rw [HS.out] at hSw
              (try dsimp only at hSw)
              go_simp
              all_goals (with_reducible rfl)
            try simp only [List.getElem_toArray, List.getElem_cons_succ, List.getElem_cons_zero, Act.put, List.setIfInBounds_toArray, List.set_cons_zero, List.set_cons_succ]
            have aT := (Below.refl X1.drew.heap.size X1.drew).alloc (Nat.le_refl _) (.cells #[.int .i64 pk', .string (bs px), .bool ps, .slice none 0 0, .pointer hd] 184)
            have hl8d : P8 < X1.drew.heap.size := (Array.getElem?_eq_some_iff.1 hX8).1
            have hl9d : P9 < X1.drew.heap.size := (Array.getElem?_eq_some_iff.1 hX9).1
            have hHeld2 : (X1.drew.alloc (.cells #[.int .i64 pk', .string (bs px), .bool ps, .slice none 0 0, .pointer hd] 184)).cell? ⟨P8, 0, none⟩ = some (.int .i64 pk') ∧ (X1.drew.alloc (.cells #[.int .i64 pk', .string (bs px), .bool ps, .slice none 0 0, .pointer hd] 184)).cell? ⟨P8, 1, none⟩ = some (.string (bs px)) ∧ (X1.drew.alloc (.cells #[.int .i64 pk', .string (bs px), .bool ps, .slice none 0 0, .pointer hd] 184)).cell? ⟨P8, 2, none⟩ = some (.bool ps) ∧ (X1.drew.alloc (.cells #[.int .i64 pk', .string (bs px), .bool ps, .slice none 0 0, .pointer hd] 184)).cell? ⟨P8, 3, none⟩ = some (.slice none 0 0) ∧ (X1.drew.alloc (.cells #[.int .i64 pk', .string (bs px), .bool ps, .slice none 0 0, .pointer hd] 184)).cell? ⟨P8, 4, none⟩ = some (.pointer hd) ∧ (X1.drew.alloc (.cells #[.int .i64 pk', .string (bs px), .bool ps, .slice none 0 0, .pointer hd] 184)).cell? ⟨P9, 0, none⟩ = some (.pointer qa) ∧ (X1.drew.alloc (.cells #[.int .i64 pk', .string (bs px), .bool ps, .slice none 0 0, .pointer hd] 184)).cell? ⟨P9, 1, none⟩ = some (.int .i64 qi) :=
              ⟨(aT.cell (p := ⟨P8, 0, none⟩) hl8d).trans z0, (aT.cell (p := ⟨P8, 1, none⟩) hl8d).trans z1, (aT.cell (p := ⟨P8, 2, none⟩) hl8d).trans z2, (aT.cell (p := ⟨P8, 3, none⟩) hl8d).trans z3, (aT.cell (p := ⟨P8, 4, none⟩) hl8d).trans z4, (aT.cell (p := ⟨P9, 0, none⟩) hl9d).trans z5, (aT.cell (p := ⟨P9, 1, none⟩) hl9d).trans z6⟩
            have hHeld2 := Lib.hid hHeld2
            have cT := cellsN_new X1.drew 184 [.int .i64 pk', .string (bs px), .bool ps, .slice none 0 0, .pointer hd]
            have oT : (X1.drew.alloc (.cells #[.int .i64 pk', .string (bs px), .bool ps, .slice none 0 0, .pointer hd] 184)).ownsRow wB.heap.size 184 5 (.slice A6 k cp6) k (txhs out) := own_later (own_later HO.out hb1) aT
            refine G_one (i := 2) rfl (by kernel_rfl) (by rfl) ?_
            try simp only [List.getElem_toArray, List.getElem_cons_succ, List.getElem_cons_zero]
            go_simp
            refine ⟨by rw [HS.out]; exact hHeld2.out, ?_⟩
            refine G_one (i := 3) rfl (by kernel_rfl) (by rfl) ?_
            refine wp_append_own _ (.tmp 70) (.tmp 72) 177 rfl wB.heap.size 184 i0 _ 5 64 Tryz.underlying177 hi hz0 hz1 hz2 rfl (by decide) (.slice A6 k cp6) k _ rfl oT ⟨X1.heap.size, 0, none⟩ 1 1 [.int .i64 pk', .string (bs px), .bool ps, .slice none 0 0, .pointer hd] rfl rfl cT (by simp [Value.oneCell']) (by unfold maxLen; omega) (by omega) (by have := hXb.size; simp; omega) ?_
            intro v' w4 hown4 hgrow _
            obtain ⟨A4, cp4, rfl, _, _⟩ := own_form hown4
            have hbn : ∀ b, wq.heap.size ≤ b → some b ≠ (Value.slice A6 k cp6).ownBlock := fun b hb e => by have := (HO.out.lt b e.symm).2; omega
            have K4 : KpT [179, 192] X1.drew w4 := (KpT.below aT).trans (KpT.own oT hgrow (by decide))
            have h84 := (hgrow.block P8 (by have := hl8d; simp at this ⊢; omega) (hbn P8 hP8)).trans ((Below.heap_alloc _ _ _ hl8d).trans hX8)
            have h94 := (hgrow.block P9 (by have := hl9d; simp at this ⊢; omega) (hbn P9 hP9)).trans ((Below.heap_alloc _ _ _ hl9d).trans hX9)
            have hP4 := K4 P _ _ _ (by decide) hXP
            have hV4 := K4 w.heap.size _ _ _ (by decide) hXV
            have hB4 : Below wB.heap.size wB w4 := (HB.out.trans ((hb1.trans (aT.mono hb1.size)).mono hsBq)).grown hgrow (by have := hXb.size; simp; omega) (fun z hz => (oT.lt z hz).1)
            have S4 : S w4 := by
              rw [HS.out]
              exact ⟨Lib.cell_of_heap h84 0, Lib.cell_of_heap h84 1, Lib.cell_of_heap h84 2, Lib.cell_of_heap h84 3, Lib.cell_of_heap h84 4, Lib.cell_of_heap h94 0, Lib.cell_of_heap h94 1⟩
            refine ⟨fun _ => S4, ?_⟩
            try simp only [List.getElem_toArray, List.getElem_cons_succ, List.getElem_cons_zero, Act.put, List.setIfInBounds_toArray, List.set_cons_zero, List.set_cons_succ]
            refine G_one (i := 5) rfl (by kernel_rfl) (by rfl) ?_
            try simp only [List.getElem_toArray, List.getElem_cons_succ, List.getElem_cons_zero]
            go_simp
            refine ⟨S4, ?_⟩
            refine G_tail rfl (by kernel_rfl) (by kernel_rfl) ?_
            simp only [List.drop_succ_cons, List.drop_zero]
            obtain ⟨y0, y1, yf0, yf1, yl⟩ := pl_cells hP4
            go_wp2
            have hn4 : (Value.slice A4 (k + 1) cp4).ownBlock ≠ some P := by
              intro e
              rcases hown4.2 with ⟨e1, _⟩ | ⟨g', _, _, e1, _, h', _⟩
              · rw [e1] at e; simp [Value.ownBlock] at e
              · rw [e1] at e; simp only [Value.ownBlock, Option.some.injEq] at e; subst e; rw [h'] at hP4; simp at hP4
            have o5 := ((hown4.kept (grownBy_setR w4 P 0 (.pointer qa)) (.inr hn4)).kept (grownBy_setR _ P 1 (.int .i64 qi)) (.inr hn4)).alloc (.cells #[.pointer qa, .int .i64 qi] 179)
            have hs5 : ((w4.setCell ⟨P, 0, none⟩ (.pointer qa)).setCell ⟨P, 1, none⟩ (.int .i64 qi)).heap.size = w4.heap.size := by simp [World.setCell]
            have hn5 := heap_alloc_new ((w4.setCell ⟨P, 0, none⟩ (.pointer qa)).setCell ⟨P, 1, none⟩ (.int .i64 qi)) (.cells #[.pointer qa, .int .i64 qi] 179)
            rw [hs5] at hn5
            have hV5 := (Below.heap_alloc ((w4.setCell ⟨P, 0, none⟩ (.pointer qa)).setCell ⟨P, 1, none⟩ (.int .i64 qi)) (.cells #[.pointer qa, .int .i64 qi] 179) w.heap.size (by rw [hs5]; have := hB4.size; omega)).trans ((Below.heap_setCell _ _ _ _ (by simp; omega)).trans ((Below.heap_setCell _ _ _ _ (by simp; omega)).trans hV4))
            have hB5 := ((hB4.setCell (p := ⟨P, 0, none⟩) (by simp; omega) (.pointer qa)).setCell (p := ⟨P, 1, none⟩) (by simp; omega) (.int .i64 qi)).alloc (by rw [hs5]; exact hB4.size) (.cells #[.pointer qa, .int .i64 qi] 179)
            have hb4s := hB4.size
            have hLT := HLN.out
            clear hown4 hgrow aT cT oT
            go_roundw
            case rel =>
              refine ⟨w4.heap.size, p', r, out ++ [(lnT ⟨pk', px, ps, pp⟩, hd)], wB, wP, rfl, by omega, by omega, (by rw [HQP.out.1, HQP.out.2]; exact hn5), hV5, HMB.out, hwB, hB5, HPR.out, HBP.out, ?_, .inl ⟨?_, fun t ht => HQT.out t (List.mem_cons_of_mem _ ht)⟩⟩
              · rw [List.length_append, HK.out, txhs_snoc, hLT]
                exact o5
              · rw [← HTOT.out, List.map_append, List.map_cons, List.map_nil, List.map_cons, List.append_assoc]
                rfl
            case measure => exact lsN_step hkt
          · have CN := Lib.hid (called_h E Mm Mp left px ps hd W hnm)
            clear hnm
            go_wp2_with (first
              | (go_at_call 118
                 (with_reducible refine CN.out.mono ?_)
                 rintro e w3 ⟨rfl, hb3⟩))
            obtain ⟨X1, hX1⟩ : ∃ X1, w3 = X1 := ⟨_, rfl⟩
            have hX8 := (hb3.block P8 hl8).trans hC8
            have hX9 := (hb3.block P9 hl9).trans hC9
            have hXb : Below wq.heap.size wq w3 := hbW.trans (hb3.mono hbW.size)
            have hXP := (hb3.block P (by have := hbW.size; omega)).trans HPW.out
            have hXV := (hb3.block w.heap.size (by omega)).trans HVW.out
            rw [hX1] at hX8 hX9 hXb hXP hXV ⊢
            clear hX1
            have hb1 := hXb.drew
            have z0 : X1.drew.cell? ⟨P8, 0, none⟩ = _ := Lib.cell_of_heap hX8 0
            have z1 : X1.drew.cell? ⟨P8, 1, none⟩ = _ := Lib.cell_of_heap hX8 1
            have z2 : X1.drew.cell? ⟨P8, 2, none⟩ = _ := Lib.cell_of_heap hX8 2
            have z3 : X1.drew.cell? ⟨P8, 3, none⟩ = _ := Lib.cell_of_heap hX8 3
            have z4 : X1.drew.cell? ⟨P8, 4, none⟩ = _ := Lib.cell_of_heap hX8 4
            have z5 : X1.drew.cell? ⟨P9, 0, none⟩ = _ := Lib.cell_of_heap hX9 0
            have z6 : X1.drew.cell? ⟨P9, 1, none⟩ = _ := Lib.cell_of_heap hX9 1
            simp only [List.getElem?_toArray, List.getElem?_cons_zero, List.getElem?_cons_succ] at z0 z1 z2 z3 z4 z5 z6
            obtain ⟨S, hS⟩ : ∃ S : World → Prop, S = (fun w' => w'.cell? ⟨P8, 0, none⟩ = some (.int .i64 1) ∧ w'.cell? ⟨P8, 1, none⟩ = some (.string (bs px)) ∧ w'.cell? ⟨P8, 2, none⟩ = some (.bool ps) ∧ w'.cell? ⟨P8, 3, none⟩ = some (.slice none 0 0) ∧ w'.cell? ⟨P8, 4, none⟩ = some (.pointer hd) ∧ w'.cell? ⟨P9, 0, none⟩ = some (.pointer qa) ∧ w'.cell? ⟨P9, 1, none⟩ = some (.int .i64 qi)) := ⟨_, rfl⟩
            have HS := Lib.hid hS
            clear hS
            refine wp_region_G S 6 (by kernel_rfl) (by rw [HS.out]; exact ⟨z0, z1, z2, z3, z4, z5, z6⟩) (fun hHeld => ?_)
            refine wpAnyG_take (i := 0) (v := ?_) rfl (by kernel_rfl) (by kernel_rfl) (by kernel_rfl) (by kernel_rfl) (by decide) (by kernel_rfl) (fun _ _ _ h => h) (Or.inl ⟨by rfl, ?_⟩) (by assumption) ?_
            rotate_left
            · intro w hSw
              rw [HS.out] at hSw
              (try dsimp only at hSw)
              go_simp
              all_goals (with_reducible rfl)
            try simp only [List.getElem_toArray, List.getElem_cons_succ, List.getElem_cons_zero, Act.put, List.setIfInBounds_toArray, List.set_cons_zero, List.set_cons_succ]
            refine wpAnyG_take (i := 1) (v := ?_) rfl (by kernel_rfl) (by kernel_rfl) (by kernel_rfl) (by kernel_rfl) (by decide) (by kernel_rfl) (fun _ _ _ h => h) (Or.inl ⟨by rfl, ?_⟩) (by assumption) ?_
            rotate_left
            · intro w hSw
              rw [HS.out] at hSw
              (try dsimp only at hSw)
              go_simp
              all_goals (with_reducible rfl)
            try simp only [List.getElem_toArray, List.getElem_cons_succ, List.getElem_cons_zero, Act.put, List.setIfInBounds_toArray, List.set_cons_zero, List.set_cons_succ]
            refine wpAnyG_take (i := 4) (v := ?_) rfl (by kernel_rfl) (by kernel_rfl) (by kernel_rfl) (by kernel_rfl) (by decide) (by kernel_rfl) (fun _ _ _ h => h) (Or.inl ⟨by rfl, ?_⟩) (by assumption) ?_
            rotate_left
            · intro w hSw
              rw [HS.out] at hSw
              (try dsimp only at hSw)
              go_simp
              all_goals (with_reducible rfl)
            try simp only [List.getElem_toArray, List.getElem_cons_succ, List.getElem_cons_zero, Act.put, List.setIfInBounds_toArray, List.set_cons_zero, List.set_cons_succ]
            have aT := (Below.refl X1.drew.heap.size X1.drew).alloc (Nat.le_refl _) (.cells #[.int .i64 1, .string (bs px), .bool ps, .slice none 0 0, .pointer hd] 184)
            have hl8d : P8 < X1.drew.heap.size := (Array.getElem?_eq_some_iff.1 hX8).1
            have hl9d : P9 < X1.drew.heap.size := (Array.getElem?_eq_some_iff.1 hX9).1
            have hHeld2 : (X1.drew.alloc (.cells #[.int .i64 1, .string (bs px), .bool ps, .slice none 0 0, .pointer hd] 184)).cell? ⟨P8, 0, none⟩ = some (.int .i64 1) ∧ (X1.drew.alloc (.cells #[.int .i64 1, .string (bs px), .bool ps, .slice none 0 0, .pointer hd] 184)).cell? ⟨P8, 1, none⟩ = some (.string (bs px)) ∧ (X1.drew.alloc (.cells #[.int .i64 1, .string (bs px), .bool ps, .slice none 0 0, .pointer hd] 184)).cell? ⟨P8, 2, none⟩ = some (.bool ps) ∧ (X1.drew.alloc (.cells #[.int .i64 1, .string (bs px), .bool ps, .slice none 0 0, .pointer hd] 184)).cell? ⟨P8, 3, none⟩ = some (.slice none 0 0) ∧ (X1.drew.alloc (.cells #[.int .i64 1, .string (bs px), .bool ps, .slice none 0 0, .pointer hd] 184)).cell? ⟨P8, 4, none⟩ = some (.pointer hd) ∧ (X1.drew.alloc (.cells #[.int .i64 1, .string (bs px), .bool ps, .slice none 0 0, .pointer hd] 184)).cell? ⟨P9, 0, none⟩ = some (.pointer qa) ∧ (X1.drew.alloc (.cells #[.int .i64 1, .string (bs px), .bool ps, .slice none 0 0, .pointer hd] 184)).cell? ⟨P9, 1, none⟩ = some (.int .i64 qi) :=
              ⟨(aT.cell (p := ⟨P8, 0, none⟩) hl8d).trans z0, (aT.cell (p := ⟨P8, 1, none⟩) hl8d).trans z1, (aT.cell (p := ⟨P8, 2, none⟩) hl8d).trans z2, (aT.cell (p := ⟨P8, 3, none⟩) hl8d).trans z3, (aT.cell (p := ⟨P8, 4, none⟩) hl8d).trans z4, (aT.cell (p := ⟨P9, 0, none⟩) hl9d).trans z5, (aT.cell (p := ⟨P9, 1, none⟩) hl9d).trans z6⟩
            have hHeld2 := Lib.hid hHeld2
            have cT := cellsN_new X1.drew 184 [.int .i64 1, .string (bs px), .bool ps, .slice none 0 0, .pointer hd]
            have oT : (X1.drew.alloc (.cells #[.int .i64 1, .string (bs px), .bool ps, .slice none 0 0, .pointer hd] 184)).ownsRow wB.heap.size 184 5 (.slice A6 k cp6) k (txhs out) := own_later (own_later HO.out hb1) aT
            refine G_one (i := 2) rfl (by kernel_rfl) (by rfl) ?_
            try simp only [List.getElem_toArray, List.getElem_cons_succ, List.getElem_cons_zero]
            go_simp
            refine ⟨by rw [HS.out]; exact hHeld2.out, ?_⟩
            refine G_one (i := 3) rfl (by kernel_rfl) (by rfl) ?_
            refine wp_append_own _ (.tmp 70) (.tmp 72) 177 rfl wB.heap.size 184 i0 _ 5 64 Tryz.underlying177 hi hz0 hz1 hz2 rfl (by decide) (.slice A6 k cp6) k _ rfl oT ⟨X1.heap.size, 0, none⟩ 1 1 [.int .i64 1, .string (bs px), .bool ps, .slice none 0 0, .pointer hd] rfl rfl cT (by simp [Value.oneCell']) (by unfold maxLen; omega) (by omega) (by have := hXb.size; simp; omega) ?_
            intro v' w4 hown4 hgrow _
            obtain ⟨A4, cp4, rfl, _, _⟩ := own_form hown4
            have hbn : ∀ b, wq.heap.size ≤ b → some b ≠ (Value.slice A6 k cp6).ownBlock := fun b hb e => by have := (HO.out.lt b e.symm).2; omega
            have K4 : KpT [179, 192] X1.drew w4 := (KpT.below aT).trans (KpT.own oT hgrow (by decide))
            have h84 := (hgrow.block P8 (by have := hl8d; simp at this ⊢; omega) (hbn P8 hP8)).trans ((Below.heap_alloc _ _ _ hl8d).trans hX8)
            have h94 := (hgrow.block P9 (by have := hl9d; simp at this ⊢; omega) (hbn P9 hP9)).trans ((Below.heap_alloc _ _ _ hl9d).trans hX9)
            have hP4 := K4 P _ _ _ (by decide) hXP
            have hV4 := K4 w.heap.size _ _ _ (by decide) hXV
            have hB4 : Below wB.heap.size wB w4 := (HB.out.trans ((hb1.trans (aT.mono hb1.size)).mono hsBq)).grown hgrow (by have := hXb.size; simp; omega) (fun z hz => (oT.lt z hz).1)
            have S4 : S w4 := by
              rw [HS.out]
              exact ⟨Lib.cell_of_heap h84 0, Lib.cell_of_heap h84 1, Lib.cell_of_heap h84 2, Lib.cell_of_heap h84 3, Lib.cell_of_heap h84 4, Lib.cell_of_heap h94 0, Lib.cell_of_heap h94 1⟩
            refine ⟨fun _ => S4, ?_⟩
            try simp only [List.getElem_toArray, List.getElem_cons_succ, List.getElem_cons_zero, Act.put, List.setIfInBounds_toArray, List.set_cons_zero, List.set_cons_succ]
            refine G_one (i := 5) rfl (by kernel_rfl) (by rfl) ?_
            try simp only [List.getElem_toArray, List.getElem_cons_succ, List.getElem_cons_zero]
            go_simp
            refine ⟨S4, ?_⟩
            refine G_tail rfl (by kernel_rfl) (by kernel_rfl) ?_
            simp only [List.drop_succ_cons, List.drop_zero]
            obtain ⟨y0, y1, yf0, yf1, yl⟩ := pl_cells hP4
            go_wp2
            have hn4 : (Value.slice A4 (k + 1) cp4).ownBlock ≠ some P := by
              intro e
              rcases hown4.2 with ⟨e1, _⟩ | ⟨g', _, _, e1, _, h', _⟩
              · rw [e1] at e; simp [Value.ownBlock] at e
              · rw [e1] at e; simp only [Value.ownBlock, Option.some.injEq] at e; subst e; rw [h'] at hP4; simp at hP4
            have o5 := ((hown4.kept (grownBy_setR w4 P 0 (.pointer qa)) (.inr hn4)).kept (grownBy_setR _ P 1 (.int .i64 qi)) (.inr hn4)).alloc (.cells #[.pointer qa, .int .i64 qi] 179)
            have hs5 : ((w4.setCell ⟨P, 0, none⟩ (.pointer qa)).setCell ⟨P, 1, none⟩ (.int .i64 qi)).heap.size = w4.heap.size := by simp [World.setCell]
            have hn5 := heap_alloc_new ((w4.setCell ⟨P, 0, none⟩ (.pointer qa)).setCell ⟨P, 1, none⟩ (.int .i64 qi)) (.cells #[.pointer qa, .int .i64 qi] 179)
            rw [hs5] at hn5
            have hV5 := (Below.heap_alloc ((w4.setCell ⟨P, 0, none⟩ (.pointer qa)).setCell ⟨P, 1, none⟩ (.int .i64 qi)) (.cells #[.pointer qa, .int .i64 qi] 179) w.heap.size (by rw [hs5]; have := hB4.size; omega)).trans ((Below.heap_setCell _ _ _ _ (by simp; omega)).trans ((Below.heap_setCell _ _ _ _ (by simp; omega)).trans hV4))
            have hB5 := ((hB4.setCell (p := ⟨P, 0, none⟩) (by simp; omega) (.pointer qa)).setCell (p := ⟨P, 1, none⟩) (by simp; omega) (.int .i64 qi)).alloc (by rw [hs5]; exact hB4.size) (.cells #[.pointer qa, .int .i64 qi] 179)
            have hb4s := hB4.size
            have hLT := HLN.out
            clear hown4 hgrow aT cT oT
            go_roundw
            case rel =>
              refine ⟨w4.heap.size, p', r, out ++ [(lnT ⟨1, px, ps, pp⟩, hd)], wB, wP, rfl, by omega, by omega, (by rw [HQP.out.1, HQP.out.2]; exact hn5), hV5, HMB.out, hwB, hB5, HPR.out, HBP.out, ?_, .inl ⟨?_, fun t ht => HQT.out t (List.mem_cons_of_mem _ ht)⟩⟩
              · rw [List.length_append, HK.out, txhs_snoc, hLT]
                exact o5
              · rw [← HTOT.out, List.map_append, List.map_cons, List.map_nil, List.map_cons, List.append_assoc]
                rfl
            case measure => exact lsN_step hkt
    | nil =>
      obtain rfl : p = .done := hpath
      unfold Pl.c at p0
      unfold Pl.i at p1
      simp only at p0 p1
      have FIN := Lib.hid (show ∃ out : List HTok, out.map (·.1) = tot ∧ (∃ B, w.heap.size ≤ B ∧ wq.ownsRow B 184 5 (.slice A6 k cp6) out.length (txhs out)) ∧ Below m w wq from by
        rcases hmode with ⟨h1, _⟩ | ⟨_, h2, _, _, _, _, _, _, _, _, _, _, _, h3, _⟩
        · exact ⟨out, by simpa using h1, ⟨wB.heap.size, hwB, by rw [hk]; exact hown⟩, hmB.trans (hb.mono (by omega))⟩
        · rw [h3] at h2; cases h2)
      clear hmode hown hk R0
      go_wp2
      go_ret2
      obtain ⟨out, f1, f2, f3⟩ := FIN.out
      exact ⟨_, out, rfl, f1, f2, f3⟩
end Go.Proofs.YtffjblamfbmoeaaGreatDoor
