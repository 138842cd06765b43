/- Walks: a runner: run (a run alone, or the example's #define and run). -/
import Derived.Test.YtffjblamfbmoeaaGreatDoorUl
set_option linter.unusedVariables false
set_option linter.unusedSimpArgs false
namespace Go.Proofs.YtffjblamfbmoeaaGreatDoor
open Go Go.RowKit
attribute [local go_sem] Oper.semAt_some

/-- All blocks that lay there stay, but for the runner and the map of its macros. -/
def KpR (RB Mm : Nat) (w W : World) : Prop := w.heap.size ≤ W.heap.size ∧ (∀ k, k < w.heap.size → k ≠ RB → k ≠ Mm → W.heap[k]? = w.heap[k]?) ∧ ∀ m, m ≤ RB → m ≤ Mm → m ≤ w.heap.size → Below m w W
theorem KpR.refl (RB Mm : Nat) (w : World) : KpR RB Mm w w := ⟨Nat.le_refl _, fun _ _ _ _ => rfl, fun m _ _ _ => Below.refl m w⟩
theorem KpR.trans {RB Mm : Nat} {w W V : World} (h : KpR RB Mm w W) (g : KpR RB Mm W V) : KpR RB Mm w V :=
  ⟨Nat.le_trans h.1 g.1, fun k h1 h2 h3 => (g.2.1 k (Nat.lt_of_lt_of_le h1 h.1) h2 h3).trans (h.2.1 k h1 h2 h3), fun m h1 h2 h3 => (h.2.2 m h1 h2 h3).trans (g.2.2 m h1 h2 (Nat.le_trans h3 h.1))⟩
theorem KpR.below {RB Mm : Nat} {w W : World} (h : Below w.heap.size w W) : KpR RB Mm w W := ⟨h.size, fun k h1 _ _ => h.block k h1, fun m _ _ h3 => h.mono h3⟩
theorem KpR.r {RB Mm : Nat} {w W : World} (h : KpB RB w.heap.size w W) (g : ∀ m, m ≤ RB → m ≤ w.heap.size → Below m w W) : KpR RB Mm w W := ⟨h.1, fun k h1 h2 _ => h.2 k h1 h2, fun m h1 _ h3 => g m h1 h3⟩
theorem KpR.m {RB Mm : Nat} {w W : World} (h : KpB Mm w.heap.size w W) (g : ∀ m, m ≤ Mm → m ≤ w.heap.size → Below m w W) : KpR RB Mm w W := ⟨h.1, fun k h1 _ h2 => h.2 k h1 h2, fun m _ h1 h3 => g m h1 h3⟩

/-- What a round starts from, i rows behind it: the last row, a run; or the first row of two, a #define; or the end. -/
def RuA (RB Mm Ml : Nat) (tx : Value) (R : List Tp.Row) (tot : List Tp.PTok) (i : Nat) (W : World) : Prop :=
  ∃ r f, R.length = i + 1 ∧ R[i]? = some r ∧ r.d = false ∧ 1 ≤ f ∧ f ≤ 4096 ∧ Rn W RB Mm Ml f tx (.slice none 0 0) ∧ WM W Mm (Tp.of (Tp.says r)) tot
def RuB (RB Mm Ml : Nat) (tx : Value) (R : List Tp.Row) (tot : List Tp.PTok) (i : Nat) (W : World) : Prop :=
  i = 0 ∧ MX W ∧ MN W Mm ∧ ∃ r r' t1 t2 f, R = [r, r'] ∧ r.d = true ∧ r.n = defT ∧ Tp.says r = [t1, t2] ∧ (t1.k = 1 ∧ t1.x = [88]) ∧ (t2.k = 2 ∧ t2.x = [49] ∧ t2.s = true) ∧ r'.d = false ∧ 2 ≤ f ∧ f ≤ 4096 ∧ Rn W RB Mm Ml f tx (.slice none 0 0) ∧
    ∃ s1 s2, Tp.of (Tp.says r') = [⟨1, [88], s1, []⟩, ⟨1, Tp.lineN, s2, []⟩] ∧ tot = [⟨2, [49], s1, []⟩, ⟨10, Tp.lineN, s2, []⟩]
def RuC (base RB Mm Ml : Nat) (tx : Value) (R : List Tp.Row) (tot : List Tp.PTok) (i : Nat) (W : World) : Prop :=
  i = R.length ∧ ∃ f v, Rn W RB Mm Ml f tx v ∧ W.ownsRow base 49 4 v tot.length (ptcs tot)
def RuS (w : World) (base RB Mm Ml : Nat) (tx : Value) (R : List Tp.Row) (tot : List Tp.PTok) (i : Nat) (W : World) : Prop :=
  KpR RB Mm w W ∧ (RuA RB Mm Ml tx R tot i W ∨ RuB RB Mm Ml tx R tot i W ∨ RuC base RB Mm Ml tx R tot i W)

theorem Rn.fuel {W : World} {RB Mm Ml : Nat} {fuel f : Int} {tx out : Value} (h : Rn W RB Mm Ml fuel tx out) : Rn (W.setCell ⟨RB, 4, none⟩ (.int .i64 f)) RB Mm Ml f tx out := by
  obtain ⟨h1, c0, h2⟩ := h
  refine ⟨heap_setCell_same W _ 4 _ _ _ h1, c0, (Below.heap_setCell _ _ _ _ ?_).trans h2⟩
  simp only
  rintro rfl
  rw [h1] at h2; cases h2
theorem WM.fuel {W : World} {RB Mm Ml : Nat} {fuel f : Int} {tx out : Value} {l tot : List Tp.PTok} (h : Rn W RB Mm Ml fuel tx out) (hm : WM W Mm l tot) : WM (W.setCell ⟨RB, 4, none⟩ (.int .i64 f)) Mm l tot := by
  have hs : ∀ {z : Nat} {o : Obj}, W.heap[z]? = some o → o.isCells = false → z ≠ RB := fun hz ho e => by subst e; rw [h.1] at hz; cases hz; cases ho
  rcases hm with ⟨h1, c1, h2⟩ | ⟨⟨A, c, b, c1, h3, h4, h5⟩, h6⟩
  · exact .inl ⟨h1, c1, (Below.heap_setCell _ _ _ _ (by simpa using hs h2 rfl)).trans h2⟩
  · refine .inr ⟨⟨A, c, b, c1, h3, (Below.heap_setCell _ _ _ _ (by simpa using hs h4 rfl)).trans h4, ?_⟩, h6⟩
    obtain ⟨b', o, e, hlt, hc⟩ := h5.2 (by decide)
    have hbR : b' ≠ RB := by
      rintro rfl
      have c0 := hc 0 _ rfl
      have c1 := hc 1 _ rfl
      have hcell : ∀ j, W.cell? ⟨b', j, none⟩ = (#[.slice none 0 0, tx, .map (some Mm), .map (some Ml), .int .i64 fuel, .int .i64 0, out] : Array Value)[j]? := fun j => Lib.cell_of_heap h.1 j
      rw [hcell] at c0 c1
      have ho : o + 1 < 7 := by
        have := (Array.getElem?_eq_some_iff.1 c1).1
        simpa using this
      rcases (by omega : o = 0 ∨ o = 1 ∨ o = 2 ∨ o = 3 ∨ o = 4 ∨ o = 5) with rfl | rfl | rfl | rfl | rfl | rfl <;> simp [xM] at c0 c1
    exact ⟨h5.1, fun _ => ⟨b', o, e, by simpa [World.setCell] using hlt, fun j u hj => (cell_same (p := ⟨b', o + j, none⟩) (Below.heap_setCell _ _ _ _ (by simpa using hbR))).trans (hc j u hj)⟩⟩

set_option maxRecDepth 100000 in
set_option maxHeartbeats 8000000 in
theorem run_any (base RB Mm Ml TB : Nat) (tx : Value) (R : List Tp.Row) (tot : List Tp.PTok) (w : World) (hT : TxAt base w TB R) (hRB : RB < base) (hMB : Mm < base) (hbase : base ≤ w.heap.size) (hMl : Ml ≠ Mm) (hl : ∀ r ∈ R, (Tp.says r).length ≤ 1000000) (hR : R.length ≤ 1000000)
    (hq : ∀ p ∈ tot, p.k = 1 → p.x ≠ Tp.pragmaN) (hS : RuS w w.heap.size RB Mm Ml tx R tot 0 w) :
    Calls Tryz.prog 22 #[.pointer (some ⟨RB, 0, none⟩), .pointer (some ⟨TB, 0, none⟩)] w fun e w' => e = .returned (.int .i64 0) ∧ RuC w.heap.size RB Mm Ml tx R tot R.length w' ∧ KpR RB Mm w w' := by
  have LV := Lib.hid live_nil
  obtain ⟨w1, hw1⟩ : ∃ w1, (w.alloc (.cells #[.pointer (some ⟨RB, 0, none⟩)] 116)).alloc (.cells #[.slice none 0 0] 121) = w1 := ⟨_, rfl⟩
  have b1 : Below w.heap.size w w1 := by rw [← hw1]; exact ((Below.refl _ _).alloc (Nat.le_refl _) _).alloc (by simp) _
  have s1 : w1.heap.size = w.heap.size + 2 := by rw [← hw1]; simp
  have kA : w1.heap[w.heap.size]? = some (.cells #[.pointer (some ⟨RB, 0, none⟩)] 116) := by rw [← hw1]; exact (Below.heap_alloc _ _ _ (by simp)).trans (heap_alloc_new w _)
  have kG : w1.heap[w.heap.size + 1]? = some (.cells #[.slice none 0 0] 121) := by
    rw [← hw1]
    have := heap_alloc_new (w.alloc (.cells #[.pointer (some ⟨RB, 0, none⟩)] 116)) (.cells #[.slice none 0 0] 121)
    rwa [World.size_alloc] at this
  obtain ⟨hTb, vr, vs, ps, ss, k1, k2, k3, k4, k5, k6⟩ := hT.kp (fun k h1 h2 => b1.block k h2)
  have hTl : TB < w.heap.size := by obtain ⟨_, _, _, _, _, h, _⟩ := hT; exact (Array.getElem?_eq_some_iff.1 h).1
  have t2w : w.cell? ⟨TB, 2, none⟩ = some (.int .i64 0) := by obtain ⟨_, _, _, _, _, h, _⟩ := hT; exact Lib.cell_of_heap h 2
  obtain ⟨nR, hnR⟩ : ∃ nR, R.length = nR := ⟨_, rfl⟩
  rw [hnR] at hR k2 k4
  obtain ⟨Ar, cr, rfl, hcr, _⟩ := own_form k2
  obtain ⟨As, cs, rfl, hcs, _⟩ := own_form k4
  have t0 := Lib.cell_of_heap k1 0
  have tl := (Array.getElem?_eq_some_iff.1 k1).1
  simp only [List.getElem?_toArray, List.getElem?_cons_zero, List.getElem?_cons_succ] at t0
  have hS1 : RuS w1 w.heap.size RB Mm Ml tx R tot 0 w1 := by
    refine ⟨KpR.refl _ _ _, ?_⟩
    rcases hS.2 with ⟨r, f, h1, h2, h3, h4, h5, h6, h7⟩ | ⟨h1, h2, h3, r, r', u1, u2, f, g1, g2, g3, g4, g5, g6, g7, g8, g9, g10, g11⟩ | ⟨h1, f, v, h2, h3⟩
    · exact .inl ⟨r, f, h1, h2, h3, h4, h5, h6.below b1, h7.below b1⟩
    · exact .inr (.inl ⟨h1, h2.later b1, h3.below b1, r, r', u1, u2, f, g1, g2, g3, g4, g5, g6, g7, g8, g9, g10.below b1, g11⟩)
    · exact .inr (.inr ⟨h1, f, v, h2.below b1, own_later h3 b1⟩)
  have HW1 := Lib.hid hw1
  have HNR := Lib.hid hnR
  have HS1 := Lib.hid hS1
  have K1 := Lib.hid k1
  have K2 := Lib.hid k2
  have K3 := Lib.hid k3
  have K4 := Lib.hid k4
  have K5 := Lib.hid k5
  have K6 := Lib.hid k6
  have KA := Lib.hid kA
  have KG := Lib.hid kG
  have S1 := Lib.hid s1
  have B1 := Lib.hid b1
  have HQ := Lib.hid hq
  have HL := Lib.hid hl
  clear hw1 hnR hS1 hS hT k1 k2 k3 k4 k5 k6 kA kG s1 b1 hq hl
  go_enter Tryz.func22, Tryz.ntmps22
  go_wp2
  go_step3
  go_wp2
  rw [HW1.out]
  go_step3
  go_wp2
  go_loopw [26] (fun z wr => ∃ i : Nat, i ≤ nR ∧ z = .int .i64 i ∧ RuS w1 w.heap.size RB Mm Ml tx R tot i wr) (fun z _ => nR - (intOf z).toNat)
  case atStart => exact ⟨0, Nat.zero_le _, rfl, HS1.out⟩
  case round =>
    obtain ⟨i, hin, rfl, hkp, hst⟩ := hrel
    obtain ⟨wq, rfl⟩ : ∃ wq : World, wq = wr := ⟨_, rfl⟩
    have hw1s := S1.out
    have hk : ∀ k, base ≤ k → k < w1.heap.size → wq.heap[k]? = w1.heap[k]? := fun k h1 h2 => hkp.2.1 k h2 (by omega) (by omega)
    have hsq := hkp.1
    have qT := (hk TB hTb tl).trans K1.out
    have qA := (hk w.heap.size hbase (by omega)).trans KA.out
    have qG := (hk (w.heap.size + 1) (by omega) (by omega)).trans KG.out
    have q0 := Lib.cell_of_heap qT 0
    have q1 := Lib.cell_of_heap qT 1
    have a0 := Lib.cell_of_heap qA 0
    have g0 := Lib.cell_of_heap qG 0
    simp only [List.getElem?_toArray, List.getElem?_cons_zero, List.getElem?_cons_succ] at q0 q1 a0 g0
    have lA : w.heap.size < wq.heap.size := by omega
    have lG : w.heap.size + 1 < wq.heap.size := by omega
    have lT : TB < wq.heap.size := by omega
    have rows := own_kp K2.out hk
    have says := own_kp K4.out hk
    rcases hst with ⟨r, f, hRl, hRi, hrd, hf1, hf2, hRn, hWM⟩ | hB | ⟨hRl, f, v, hRn, hv⟩
    · obtain rfl : nR = i + 1 := by rw [← HNR.out, hRl]
      obtain ⟨p, hp, hpr⟩ : ∃ p, ps[i]? = some p ∧ p.1 = r := by
        rw [← K3.out, List.getElem?_map] at hRi
        cases h : ps[i]? with
        | none => rw [h] at hRi; cases hRi
        | some p => rw [h] at hRi; exact ⟨p, rfl, Option.some.inj hRi⟩
      obtain ⟨b, o, rfl, hbl, d0, d1, d2⟩ := (Rd.of_own rows).rw hp
      obtain ⟨v, hv⟩ : ∃ v, ss[i]? = some v := ⟨_, List.getElem?_eq_getElem (by have := says.1; omega)⟩
      have hsv := own_kp (K5.out i r v (by rw [hRi]) hv) hk
      obtain ⟨ns, hns⟩ : ∃ ns, (Tp.says r).length = ns := ⟨_, rfl⟩
      rw [hns] at hsv
      obtain ⟨A5, c5, rfl, hc5, hr5⟩ := own_form hsv
      obtain ⟨b', o', rfl, hbl', hsc⟩ := (Rd.of_own says).2 (by omega)
      have y0 := hsc i _ hv
      obtain ⟨A6, n6, c6, hp2⟩ : ∃ A6 n6 c6, p.2 = .slice A6 n6 c6 := K6.out p (List.mem_of_getElem? hp)
      rw [hpr, hrd] at d0
      rw [hpr] at d1
      rw [hp2] at d2
      have hsay := HL.out r (List.mem_of_getElem? hRi)
      rw [hns] at hsay
      have hRn' := hRn
      obtain ⟨r2, r3, r4, r6, rf4, _, rl⟩ := hRn'.cells
      have HRn := Lib.hid hRn
      have HWM := Lib.hid hWM
      have HR5 := Lib.hid hr5
      have HSV := Lib.hid hsv
      have HNS := Lib.hid hns
      have HRL := Lib.hid hRl
      have HKP := Lib.hid hkp
      have HKK := Lib.hid hk
      clear hRn hRn' hWM hr5 hns hRl hkp hk rows says hp hv hsv hp2 hRi hsc
      obtain ⟨qn, hqn⟩ : ∃ qn, r.n = qn := ⟨_, rfl⟩
      rw [hqn] at d1
      have PL := Lib.hid (show ∀ (wf : World) (f' : Int), Rn wf RB Mm Ml f' tx (.slice none 0 0) → WM wf Mm (Tp.of (Tp.says r)) tot → KpR RB Mm wq wf → Rd wf 5 A5 ns (tkcs (Tp.says r)) →
          Calls Tryz.prog 51 #[.pointer (some ⟨RB, 0, none⟩), .slice A5 ns c5] ((wf.alloc (.cells #[.bool false, .string (bs qn), .slice A6 n6 c6] 45)).alloc (.cells #[.slice A5 ns c5] 39)) fun e w' => e = .returned (.int .i64 0) ∧ ∃ v', Rn w' RB Mm Ml f' tx v' ∧ w'.ownsRow w.heap.size 49 4 v' tot.length (ptcs tot) ∧ KpR RB Mm wq w' from fun wf f' h1 h2 h3 h4 => by
        have hbp : Below wf.heap.size wf ((wf.alloc (.cells #[.bool false, .string (bs qn), .slice A6 n6 c6] 45)).alloc (.cells #[.slice A5 ns c5] 39)) := ((Below.refl _ _).alloc (Nat.le_refl _) _).alloc (by simp) _
        refine (plain_any RB Mm Ml ns c5 f' tx A5 (Tp.says r) tot _ (h1.below hbp) hc5 (by rw [HNS.out]; exact hsay) (h4.later hbp) (h2.below hbp) HQ.out).mono ?_
        rintro e w' ⟨rfl, v', g1, g2, g3, g4⟩
        have hss := h3.1
        exact ⟨rfl, v', g1, own_base g2 (by have := hbp.size; omega), (h3.trans (KpR.below hbp)).trans (KpR.r g3 g4)⟩)
      by_cases hn0 : 0 < ns
      · have hd1 : decide ((0 : Int) < (ns : Int)) = true := by simp; omega
        have hd2 : decide ((f : Int) = 0) = false := by simp; omega
        have hsv' := HSV.out.kept (grownBy_setR wq RB 4 (.int .i64 (f - 1))) (.inr fun e => by have := (HSV.out.lt _ e).1; omega)
        have PF := PL.out (wq.setCell ⟨RB, 4, none⟩ (.int .i64 (f - 1))) (f - 1) HRn.out.fuel (WM.fuel HRn.out HWM.out) ⟨by simp [World.setCell], fun k h1 h2 _ => Below.heap_setCell _ _ _ _ (by simpa using h2), fun m h1 _ _ => (Below.refl m wq).setCell (p := ⟨RB, 4, none⟩) h1 _⟩ (Rd.of_own hsv')
        have PF := Lib.hid PF
        clear hsv'
        go_wp2_with (first
          | (go_at_call 49; (with_reducible refine (LV.out _).mono ?_); rintro e w3 ⟨rfl, rfl⟩)
          | (go_at_call 51
             (with_reducible refine PF.out.mono ?_)
             rintro e w3 ⟨rfl, v', g1, g2, g3⟩))
        refine ⟨?_, ?measure⟩
        (repeat apply Exists.intro)
        refine ⟨?rel, rfl⟩
        case rel => exact ⟨i + 1, Nat.le_refl _, by go_num, HKP.out.trans g3, .inr (.inr ⟨HRL.out.symm, _, v', g1, g2⟩)⟩
        case measure => simp [intOf]
      · obtain rfl : ns = 0 := by omega
        have PF := PL.out wq f HRn.out HWM.out (KpR.refl _ _ _) HR5.out
        have PF := Lib.hid PF
        go_wp2_with (first
          | (go_at_call 49; (with_reducible refine (LV.out _).mono ?_); rintro e w3 ⟨rfl, rfl⟩)
          | (go_at_call 51
             (with_reducible refine PF.out.mono ?_)
             rintro e w3 ⟨rfl, v', g1, g2, g3⟩))
        refine ⟨?_, ?measure⟩
        (repeat apply Exists.intro)
        refine ⟨?rel, rfl⟩
        case rel => exact ⟨i + 1, Nat.le_refl _, by go_num, HKP.out.trans g3, .inr (.inr ⟨HRL.out.symm, _, v', g1, g2⟩)⟩
        case measure => simp [intOf]
    · obtain ⟨rfl, hmx, hMN, r, r', u1, u2, f, rfl, hrd, hrn, hsy, hu1, hu2, hrd', hf1, hf2, hRn, s1, s2, hof, htot⟩ := hB
      obtain rfl : nR = 2 := by rw [← HNR.out]; rfl
      obtain ⟨p, hp, hpr⟩ : ∃ p, ps[0]? = some p ∧ p.1 = r := by
        have hRi : (ps.map (·.1))[0]? = some r := by rw [K3.out]; rfl
        rw [List.getElem?_map] at hRi
        cases h : ps[0]? with
        | none => rw [h] at hRi; cases hRi
        | some p => rw [h] at hRi; exact ⟨p, rfl, Option.some.inj hRi⟩
      obtain ⟨b, o, rfl, hbl, d0, d1, d2⟩ := (Rd.of_own rows).rw hp
      obtain ⟨v, hv⟩ : ∃ v, ss[0]? = some v := ⟨_, List.getElem?_eq_getElem (by have := says.1; omega)⟩
      have hsv := own_kp (K5.out 0 r v rfl hv) hk
      rw [hsy] at hsv
      obtain ⟨A5, c5, rfl, hc5, hr5⟩ := own_form hsv
      obtain ⟨b', o', rfl, hbl', hsc⟩ := (Rd.of_own says).2 (by omega)
      have y0 := hsc 0 _ hv
      obtain ⟨A6, n6, c6, hp2⟩ : ∃ A6 n6 c6, p.2 = .slice A6 n6 c6 := K6.out p (List.mem_of_getElem? hp)
      rw [hpr, hrd] at d0
      rw [hpr, hrn] at d1
      rw [hp2] at d2
      simp only [Nat.zero_mul, Nat.add_zero] at d0 d1 d2 y0
      obtain ⟨r2, r3, r4, r6, rf4, _, rl⟩ := hRn.cells
      have hMR : Mm ≠ RB := by
        obtain ⟨_, h⟩ := hMN
        rintro rfl
        rw [hRn.1] at h; cases h
      obtain ⟨wv, hwv⟩ : ∃ wv, wq.setCell ⟨RB, 4, none⟩ (.int .i64 (f - 1)) = wv := ⟨_, rfl⟩
      obtain ⟨wp, hwp⟩ : ∃ wp, (wv.alloc (.cells #[.bool true, .string (bs defT), .slice A6 n6 c6] 45)).alloc (.cells #[.slice A5 2 c5] 39) = wp := ⟨_, rfl⟩
      have sv : wv.heap.size = wq.heap.size := by rw [← hwv]; simp [World.setCell]
      have hv0 : ∀ k, k ≠ RB → wv.heap[k]? = wq.heap[k]? := fun k h => by rw [← hwv]; exact Below.heap_setCell _ _ _ _ (by simpa using h)
      have hRv : Rn wv RB Mm Ml (f - 1) tx (.slice none 0 0) := by rw [← hwv]; exact hRn.fuel
      have kpv : KpR RB Mm wq wv := ⟨by omega, fun k _ h2 _ => hv0 k h2, fun m h1 _ _ => by rw [← hwv]; exact (Below.refl m wq).setCell (p := ⟨RB, 4, none⟩) h1 _⟩
      have bp : Below wv.heap.size wv wp := by rw [← hwp]; exact ((Below.refl _ _).alloc (Nat.le_refl _) _).alloc (by simp) _
      have sp : wp.heap.size = wv.heap.size + 2 := by rw [← hwp]; simp
      have hRp := hRv.below bp
      have hMp : MN wp Mm := by
        obtain ⟨c1, h⟩ := hMN
        exact ⟨c1, (bp.block Mm (by have := (Array.getElem?_eq_some_iff.1 h).1; omega)).trans ((hv0 Mm hMR).trans h)⟩
      have hR0 : (0 : Nat) ≠ RB := by
        rintro rfl
        obtain ⟨m, h⟩ := hmx
        have := Lib.cell_of_heap hRn.1 0
        rw [h] at this
        simp at this
      have hmp : MX wp := (hmx.same (hv0 0 hR0)).later bp
      have hsv' : wp.ownsRow base 85 5 (.slice A5 2 c5) 2 (tkcs [u1, u2]) := own_kp hsv fun k h1 h2 => (bp.block k (by omega)).trans (hv0 k (by omega))
      have hgp : wp.cell? ⟨w.heap.size + 1, 0, none⟩ = some (.slice none 0 0) := (cell_same (p := ⟨w.heap.size + 1, 0, none⟩) ((bp.block (w.heap.size + 1) (by omega)).trans (hv0 (w.heap.size + 1) (by omega)))).trans g0
      have hap : wp.cell? ⟨w.heap.size, 0, none⟩ = some (.pointer (some ⟨RB, 0, none⟩)) := (cell_same (p := ⟨w.heap.size, 0, none⟩) ((bp.block w.heap.size (by omega)).trans (hv0 w.heap.size (by omega)))).trans a0
      have kRow : wp.heap[wq.heap.size]? = some (.cells #[.bool true, .string (bs defT), .slice A6 n6 c6] 45) := by
        rw [← hwp, ← sv]
        exact (Below.heap_alloc _ _ _ (by simp)).trans (heap_alloc_new wv _)
      have kSay : wp.heap[wq.heap.size + 1]? = some (.cells #[.slice A5 2 c5] 39) := by
        rw [← hwp, ← sv]
        have := heap_alloc_new (wv.alloc (.cells #[.bool true, .string (bs defT), .slice A6 n6 c6] 45)) (.cells #[.slice A5 2 c5] 39)
        rwa [World.size_alloc] at this
      have e0 := Lib.cell_of_heap kRow 0
      have e1 := Lib.cell_of_heap kRow 1
      have e2 := Lib.cell_of_heap kSay 0
      simp only [List.getElem?_toArray, List.getElem?_cons_zero, List.getElem?_cons_succ] at e0 e1 e2
      have DX := Lib.hid (directive_X RB Mm Ml c5 (f - 1) tx (.slice none 0 0) A5 u1 u2 wp hRp hMp hmp hc5 (Rd.of_own hsv') hu1 hu2)
      have SD := Lib.hid (fun fv => step_def (w.heap.size + 1) true fv wp hgp)
      have HWV := Lib.hid hwv
      have HWP := Lib.hid hwp
      have KPV := Lib.hid (hkp.trans (kpv.trans (KpR.below bp)))
      have HRp := Lib.hid hRp
      have hd1 : decide ((0 : Int) < (2 : Int)) = true := by decide
      have hd2 : decide ((f : Int) = 0) = false := by simp; omega
      have HOF := Lib.hid hof
      have HTOT := Lib.hid htot
      have HK := Lib.hid hk
      have HKP := Lib.hid hkp
      clear hwv hwp sv hv0 hRv kpv bp sp hRp hMp hmp hsv' kRow kSay hRn hMN hmx hsv hr5 rows says hp hpr hv hsc hp2 hof htot hsy hk hkp
      go_wp2_with (first
        | (go_at_call 46
           rw [HWV.out, HWP.out]
           (with_reducible refine (SD.out _).mono ?_)
           rintro e w3 ⟨rfl, rfl⟩)
        | (go_at_call 49; (with_reducible refine (LV.out _).mono ?_); rintro e w3 ⟨rfl, rfl⟩)
        | (go_at_call 50
           (with_reducible refine DX.out.mono ?_)
           rintro e w4 ⟨rfl, hMO, hk4, hb4⟩))
      have hRp := HRp.out
      have hRl := hRp.cells.2.2.2.2.2.2
      obtain ⟨c0, hml⟩ := hRp.2
      have hR4 : Rn w4 RB Mm Ml (f - 1) tx (.slice none 0 0) := ⟨(hk4.2 RB hRl (fun e => hMR e.symm)).trans hRp.1, c0, (hk4.2 Ml (Array.getElem?_eq_some_iff.1 hml).1 hMl).trans hml⟩
      refine ⟨?_, ?measure⟩
      (repeat apply Exists.intro)
      refine ⟨?rel, rfl⟩
      case rel => exact ⟨1, by omega, by go_num, KPV.out.trans (KpR.m hk4 hb4), .inl ⟨r', f - 1, rfl, rfl, hrd', by omega, by omega, hR4, .inr ⟨hMO, s1, s2, HOF.out, HTOT.out⟩⟩⟩
      case measure => simp [intOf]
    · obtain rfl : i = nR := by rw [hRl, HNR.out]
      go_wp2
      rw [Exit.noGoto_ret]
      go_ret
      exact ⟨rfl, ⟨rfl, f, v, hRn, hv⟩, (KpR.below B1.out).trans hkp⟩
end Go.Proofs.YtffjblamfbmoeaaGreatDoor
