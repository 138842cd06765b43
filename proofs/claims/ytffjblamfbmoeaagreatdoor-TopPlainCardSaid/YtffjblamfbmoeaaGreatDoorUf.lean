/- Several texts in one: Walks: does a text end well?; Walks: a text's characters; A text's tokens, one behind the other; Walks: a text's tokens: what they are made of; A region that draws its order, reads, and ends by a tail in one order: in a round of a range over a function; Walks: a text's tokens; Walks: Scan whole; tokens without comments and line ends. -/
import Derived.Test.YtffjblamfbmoeaaGreatDoorUe
import Derived.OwnWalkIn
import Derived.Lib.SlBytesRow
import Derived.Laws.OwnMore
import Derived.StillTail
import Derived.StillTailTactics
import Derived.RangeFuncCalls
import Derived.OrdersIn
import Derived.OrdersHeld
/-! Walks: does a text end well? -/
set_option linter.unusedVariables false
set_option linter.unusedSimpArgs false
namespace Go.Proofs.YtffjblamfbmoeaaGreatDoor
open Go Go.RowKit
attribute [local go_sem] Oper.semAt_some

namespace Tp
theorem parts_pre : ∀ (n : Nat) (t : T) (a : Nat) (pre : List Part) (x : Part), t.length - a ≤ n → pre ++ [x] <+: parts t a → x.at_ + x.len = t.length → parts t a = pre ++ [x] := by
  intro n
  induction n with
  | zero =>
    intro t a pre x h h1 h2
    rw [parts_end (by omega)] at h1
    have := h1.length_le
    simp at this
  | succ n ih =>
    intro t a pre x h h1 h2
    by_cases ha : a < t.length
    · have hp := part_pos t a
      have hat := part_at t a
      rw [parts_cons ha] at h1 ⊢
      cases pre with
      | nil =>
        obtain ⟨r, hr⟩ := h1
        simp only [List.nil_append, List.cons_append, List.cons.injEq] at hr
        obtain ⟨rfl, hr⟩ := hr
        rw [hat] at h2
        rw [parts_end (a := a + (part t a).len) (by omega)]
        rfl
      | cons y pre =>
        obtain ⟨r, hr⟩ := h1
        simp only [List.cons_append, List.cons.injEq] at hr
        obtain ⟨rfl, hr⟩ := hr
        rw [ih t _ pre x (by omega) ⟨r, hr⟩ h2]
        rfl
    · rw [parts_end ha] at h1
      have := h1.length_le
      simp at this
theorem parts_last : ∀ (n : Nat) (t : T) (a : Nat), t.length - a ≤ n → a < t.length → ∃ p ∈ parts t a, p.at_ + p.len = t.length := by
  intro n
  induction n with
  | zero => intro t a h ha; omega
  | succ n ih =>
    intro t a h ha
    have hp := part_pos t a
    have hat := part_at t a
    have hpe := part_end ha
    rw [parts_cons ha]
    by_cases hl : a + (part t a).len < t.length
    · obtain ⟨p, hp1, hp2⟩ := ih t _ (by omega) hl
      exact ⟨p, List.mem_cons_of_mem _ hp1, hp2⟩
    · exact ⟨part t a, List.mem_cons_self, by rw [hat]; omega⟩
theorem parts_mem : ∀ (n : Nat) (t : T) (a : Nat) (x : Part), t.length - a ≤ n → x ∈ parts t a → x.at_ + x.len ≤ t.length ∧ a ≤ x.at_ ∧ 1 ≤ x.len := by
  intro n
  induction n with
  | zero => intro t a x h hx; rw [parts_end (by omega)] at hx; simp at hx
  | succ n ih =>
    intro t a x h hx
    by_cases ha : a < t.length
    · have hp := part_pos t a
      have hat := part_at t a
      have hpe := part_end ha
      rw [parts_cons ha, List.mem_cons] at hx
      rcases hx with rfl | hx
      · rw [hat]; omega
      · have := ih t _ x (by omega) hx; omega
    · rw [parts_end ha] at hx; simp at hx
theorem chk_big {t : T} (h : 65536 < t.length) : chk t = 3 := by unfold chk; exact if_pos h
theorem chk_at {t : T} (h : ¬ 65536 < t.length) {pre : List Part} {x : Part} (h1 : pre ++ [x] <+: parts t 0) (h2 : x.at_ + x.len = t.length) : chk t = if x.sp = true ∨ x.b ≠ 10 then 10 else 0 := by
  unfold chk
  rw [if_neg h, parts_pre _ t 0 pre x (Nat.le_refl _) h1 h2]
  simp
theorem chk_none {t : T} (h : ∀ p ∈ parts t 0, p.at_ + p.len ≠ t.length) : chk t = 0 := by
  by_cases h0 : 0 < t.length
  · obtain ⟨p, h1, h2⟩ := parts_last _ t 0 (Nat.le_refl _) h0
    exact absurd h2 (h p h1)
  · unfold chk
    rw [if_neg (by omega), parts_end h0]; rfl
end Tp

/-- In a round of Check. -/
def ChI (w : World) (t : Tp.T) (pre : List Tp.Part) (W : World) : Prop := Bx W w.heap.size 9 (.string (bs t)) ∧ Bx W (w.heap.size + 1) 32 (.int .i64 0) ∧ (∀ p ∈ pre, p.at_ + p.len ≠ t.length) ∧ Below w.heap.size w W ∧ w.heap.size + 3 ≤ W.heap.size
def ChX (w : World) (t : Tp.T) (c : Code) (pre : List Tp.Part) (W : World) : Prop := c = .exit 0 ∧ Bx W (w.heap.size + 1) 32 (.int .i64 (Tp.chk t)) ∧ Below w.heap.size w W ∧ w.heap.size + 3 ≤ W.heap.size
def chTmps (t : Tp.T) (h : Nat) (p e : Value) : Array Value := #[.string (bs t), .pointer (some ⟨h, 0, none⟩), .int .i64 0, .pointer (some ⟨h + 1, 0, none⟩), p, .string (bs t), .int .i64 t.length, .bool false, .string (bs t), .func (.func 59) #[] #[.pointer (some ⟨h + 1 + 1, 0, none⟩)], e, undef, undef, undef, undef, undef, undef, undef, undef, undef, undef, undef, undef, undef, undef]
theorem ChI.put {w W : World} {t : Tp.T} {pre : List Tp.Part} {l : Nat} {o : Obj} (h : ChI w t pre W) (o' : Obj) (hw : w.heap.size ≤ l) (hl : W.heap[l]? = some o) (ho : o.isCells = false) : ChI w t pre (W.putObj l o') := by
  obtain ⟨h1, h2, h3, h4, h5⟩ := h
  exact ⟨h1.put' o' hl ho, h2.put' o' hl ho, h3, below_put h4 o' hw, by simpa using h5⟩
theorem ChI.later {w W W' : World} {t : Tp.T} {pre : List Tp.Part} (h : ChI w t pre W) (hb : Below W.heap.size W W') : ChI w t pre W' := by
  obtain ⟨h1, h2, h3, h4, h5⟩ := h
  exact ⟨h1.below hb h1.lt, h2.below hb h2.lt, h3, h4.trans (hb.mono h4.size), Nat.le_trans h5 hb.size⟩

set_option maxRecDepth 100000 in
set_option maxHeartbeats 8000000 in
theorem Check_any (t : Tp.T) (w : World) (hl : t.length ≤ 1000000) :
    Calls Tryz.prog 32 #[.string (bs t)] w fun e w' => e = .returned (.int .i64 (Tp.chk t)) ∧ Below w.heap.size w w' := by
  have hts : (bs t).size = t.length := bs_size t
  obtain ⟨er, HER⟩ : ∃ er : Int, Hid (Tp.chk t = er) := ⟨_, Lib.hid rfl⟩
  rw [HER.out]
  by_cases hbig : 65536 < t.length
  · have HR := Lib.hid (show er = 3 from HER.out.symm.trans (Tp.chk_big hbig))
    have hb : (65536 : Int) < (t.length : Int) := by omega
    have hbD : decide ((65536 : Int) < (t.length : Int)) = true := decide_eq_true hb
    rw [HR.out]
    clear HER HR
    go_enter Tryz.func32, Tryz.ntmps32
    go_wp2
    go_step3
    go_wp2
    (try rw [Exit.noGoto_ret])
    go_ret
    exact ⟨rfl, (Below.refl _ w).alloc (Nat.le_refl _) _⟩
  · have hbigI : ¬ 65536 < (t.length : Int) := by omega
    have hbigD : decide (65536 < (t.length : Int)) = false := decide_eq_false hbigI
    have PA := Lib.hid (fun W => parts_any (bs t) W)
    refine callsIn_wide (n := 5) |>.1 ?_
    refine callsIn_of_wp_marks Tryz.func32 rfl trivial ?_ rfl
    simp only [Tryz.ntmps32, List.size_toArray, List.length_cons, List.length_nil, Nat.reduceAdd, Nat.reduceSub, Array.replicate_succ, Array.replicate_zero, List.push_toArray, List.append_toArray, List.nil_append, List.cons_append]
    gi_wp2
    refine wpIn_scope ?_
    gi_wp2
    refine wpIn_label ?_
    gi_wp2_with (refine ⟨trivial, ?_⟩; gi_at_call 33; refine (callsIn_wide.2 (PA.out _)).mono ?_; rintro e w2 ⟨rfl, rfl⟩)
    obtain ⟨wB, hwB⟩ : ∃ wB, (((w.alloc (.cells #[.string (bs t)] 9)).alloc (.cells #[.int .i64 0] 32)).alloc (.cells #[.string (bs t)] 9)) = wB := ⟨_, rfl⟩
    have hsB : wB.heap.size = w.heap.size + 3 := by rw [← hwB]; simp
    have hbB : Below w.heap.size w wB := by rw [← hwB]; exact (((Below.refl _ _).alloc (Nat.le_refl _) _).alloc (by simp only [World.size_alloc]; omega) _).alloc (by simp only [World.size_alloc]; omega) _
    have S1 : Bx wB w.heap.size 9 (.string (bs t)) := by
      rw [← hwB]
      exact ((Bx.new w 9 (.string (bs t))).below ((Below.refl _ _).alloc (Nat.le_refl _) _) (by simp)).below ((Below.refl _ _).alloc (Nat.le_refl _) _) (by simp; omega)
    have R1 : Bx wB (w.heap.size + 1) 32 (.int .i64 0) := by
      rw [← hwB]
      have h1 := Bx.new (w.alloc (.cells #[.string (bs t)] 9)) 32 (.int .i64 0)
      rw [World.size_alloc] at h1
      exact h1.below ((Below.refl _ _).alloc (Nat.le_refl _) _) h1.lt
    have P1 : Bx wB (w.heap.size + 1 + 1) 9 (.string (bs t)) := by
      rw [← hwB]
      have h1 := Bx.new ((w.alloc (.cells #[.string (bs t)] 9)).alloc (.cells #[.int .i64 0] 32)) 9 (.string (bs t))
      rw [World.size_alloc, World.size_alloc] at h1
      exact h1
    rw [hwB]
    clear hwB
    refine rangeLaw2 (gf := 59) (lb := #[.pointer (some ⟨w.heap.size + 1 + 1, 0, none⟩)]) rfl (enters_of Tryz.func59 (by kernel_rfl) rfl)
      (fun W1 hs1 hbb => parts1_seq (5 - 1) (w.heap.size + 1 + 1) t W1 hl (P1.below hbb P1.lt))
      (fun X Y k o hg hk ho _ => (hg.block k (Array.getElem?_eq_some_iff.1 ho).1).trans ho)
      (fun h1 h2 => h1.trans h2) (fun W l o o' hl ho hc _ => KpT.put W l o o' ho hc) (fun _ => rfl)
      (ChI w t) (ChX w t)
      (fun pre X Y h hg => h.later hg)
      (fun pre W l o o' h hl ho hc => h.put o' (by rw [hsB] at hl; omega) ho hc)
      (fun c pre W l o o' ⟨h1, h2, h3, h4⟩ hl ho hc => ⟨h1, h2.put' o' ho hc, below_put h3 o' (by rw [hsB] at hl; omega), by simpa using h4⟩)
      (fun W1 hs1 hbb => ⟨S1.below hbb S1.lt, R1.below hbb R1.lt, by simp, hbB.trans (hbb.mono hbB.size), by rw [hs1, hsB]; omega⟩)
      (fun pre x a' W => ∃ P, a' = { tmps := chTmps t w.heap.size (.pointer (some ⟨P, 0, none⟩)) (ptV x), defers := [] } ∧ Pb W P x ∧ ChI w t pre W)
      (fun pre x a' W l o o' ⟨P, h0, he, h1⟩ hl ho hc => ⟨P, h0, he.put o' ho hc, h1.put o' (by rw [hsB] at hl; omega) ho hc⟩) ?assign ?body ?done ?stop
    case assign =>
      intro y pre x W K hi hgo hsz hK
      have HK := Lib.hid (hK { tmps := chTmps t w.heap.size (.pointer (some ⟨W.heap.size, 0, none⟩)) (ptV x), defers := [] } (W.alloc (.cells #[.int .u8 x.b.toNat, .int .i64 x.at_, .int .i64 x.len, .bool x.sp] 100)) ((KeepsOthers.alloc W _).from _) (KpT.below ((Below.refl _ _).alloc (Nat.le_refl _) _))
        ⟨_, rfl, Pb.new W x, hi.later ((Below.refl _ _).alloc (Nat.le_refl _) _)⟩)
      unfold chTmps ptV at HK
      simp only [ptV]
      clear hK hi
      gi_wp2
      exact HK.out
    case body =>
      rintro y pre x a' W ⟨P, rfl, hP, hI⟩ hgo hsz
      obtain ⟨h1, h2, h3, h4, h5⟩ := hI
      obtain ⟨c0, c1, c2, c3⟩ := hP.cells
      have cs := h1.cell
      have ce := h2.cell
      have fe := h2.frozen
      have hxm := hgo.subset (show x ∈ pre ++ [x] by simp)
      have HLE := Lib.hid (Tp.parts_mem _ t 0 x (Nat.le_refl _) hxm)
      have EN := Lib.hid (fun W => end_any x W (by have := HLE.out; omega))
      have LT := Lib.hid (fun W' (hb : Below W.heap.size W W') => And.intro (hP.below hb hP.lt).cells (And.intro (h1.below hb h1.lt).cell (And.intro (h2.below hb h2.lt).cell (h2.below hb h2.lt).frozen)))
      have LI := Lib.hid (fun W' (hb : Below W.heap.size W W') => ChI.later (show ChI w t pre W from ⟨h1, h2, h3, h4, h5⟩) hb)
      have mo : Tryz.prog.follows .mixedOrders = true := by kernel_rfl
      unfold chTmps
      unfold ptV at EN
      by_cases heq : x.at_ + x.len = t.length
      · rw [heq] at EN
        have HCH := Lib.hid (Tp.chk_at hbig hgo heq)
        clear heq hgo h3 hxm HLE
        obtain ⟨xb, xa, xl, xs⟩ := x
        simp only at *
        have YES : ∀ w4, Below W.heap.size W w4 → Tp.chk t = 10 → Hid (seqPost wB.heap.size (KpT [9, 100]) (ChI w t) (ChX w t) (pre ++ [⟨xb, xa, xl, xs⟩]) W (.exit 0) { tmps := #[], defers := [] } (w4.setCell ⟨w.heap.size + 1, 0, none⟩ (.int .i64 10))) := fun w4 hb hc => Lib.hid (by
          refine ⟨(keeps_below hb).trans ((KeepsOthers.setCell _ _ _).from _), rfl, ?_, (h4.trans (hb.mono h4.size)).setCell (p := ⟨_, 0, none⟩) (by simp) _, by have := hb.size; simp [World.setCell]; omega⟩
          rw [hc]
          exact (h2.below hb h2.lt).set _)
        have NO : ∀ w4, Below W.heap.size W w4 → Tp.chk t = 0 → Hid (seqPost wB.heap.size (KpT [9, 100]) (ChI w t) (ChX w t) (pre ++ [⟨xb, xa, xl, xs⟩]) W (.exit 0) { tmps := #[], defers := [] } w4) := fun w4 hb hc => Lib.hid (by
          refine ⟨keeps_below hb, rfl, ?_, h4.trans (hb.mono h4.size), Nat.le_trans h5 hb.size⟩
          rw [hc]
          exact h2.below hb h2.lt)
        have YES := Lib.hid YES
        have NO := Lib.hid NO
        cases xs
        · by_cases hb10 : xb = 10
          · have HC := Lib.hid (show Tp.chk t = 0 from HCH.out.trans (if_neg (fun h => h.elim (fun h => by cases h) (fun h => h hb10))))
            subst hb10
            clear HCH
            gi_wp2
            gi_region_with_o (first | (refine ⟨trivial, ?_⟩; gi_at_call 58; refine (CallsIn.inRound y (callsIn_wide.2 (EN.out _))).mono ?_; rintro e w4 ⟨rfl, hb4'⟩; have hb4 : Below W.heap.size W w4 := (below_drewN (Below.refl _ W) 1).trans hb4'; obtain ⟨⟨d0, d1, d2, d3⟩, dS, dE, dF⟩ := LT.out _ hb4))
            all_goals
              gi_wp2
              exact (NO.out _ hb4 HC.out).out
          · have HC := Lib.hid (show Tp.chk t = 10 from HCH.out.trans (if_pos (.inr hb10)))
            have n1 : ¬ (xb.toNat : Int) = 10 := by intro e; exact hb10 (by rw [c10]; exact e)
            have n1b : ((xb.toNat : Int) != 10) = true := by simp [n1]
            clear HCH hb10
            gi_wp2
            gi_region_with_o (first | (refine ⟨trivial, ?_⟩; gi_at_call 58; refine (CallsIn.inRound y (callsIn_wide.2 (EN.out _))).mono ?_; rintro e w4 ⟨rfl, hb4'⟩; have hb4 : Below W.heap.size W w4 := (below_drewN (Below.refl _ W) 1).trans hb4'; obtain ⟨⟨d0, d1, d2, d3⟩, dS, dE, dF⟩ := LT.out _ hb4))
            all_goals
              gi_wp2
              exact (YES.out _ hb4 HC.out).out
        · have HC := Lib.hid (show Tp.chk t = 10 from HCH.out.trans (if_pos (.inl rfl)))
          clear HCH
          gi_wp2
          gi_region_with_o (first | (refine ⟨trivial, ?_⟩; gi_at_call 58; refine (CallsIn.inRound y (callsIn_wide.2 (EN.out _))).mono ?_; rintro e w4 ⟨rfl, hb4'⟩; have hb4 : Below W.heap.size W w4 := (below_drewN (Below.refl _ W) 1).trans hb4'; obtain ⟨⟨d0, d1, d2, d3⟩, dS, dE, dF⟩ := LT.out _ hb4))
          all_goals
            gi_wp2
            exact (YES.out _ hb4 HC.out).out
      · have hne : ¬ x.at_ + x.len = t.length := heq
        have HNE := Lib.hid hne
        have neI : ¬ ((x.at_ + x.len : Nat) : Int) = (t.length : Int) := by omega
        have hpn : Hid (∀ p ∈ pre ++ [x], p.at_ + p.len ≠ t.length) := Lib.hid (fun p hp => by
          rcases List.mem_append.1 hp with hp | hp
          · exact h3 p hp
          · rw [List.mem_singleton.1 hp]; exact HNE.out)
        obtain ⟨m, hm⟩ : ∃ m, x.at_ + x.len = m := ⟨_, rfl⟩
        rw [hm] at EN neI
        have neN : ¬ m = t.length := by omega
        have neB : ((m : Int) == (t.length : Int)) = false := beq_eq_false_iff_ne.2 neI
        clear heq hgo h3 hxm HLE hne hm
        gi_wp2
        gi_region_with_o (first | (refine ⟨trivial, ?_⟩; gi_at_call 58; refine (CallsIn.inRound y (callsIn_wide.2 (EN.out _))).mono ?_; rintro e w4 ⟨rfl, hb4'⟩; have hb4 : Below W.heap.size W w4 := (below_drewN (Below.refl _ W) 1).trans hb4'; obtain ⟨⟨d0, d1, d2, d3⟩, dS, dE, dF⟩ := LT.out _ hb4))
        all_goals
          gi_wp2
          exact ⟨keeps_below hb4, KpT.below hb4, h1.below hb4 h1.lt, h2.below hb4 h2.lt, hpn.out, h4.trans (hb4.mono h4.size), Nat.le_trans h5 hb4.size⟩
    case done =>
      rintro D xs W hD hS ⟨h1, h2, h3, h4, h5⟩ hK
      obtain rfl : D = w.heap.size + 3 := by rw [hD, hsB]
      have hch : Tp.chk t = 0 := Tp.chk_none (by rw [← hS]; exact h3)
      have HCH := Lib.hid hch
      have c1 := h2.cell
      have f1 := h2.frozen
      clear hch hS h3
      gi_wp2
      rw [Exit.noGoto_ret]
      refine ⟨by simp, .inl ⟨_, _, rfl, run_takeDeferred hK, ?_⟩⟩
      refine ⟨_, show (results Tryz.f32 _).run Tryz.prog _ = .ok (.int .i64 0) _ by simp [results, Tryz.results32, go_sem], ?_, below_put h4 _ (by omega)⟩
      rw [← HER.out, HCH.out]
    case stop =>
      rintro D c pre W hD hS ⟨rfl, h2, h3, h4⟩ hK
      obtain rfl : D = w.heap.size + 3 := by rw [hD, hsB]
      have c1 := h2.cell
      have f1 := h2.frozen
      clear hS
      gi_wp2
      rw [Exit.noGoto_ret]
      refine ⟨by simp, .inl ⟨_, _, rfl, run_takeDeferred hK, ?_⟩⟩
      refine ⟨_, show (results Tryz.f32 _).run Tryz.prog _ = .ok (.int .i64 (Tp.chk t)) _ by simp [results, Tryz.results32, go_sem], ?_, below_put h3 _ (by omega)⟩
      rw [← HER.out]

end Go.Proofs.YtffjblamfbmoeaaGreatDoor

/-! Walks: a text's characters. -/
set_option linter.unusedVariables false
set_option linter.unusedSimpArgs false
namespace Go.Proofs.YtffjblamfbmoeaaGreatDoor
open Go Go.RowKit
attribute [local go_sem] Oper.semAt_some

theorem cellsN_new (w : World) (t : TypeId) (l : List Value) : ∀ j u, l[j]? = some u → (w.alloc (.cells l.toArray t)).cell? ((⟨w.heap.size, 0, none⟩ : Addr).add j) = some u := by
  intro j u h
  rw [← h]
  by_cases hj : j = 0
  · subst hj; simp [Addr.add]
  · simp [Addr.add, hj]
/-- An own row's block is no block of another type. -/
theorem own_ne_bx {W : World} {base e sz n b T : Nat} {v u : Value} {xs : List Value} (h : W.ownsRow base e sz v n xs) (hb : Bx W b T u) (hT : e ≠ T) : v.ownBlock ≠ some b := by
  intro e'
  rcases h.2 with ⟨rfl, _⟩ | ⟨g, cap, cur, rfl, _, hg, _⟩
  · simp [Value.ownBlock] at e'
  · simp only [Value.ownBlock, Option.some.injEq] at e'
    subst e'
    unfold Bx at hb
    rw [hg] at hb
    simp only [Option.some.injEq, Obj.cells.injEq] at hb
    exact hT hb.2.1
theorem Bx.grown {W W' : World} {b T : Nat} {u : Value} {r : Option Nat} (h : Bx W b T u) (hg : W.grownBy W' r) (hr : r ≠ some b) : Bx W' b T u := (hg.block b h.lt (fun e => hr e.symm)).trans h

theorem chInfo : (Tryz.prog.info? 78).map (fun i => (i.zero, i.size, i.bytes)) = some (some (.agg #[.int .u8 0, .int .i64 0, .int .i64 0]), 3, 24) := by kernel_rfl
/-- A character's cells. -/
def chc (p : Tp.Part) : List Value := [.int .u8 p.b.toNat, .int .i64 p.at_, .int .i64 p.len]
def chcs (l : List Tp.Part) : List Value := l.flatMap chc
theorem chcs_length (l : List Tp.Part) : (chcs l).length = l.length * 3 := by
  induction l with
  | nil => rfl
  | cons e r ih => simp only [chcs, List.flatMap_cons, List.length_append, List.length_cons] at ih ⊢; simp only [chc, List.length_cons, List.length_nil]; omega
theorem chcs_snoc (l : List Tp.Part) (p : Tp.Part) : chcs (l ++ [p]) = chcs l ++ chc p := by simp [chcs]

set_option maxRecDepth 100000 in
set_option maxHeartbeats 4000000 in
theorem Chars_no (t : Tp.T) (w : World) (hl : t.length ≤ 1000000) (h : Tp.chk t ≠ 0) :
    Calls Tryz.prog 27 #[.string (bs t)] w fun e w' => e = .returned (.tuple #[.slice none 0 0, .int .i64 (Tp.chk t)]) ∧ Below w.heap.size w w' := by
  have CK := Lib.hid (fun W => Check_any t W hl)
  generalize Tp.chk t = c at *
  have hb : (c != 0) = true := by simpa using h
  go_enter Tryz.func27, Tryz.ntmps27
  go_wp2_with (first | (go_at_call 32; (with_reducible refine (CK.out _).mono ?_); rintro e w2 ⟨rfl, hb2⟩))
  go_ret2
  exact ⟨rfl, hb2⟩

/-- In a round of Chars. -/
def CcI (w : World) (Bl : Nat) (pre : List Tp.Part) (W : World) : Prop := ∃ v, Bx W Bl 73 v ∧ W.ownsRow w.heap.size 78 3 v (pre.filter fun p => !p.sp).length (chcs (pre.filter fun p => !p.sp)) ∧ Below w.heap.size w W ∧ w.heap.size ≤ Bl
theorem CcI.put {w W : World} {Bl : Nat} {pre : List Tp.Part} {l : Nat} {o : Obj} (h : CcI w Bl pre W) (o' : Obj) (hw : w.heap.size ≤ l) (hl : W.heap[l]? = some o) (ho : o.isCells = false) : CcI w Bl pre (W.putObj l o') := by
  obtain ⟨v, h1, h2, h3, h4⟩ := h
  exact ⟨v, h1.put' o' hl ho, h2.kept (grownBy_putObj' W l o') (.inr (own_ne_obj h2 hl ho)), below_put h3 o' hw, h4⟩
theorem CcI.later {w W W' : World} {Bl : Nat} {pre : List Tp.Part} (h : CcI w Bl pre W) (hb : Below W.heap.size W W') : CcI w Bl pre W' := by
  obtain ⟨v, h1, h2, h3, h4⟩ := h
  exact ⟨v, h1.below hb h1.lt, own_later h2 hb, h3.trans (hb.mono h3.size), h4⟩

set_option maxRecDepth 100000 in
set_option maxHeartbeats 4000000 in
theorem Chars_yes (t : Tp.T) (w : World) (hl : t.length ≤ 1000000) (h : Tp.chk t = 0) :
    Calls Tryz.prog 27 #[.string (bs t)] w fun e w' => ∃ v, e = .returned (.tuple #[v, .int .i64 0]) ∧ w'.ownsRow w.heap.size 78 3 v (Tp.chars t).length (chcs (Tp.chars t)) ∧ Below w.heap.size w w' := by
  have hts : (bs t).size = t.length := bs_size t
  obtain ⟨i0, hi, hz0, hz1, hz2⟩ := info_parts chInfo
  have CK := Lib.hid (fun W => Check_any t W hl)
  rw [h] at CK
  have PA := Lib.hid (fun W => parts_any (bs t) W)
  refine callsIn_wide (n := 5) |>.1 ?_
  refine callsIn_of_wp_marks Tryz.func27 rfl trivial ?_ rfl
  simp only [Tryz.ntmps27, List.size_toArray, List.length_cons, List.length_nil, Nat.reduceAdd, Nat.reduceSub, Array.replicate_succ, Array.replicate_zero, List.push_toArray, List.append_toArray, List.nil_append, List.cons_append]
  clear h
  gi_wp2_with (first
    | (refine ⟨trivial, ?_⟩; gi_at_call 32; (with_reducible refine (callsIn_wide.2 (CK.out _)).mono ?_); rintro e w2 ⟨rfl, hb2⟩)
    | (gi_at_make; refine wpListIn_make_own _ rfl _ _ 73 rfl w.heap.size 78 i0 _ 3 Tryz.underlying73 hi hz0 hz1 .i64 .i64 _ t.length rfl rfl rfl (by rw [hz2]; omega) (by unfold maxLen; omega) hb2.size ?_; intro w3 hown3 hgrow3)
    | (refine ⟨trivial, ?_⟩; gi_at_call 33; refine (callsIn_wide.2 (PA.out _)).mono ?_; rintro e w5 ⟨rfl, rfl⟩))
  obtain ⟨Bl, hBl⟩ : ∃ Bl, Bl = w3.heap.size := ⟨_, rfl⟩
  have hw3 : Below w.heap.size w w3 := hb2.trans (((Below.refl w2.heap.size w2).grown hgrow3 (Nat.le_refl _) (fun k e => by cases e)).mono hb2.size)
  have hBw : w.heap.size ≤ Bl := by rw [hBl]; exact hw3.size
  obtain ⟨wB, hwB⟩ : ∃ wB, ((w3.alloc (.cells #[.slice (some ⟨w2.heap.size, 0, none⟩) 0 t.length] 73)).alloc (.cells #[.string (bs t)] 9)) = wB := ⟨_, rfl⟩
  have hsB : wB.heap.size = Bl + 2 := by rw [← hwB]; simp; omega
  have P1 : Bx wB (Bl + 1) 9 (.string (bs t)) := by
    rw [← hwB, hBl]
    have h1 := Bx.new (w3.alloc (.cells #[.slice (some ⟨w2.heap.size, 0, none⟩) 0 t.length] 73)) 9 (.string (bs t))
    rw [World.size_alloc] at h1
    exact h1
  have I1 : CcI w Bl [] wB := by
    rw [← hwB, hBl]
    have h1 := Bx.new w3 73 (.slice (some ⟨w2.heap.size, 0, none⟩) 0 t.length)
    exact ⟨_, h1.below ((Below.refl _ _).alloc (Nat.le_refl _) _) h1.lt, (hown3.alloc _).alloc _, (hw3.alloc hw3.size _).alloc (by have := hw3.size; simp; omega) _, hw3.size⟩
  rw [hwB, ← hBl]
  clear hwB hBl hown3 hgrow3 hb2 hw3
  refine rangeLaw2 (gf := 59) (lb := #[.pointer (some ⟨Bl + 1, 0, none⟩)]) rfl (enters_of Tryz.func59 (by kernel_rfl) rfl)
    (fun W1 hs1 hbb => parts1_seq (5 - 1) (Bl + 1) t W1 hl (P1.below hbb P1.lt))
    (fun X Y k o hg hk ho _ => (hg.block k (Array.getElem?_eq_some_iff.1 ho).1).trans ho)
    (fun h1 h2 => h1.trans h2) (fun W l o o' hl ho hc _ => KpT.put W l o o' ho hc) (fun _ => rfl)
    (CcI w Bl) (fun _ _ _ => False)
    (fun pre X Y h hg => h.later hg)
    (fun pre W l o o' h hl ho hc => h.put o' (by rw [hsB] at hl; omega) ho hc)
    (fun c pre W l o o' h hl ho hc => h)
    (fun W1 hs1 hbb => I1.later hbb)
    (fun pre x a' W => ∃ P, a' = { tmps := #[.string (bs t), undef, .slice none 0 0, .int .i64 0, .int .i64 0, .pointer (some ⟨Bl, 0, none⟩), .pointer (some ⟨P, 0, none⟩), .string (bs t), .int .i64 0, .int .i64 0, .bool false, undef, .string (bs t), .int .i64 t.length, .slice (some ⟨w2.heap.size, 0, none⟩) 0 t.length, .string (bs t), .func (.func 59) #[] #[.pointer (some ⟨Bl + 1, 0, none⟩)], ptV x, undef, undef, undef, undef, undef, undef, undef, undef, undef], defers := [] } ∧ Pb W P x ∧ CcI w Bl pre W)
    (fun pre x a' W l o o' ⟨P, h0, he, h1⟩ hl ho hc => ⟨P, h0, he.put o' ho hc, h1.put o' (by rw [hsB] at hl; omega) ho hc⟩) ?assign ?body ?done ?stop
  case assign =>
    intro y pre x W K hi hgo hsz hK
    have HK := Lib.hid (hK _ (W.alloc (.cells #[.int .u8 x.b.toNat, .int .i64 x.at_, .int .i64 x.len, .bool x.sp] 100)) ((KeepsOthers.alloc W _).from _) (KpT.below ((Below.refl _ _).alloc (Nat.le_refl _) _))
      ⟨_, rfl, Pb.new W x, hi.later ((Below.refl _ _).alloc (Nat.le_refl _) _)⟩)
    unfold ptV at HK
    simp only [ptV]
    clear hK hi
    gi_wp2
    exact HK.out
  case body =>
    rintro y pre x a' W ⟨P, rfl, hP, hI⟩ hgo hsz
    obtain ⟨v, h1, h2, h3, h4⟩ := hI
    obtain ⟨c0, c1, c2, c3⟩ := hP.cells
    have cl := h1.cell
    have hn : (pre.filter fun p => !p.sp).length ≤ 1000000 := by
      have e1 := List.length_filter_le (fun p : Tp.Part => !p.sp) pre
      have e2 := hgo.length_le
      have e3 := Tp.parts_len _ t 0 (Nat.le_refl _)
      simp at e2; omega
    obtain ⟨xb, xa, xl, xs⟩ := x
    simp only at *
    cases xs
    · have HF := Lib.hid (show (pre ++ [(⟨xb, xa, xl, false⟩ : Tp.Part)]).filter (fun p => !p.sp) = (pre.filter fun p => !p.sp) ++ [⟨xb, xa, xl, false⟩] by simp)
      have HG := Lib.hid (chcs_snoc (pre.filter fun p => !p.sp) ⟨xb, xa, xl, false⟩)
      generalize (pre.filter fun p => !p.sp) = F at *
      have hvb := own_ne_bx h2 h1 (by decide)
      gi_wp2_with (gi_at_builtin; refine wpListIn_append_own _ rfl _ _ 73 rfl w.heap.size 78 i0 _ 3 24 Tryz.underlying73 hi hz0 hz1 hz2 rfl (by decide) v _ _ rfl (h2.alloc _) ⟨W.heap.size, 0, none⟩ 1 1 [.int .u8 xb.toNat, .int .i64 xa, .int .i64 xl] rfl rfl (cellsN_new _ _ _) (by simp [Value.oneCell']) (by unfold maxLen; omega) (by omega) (by have := h3.size; simp; omega) ?_; intro v' w1 hown' hgrow _; have hx1 := (h1.below ((Below.refl _ _).alloc (Nat.le_refl _) (.cells #[.int .u8 xb.toNat, .int .i64 xa, .int .i64 xl] 78)) h1.lt).grown hgrow hvb; have cl1 := hx1.cell; have fl1 := hx1.frozen; obtain ⟨A', c', rfl, _, _⟩ := own_form hown')
      have hgb := hgrow
      have hx2 := hx1.set (.slice A' (F.length + 1) c')
      have hwb := ((h3.alloc h3.size (.cells #[.int .u8 xb.toNat, .int .i64 xa, .int .i64 xl] 78)).grown hgrow (by have := h3.size; simp; omega) (fun k hk => (h2.lt k hk).1))
      refine ⟨(((KeepsOthers.alloc W _).trans (KeepsOthers.of_grownBy hgrow (fun j o' hj ho' => ?_))).trans (KeepsOthers.setCell _ _ _)).from _, ?_, ?_⟩
      · rcases (h2.alloc (.cells #[.int .u8 xb.toNat, .int .i64 xa, .int .i64 xl] 78)).2 with ⟨rfl, _⟩ | ⟨g, cap, cur, rfl, _, hg', _⟩
        · simp [Value.ownBlock] at hj
        · simp only [Value.ownBlock, Option.some.injEq] at hj
          subst hj
          rw [hg'] at ho'; cases ho'; rfl
      · exact ((KpT.below ((Below.refl _ _).alloc (Nat.le_refl _) _)).trans (KpT.own (h2.alloc _) hgrow (by decide))).trans (KpT.set hx1 (by decide) _ _)
      · refine ⟨_, hx2, ?_, hwb.setCell (p := ⟨Bl, 0, none⟩) h4 _, h4⟩
        rw [HF.out, HG.out, List.length_append]
        exact hown'.kept (grownBy_set w1 Bl _) (.inr (own_ne_bx hown' hx1 (by decide)))
    · have HF := Lib.hid (show (pre ++ [(⟨xb, xa, xl, true⟩ : Tp.Part)]).filter (fun p => !p.sp) = (pre.filter fun p => !p.sp) by simp)
      gi_wp2
      exact ⟨keeps_below (Below.refl _ _), KpT.refl _ _, v, h1, by rw [HF.out]; exact h2, h3, h4⟩
  case done =>
    rintro D xs W hD hS ⟨v, h1, h2, h3, h4⟩ hK
    obtain rfl : D = Bl + 2 := by rw [hD, hsB]
    have HS := Lib.hid (show (xs.filter fun p => !p.sp) = Tp.chars t by rw [hS]; rfl)
    have c1 := h1.cell
    obtain ⟨A', c', rfl, _, _⟩ := own_form h2
    clear hS
    gi_wp2
    refine ⟨by simp, .inl ⟨_, _, rfl, run_takeDeferred hK, ?_⟩⟩
    refine ⟨_, show (results Tryz.f27 _).run Tryz.prog _ = .ok (.tuple #[.slice A' (xs.filter fun p => !p.sp).length c', .int .i64 0]) _ by simp [results, Tryz.results27, go_sem], ?_⟩
    rw [HS.out] at h2 ⊢
    exact ⟨_, rfl, h2.kept (grownBy_putObj' W _ _) (.inr (own_ne_obj h2 hK rfl)), below_put h3 _ (by omega)⟩
  case stop => 
    intro D c pre W hD hS h
    exact h.elim

end Go.Proofs.YtffjblamfbmoeaaGreatDoor

/-! A text's tokens, one behind the other. -/
set_option linter.unusedVariables false
set_option linter.unusedSimpArgs false
namespace Go.Proofs.YtffjblamfbmoeaaGreatDoor
namespace Tp
open Go

/-- The tokens of places, none of which is an error; where the last one ends. -/
def tkL (cs : List Part) (l : T) : Nat → List (It × Int) → List Tok
  | _, [] => []
  | b, x :: r => tok cs l b x.1 :: tkL cs l x.1.t r
def bhd : Nat → List (It × Int) → Nat
  | b, [] => b
  | _, x :: r => bhd x.1.t r
theorem tkL_snoc (cs : List Part) (l : T) : ∀ (b : Nat) (pre : List (It × Int)) (x : It × Int), tkL cs l b (pre ++ [x]) = tkL cs l b pre ++ [tok cs l (bhd b pre) x.1]
  | _, [], _ => rfl
  | _, y :: r, x => by rw [List.cons_append, tkL, tkL_snoc cs l _ r x, tkL, bhd, List.cons_append]
theorem bhd_snoc : ∀ (b : Nat) (pre : List (It × Int)) (x : It × Int), bhd b (pre ++ [x]) = x.1.t
  | _, [], _ => rfl
  | _, y :: r, x => by rw [List.cons_append, bhd, bhd_snoc]
theorem tkL_len (cs : List Part) (l : T) : ∀ (b : Nat) (pre : List (It × Int)), (tkL cs l b pre).length = pre.length
  | _, [] => rfl
  | _, y :: r => by rw [tkL, List.length_cons, tkL_len, List.length_cons]
theorem toks_ok (cs : List Part) (l : T) : ∀ (b : Nat) (xs : List (It × Int)), (∀ x ∈ xs, x.2 = 0) → toks cs l b xs = (tkL cs l b xs, 0)
  | _, [], _ => rfl
  | b, (i, e) :: r, h => by
    have he : e = 0 := h (i, e) (by simp)
    rw [toks, if_neg (by simp [he]), toks_ok cs l i.t r (fun x hx => h x (by simp [hx])), tkL]
    rfl
theorem toks_bad (cs : List Part) (l : T) : ∀ (b : Nat) (pre : List (It × Int)) (x : It × Int), (∀ y ∈ pre, y.2 = 0) → x.2 ≠ 0 → toks cs l b (pre ++ [x]) = ([], x.2)
  | _, [], (i, e), _, hx => by
    rw [List.nil_append, toks, if_pos hx]
  | b, (i, e) :: r, x, h, hx => by
    have he : e = 0 := h (i, e) (by simp)
    rw [List.cons_append, toks, if_neg (by simp [he]), toks_bad cs l i.t r x (fun y hy => h y (by simp [hy])) hx]
    simp only
    rw [if_pos hx]
theorem items_mem : ∀ (n : Nat) (l : T) (a s : Nat) (x : It × Int), l.length - a ≤ n → x ∈ itemsA l a s → x.2 = 0 → a ≤ x.1.f ∧ x.1.f < x.1.t ∧ x.1.t ≤ l.length := by
  intro n
  induction n with
  | zero => intro l a s x h hx; rw [items_end (by omega)] at hx; simp at hx
  | succ n ih =>
    intro l a s x h hx h0
    by_cases ha : a < l.length
    · cases hw : white (g l a)
      · by_cases he : (itemAt l a (s == 2)).2 = 0
        · have hk := itemAt_ok l a (s == 2) ha he
          rw [items_cons ha s hw he, List.mem_cons] at hx
          rcases hx with rfl | hx
          · omega
          · have := ih l _ _ x (by omega) hx h0; omega
        · rw [items_bad ha s hw he, List.mem_singleton] at hx
          rw [hx] at h0; exact absurd h0 he
      · rw [items_white ha s hw] at hx
        have := ih l _ s x (by omega) hx h0; omega
    · rw [items_end ha] at hx; simp at hx
theorem items_err : ∀ (n : Nat) (l : T) (a s : Nat) (pre : List (It × Int)) (x : It × Int), l.length - a ≤ n → pre ++ [x] <+: itemsA l a s → x.2 ≠ 0 → itemsA l a s = pre ++ [x] := by
  intro n
  induction n with
  | zero => intro l a s pre x h h1; rw [items_end (by omega)] at h1; have := h1.length_le; simp at this
  | succ n ih =>
    intro l a s pre x h h1 h2
    by_cases ha : a < l.length
    · cases hw : white (g l a)
      · by_cases he : (itemAt l a (s == 2)).2 = 0
        · have hk := itemAt_ok l a (s == 2) ha he
          rw [items_cons ha s hw he] at h1 ⊢
          cases pre with
          | nil =>
            obtain ⟨r, hr⟩ := h1
            simp only [List.nil_append, List.cons_append, List.cons.injEq] at hr
            rw [hr.1] at h2; exact absurd he h2
          | cons y pre =>
            obtain ⟨r, hr⟩ := h1
            simp only [List.cons_append, List.cons.injEq] at hr
            rw [ih l _ _ pre x (by omega) ⟨r, hr.2⟩ h2, hr.1]
            rfl
        · rw [items_bad ha s hw he] at h1 ⊢
          have := h1.length_le
          simp at this
          subst this
          obtain ⟨r, hr⟩ := h1
          simp only [List.nil_append, List.cons_append, List.cons.injEq] at hr
          rw [← hr.1]; rfl
      · rw [items_white ha s hw] at h1 ⊢
        exact ih l _ s pre x (by omega) h1 h2
    · rw [items_end ha] at h1; have := h1.length_le; simp at this
theorem items_len : ∀ (n : Nat) (l : T) (a s : Nat), l.length - a ≤ n → (itemsA l a s).length ≤ n := by
  intro n
  induction n with
  | zero => intro l a s h; rw [items_end (by omega)]; simp
  | succ n ih =>
    intro l a s h
    by_cases ha : a < l.length
    · cases hw : white (g l a)
      · by_cases he : (itemAt l a (s == 2)).2 = 0
        · have hk := itemAt_ok l a (s == 2) ha he
          rw [items_cons ha s hw he, List.length_cons]
          have := ih l (itemAt l a (s == 2)).1.t (after s (itemAt l a (s == 2)).1.k ((l.take (itemAt l a (s == 2)).1.t).drop (itemAt l a (s == 2)).1.f)) (by omega)
          omega
        · rw [items_bad ha s hw he]; simp
      · rw [items_white ha s hw]
        have := ih l (a + 1) s (by omega); omega
    · rw [items_end ha]; simp
/-- What scan gives of a text that ends well. -/
def scanA (t : T) : List Tok × Int := toks (chars t) (logic t) 0 (itemsA (logic t) 0 0)
theorem scan_bad {t : T} (h : chk t ≠ 0) : scan t = ([], chk t) := by unfold scan; exact if_pos h
theorem scan_ok {t : T} (h : chk t = 0) : scan t = scanA t := by
  unfold scan scanA
  rw [if_neg (by simp [h])]
  unfold itemsA
  rw [items_ge (logic t) ((logic t).length + 1) ((logic t).length - 0) 0 0 (by omega) (Nat.le_refl _)]
end Tp
end Go.Proofs.YtffjblamfbmoeaaGreatDoor

/-! Walks: a text's tokens: what they are made of. -/
set_option linter.unusedVariables false
set_option linter.unusedSimpArgs false
namespace Go.Proofs.YtffjblamfbmoeaaGreatDoor
open Go Go.RowKit
attribute [local go_sem] Oper.semAt_some

theorem toInfo : (Tryz.prog.info? 85).map (fun i => (i.zero, i.size, i.bytes)) = some (some (.agg #[.int .i64 0, .string ⟨#[]⟩, .int .i64 0, .int .i64 0, .bool false]), 5, 48) := by kernel_rfl
theorem u8Info : (Tryz.prog.info? 5).map (fun i => (i.zero, i.size, i.bytes)) = some (some (.int .u8 0), 1, 1) := by kernel_rfl
/-- A token's cells. -/
def tkc (t : Tp.Tok) : List Value := [.int .i64 t.k, .string (bs t.x), .int .i64 t.a, .int .i64 t.e, .bool t.s]
def tkcs (l : List Tp.Tok) : List Value := l.flatMap tkc
theorem tkcs_length (l : List Tp.Tok) : (tkcs l).length = l.length * 5 := by
  induction l with
  | nil => rfl
  | cons e r ih => simp only [tkcs, List.flatMap_cons, List.length_append, List.length_cons] at ih ⊢; simp only [tkc, List.length_cons, List.length_nil]; omega
theorem tkcs_snoc (l : List Tp.Tok) (p : Tp.Tok) : tkcs (l ++ [p]) = tkcs l ++ tkc p := by simp [tkcs]
theorem tkcs_app (l m : List Tp.Tok) : tkcs (l ++ m) = tkcs l ++ tkcs m := by simp [tkcs]
theorem chcs_at {l : List Tp.Part} : ∀ {k : Nat} {p : Tp.Part}, l[k]? = some p → (chcs l)[k * 3]? = some (.int .u8 p.b.toNat) ∧ (chcs l)[k * 3 + 1]? = some (.int .i64 p.at_) ∧ (chcs l)[k * 3 + 2]? = some (.int .i64 p.len) := by
  induction l with
  | nil => intro k e h; simp at h
  | cons x r ih =>
    intro k e h
    have e1 : chcs (x :: r) = chc x ++ chcs r := rfl
    have e2 : (chc x).length = 3 := rfl
    cases k with
    | zero => simp only [List.getElem?_cons_zero, Option.some.injEq] at h; subst h; exact ⟨rfl, rfl, rfl⟩
    | succ k =>
      simp only [List.getElem?_cons_succ] at h
      have := ih h
      rw [e1]
      refine ⟨?_, ?_, ?_⟩
      · rw [List.getElem?_append_right (by omega), e2, ← this.1]; congr 1; omega
      · rw [List.getElem?_append_right (by omega), e2, ← this.2.1]; congr 1; omega
      · rw [List.getElem?_append_right (by omega), e2, ← this.2.2]; congr 1; omega
theorem Rd.ch {w : World} {A : Option Addr} {l : List Tp.Part} {n : Nat} (h : Rd w 3 A n (chcs l)) {k : Nat} {p : Tp.Part} (hk : l[k]? = some p) :
    ∃ b o, A = some ⟨b, o, none⟩ ∧ b < w.heap.size ∧ w.cell? ⟨b, o + k * 3, none⟩ = some (.int .u8 p.b.toNat) ∧ w.cell? ⟨b, o + k * 3 + 1, none⟩ = some (.int .i64 p.at_) ∧ w.cell? ⟨b, o + k * 3 + 2, none⟩ = some (.int .i64 p.len) := by
  have hl : k < l.length := (List.getElem?_eq_some_iff.1 hk).1
  have h1 := h.1
  rw [chcs_length] at h1
  obtain ⟨b, o, e, hlt, hc⟩ := h.2 (by omega)
  obtain ⟨a1, a2, a3⟩ := chcs_at hk
  exact ⟨b, o, e, hlt, hc _ _ a1, by have := hc _ _ a2; rwa [← Nat.add_assoc] at this, by have := hc _ _ a3; rwa [← Nat.add_assoc] at this⟩
/-- The bytes that have been filled in, ahead of zeros. -/
def fillB (cs : List Tp.Part) (k : Nat) : List Value := (cs.take k).map (fun p => Value.int .u8 p.b.toNat) ++ List.replicate (cs.length - k) (.int .u8 0)
theorem fillB_set {cs : List Tp.Part} {k : Nat} {p : Tp.Part} (h : cs[k]? = some p) : (fillB cs k).set k (.int .u8 p.b.toNat) = fillB cs (k + 1) := by
  have hl : k < cs.length := (List.getElem?_eq_some_iff.1 h).1
  unfold fillB
  rw [List.take_add_one, h, List.map_append, List.append_assoc, List.set_append_right _ _ (by simp; omega)]
  congr 1
  obtain ⟨m, hm⟩ : ∃ m, cs.length - k = m + 1 := ⟨cs.length - k - 1, by omega⟩
  rw [hm, show cs.length - (k + 1) = m by omega, List.length_map, List.length_take, Nat.min_eq_left (by omega), Nat.sub_self, List.replicate_succ, List.set_cons_zero]
  rfl
theorem fillB_at {cs : List Tp.Part} {k : Nat} (h : k < cs.length) : (fillB cs k)[k]? = some (.int .u8 0) := by
  unfold fillB
  rw [List.getElem?_append_right (by simp; omega), List.length_map, List.length_take, Nat.min_eq_left (by omega), Nat.sub_self]
  obtain ⟨m, hm⟩ : ∃ m, cs.length - k = m + 1 := ⟨cs.length - k - 1, by omega⟩
  rw [hm]; rfl
theorem fillB_end (cs : List Tp.Part) : fillB cs cs.length = cs.map (fun p => Value.int .u8 p.b.toNat) := by
  unfold fillB; rw [List.take_length, Nat.sub_self]; simp
theorem made_fillB (cs : List Tp.Part) : (madeCells (Value.int .u8 0).cells (cs.length * 1)).toList = fillB cs 0 := by
  rw [Nat.mul_one, show (Value.int .u8 0).cells = #[.int .u8 0] from rfl, toList_madeCells_one]
  unfold fillB
  simp
theorem logic_len (t : Tp.T) : (Tp.logic t).length = (Tp.chars t).length := by unfold Tp.logic; simp
theorem chars_len (t : Tp.T) : (Tp.chars t).length ≤ t.length := by
  unfold Tp.chars
  have := List.length_filter_le (fun p : Tp.Part => !p.sp) (Tp.parts t 0)
  have := Tp.parts_len _ t 0 (Nat.le_refl _)
  omega

theorem two_new (w : World) (T U : TypeId) (u v : Value) : Bx ((w.alloc (.cells #[u] T)).alloc (.cells #[v] U)) w.heap.size T u ∧ Bx ((w.alloc (.cells #[u] T)).alloc (.cells #[v] U)) (w.heap.size + 1) U v := by
  have h1 := Bx.new w T u
  have h2 := Bx.new (w.alloc (.cells #[u] T)) U v
  rw [World.size_alloc] at h2
  exact ⟨h1.below ((Below.refl _ _).alloc (Nat.le_refl _) _) h1.lt, h2⟩
theorem two_below (w : World) (o p : Obj) : Below w.heap.size w ((w.alloc o).alloc p) := ((Below.refl _ _).alloc (Nat.le_refl _) _).alloc (by simp) _

theorem two_set {w : World} {h : Nat} {T U : TypeId} {u v : Value} (h1 : Bx w h T u) (h2 : Bx w (h + 1) U v) (a b : Value) :
    Bx ((w.setCell ⟨h, 0, none⟩ a).setCell ⟨h + 1, 0, none⟩ b) h T a ∧ Bx ((w.setCell ⟨h, 0, none⟩ a).setCell ⟨h + 1, 0, none⟩ b) (h + 1) U b := by
  have k1 : Bx (w.setCell ⟨h, 0, none⟩ a) (h + 1) U v := (Below.heap_setCell _ _ _ _ (by simp)).trans h2
  exact ⟨(Below.heap_setCell _ _ _ _ (by simp)).trans (h1.set a), k1.set b⟩

/-- What Scan gives. -/
def ScP (t : Tp.T) (w : World) (e : Ending) (w' : World) : Prop := ∃ v, e = .returned (.tuple #[v, .int .i64 (Tp.scan t).2]) ∧ w'.ownsRow w.heap.size 85 5 v (Tp.scan t).1.length (tkcs (Tp.scan t).1) ∧ Below w.heap.size w w'

set_option maxRecDepth 100000 in
set_option maxHeartbeats 4000000 in
theorem Scan_no (t : Tp.T) (w : World) (hl : t.length ≤ 1000000) (h : Tp.chk t ≠ 0) : Calls Tryz.prog 11 #[.string (bs t)] w (ScP t w) := by
  have HS := Lib.hid (Tp.scan_bad h)
  have CH := Lib.hid (fun W => Chars_no t W hl h)
  have HP : ∀ (e : Ending) (w' : World), e = .returned (.tuple #[.slice none 0 0, .int .i64 (Tp.chk t)]) → Below w.heap.size w w' → ScP t w e w' := fun e w' he hb => by
    unfold ScP
    rw [HS.out]
    exact ⟨_, he, World.ownsRow_nil _ _ _ _, hb⟩
  replace HP := Lib.hid HP
  generalize ScP t w = Q at *
  clear HS
  generalize Tp.chk t = c at *
  have hb : (c != 0) = true := by simpa using h
  obtain ⟨z1, z2⟩ := two_new w 39 32 (.slice none 0 0) (.int .i64 0)
  have hbw := two_below w (.cells #[.slice none 0 0] 39) (.cells #[.int .i64 0] 32)
  go_enter Tryz.func11, Tryz.ntmps11
  go_wp2_with (first | (go_at_call 27; (with_reducible refine (CH.out _).mono ?_); rintro e w2 ⟨rfl, hb2⟩; have y1 := z1.below hb2 z1.lt; have y2 := z2.below hb2 z2.lt; have c1 := y1.cell; have c2 := y2.cell; have f1 := y1.frozen; have f2 := y2.frozen; have n1 := y1.lt; have n2 := y2.lt))
  obtain ⟨q1, q2⟩ := two_set y1 y2 (.slice none 0 0) (.int .i64 c)
  have r1 := (q1.below ((Below.refl _ _).alloc (Nat.le_refl _) (.cells #[.slice none 0 0] 73)) q1.lt).cell
  have r2 := (q2.below ((Below.refl _ _).alloc (Nat.le_refl _) (.cells #[.slice none 0 0] 73)) q2.lt).cell
  refine bodyPost_ret (v := .tuple #[.slice none 0 0, .int .i64 c]) (by simp [results, Tryz.results11, go_sem, r1, r2]) rfl (HP.out _ _ rfl ?_)
  exact (((hbw.trans (hb2.mono hbw.size)).setCell (p := ⟨_, 0, none⟩) (Nat.le_refl _) _).setCell (p := ⟨_, 0, none⟩) (by simp) _).alloc (by have := n1; simp [World.setCell]; omega) _

end Go.Proofs.YtffjblamfbmoeaaGreatDoor

/-! A region that draws its order, reads, and ends by a tail in one order: in a round of a range over a function. -/
namespace Go.Proofs.YtffjblamfbmoeaaGreatDoor
open Go Go.RowKit

section
variable {P : Program} {n y : Nat} {ops : Array Oper} {md : Region.Mode} {Q : Exit → Act → World → Prop}

theorem wpIn_of_wp {o : Oper} {a : Act} {w : World} {K : Act → World → Prop} (hd : ∀ c, o.op ≠ .defer c) (h : o.wp P a w K Q) : o.wpIn (Fence.wide.inRound y) n P a w K Q := by
  unfold Oper.wp at h
  unfold Oper.wpIn
  refine ⟨fun _ _ => trivial, ?_⟩
  rw [Oper.semAt_plain _ _ _ hd]
  generalize (execOp a.eval o).run P w = r at *
  cases r with
  | ok x w' =>
    cases x <;> simp only [Oper.upon, Oper.uponIn] at h ⊢
    all_goals first
      | exact h
      | exact h.elim
      | exact ⟨(fun e => by cases e), CallsIn.inRound y (callsIn_wide.2 h)⟩
      | (refine ⟨(fun e => by cases e), ?_⟩
         intro c cs _
         obtain ⟨v, w', hr, hs⟩ := h c cs
         exact ⟨v, w', hr, stepsIn_wide.2 hs⟩)
  | halt x w' => cases x <;> simp only [Oper.upon, Oper.uponIn] at h ⊢ <;> exact h

theorem wpOpIn_of_wpOp {i : Nat} {K : Act → World → Prop} {a : Act} {w : World} (hd : ∀ (i : Nat) (o : Oper), ops[i]? = some o → ∀ c, o.op ≠ .defer c) (hlo : ¬ LetsOut Q) (h : wpOp P ops Q i K a w) : wpOpIn (Fence.wide.inRound y) n P ops Q i K a w := by
  unfold wpOp at h
  unfold wpOpIn
  split
  · next ho => rw [ho] at h; exact h
  · next o ho =>
    rw [ho] at h
    simp only at h
    split
    · next hw =>
      rw [if_pos hw] at h
      exact wpIn_of_wp (hd i o ho) (h.resolve_right (fun e => hlo e.2))
    · next hw =>
      rw [if_neg hw] at h
      exact ⟨fun _ _ => trivial, h⟩

theorem wpAnyIn_of_wpAny (hd : ∀ (i : Nat) (o : Oper), ops[i]? = some o → ∀ c, o.op ≠ .defer c) (hlo : ¬ LetsOut Q) : ∀ (fuel : Nat) (listed : Array Bool) (a : Act) (w : World), wpAny P md ops Q fuel listed a w → wpAnyIn (Fence.wide.inRound y) n P md ops Q fuel listed a w := by
  intro fuel
  induction fuel with
  | zero => intro listed a w h; exact h
  | succ fuel ih =>
    intro listed a w h
    exact ⟨h.1, fun i hi => wpOpIn_of_wpOp hd hlo (wpOp_mono (fun a' w' h' => ih _ a' w' h') (h.2 i hi))⟩
/-- An operation is no defer statement. -/
def noDefer (o : Oper) : Bool := match o.op with
  | .defer _ => false
  | _ => true
theorem noDefer_of {l : List Oper} (h : l.all noDefer = true) : ∀ (i : Nat) (o : Oper), l.toArray[i]? = some o → ∀ c, o.op ≠ .defer c := by
  intro i o ho c e
  simp only [List.getElem?_toArray] at ho
  have := List.all_eq_true.1 h o (List.mem_of_getElem? ho)
  unfold noDefer at this
  rw [e] at this
  cases this

theorem wpIn_round_still_tail {id : Nat} {a : Act} {w : World} {l : List Oper} (k : Nat) (hnd : l.all noDefer = true) (hlo : ¬ LetsOut Q) (hm : P.follows .mixedOrders = true) (hB : Region.lexTailB .any l.toArray k = true)
    (h : wpStill P l.toArray { w with drawn := w.drawn + 1 } (fun a' => wpList P l.toArray Q (l.drop k) a' { w with drawn := w.drawn + 1 }) (l.take k) a) : (Code.region id l.toArray true).wpIn (Fence.wide.inRound y) n P Q a w := by
  simp only [Region.lexTailB, Bool.and_eq_true, decide_eq_true_eq] at hB
  obtain ⟨⟨⟨⟨hsel, hn⟩, hs⟩, hc⟩, hlex⟩ := hB
  have hn' : k < l.length := by simpa using hn
  have htl : (l.take k).length = k := by simp; omega
  have hdl : (l.drop k).length = l.toArray.size - k := by simp
  have inv0 : HeadInv .any l.toArray k (Array.replicate l.toArray.size false) :=
    ⟨by simp, fun j oj _ hl => (by rw [getD_replicate_false] at hl; cases hl), fun t _ ht => getD_in (by simpa using ht) (getD_replicate_false _ _)⟩
  have H := wpAnyL_lex (md := .any) (g := l.toArray.size - k) hsel hs hc hn (l.take k) 0 _ a (fun j hj => by
    have hj' : j < k := by rw [htl] at hj; exact hj
    simp [hj']) (by simpa using htl) inv0 (by rw [htl]; exact hlex) h
  refine wpIn_region_any hm (wpAnyIn_of_wpAny (noDefer_of hnd) hlo _ _ _ _ ?_)
  have := wpAny_of_head (Q' := Q) (g := l.toArray.size - k) (fun listed a' hL => by
    have := wpAny_of_seq (md := .any) (Q' := Q) (l.drop k) k listed a' { w with drawn := w.drawn + 1 } (fun j => by simp [List.getElem?_drop]) (by rw [hdl]; exact hL.1) hL.2
    rwa [hdl] at this) _ _ _ H
  rw [htl, show k + (l.toArray.size - k) = l.toArray.size by omega] at this
  exact this

/-! ### Loads taken first, up to an operation g that waits for all of them: behind g nothing is asked of the world -/
/-- What must have come up ahead of k has come up. -/
def closedB (md : Region.Mode) (ops : Array Oper) (listed : Array Bool) : Bool :=
  (List.range ops.size).all fun k => !(listed.getD k false) || (match ops[k]? with
    | some o => o.after.toList.all fun e => !(Region.binds md e) || listed.getD e.on false
    | none => true)
def Closed (md : Region.Mode) (ops : Array Oper) (listed : Array Bool) : Prop :=
  ∀ (k : Nat) (o : Oper), ops[k]? = some o → listed.getD k false = true → ∀ e ∈ o.after, Region.binds md e = true → listed.getD e.on false = true
theorem closed_of {listed : Array Bool} (h : closedB md ops listed = true) : Closed md ops listed := by
  intro k o ho hk e he hb
  have hks : k < ops.size := (Array.getElem?_eq_some_iff.1 ho).1
  have h1 := List.all_eq_true.1 h k (List.mem_range.2 hks)
  rw [hk, ho] at h1
  simp only [Bool.not_true, Bool.false_or] at h1
  have h2 := List.all_eq_true.1 h1 e (by simpa using he)
  rw [hb] at h2
  simpa using h2
/-- k waits for i, by way of others too. -/
def needsB (md : Region.Mode) (ops : Array Oper) : Nat → Nat → Nat → Bool
  | 0, _, _ => false
  | f + 1, k, i => match ops[k]? with
    | some o => o.after.toList.any fun e => Region.binds md e && (e.on == i || needsB md ops f e.on i)
    | none => false
theorem needs_of {listed : Array Bool} (hc : Closed md ops listed) : ∀ (f k i : Nat), needsB md ops f k i = true → listed.getD k false = true → listed.getD i false = true := by
  intro f
  induction f with
  | zero => intro k i h; cases h
  | succ f ih =>
    intro k i h hk
    rw [needsB] at h
    cases ho : ops[k]? with
    | none => rw [ho] at h; cases h
    | some o =>
      rw [ho] at h
      simp only at h
      obtain ⟨e, he, h2⟩ := List.any_eq_true.1 h
      rw [Bool.and_eq_true, Bool.or_eq_true] at h2
      have h3 := hc k o ho hk e (by simpa using he) h2.1
      rcases h2.2 with h4 | h4
      · rw [← beq_iff_eq.1 h4]; exact h3
      · exact ih _ _ h4 h3
theorem getD_set_self {listed : Array Bool} {i : Nat} (h : listed.getD i true = false) (d : Bool) : (listed.setIfInBounds i true).getD i d = true := by
  have hi : i < listed.size := by
    by_cases hi : i < listed.size
    · exact hi
    · simp [Array.getD, hi] at h
  simp [Array.getD, hi]
theorem getD_set_other {listed : Array Bool} {i k : Nat} (h : i ≠ k) (d : Bool) : (listed.setIfInBounds i true).getD k d = listed.getD k d := by
  by_cases hk : k < listed.size
  · simp [Array.getD, hk, h]
  · simp [Array.getD, hk]
theorem getD_true {listed : Array Bool} {i : Nat} (h : listed.getD i true = false) : listed.getD i false = false := by
  by_cases hi : i < listed.size
  · simpa [Array.getD, hi] using h
  · simp [Array.getD, hi]
theorem Closed.set {listed : Array Bool} {j : Nat} (hc : Closed md ops listed) (hj : j ∈ Region.ready md ops listed) : Closed md ops (listed.setIfInBounds j true) := by
  obtain ⟨hun, oj, hoj, hall⟩ := mem_ready.1 hj
  intro k o ho hk e he hb
  have hlist : listed.getD e.on false = true := by
    by_cases hkj : j = k
    · subst hkj
      rw [hoj] at ho; cases ho
      have h1 := hall e he hb
      by_cases hsz : e.on < listed.size
      · simpa [Array.getD, hsz] using h1
      · simp [Array.getElem?_eq_none (Nat.not_lt.1 hsz)] at h1
    · rw [getD_set_other hkj] at hk
      exact hc k o ho hk e he hb
  by_cases hej : j = e.on
  · rw [← hej]; exact getD_set_self hun _
  · rw [getD_set_other hej]; exact hlist

/-- Whatever order is picked: S holds behind every operation, till g has come up. -/
def wpAnyG (P : Program) (md : Region.Mode) (ops : Array Oper) (Q : Exit → Act → World → Prop) (S : World → Prop) (g : Nat) : Nat → Array Bool → Act → World → Prop
  | 0, listed, a, w => Region.ready md ops listed = [] ∧ Q .normal a w
  | fuel + 1, listed, a, w =>
    (Region.ready md ops listed = [] → Q .normal a w) ∧
    ∀ i ∈ Region.ready md ops listed, wpOp P ops Q i (fun a' w' => ((listed.setIfInBounds i true).getD g false = false → S w') ∧ wpAnyG P md ops Q S g fuel (listed.setIfInBounds i true) a' w') a w
variable {S : World → Prop} {g : Nat}
theorem wpAny_of_G : ∀ (fuel : Nat) (listed : Array Bool) (a : Act) (w : World), wpAnyG P md ops Q S g fuel listed a w → wpAny P md ops Q fuel listed a w
  | 0, _, _, _, h => h
  | fuel + 1, _, _, _, h => ⟨h.1, fun i hi => wpOp_mono (fun a' w' h' => wpAny_of_G fuel _ a' w' h'.2) (h.2 i hi)⟩
theorem getD_mono {listed : Array Bool} {i k : Nat} (h : listed.getD k false = true) : (listed.setIfInBounds i true).getD k false = true := by
  by_cases hik : i = k
  · subst hik
    by_cases hi : i < listed.size
    · simp [Array.getD, hi]
    · simp [Array.getD, hi] at h
  · rw [getD_set_other hik]; exact h
theorem G_of_any : ∀ (fuel : Nat) (listed : Array Bool) (a : Act) (w : World), listed.getD g false = true → wpAny P md ops Q fuel listed a w → wpAnyG P md ops Q S g fuel listed a w
  | 0, _, _, _, _, h => h
  | fuel + 1, listed, _, _, hg, h => ⟨h.1, fun i hi => wpOp_mono (fun a' w' h' => ⟨(fun e => by rw [getD_mono hg] at e; cases e), G_of_any fuel _ a' w' (getD_mono hg) h'⟩) (h.2 i hi)⟩
/-- At g: what follows is walked as ever. -/
theorem G_at {fuel : Nat} {listed : Array Bool} {a : Act} {w : World} (hr : Region.ready md ops listed = [g]) (h : wpAny P md ops Q (fuel + 1) listed a w) : wpAnyG P md ops Q S g (fuel + 1) listed a w := by
  have hun : listed.getD g true = false := (mem_ready.1 (show g ∈ Region.ready md ops listed by rw [hr]; simp)).1
  refine ⟨h.1, fun i hi => ?_⟩
  have hig : i = g := by rw [hr] at hi; simpa using hi
  subst hig
  exact wpOp_mono (fun a' w' h' => ⟨(fun e => by rw [getD_set_self hun] at e; cases e), G_of_any _ _ _ _ (getD_set_self hun _) h'⟩) (h.2 _ hi)
/-- The one operation that may come up. -/
theorem G_one {fuel i : Nat} {o : Oper} {listed : Array Bool} {a : Act} {w : World} (hi : ops[i]? = some o) (hr : Region.ready md ops listed = [i]) (hw : Region.wanted o (yielded ops a.tmps) = true)
    (h : o.wp P a w (fun a' w' => ((listed.setIfInBounds i true).getD g false = false → S w') ∧ wpAnyG P md ops Q S g fuel (listed.setIfInBounds i true) a' w') Q) : wpAnyG P md ops Q S g (fuel + 1) listed a w := by
  refine ⟨fun e => (by rw [hr] at e; cases e), fun j hj => ?_⟩
  have hji : j = i := by rw [hr] at hj; simpa using hj
  subst hji
  unfold wpOp
  rw [hi]
  simp only
  rw [if_pos hw]
  exact .inl h
theorem G_tail {fuel : Nat} {l : List Oper} {listed : Array Bool} {a : Act} {w : World} (hf : (l.drop g).length = fuel + 1) (hr : Region.ready md l.toArray listed = [g]) (hB : Region.seqB md l.toArray (fuel + 1) g listed = true)
    (h : wpList P l.toArray Q (l.drop g) a w) : wpAnyG P md l.toArray Q S g (fuel + 1) listed a w := by
  refine G_at hr ?_
  rw [← hf] at hB ⊢
  exact wpAny_of_seq (l.drop g) g listed a w (fun j => by simp [List.getElem?_drop]) hB h
theorem wpAnyG_first {i : Nat} {oi : Oper} {v : Value} (hi : ops[i]? = some oi) (hsel : ∀ (j : Nat) (o : Oper) cs b, ops[j]? = some o → o.op ≠ .select cs b)
    (hQ : ∀ c a w, Q (.panic c) (a.put oi.dst v) w → Q (.panic c) a w) (f0 : Nat) (hneed : needsB md ops f0 g i = true) (hgi : g ≠ i) :
    ∀ (fuel : Nat) (listed : Array Bool) (a : Act) (w : World), Closed md ops listed →
      (∀ j oj, ops[j]? = some oj → j ≠ i → listed.getD j true = false → (∀ e ∈ oj.after, Region.binds md e = true → e.on ≠ i) → oi.apart ops oj = true) →
      i ∈ Region.ready md ops listed → YieldsIf P ops S oi v a → S w →
      wpAnyG P md ops Q S g fuel (listed.setIfInBounds i true) (a.put oi.dst v) w → wpAnyG P md ops Q S g (fuel + 1) listed a w := by
  intro fuel
  induction fuel with
  | zero =>
    intro listed a w hcl _ hr hy hS H
    refine ⟨fun h => (by rw [h] at hr; cases hr), fun j hj => ?_⟩
    by_cases hji : j = i
    · subst hji; exact hy.wpOp hi hS ⟨fun _ => hS, H⟩
    · have := ready_mono hj hji
      rw [H.1] at this
      cases this
  | succ fuel ih =>
    intro listed a w hcl hfree hr hy hS H
    refine ⟨fun h => (by rw [h] at hr; cases hr), fun j hj => ?_⟩
    by_cases hji : j = i
    · subst hji; exact hy.wpOp hi hS ⟨fun _ => hS, H⟩
    · have h1 := H.2 j (ready_mono hj hji)
      obtain ⟨hjun, oj, hoj, hall⟩ := mem_ready.1 hj
      have hiun := (mem_ready.1 hr).1
      have hnot : ∀ e ∈ oj.after, Region.binds md e = true → e.on ≠ i := fun e he hb heq => by
        have h1 := hall e he hb
        have h0 := hiun
        rw [heq] at h1
        rcases Nat.lt_or_ge i listed.size with h' | h'
        · simp [h'] at h0 h1; rw [h0] at h1; cases h1
        · simp [Array.getElem?_eq_none h'] at h1
      have h2 := wpOp_putIf hoj (hfree j oj hoj hji hjun hnot) (fun cs b => hsel i oi cs b hi) (fun cs b => hsel j oj cs b hoj) hQ hy h1
      have hfree' : ∀ k ok, ops[k]? = some ok → k ≠ i → (listed.setIfInBounds j true).getD k true = false →
          (∀ e ∈ ok.after, Region.binds md e = true → e.on ≠ i) → oi.apart ops ok = true := fun k ok hk hki hun hno => by
        refine hfree k ok hk hki ?_ hno
        by_cases hjk : j = k
        · subst hjk; exact hjun
        · rw [getD_set_other hjk] at hun; exact hun
      have hclj := hcl.set hj
      have hij : (listed.setIfInBounds j true).getD i false = false := by rw [getD_set_other hji]; exact getD_true hiun
      have hgj : (listed.setIfInBounds j true).getD g false = false := by
        cases hg : (listed.setIfInBounds j true).getD g false with
        | false => rfl
        | true => rw [needs_of hclj f0 g i hneed hg] at hij; cases hij
      have hgij : ((listed.setIfInBounds i true).setIfInBounds j true).getD g false = false := by
        rw [Array.setIfInBounds_comm _ _ (Ne.symm hji), getD_set_other (Ne.symm hgi)]; exact hgj
      refine wpOp_mono (fun a' w' h3 => ⟨fun _ => h3.2.1 hgij, ih (listed.setIfInBounds j true) a' w' hclj hfree' (ready_mono hr (Ne.symm hji)) h3.1 (h3.2.1 hgij) ?_⟩) h2
      rw [Array.setIfInBounds_comm _ _ hji]
      exact h3.2.2
theorem wpAnyG_take {i : Nat} {oi : Oper} {v : Value} {fuel : Nat} {listed : Array Bool} {a : Act} {w : World} (hi : ops[i]? = some oi)
    (hs : Region.noSelect ops = true) (hf : Region.free md ops listed i = true) (hr : (Region.ready md ops listed).contains i = true) (hn : needsB md ops 40 g i = true) (hgi : g ≠ i) (hc : closedB md ops listed = true)
    (hQ : ∀ c a w, Q (.panic c) (a.put oi.dst v) w → Q (.panic c) a w) (hy : YieldsIf P ops S oi v a) (hS : S w)
    (h : wpAnyG P md ops Q S g fuel (listed.setIfInBounds i true) (a.put oi.dst v) w) : wpAnyG P md ops Q S g (fuel + 1) listed a w :=
  wpAnyG_first hi (Region.noSelect_spec hs) hQ 40 hn hgi fuel listed a w (closed_of hc) (Region.free_spec hi hf) (by simpa using hr) hy hS h
theorem wpIn_round_G {id : Nat} {a : Act} {w : World} {l : List Oper} (S : World → Prop) (g : Nat) (hnd : l.all noDefer = true) (hlo : ¬ LetsOut Q) (hm : P.follows .mixedOrders = true)
    (hS : S w.drew) (h : S w.drew → wpAnyG P .any l.toArray Q S g l.toArray.size (Array.replicate l.toArray.size false) a w.drew) : (Code.region id l.toArray true).wpIn (Fence.wide.inRound y) n P Q a w :=
  wpIn_region_any hm (wpAnyIn_of_wpAny (noDefer_of hnd) hlo _ _ _ _ (wpAny_of_G _ _ _ _ (h hS)))
end

end Go.Proofs.YtffjblamfbmoeaaGreatDoor

/-! Walks: a text's tokens. -/
set_option linter.unusedVariables false
set_option linter.unusedSimpArgs false
namespace Go.Proofs.YtffjblamfbmoeaaGreatDoor
open Go Go.RowKit
attribute [local go_sem] Oper.semAt_some

/-- The slots in a round of Scan. -/
def scT (t l : Tp.T) (h q m k cap : Nat) (A : Option Addr) (u7 u8 u30 u31 u32 u33 u34 u35 u36 u37 u38 p12 e13 v43 v44 : Value) : Array Value :=
  #[.string (bs t), undef, .pointer (some ⟨h, 0, none⟩), .pointer (some ⟨h + 1, 0, none⟩), .pointer (some ⟨q, 0, none⟩), .int .i64 0, .slice (some ⟨q + 1, 0, none⟩) k k, u7, u8, .pointer (some ⟨m, 0, none⟩), .pointer (some ⟨m + 1, 0, none⟩), .pointer (some ⟨m + 1 + 1, 0, none⟩), p12, e13, undef,
    .tuple #[.slice A k cap, .int .i64 0], .string (bs t), .tuple #[.slice A k cap, .int .i64 0], .slice A k cap, .int .i64 0, .int .i64 0, .bool false, undef, .slice A k cap, .int .i64 k, .slice (some ⟨q + 1, 0, none⟩) k k, .slice A k cap, .int .i64 k, .int .i64 k, .bool false, u30, u31, u32, u33, u34, u35, u36, u37, u38,
    .slice (some ⟨q + 1, 0, none⟩) k k, .string (bs l), .string (bs l), .func (.func 53) #[] #[.pointer (some ⟨m + 1 + 1 + 1, 0, none⟩)], v43, v44, undef, undef, undef, undef, undef, undef, undef, undef, undef, undef, undef, undef, undef, undef, undef, undef, undef, undef, undef, undef, undef, undef, undef, undef, undef, undef, undef, undef, undef, undef, undef, undef, undef, undef, undef, undef, undef, undef, undef]
theorem own_ne_ty {w : World} {b1 b2 e1 e2 s1 s2 n1 n2 : Nat} {v1 v2 : Value} {x1 x2 : List Value} (h1 : w.ownsRow b1 e1 s1 v1 n1 x1) (h2 : w.ownsRow b2 e2 s2 v2 n2 x2) (h : e1 ≠ e2) : v1.ownBlock = none ∨ v1.ownBlock ≠ v2.ownBlock := by
  rcases h1.2 with ⟨rfl, _⟩ | ⟨g1, c1, u1, rfl, _, g1h, _⟩
  · exact .inl rfl
  rcases h2.2 with ⟨rfl, _⟩ | ⟨g2, c2, u2, rfl, _, g2h, _⟩
  · exact .inr (by simp [Value.ownBlock])
  right
  simp only [Value.ownBlock, ne_eq, Option.some.injEq]
  rintro rfl
  rw [g1h] at g2h
  simp only [Option.some.injEq, Obj.cells.injEq] at g2h
  exact h g2h.2.1
theorem keepsO_below {W W' : World} (h : Below W.heap.size W W') : KeepsOthers W W' := ⟨h.size, fun k o e _ => (h.block k (Array.getElem?_eq_some_iff.1 e).1).trans e⟩
theorem keeps_own {W W' : World} {base e sz n : Nat} {v : Value} {xs : List Value} (h : W.ownsRow base e sz v n xs) (hg : W.grownBy W' v.ownBlock) : KeepsOthers W W' := by
  refine KeepsOthers.of_grownBy hg (fun j o' hj ho' => ?_)
  rcases h.2 with ⟨rfl, _⟩ | ⟨g, cap, cur, rfl, _, hg', _⟩
  · simp [Value.ownBlock] at hj
  · simp only [Value.ownBlock, Option.some.injEq] at hj
    subst hj
    rw [hg'] at ho'; cases ho'; rfl

/-- What holds between the rounds of Scan: m: the block of the logical text, q: that of the characters. -/
def ScI (w : World) (cs : List Tp.Part) (l : Tp.T) (A : Option Addr) (k cap q m : Nat) (pre : List (Tp.It × Int)) (W : World) : Prop :=
  Bx W w.heap.size 39 (.slice none 0 0) ∧ Bx W (w.heap.size + 1) 32 (.int .i64 0) ∧ Bx W q 73 (.slice A k cap) ∧ W.ownsRow w.heap.size 78 3 (.slice A k cap) k (chcs cs) ∧ Bx W m 9 (.string (bs l)) ∧
  (∃ v, Bx W (m + 1) 39 v ∧ W.ownsRow w.heap.size 85 5 v pre.length (tkcs (Tp.tkL cs l 0 pre))) ∧ Bx W (m + 2) 3 (.int .i64 (Tp.bhd 0 pre : Nat)) ∧ (∀ x ∈ pre, x.2 = 0) ∧ Below w.heap.size w W ∧ m + 4 ≤ W.heap.size ∧ w.heap.size + 2 ≤ q ∧ q + 1 < m
theorem ScI.put {w W : World} {cs : List Tp.Part} {l : Tp.T} {A : Option Addr} {k cap q m : Nat} {pre : List (Tp.It × Int)} {z : Nat} {o : Obj} (h : ScI w cs l A k cap q m pre W) (o' : Obj) (hw : m + 4 ≤ z) (hl : W.heap[z]? = some o) (ho : o.isCells = false) : ScI w cs l A k cap q m pre (W.putObj z o') := by
  obtain ⟨h1, h2, h3, h4, h5, ⟨v, h6, h7⟩, h8, h9, h10, h11, h12, h13⟩ := h
  exact ⟨h1.put' o' hl ho, h2.put' o' hl ho, h3.put' o' hl ho, h4.kept (grownBy_putObj' W z o') (.inr (own_ne_obj h4 hl ho)), h5.put' o' hl ho, ⟨v, h6.put' o' hl ho, h7.kept (grownBy_putObj' W z o') (.inr (own_ne_obj h7 hl ho))⟩, h8.put' o' hl ho, h9, below_put h10 o' (by omega), by simpa using h11, h12, h13⟩
theorem ScI.later {w W W' : World} {cs : List Tp.Part} {l : Tp.T} {A : Option Addr} {k cap q m : Nat} {pre : List (Tp.It × Int)} (h : ScI w cs l A k cap q m pre W) (hb : Below W.heap.size W W') : ScI w cs l A k cap q m pre W' := by
  obtain ⟨h1, h2, h3, h4, h5, ⟨v, h6, h7⟩, h8, h9, h10, h11, h12, h13⟩ := h
  exact ⟨h1.below hb h1.lt, h2.below hb h2.lt, h3.below hb h3.lt, own_later h4 hb, h5.below hb h5.lt, ⟨v, h6.below hb h6.lt, own_later h7 hb⟩, h8.below hb h8.lt, h9, h10.trans (hb.mono h10.size), Nat.le_trans h11 hb.size, h12, h13⟩
def ScX (w : World) (cs : List Tp.Part) (l : Tp.T) (c : Code) (pre : List (Tp.It × Int)) (W : World) : Prop :=
  c = .ret ∧ ∃ err, Tp.toks cs l 0 (Tp.itemsA l 0 0) = ([], err) ∧ Bx W w.heap.size 39 (.slice none 0 0) ∧ Bx W (w.heap.size + 1) 32 (.int .i64 err) ∧ Below w.heap.size w W

set_option maxRecDepth 100000 in
set_option maxHeartbeats 8000000 in
theorem Scan_yes (t : Tp.T) (w : World) (hl : t.length ≤ 1000000) (h : Tp.chk t = 0) (hmx : MX w) : Calls Tryz.prog 11 #[.string (bs t)] w (ScP t w) := by
  obtain ⟨i0, hi, hz0, hz1, hz2⟩ := info_parts toInfo
  obtain ⟨j0, hj, hy0, hy1, hy2⟩ := info_parts u8Info
  have HSC := Lib.hid (Tp.scan_ok h)
  have CH := Lib.hid (fun W => Chars_yes t W hl h)
  have hcl := chars_len t
  have hll := logic_len t
  have HLG := Lib.hid (show Tp.logic t = (Tp.chars t).map (·.b) from rfl)
  obtain ⟨cs, hcs⟩ : ∃ cs, Tp.chars t = cs := ⟨_, rfl⟩
  obtain ⟨l, hlg⟩ : ∃ l, Tp.logic t = l := ⟨_, rfl⟩
  have HSA := Lib.hid (show Tp.scan t = Tp.toks cs l 0 (Tp.itemsA l 0 0) by rw [HSC.out]; unfold Tp.scanA; rw [hcs, hlg])
  rw [hcs] at CH hcl hll HLG
  rw [hlg] at hll HLG
  have HCS := Lib.hid (show ∀ p ∈ Tp.chars t, p ∈ Tp.parts t 0 from fun p hp => (List.mem_filter.1 hp).1)
  rw [hcs] at HCS
  clear HSC hcs hlg
  obtain ⟨n, hn⟩ : ∃ n, cs.length = n := ⟨_, rfl⟩
  rw [hn] at CH hcl hll
  obtain ⟨z1, z2⟩ := two_new w 39 32 (.slice none 0 0) (.int .i64 0)
  have hbw := two_below w (.cells #[.slice none 0 0] 39) (.cells #[.int .i64 0] 32)
  have hsw : ((w.alloc (.cells #[.slice none 0 0] 39)).alloc (.cells #[.int .i64 0] 32)).heap.size = w.heap.size + 2 := by simp
  have IT := Lib.hid (fun W => items_any (bs l) W)
  have HN := Lib.hid hn
  have hmf := made_fillB cs
  rw [hn] at hmf
  have HMF := Lib.hid hmf
  clear hn h hmf
  refine callsIn_wide (n := 5) |>.1 ?_
  refine callsIn_of_wp_marks Tryz.func11 rfl trivial ?_ rfl
  simp only [Tryz.ntmps11, List.size_toArray, List.length_cons, List.length_nil, Nat.reduceAdd, Nat.reduceSub, Array.replicate_succ, Array.replicate_zero, List.push_toArray, List.append_toArray, List.nil_append, List.cons_append]
  refine wpIn_wide.2 ?_
  go_wp2_with (first
    | (go_at_call 27; (with_reducible refine (CH.out _).mono ?_); rintro e w2 ⟨v, rfl, hown, hb2⟩; obtain ⟨A, cap, rfl, _, _⟩ := own_form hown)
    | (at_make; refine wpList_make_full _ rfl _ _ 76 rfl w2.heap.size 5 j0 _ 1 Tryz.underlying76 hj hy0 hy1 .i64 .i64 n n n rfl rfl rfl rfl (by rw [hy2]; omega) (by unfold maxLen; omega) (by simp) ?_; intro w3 hown3 hgrow3; rw [HMF.out] at hown3; have x2 := Bx.new w2 73 (.slice A n cap); have b3 : Below (w2.heap.size + 1) (w2.alloc (.cells #[.slice A n cap] 73)) w3 := (Below.refl _ _).grown hgrow3 (by simp) (fun k e => by cases e); have x3 := x2.below b3 (by omega); have c3 := x3.cell))
  have W2 : Below w.heap.size w w2 := hbw.trans (hb2.mono hbw.size)
  have hs3 := (hown3.lt _ rfl).2
  simp only [World.size_alloc] at hs3 hown3
  have y1 := (((z1.below hb2 z1.lt).below ((Below.refl _ _).alloc (Nat.le_refl _) (.cells #[.slice A n cap] 73)) (z1.below hb2 z1.lt).lt)).below b3 (by have := (z1.below hb2 z1.lt).lt; omega)
  have y2 := (((z2.below hb2 z2.lt).below ((Below.refl _ _).alloc (Nat.le_refl _) (.cells #[.slice A n cap] 73)) (z2.below hb2 z2.lt).lt)).below b3 (by have := (z2.below hb2 z2.lt).lt; omega)
  have R2 := Rd.of_own hown
  have O2 := own_base hown (show w.heap.size ≤ _ by rw [hsw]; omega)
  have b23 : Below w2.heap.size w2 w3 := ((Below.refl _ _).alloc (Nat.le_refl _) (.cells #[.slice A n cap] 73)).trans (b3.mono (by omega))
  have W3 : Below w.heap.size w w3 := W2.trans (b23.mono W2.size)
  have hq2 : w.heap.size + 2 ≤ w2.heap.size := by have := hb2.size; rw [hsw] at this; exact this
  clear x2 b3 hown hb2 hgrow3 z1 z2 hbw hsw CH c3
  generalize hq : w2.heap.size = q at *
  have HQ := Lib.hid hq
  clear hq
  go_loopw [7, 8, 28] (fun _ _ c wr => ∃ k : Nat, k ≤ n ∧ c = .int .i64 k ∧ wr.ownsRow q 5 1 (.slice (some ⟨q + 1, 0, none⟩) n n) n (fillB cs k) ∧ Below (q + 1) w3 wr) (fun _ _ c _ => n - (intOf c).toNat)
  case atStart => exact ⟨0, Nat.zero_le _, rfl, hown3, Below.refl _ _⟩
  case round =>
    obtain ⟨k, hk, rfl, hrow, hbr⟩ := hrel
    obtain ⟨wq, rfl⟩ : ∃ wq : World, wq = wr := ⟨_, rfl⟩
    by_cases hkn : k < n
    · obtain ⟨p, hkc⟩ : ∃ p, cs[k]? = some p := ⟨_, List.getElem?_eq_getElem (by rw [HN.out]; exact hkn)⟩
      have HF := Lib.hid (fillB_set hkc)
      obtain ⟨cb, co, rfl, hcb, d0, d1, d2⟩ := (R2.below (Nat.le_of_eq HQ.out) (b23.trans (hbr.mono (by omega)))).ch hkc
      have e1 := hrow.frozenAt k
      have e2 := hrow.cellAt k (by omega)
      rw [fillB_at (by rw [HN.out]; exact hkn)] at e2
      have hlt := (hrow.lt (q + 1) rfl).2
      have HR := Lib.hid hrow
      clear hkc hrow
      go_wp2
      go_roundw
      case rel => exact ⟨k + 1, by omega, by go_num, by rw [← HF.out]; exact (HR.out.stored k _).1.alloc _, (hbr.setCell (p := ⟨q + 1, k, none⟩) (Nat.le_refl _) _).alloc (by simp [World.setCell]; omega) _⟩
      case measure => simp [intOf]; omega
    · obtain rfl : k = n := by omega
      have hbq := b23.trans (hbr.mono (by omega))
      have hlt := (hrow.lt (q + 1) rfl).2
      have hbl : (bs l).size = k := by rw [bs_size]; exact hll
      have hby : Lib.Bytes wq (q + 1) 0 (bs l) := fun i hi => by
        have hik : i < k := by omega
        have h1 := hrow.cellAt i (by omega)
        rw [← HN.out, fillB_end, List.getElem?_map] at h1
        have h2 := ba_getT (bs l) i hi
        obtain ⟨p, hp⟩ : ∃ p, cs[i]? = some p := ⟨_, List.getElem?_eq_getElem (by rw [HN.out]; exact hik)⟩
        have h3 : l[i]? = some p.b := by rw [HLG.out, List.getElem?_map, hp]; rfl
        rw [bs_data, h3] at h2
        rw [hp] at h1
        simp only [Option.map_some, Option.some.injEq] at h1 h2
        rw [Nat.zero_add, h1, h2]
      have hcv := Lib.run_convert_whole (P := Tryz.prog) wq 76 5 9 Tryz.underlying76 Tryz.underlying5 Tryz.underlying9 (q + 1) 0 (bs l) hby k
      rw [hbl] at hcv
      clear hby
      go_wp2_with (first | (go_at_call 28; (with_reducible refine (IT.out _).mono ?_); rintro e w5 ⟨rfl, rfl⟩))
      obtain ⟨m, hm⟩ : ∃ m, wq.heap.size = m := ⟨_, rfl⟩
      have Wq : Below w.heap.size w wq := W2.trans (hbq.mono (by omega))
      obtain ⟨wB, hwB⟩ : ∃ wB, ((((wq.alloc (.cells #[.string (bs l)] 9)).alloc (.cells #[.slice none 0 0] 39)).alloc (.cells #[.int .i64 0] 3)).alloc (.cells #[.string (bs l)] 9)) = wB := ⟨_, rfl⟩
      have hb4 : Below wq.heap.size wq wB := by rw [← hwB]; exact ((((Below.refl _ _).alloc (Nat.le_refl _) _).alloc (by simp) _).alloc (by simp; omega) _).alloc (by simp; omega) _
      have hsB : wB.heap.size = m + 4 := by rw [← hwB, ← hm]; simp
      have P4 : Bx wB (m + 3) 9 (.string (bs l)) := by
        rw [← hwB, ← hm]
        have h1 := Bx.new (((wq.alloc (.cells #[.string (bs l)] 9)).alloc (.cells #[.slice none 0 0] 39)).alloc (.cells #[.int .i64 0] 3)) 9 (.string (bs l))
        simpa using h1
      have I0 : ScI w cs l A k cap q m [] wB := by
        have c1 := Bx.new wq 9 (.string (bs l))
        have c2 := Bx.new (wq.alloc (.cells #[.string (bs l)] 9)) 39 (.slice none 0 0)
        have c3 := Bx.new ((wq.alloc (.cells #[.string (bs l)] 9)).alloc (.cells #[.slice none 0 0] 39)) 3 (.int .i64 0)
        simp only [World.size_alloc, hm] at c1 c2 c3
        have v1 := ((c1.below ((Below.refl _ _).alloc (Nat.le_refl _) (.cells #[.slice none 0 0] 39)) c1.lt).below ((Below.refl _ _).alloc (Nat.le_refl _) (.cells #[.int .i64 0] 3)) (by simp; omega)).below ((Below.refl _ _).alloc (Nat.le_refl _) (.cells #[.string (bs l)] 9)) (by simp; omega)
        have v2 := (c2.below ((Below.refl _ _).alloc (Nat.le_refl _) (.cells #[.int .i64 0] 3)) c2.lt).below ((Below.refl _ _).alloc (Nat.le_refl _) (.cells #[.string (bs l)] 9)) (by simp; omega)
        have v3 := c3.below ((Below.refl _ _).alloc (Nat.le_refl _) (.cells #[.string (bs l)] 9)) c3.lt
        rw [hwB] at v1 v2 v3
        have b4 := hb4
        have hq1 : q + 1 < m := by omega
        exact ⟨((y1.below hbr (by omega)).below hb4 (by omega)), ((y2.below hbr (by omega)).below hb4 (by omega)), ((x3.below hbr (by omega)).below hb4 (by omega)), (own_later O2 (by rw [HQ.out]; exact hbq.trans (hb4.mono (by omega)))), v1, ⟨_, v2, World.ownsRow_nil _ _ _ _⟩, v3, by simp, Wq.trans (hb4.mono Wq.size), by omega, hq2, hq1⟩
      rw [hwB, hm]
      have hB := hb4.size
      have hMB : MX wB := hmx.later (Wq.trans (hb4.mono Wq.size))
      have h0 := hmx.lt
      have hm0 : 0 < m := by omega
      have hqm : q + 1 < m := by omega
      have hkl : k ≤ 1000000 := by omega
      clear hwB hb4 Wq hrow hown3 y1 y2 x3 R2 O2 b23 hbr hbq HQ hcv hs3 hlt W3 W2 hm HMF hB
      refine (wpIn_wide (n := 5)).1 ?_
      refine rangeLaw2 (gf := 53) (lb := #[.pointer (some ⟨m + 1 + 1 + 1, 0, none⟩)]) rfl (enters_of Tryz.func53 (by kernel_rfl) rfl)
        (fun W1 hs1 hbb => items1_seq (5 - 1) (m + 1 + 1 + 1) l W1 (by omega) (P4.below hbb P4.lt) (hMB.later hbb))
        (fun X Y z o hg hk ho _ => (hg.block z (Array.getElem?_eq_some_iff.1 ho).1).trans ho)
        (fun h1 h2 => h1.trans h2) (fun W z o o' hl ho hc _ => KpZ.put W z o o' (by rw [hsB] at hl; omega) ho hc) (fun _ => rfl)
        (ScI w cs l A k cap q m) (ScX w cs l)
        (fun pre X Y h hg => h.later hg)
        (fun pre W z o o' h hl ho hc => h.put o' (by rw [hsB] at hl; omega) ho hc)
        (fun c pre W z o o' ⟨h1, er, h2, h3, h4, h5⟩ hl ho hc => ⟨h1, er, h2, h3.put' o' ho hc, h4.put' o' ho hc, below_put h5 o' (by rw [hsB] at hl; omega)⟩)
        (fun W1 hs1 hbb => I0.later hbb)
        (fun pre x a' W => ∃ P, a' = { tmps := scT t l w.heap.size q m k cap A u7 u8 u30 u31 u32 u33 u34 u35 u36 u37 u38 (.pointer (some ⟨P, 0, none⟩)) (.int .i64 x.2) (itV x.1) (.int .i64 x.2), defers := [] } ∧ Ib W P x.1 ∧ ScI w cs l A k cap q m pre W)
        (fun pre x a' W z o o' ⟨P, h0, he, h1⟩ hl ho hc => ⟨P, h0, he.put o' ho hc, h1.put o' (by rw [hsB] at hl; omega) ho hc⟩) ?assign ?body ?done ?stop
      case assign =>
        intro y pre x W K hi hgo hsz hK
        have hW0 : 0 < W.heap.size := by omega
        have HK := Lib.hid (hK _ (W.alloc (.cells #[.int .i64 x.1.k, .int .i64 x.1.f, .int .i64 x.1.t] 83)) ((KeepsOthers.alloc W _).from _) (KpZ.below ((Below.refl _ _).alloc (Nat.le_refl _) _) hW0)
          ⟨_, rfl, Ib.new W x.1, hi.later ((Below.refl _ _).alloc (Nat.le_refl _) _)⟩)
        unfold scT itV at HK
        simp only [itA, itV]
        clear hK hi
        gi_wp2
        exact HK.out
      case body =>
        rintro y pre x a' W ⟨P, rfl, hP, hI⟩ hgo hsz
        have HII := Lib.hid hI
        obtain ⟨h1, h2, h3, h4, h5, ⟨v, h6, h7⟩, h8, h9, h10, h11, h12, h13⟩ := hI
        unfold scT
        by_cases hx0 : x.2 = 0
        · obtain ⟨⟨ik, jf, jt⟩, ie⟩ := x
          simp only at hx0
          subst hx0
          have hxm := hgo.subset (show (((⟨ik, jf, jt⟩ : Tp.It), (0 : Int)) : Tp.It × Int) ∈ pre ++ [(⟨ik, jf, jt⟩, 0)] by simp)
          obtain ⟨_, g1, g2⟩ := Tp.items_mem _ l 0 0 _ (Nat.le_refl _) hxm rfl
          simp only at g1 g2
          obtain ⟨j2, rfl⟩ : ∃ j, jt = j + 1 := ⟨jt - 1, by omega⟩
          obtain ⟨pf, hpf⟩ : ∃ p, cs[jf]? = some p := ⟨_, List.getElem?_eq_getElem (by rw [HN.out]; omega)⟩
          obtain ⟨pd, hpd⟩ : ∃ p, cs[j2]? = some p := ⟨_, List.getElem?_eq_getElem (by rw [HN.out]; omega)⟩
          have h4r := Rd.of_own h4
          obtain ⟨cb, co, rfl, hcb, d0, d1, d2⟩ := h4r.ch hpd
          obtain ⟨cb', co', e', hcb', f0, f1, f2⟩ := h4r.ch hpf
          simp only [Option.some.injEq, Addr.mk.injEq, and_true] at e'
          obtain ⟨rfl, rfl⟩ := e'
          obtain ⟨i0c, i1c, i2c⟩ := hP.cells
          simp only at i0c i1c i2c
          have c3 := h3.cell
          have c5 := h5.cell
          have c6 := h6.cell
          have c8 : W.cell? ⟨m + 1 + 1, 0, none⟩ = some (.int .i64 (Tp.bhd 0 pre : Nat)) := h8.cell
          have w1 := h3.lt
          have w2 := h5.lt
          have w3 := h6.lt
          have w4 := h8.lt
          have w5 := hP.lt
          have hpb := Tp.parts_mem _ t 0 pd (Nat.le_refl _) (HCS.out pd (List.mem_of_getElem? hpd))
          have hsub : (bs l).extract jf (j2 + 1) = bs ((l.take (j2 + 1)).drop jf) := by
            have := bs_sub l jf (j2 + 1 - jf)
            rw [show jf + (j2 + 1 - jf) = j2 + 1 by omega] at this
            rw [this, List.drop_take]
          have HTS := Lib.hid (Tp.tkL_snoc cs l 0 pre (⟨ik, jf, j2 + 1⟩, 0))
          have HTT := Lib.hid (show Tp.tok cs l (Tp.bhd 0 pre) ⟨ik, jf, j2 + 1⟩ = ⟨ik, (l.take (j2 + 1)).drop jf, pf.at_, pd.at_ + pd.len, decide (Tp.bhd 0 pre < jf)⟩ by
            unfold Tp.tok
            simp only [Nat.add_sub_cancel, List.getD_eq_getElem?_getD, hpf, hpd, Option.getD_some])
          have HBS := Lib.hid (Tp.bhd_snoc 0 pre (⟨ik, jf, j2 + 1⟩, 0))
          have hpl : pre.length + 1 ≤ 1000000 := by
            have e1 := hgo.length_le
            have e2 := Tp.items_len _ l 0 0 (Nat.le_refl _)
            simp at e1; omega
          generalize Tp.bhd 0 pre = bh at *
          clear hgo hxm
          gi_wp2
          have dA := (Below.refl W.heap.size W).alloc (Nat.le_refl _) (.cells #[.int .u8 pd.b.toNat, .int .i64 pd.at_, .int .i64 pd.len] 78)
          have hla := heap_alloc_new W (.cells #[.int .u8 pd.b.toNat, .int .i64 pd.at_, .int .i64 pd.len] 78)
          have l1 := Lib.cell_of_heap hla 1
          have l2 := Lib.cell_of_heap hla 2
          simp only [List.getElem?_toArray, List.getElem?_cons_zero, List.getElem?_cons_succ] at l1 l2
          have hWs : (W.alloc (.cells #[.int .u8 pd.b.toNat, .int .i64 pd.at_, .int .i64 pd.len] 78)).heap.size = W.heap.size + 1 := by simp
          have k3 := (h3.below dA h3.lt).cell
          have k5 := (h5.below dA h5.lt).cell
          have k6 := (h6.below dA h6.lt).cell
          have k8 : (W.alloc (.cells #[.int .u8 pd.b.toNat, .int .i64 pd.at_, .int .i64 pd.len] 78)).cell? ⟨m + 1 + 1, 0, none⟩ = some (.int .i64 bh) := (h8.below dA h8.lt).cell
          obtain ⟨ki0, ki1, ki2⟩ := (hP.below dA hP.lt).cells
          simp only at ki0 ki1 ki2
          have kf1 := (dA.cell (p := ⟨cb, co + jf * 3 + 1, none⟩) hcb).trans f1
          have q1 : IntKind.i64.wrap ((pd.at_ : Int) + (pd.len : Int)) = (pd.at_ : Int) + (pd.len : Int) := IntWalk.i64_in _ (by omega)
          generalize (W.alloc (.cells #[.int .u8 pd.b.toNat, .int .i64 pd.at_, .int .i64 pd.len] 78)) = Wd at *
          have b1 : (0 : Int) ≤ (j2 : Int) + 1 := by omega
          have b2 : (j2 : Int) + 1 ≤ (k : Int) := by omega
          have b3 : (jf : Int) ≤ (j2 : Int) + 1 := by omega
          have b4 : jf < k := by omega
          have b4I : (jf : Int) < (k : Int) := by omega
          refine wpIn_round_G (fun w' => w'.cell? ⟨m + 1, 0, none⟩ = some v ∧ w'.cell? ⟨P, 0, none⟩ = some (.int .i64 ik) ∧ w'.cell? ⟨P, 1, none⟩ = some (.int .i64 jf) ∧ w'.cell? ⟨P, 2, none⟩ = some (.int .i64 (j2 + 1 : Nat)) ∧ w'.cell? ⟨m, 0, none⟩ = some (.string (bs l)) ∧ w'.cell? ⟨q, 0, none⟩ = some (.slice (some ⟨cb, co, none⟩) k cap) ∧ w'.cell? ⟨cb, co + jf * 3 + 1, none⟩ = some (.int .i64 pf.at_) ∧ w'.cell? ⟨W.heap.size, 1, none⟩ = some (.int .i64 pd.at_) ∧ w'.cell? ⟨W.heap.size, 2, none⟩ = some (.int .i64 pd.len) ∧ w'.cell? ⟨m + 1 + 1, 0, none⟩ = some (.int .i64 bh)) 26 (by kernel_rfl) (by rintro ⟨a', w', h⟩; exact h) (by kernel_rfl) ⟨k6, ki0, ki1, ki2, k5, k3, kf1, l1, l2, k8⟩ (fun hHeld => ?_)
          refine wpAnyG_take (i := 0) (v := ?_) rfl (by kernel_rfl) (by kernel_rfl) (by kernel_rfl) (by kernel_rfl) (by decide) (by kernel_rfl) (fun _ _ _ h => h) (Or.inl ⟨by rfl, ?_⟩) (by assumption) ?_
          rotate_left
          · intro w hSw
            (try dsimp only at hSw)
            go_simp
            all_goals (with_reducible rfl)
          try simp only [List.getElem_toArray, List.getElem_cons_succ, List.getElem_cons_zero, Act.put, List.setIfInBounds_toArray, List.set_cons_zero, List.set_cons_succ]
          refine wpAnyG_take (i := 1) (v := ?_) rfl (by kernel_rfl) (by kernel_rfl) (by kernel_rfl) (by kernel_rfl) (by decide) (by kernel_rfl) (fun _ _ _ h => h) (Or.inl ⟨by rfl, ?_⟩) (by assumption) ?_
          rotate_left
          · intro w hSw
            (try dsimp only at hSw)
            go_simp
            all_goals (with_reducible rfl)
          try simp only [List.getElem_toArray, List.getElem_cons_succ, List.getElem_cons_zero, Act.put, List.setIfInBounds_toArray, List.set_cons_zero, List.set_cons_succ]
          refine wpAnyG_take (i := 2) (v := ?_) rfl (by kernel_rfl) (by kernel_rfl) (by kernel_rfl) (by kernel_rfl) (by decide) (by kernel_rfl) (fun _ _ _ h => h) (Or.inl ⟨by rfl, ?_⟩) (by assumption) ?_
          rotate_left
          · intro w hSw
            (try dsimp only at hSw)
            go_simp
            all_goals (with_reducible rfl)
          try simp only [List.getElem_toArray, List.getElem_cons_succ, List.getElem_cons_zero, Act.put, List.setIfInBounds_toArray, List.set_cons_zero, List.set_cons_succ]
          refine wpAnyG_take (i := 3) (v := ?_) rfl (by kernel_rfl) (by kernel_rfl) (by kernel_rfl) (by kernel_rfl) (by decide) (by kernel_rfl) (fun _ _ _ h => h) (Or.inl ⟨by rfl, ?_⟩) (by assumption) ?_
          rotate_left
          · intro w hSw
            (try dsimp only at hSw)
            go_simp
            all_goals (with_reducible rfl)
          try simp only [List.getElem_toArray, List.getElem_cons_succ, List.getElem_cons_zero, Act.put, List.setIfInBounds_toArray, List.set_cons_zero, List.set_cons_succ]
          refine wpAnyG_take (i := 4) (v := ?_) rfl (by kernel_rfl) (by kernel_rfl) (by kernel_rfl) (by kernel_rfl) (by decide) (by kernel_rfl) (fun _ _ _ h => h) (Or.inl ⟨by rfl, ?_⟩) (by assumption) ?_
          rotate_left
          · intro w hSw
            (try dsimp only at hSw)
            go_simp
            all_goals (with_reducible rfl)
          try simp only [List.getElem_toArray, List.getElem_cons_succ, List.getElem_cons_zero, Act.put, List.setIfInBounds_toArray, List.set_cons_zero, List.set_cons_succ]
          refine wpAnyG_take (i := 5) (v := ?_) rfl (by kernel_rfl) (by kernel_rfl) (by kernel_rfl) (by kernel_rfl) (by decide) (by kernel_rfl) (fun _ _ _ h => h) (Or.inl ⟨by rfl, ?_⟩) (by assumption) ?_
          rotate_left
          · intro w hSw
            (try dsimp only at hSw)
            go_simp
            all_goals (with_reducible rfl)
          try simp only [List.getElem_toArray, List.getElem_cons_succ, List.getElem_cons_zero, Act.put, List.setIfInBounds_toArray, List.set_cons_zero, List.set_cons_succ]
          refine wpAnyG_take (i := 6) (v := ?_) rfl (by kernel_rfl) (by kernel_rfl) (by kernel_rfl) (by kernel_rfl) (by decide) (by kernel_rfl) (fun _ _ _ h => h) (Or.inl ⟨by rfl, ?_⟩) (by assumption) ?_
          rotate_left
          · intro w hSw
            (try dsimp only at hSw)
            go_simp
            all_goals (with_reducible rfl)
          try simp only [List.getElem_toArray, List.getElem_cons_succ, List.getElem_cons_zero, Act.put, List.setIfInBounds_toArray, List.set_cons_zero, List.set_cons_succ]
          refine wpAnyG_take (i := 7) (v := ?_) rfl (by kernel_rfl) (by kernel_rfl) (by kernel_rfl) (by kernel_rfl) (by decide) (by kernel_rfl) (fun _ _ _ h => h) (Or.inl ⟨by rfl, ?_⟩) (by assumption) ?_
          rotate_left
          · intro w hSw
            (try dsimp only at hSw)
            go_simp
            all_goals (with_reducible rfl)
          try simp only [List.getElem_toArray, List.getElem_cons_succ, List.getElem_cons_zero, Act.put, List.setIfInBounds_toArray, List.set_cons_zero, List.set_cons_succ]
          refine wpAnyG_take (i := 8) (v := ?_) rfl (by kernel_rfl) (by kernel_rfl) (by kernel_rfl) (by kernel_rfl) (by decide) (by kernel_rfl) (fun _ _ _ h => h) (Or.inl ⟨by rfl, ?_⟩) (by assumption) ?_
          rotate_left
          · intro w hSw
            (try dsimp only at hSw)
            go_simp
            all_goals (with_reducible rfl)
          try simp only [List.getElem_toArray, List.getElem_cons_succ, List.getElem_cons_zero, Act.put, List.setIfInBounds_toArray, List.set_cons_zero, List.set_cons_succ]
          refine wpAnyG_take (i := 9) (v := ?_) rfl (by kernel_rfl) (by kernel_rfl) (by kernel_rfl) (by kernel_rfl) (by decide) (by kernel_rfl) (fun _ _ _ h => h) (Or.inl ⟨by rfl, ?_⟩) (by assumption) ?_
          rotate_left
          · intro w hSw
            (try dsimp only at hSw)
            go_simp
            all_goals (with_reducible rfl)
          try simp only [List.getElem_toArray, List.getElem_cons_succ, List.getElem_cons_zero, Act.put, List.setIfInBounds_toArray, List.set_cons_zero, List.set_cons_succ]
          refine wpAnyG_take (i := 10) (v := ?_) rfl (by kernel_rfl) (by kernel_rfl) (by kernel_rfl) (by kernel_rfl) (by decide) (by kernel_rfl) (fun _ _ _ h => h) (Or.inl ⟨by rfl, ?_⟩) (by assumption) ?_
          rotate_left
          · intro w hSw
            (try dsimp only at hSw)
            go_simp
            all_goals (with_reducible rfl)
          try simp only [List.getElem_toArray, List.getElem_cons_succ, List.getElem_cons_zero, Act.put, List.setIfInBounds_toArray, List.set_cons_zero, List.set_cons_succ]
          refine wpAnyG_take (i := 11) (v := ?_) rfl (by kernel_rfl) (by kernel_rfl) (by kernel_rfl) (by kernel_rfl) (by decide) (by kernel_rfl) (fun _ _ _ h => h) (Or.inl ⟨by rfl, ?_⟩) (by assumption) ?_
          rotate_left
          · intro w hSw
            (try dsimp only at hSw)
            go_simp
            all_goals (with_reducible rfl)
          try simp only [List.getElem_toArray, List.getElem_cons_succ, List.getElem_cons_zero, Act.put, List.setIfInBounds_toArray, List.set_cons_zero, List.set_cons_succ]
          refine wpAnyG_take (i := 12) (v := ?_) rfl (by kernel_rfl) (by kernel_rfl) (by kernel_rfl) (by kernel_rfl) (by decide) (by kernel_rfl) (fun _ _ _ h => h) (Or.inl ⟨by rfl, ?_⟩) (by assumption) ?_
          rotate_left
          · intro w hSw
            (try dsimp only at hSw)
            go_simp
            all_goals (with_reducible rfl)
          try simp only [List.getElem_toArray, List.getElem_cons_succ, List.getElem_cons_zero, Act.put, List.setIfInBounds_toArray, List.set_cons_zero, List.set_cons_succ]
          refine wpAnyG_take (i := 13) (v := ?_) rfl (by kernel_rfl) (by kernel_rfl) (by kernel_rfl) (by kernel_rfl) (by decide) (by kernel_rfl) (fun _ _ _ h => h) (Or.inl ⟨by rfl, ?_⟩) (by assumption) ?_
          rotate_left
          · intro w hSw
            (try dsimp only at hSw)
            go_simp
            all_goals (with_reducible rfl)
          try simp only [List.getElem_toArray, List.getElem_cons_succ, List.getElem_cons_zero, Act.put, List.setIfInBounds_toArray, List.set_cons_zero, List.set_cons_succ]
          refine wpAnyG_take (i := 14) (v := ?_) rfl (by kernel_rfl) (by kernel_rfl) (by kernel_rfl) (by kernel_rfl) (by decide) (by kernel_rfl) (fun _ _ _ h => h) (Or.inl ⟨by rfl, ?_⟩) (by assumption) ?_
          rotate_left
          · intro w hSw
            (try dsimp only at hSw)
            go_simp
            all_goals (with_reducible rfl)
          try simp only [List.getElem_toArray, List.getElem_cons_succ, List.getElem_cons_zero, Act.put, List.setIfInBounds_toArray, List.set_cons_zero, List.set_cons_succ]
          refine wpAnyG_take (i := 15) (v := ?_) rfl (by kernel_rfl) (by kernel_rfl) (by kernel_rfl) (by kernel_rfl) (by decide) (by kernel_rfl) (fun _ _ _ h => h) (Or.inl ⟨by rfl, ?_⟩) (by assumption) ?_
          rotate_left
          · intro w hSw
            (try dsimp only at hSw)
            go_simp
            all_goals (with_reducible rfl)
          try simp only [List.getElem_toArray, List.getElem_cons_succ, List.getElem_cons_zero, Act.put, List.setIfInBounds_toArray, List.set_cons_zero, List.set_cons_succ]
          refine wpAnyG_take (i := 16) (v := ?_) rfl (by kernel_rfl) (by kernel_rfl) (by kernel_rfl) (by kernel_rfl) (by decide) (by kernel_rfl) (fun _ _ _ h => h) (Or.inl ⟨by rfl, ?_⟩) (by assumption) ?_
          rotate_left
          · intro w hSw
            (try dsimp only at hSw)
            go_simp
            all_goals (with_reducible rfl)
          try simp only [List.getElem_toArray, List.getElem_cons_succ, List.getElem_cons_zero, Act.put, List.setIfInBounds_toArray, List.set_cons_zero, List.set_cons_succ]
          refine wpAnyG_take (i := 17) (v := ?_) rfl (by kernel_rfl) (by kernel_rfl) (by kernel_rfl) (by kernel_rfl) (by decide) (by kernel_rfl) (fun _ _ _ h => h) (Or.inl ⟨by rfl, ?_⟩) (by assumption) ?_
          rotate_left
          · intro w hSw
            (try dsimp only at hSw)
            go_simp
            all_goals (with_reducible rfl)
          try simp only [List.getElem_toArray, List.getElem_cons_succ, List.getElem_cons_zero, Act.put, List.setIfInBounds_toArray, List.set_cons_zero, List.set_cons_succ]
          refine wpAnyG_take (i := 18) (v := ?_) rfl (by kernel_rfl) (by kernel_rfl) (by kernel_rfl) (by kernel_rfl) (by decide) (by kernel_rfl) (fun _ _ _ h => h) (Or.inl ⟨by rfl, ?_⟩) (by assumption) ?_
          rotate_left
          · intro w hSw
            (try dsimp only at hSw)
            go_simp
            all_goals (with_reducible rfl)
          try simp only [List.getElem_toArray, List.getElem_cons_succ, List.getElem_cons_zero, Act.put, List.setIfInBounds_toArray, List.set_cons_zero, List.set_cons_succ]
          refine wpAnyG_take (i := 19) (v := ?_) rfl (by kernel_rfl) (by kernel_rfl) (by kernel_rfl) (by kernel_rfl) (by decide) (by kernel_rfl) (fun _ _ _ h => h) (Or.inl ⟨by rfl, ?_⟩) (by assumption) ?_
          rotate_left
          · intro w hSw
            (try dsimp only at hSw)
            go_simp
            all_goals (with_reducible rfl)
          try simp only [List.getElem_toArray, List.getElem_cons_succ, List.getElem_cons_zero, Act.put, List.setIfInBounds_toArray, List.set_cons_zero, List.set_cons_succ]
          refine wpAnyG_take (i := 20) (v := ?_) rfl (by kernel_rfl) (by kernel_rfl) (by kernel_rfl) (by kernel_rfl) (by decide) (by kernel_rfl) (fun _ _ _ h => h) (Or.inl ⟨by rfl, ?_⟩) (by assumption) ?_
          rotate_left
          · intro w hSw
            (try dsimp only at hSw)
            go_simp
            all_goals (with_reducible rfl)
          try simp only [List.getElem_toArray, List.getElem_cons_succ, List.getElem_cons_zero, Act.put, List.setIfInBounds_toArray, List.set_cons_zero, List.set_cons_succ]
          refine wpAnyG_take (i := 21) (v := ?_) rfl (by kernel_rfl) (by kernel_rfl) (by kernel_rfl) (by kernel_rfl) (by decide) (by kernel_rfl) (fun _ _ _ h => h) (Or.inl ⟨by rfl, ?_⟩) (by assumption) ?_
          rotate_left
          · intro w hSw
            (try dsimp only at hSw)
            go_simp
            all_goals (with_reducible rfl)
          try simp only [List.getElem_toArray, List.getElem_cons_succ, List.getElem_cons_zero, Act.put, List.setIfInBounds_toArray, List.set_cons_zero, List.set_cons_succ]
          refine wpAnyG_take (i := 22) (v := ?_) rfl (by kernel_rfl) (by kernel_rfl) (by kernel_rfl) (by kernel_rfl) (by decide) (by kernel_rfl) (fun _ _ _ h => h) (Or.inl ⟨by rfl, ?_⟩) (by assumption) ?_
          rotate_left
          · intro w hSw
            (try dsimp only at hSw)
            go_simp
            all_goals (with_reducible rfl)
          try simp only [List.getElem_toArray, List.getElem_cons_succ, List.getElem_cons_zero, Act.put, List.setIfInBounds_toArray, List.set_cons_zero, List.set_cons_succ]
          refine wpAnyG_take (i := 23) (v := ?_) rfl (by kernel_rfl) (by kernel_rfl) (by kernel_rfl) (by kernel_rfl) (by decide) (by kernel_rfl) (fun _ _ _ h => h) (Or.inl ⟨by rfl, ?_⟩) (by assumption) ?_
          rotate_left
          · intro w hSw
            (try dsimp only at hSw)
            go_simp
            all_goals (with_reducible rfl)
          try simp only [List.getElem_toArray, List.getElem_cons_succ, List.getElem_cons_zero, Act.put, List.setIfInBounds_toArray, List.set_cons_zero, List.set_cons_succ]
          refine wpAnyG_take (i := 24) (v := ?_) rfl (by kernel_rfl) (by kernel_rfl) (by kernel_rfl) (by kernel_rfl) (by decide) (by kernel_rfl) (fun _ _ _ h => h) (Or.inl ⟨by rfl, ?_⟩) (by assumption) ?_
          rotate_left
          · intro w hSw
            (try dsimp only at hSw)
            go_simp
            all_goals (with_reducible rfl)
          try simp only [List.getElem_toArray, List.getElem_cons_succ, List.getElem_cons_zero, Act.put, List.setIfInBounds_toArray, List.set_cons_zero, List.set_cons_succ]
          refine G_one (i := 25) rfl (by kernel_rfl) (by rfl) ?_
          try simp only [List.getElem_toArray, List.getElem_cons_succ, List.getElem_cons_zero]
          go_simp
          refine G_tail rfl (by kernel_rfl) (by kernel_rfl) ?_
          simp only [List.drop_succ_cons, List.drop_zero]
          clear hHeld ki0 ki1 ki2 k3 k5 k8 kf1 l1 l2 q1 b1 b2 b3 b4 b4I
          have HD := Lib.hid dA
          have HT := Lib.hid h7
          have hx6 := h6.below dA h6.lt
          have hl6 := hx6.lt
          obtain ⟨WT, hWT⟩ : ∃ WT, WT = (Wd.alloc (.cells #[.int .i64 ik, .string (bs ((l.take (j2 + 1)).drop jf)), .int .i64 pf.at_, .int .i64 ((pd.at_ : Int) + pd.len), .bool (decide (bh < jf))] 85)).drew := ⟨_, rfl⟩
          have dT : Below Wd.heap.size Wd WT := by rw [hWT]; exact ((Below.refl _ _).alloc (Nat.le_refl _) _).drew
          have sT : WT.heap.size = Wd.heap.size + 1 := by rw [hWT]; simp
          have hT6 : WT.ownsRow w.heap.size 85 5 v pre.length (tkcs (Tp.tkL cs l 0 pre)) := own_later (own_later h7 dA) dT
          have cT : ∀ j u, [.int .i64 ik, .string (bs ((l.take (j2 + 1)).drop jf)), .int .i64 pf.at_, .int .i64 ((pd.at_ : Int) + pd.len), Value.bool (decide (bh < jf))][j]? = some u → WT.cell? ((⟨W.heap.size + 1, 0, none⟩ : Addr).add j) = some u := by
            rw [hWT, ← hWs]; exact cellsN_new Wd _ _
          rw [← hWT]
          have hx6T := hx6.below dT hx6.lt
          have HWT := Lib.hid hWT
          clear hWT
          have hvb := own_ne_bx h7 h6 (by decide)
          go_wp2_with (at_builtin; refine wpList_append_own _ rfl _ _ 39 rfl w.heap.size 85 i0 _ 5 48 Tryz.underlying39 hi hz0 hz1 hz2 rfl (by decide) v _ _ rfl hT6 ⟨W.heap.size + 1, 0, none⟩ 1 1 [.int .i64 ik, .string (bs ((l.take (j2 + 1)).drop jf)), .int .i64 pf.at_, .int .i64 ((pd.at_ : Int) + pd.len), .bool (decide (bh < jf))] rfl rfl cT (by simp [Value.oneCell']) (by unfold maxLen; omega) (by omega) (by have := h10.size; have := dA.size; omega) ?_; intro v' w7 hown' hgrow _; have hx7 := hx6T.grown hgrow hvb; have c7 := hx7.cell; have fz7 := hx7.frozen; obtain ⟨A', c', rfl, _, _⟩ := own_form hown')
          have K1 : KpT [9, 83, 73, 32, 3] W (w7.setCell ⟨m + 1, 0, none⟩ (.slice A' (pre.length + 1) c')) := (((KpT.below dA).trans (KpT.below dT)).trans (KpT.own hT6 hgrow (by decide))).trans (KpT.set hx7 (by decide) _ _)
          have hP8 : Ib (w7.setCell ⟨m + 1, 0, none⟩ (.slice A' (pre.length + 1) c')) P ⟨ik, jf, j2 + 1⟩ := K1 _ _ _ _ (by decide) hP
          have b8 : Bx (w7.setCell ⟨m + 1, 0, none⟩ (.slice A' (pre.length + 1) c')) (m + 2) 3 (.int .i64 bh) := h8.kept K1 (by decide)
          have hg8 := grownBy_set w7 (m + 1) (.slice A' (pre.length + 1) c')
          have o8 := hown'.kept hg8 (.inr (own_ne_bx hown' hx7 (by decide)))
          have C7 := (own_later (own_later h4 dA) dT).kept hgrow (own_ne_ty (own_later (own_later h4 dA) dT) hT6 (by decide))
          have C8 := C7.kept hg8 (.inr (own_ne_bx C7 hx7 (by decide)))
          have x8 := hx7.set (.slice A' (pre.length + 1) c')
          have u7' := ((h1.below dA h1.lt).below dT (h1.below dA h1.lt).lt).grown hgrow (own_ne_bx hT6 ((h1.below dA h1.lt).below dT (h1.below dA h1.lt).lt) (by decide))
          have u8' : Bx (w7.setCell ⟨m + 1, 0, none⟩ (.slice A' (pre.length + 1) c')) w.heap.size 39 (.slice none 0 0) := (Below.heap_setCell _ _ _ _ (by simp; omega)).trans u7'
          have B7 : Below w.heap.size w w7 := (h10.trans ((dA.trans (dT.mono dA.size)).mono h10.size)).grown hgrow (by have := h10.size; have := dA.size; have := dT.size; omega) (fun z hz => (hT6.lt z hz).1)
          have B8 : Below w.heap.size w (w7.setCell ⟨m + 1, 0, none⟩ (.slice A' (pre.length + 1) c')) := B7.setCell (p := ⟨_, 0, none⟩) (by simp; omega) _
          have k8o : KeepsOthers W (w7.setCell ⟨m + 1, 0, none⟩ (.slice A' (pre.length + 1) c')) := (((keepsO_below dA).trans (keepsO_below dT)).trans (keeps_own hT6 hgrow)).trans (KeepsOthers.setCell _ _ _)
          have z8 : (w7.setCell ⟨m + 1, 0, none⟩ (.slice A' (pre.length + 1) c')).heap[0]? = W.heap[0]? := by
            rw [Below.heap_setCell _ _ _ _ (by simp), hgrow.block 0 (by have := dT.size; have := dA.size; omega) (fun e => by have := (hT6.lt 0 e.symm).1; omega), dT.block 0 (by have := dA.size; omega), dA.block 0 (by omega)]
          have s8 : W.heap.size ≤ (w7.setCell ⟨m + 1, 0, none⟩ (.slice A' (pre.length + 1) c')).heap.size := k8o.size
          have h2' := h2.kept K1 (by decide)
          have h3' := h3.kept K1 (by decide)
          have h5' := h5.kept K1 (by decide)
          clear hx7 c7 fz7 hT6 cT HWT HD HT hx6 hl6 hx6T hvb hgrow hown' dT sT C7 u7' B7 hg8
          generalize w7.setCell ⟨m + 1, 0, none⟩ (.slice A' (pre.length + 1) c') = W8 at *
          obtain ⟨p0, p1, p2⟩ := hP8.cells
          simp only at p0 p1 p2
          have b8c : W8.cell? ⟨m + 1 + 1, 0, none⟩ = some (.int .i64 bh) := b8.cell
          have b8f : W8.frozen? ⟨m + 1 + 1, 0, none⟩ = false := b8.frozen
          clear c3 c5 c6 c8 w1 w2 w3 w4 w5 i0c i1c i2c d0 d1 d2 f0 f1 f2
          gi_wp2
          have K2 : KpT [9, 83, 73, 32, 39] W8 (W8.setCell ⟨m + 2, 0, none⟩ (.int .i64 (j2 + 1 : Nat))) := KpT.set b8 (by decide) _ _
          have hg9 := grownBy_set W8 (m + 2) (.int .i64 (j2 + 1 : Nat))
          refine ⟨(k8o.trans (KeepsOthers.setCell _ _ _)).from _, ⟨?_, ?_⟩, ?_⟩
          · exact fun z c T f hT e => K2 z c T f (by revert hT; simp only [List.mem_cons, List.not_mem_nil, or_false]; rintro (rfl | rfl) <;> simp) (K1 z c T f (by revert hT; simp only [List.mem_cons, List.not_mem_nil, or_false]; rintro (rfl | rfl) <;> simp) e)
          · rw [Below.heap_setCell _ _ _ _ (by simp)]; exact z8
          · refine ⟨u8'.kept K2 (by decide), h2'.kept K2 (by decide), h3'.kept K2 (by decide), C8.kept hg9 (.inr (own_ne_bx C8 b8 (by decide))), h5'.kept K2 (by decide), ⟨_, x8.kept K2 (by decide), ?_⟩, ?_, ?_, B8.setCell (p := ⟨m + 2, 0, none⟩) (by simp; omega) _, by have := s8; simp [World.setCell]; omega, h12, h13⟩
            · have := o8.kept hg9 (.inr (own_ne_bx o8 b8 (by decide)))
              rw [HTS.out, HTT.out, tkcs_snoc, List.length_append]
              simpa [tkc] using this
            · rw [HBS.out]; exact b8.set _
            · intro x hx
              rcases List.mem_append.1 hx with hx | hx
              · exact h9 x hx
              · rw [List.mem_singleton.1 hx]
        · have HTK := Lib.hid (show Tp.toks cs l 0 (Tp.itemsA l 0 0) = ([], x.2) by
            rw [Tp.items_err _ l 0 0 pre x (Nat.le_refl _) hgo hx0]
            exact Tp.toks_bad cs l 0 pre x h9 hx0)
          have hxb : (x.2 != 0) = true := by simpa using hx0
          have c1 := h1.cell
          have c2 := h2.cell
          have f1 := h1.frozen
          have f2 := h2.frozen
          clear hgo h9 h7
          gi_wp2
          obtain ⟨r1, r2⟩ := two_set h1 h2 (.slice none 0 0) (.int .i64 x.2)
          exact ⟨((KeepsOthers.setCell _ _ _).trans (KeepsOthers.setCell _ _ _)).from _, rfl, x.2, HTK.out, r1, r2, (h10.setCell (p := ⟨_, 0, none⟩) (Nat.le_refl _) _).setCell (p := ⟨_, 0, none⟩) (by simp) _⟩
      case done =>
        rintro D xs W hD hS hI hK
        obtain ⟨h1, h2, h3, h4, h5, ⟨v, h6, h7⟩, h8, h9, h10, h11, h12, h13⟩ := hI
        obtain rfl : D = m + 4 := by rw [hD, hsB]
        have HTK := Lib.hid (show Tp.scan t = (Tp.tkL cs l 0 xs, 0) by rw [HSA.out, ← hS]; exact Tp.toks_ok cs l 0 xs h9)
        have c1 := h1.cell
        have c2 := h2.cell
        have f1 := h1.frozen
        have f2 := h2.frozen
        have c6 := h6.cell
        obtain ⟨A', c', rfl, _, _⟩ := own_form h7
        clear hS h9
        gi_wp2
        go_wp2
        obtain ⟨r1, r2⟩ := two_set h1 h2 (.slice A' xs.length c') (.int .i64 0)
        have k1 : (((W.setCell ⟨w.heap.size, 0, none⟩ (.slice A' xs.length c')).setCell ⟨w.heap.size + 1, 0, none⟩ (.int .i64 0))).heap[m + 4]? = some (.deferred (some [])) := (Below.heap_setCell _ _ _ _ (by simp; omega)).trans ((Below.heap_setCell _ _ _ _ (by simp; omega)).trans hK)
        have o1 := h7.kept (grownBy_set W w.heap.size (.slice A' xs.length c')) (.inr (own_ne_bx h7 h1 (by decide)))
        have q2 : Bx (W.setCell ⟨w.heap.size, 0, none⟩ (.slice A' xs.length c')) (w.heap.size + 1) 32 (.int .i64 0) := (Below.heap_setCell _ _ _ _ (by simp)).trans h2
        have o2 := o1.kept (grownBy_set _ (w.heap.size + 1) (.int .i64 0)) (.inr (own_ne_bx o1 q2 (by decide)))
        have B2 : Below w.heap.size w ((W.setCell ⟨w.heap.size, 0, none⟩ (.slice A' xs.length c')).setCell ⟨w.heap.size + 1, 0, none⟩ (.int .i64 0)) := (h10.setCell (p := ⟨_, 0, none⟩) (Nat.le_refl _) _).setCell (p := ⟨_, 0, none⟩) (by simp) _
        generalize (W.setCell ⟨w.heap.size, 0, none⟩ (.slice A' xs.length c')).setCell ⟨w.heap.size + 1, 0, none⟩ (.int .i64 0) = W9 at *
        refine ⟨by simp, .inl ⟨_, _, rfl, run_takeDeferred k1, ?_⟩⟩
        have v1 := (r1.put' (.deferred none) k1 rfl).cell
        have v2 := (r2.put' (.deferred none) k1 rfl).cell
        refine ⟨_, show (results Tryz.f11 _).run Tryz.prog _ = .ok (.tuple #[.slice A' xs.length c', .int .i64 0]) _ by simp [results, Tryz.results11, go_sem, v1, v2], ?_⟩
        unfold ScP
        rw [HTK.out]
        simp only
        rw [Tp.tkL_len]
        exact ⟨_, rfl, o2.kept (grownBy_putObj' W9 _ _) (.inr (own_ne_obj o2 k1 rfl)), below_put B2 _ (by omega)⟩
      case stop =>
        rintro D c pre W hD hS ⟨rfl, er, h1, h2, h3, h4⟩ hK
        obtain rfl : D = m + 4 := by rw [hD, hsB]
        have HTK := Lib.hid (show Tp.scan t = ([], er) by rw [HSA.out]; exact h1)
        clear hS h1
        gi_wp2
        refine ⟨by simp, .inl ⟨_, _, rfl, run_takeDeferred hK, ?_⟩⟩
        have v1 := (h2.put' (.deferred none) hK rfl).cell
        have v2 := (h3.put' (.deferred none) hK rfl).cell
        refine ⟨_, show (results Tryz.f11 _).run Tryz.prog _ = .ok (.tuple #[.slice none 0 0, .int .i64 er]) _ by simp [results, Tryz.results11, go_sem, v1, v2], ?_⟩
        unfold ScP
        rw [HTK.out]
        exact ⟨_, rfl, World.ownsRow_nil _ _ _ _, below_put h4 _ (by omega)⟩

end Go.Proofs.YtffjblamfbmoeaaGreatDoor

/-! Walks: Scan whole; tokens without comments and line ends. -/
set_option linter.unusedVariables false
set_option linter.unusedSimpArgs false
namespace Go.Proofs.YtffjblamfbmoeaaGreatDoor
open Go Go.RowKit

theorem Scan_any (t : Tp.T) (w : World) (hl : t.length ≤ 1000000) (hmx : MX w) : Calls Tryz.prog 11 #[.string (bs t)] w (ScP t w) := by
  by_cases h : Tp.chk t = 0
  · exact Scan_yes t w hl h hmx
  · exact Scan_no t w hl h

theorem tkcs_at {l : List Tp.Tok} : ∀ {k : Nat} {p : Tp.Tok}, l[k]? = some p → (tkcs l)[k * 5]? = some (.int .i64 p.k) ∧ (tkcs l)[k * 5 + 1]? = some (.string (bs p.x)) ∧ (tkcs l)[k * 5 + 2]? = some (.int .i64 p.a) ∧ (tkcs l)[k * 5 + 3]? = some (.int .i64 p.e) ∧ (tkcs l)[k * 5 + 4]? = some (.bool p.s) := by
  induction l with
  | nil => intro k e h; simp at h
  | cons x r ih =>
    intro k e h
    have e1 : tkcs (x :: r) = tkc x ++ tkcs r := rfl
    have e2 : (tkc x).length = 5 := rfl
    cases k with
    | zero => simp only [List.getElem?_cons_zero, Option.some.injEq] at h; subst h; exact ⟨rfl, rfl, rfl, rfl, rfl⟩
    | succ k =>
      simp only [List.getElem?_cons_succ] at h
      have := ih h
      rw [e1]
      refine ⟨?_, ?_, ?_, ?_, ?_⟩
      · rw [List.getElem?_append_right (by omega), e2, ← this.1]; congr 1; omega
      · rw [List.getElem?_append_right (by omega), e2, ← this.2.1]; congr 1; omega
      · rw [List.getElem?_append_right (by omega), e2, ← this.2.2.1]; congr 1; omega
      · rw [List.getElem?_append_right (by omega), e2, ← this.2.2.2.1]; congr 1; omega
      · rw [List.getElem?_append_right (by omega), e2, ← this.2.2.2.2]; congr 1; omega
theorem Rd.tk {w : World} {A : Option Addr} {l : List Tp.Tok} {n : Nat} (h : Rd w 5 A n (tkcs l)) {k : Nat} {p : Tp.Tok} (hk : l[k]? = some p) :
    ∃ b o, A = some ⟨b, o, none⟩ ∧ b < w.heap.size ∧ w.cell? ⟨b, o + k * 5, none⟩ = some (.int .i64 p.k) ∧ w.cell? ⟨b, o + k * 5 + 1, none⟩ = some (.string (bs p.x)) ∧ w.cell? ⟨b, o + k * 5 + 2, none⟩ = some (.int .i64 p.a) ∧ w.cell? ⟨b, o + k * 5 + 3, none⟩ = some (.int .i64 p.e) ∧ w.cell? ⟨b, o + k * 5 + 4, none⟩ = some (.bool p.s) := by
  have hl : k < l.length := (List.getElem?_eq_some_iff.1 hk).1
  have h1 := h.1
  rw [tkcs_length] at h1
  obtain ⟨b, o, e, hlt, hc⟩ := h.2 (by omega)
  obtain ⟨a1, a2, a3, a4, a5⟩ := tkcs_at hk
  exact ⟨b, o, e, hlt, hc _ _ a1, by have := hc _ _ a2; rwa [← Nat.add_assoc] at this, by have := hc _ _ a3; rwa [← Nat.add_assoc] at this, by have := hc _ _ a4; rwa [← Nat.add_assoc] at this, by have := hc _ _ a5; rwa [← Nat.add_assoc] at this⟩
theorem Rd.tlen {w : World} {A : Option Addr} {l : List Tp.Tok} {n : Nat} (h : Rd w 5 A n (tkcs l)) : l.length = n := by
  have := h.1
  rw [tkcs_length] at this
  omega

namespace Tp
/-- Tokens without comments and line ends, one more at a time: those so far, and was something dropped? -/
def brS (a : List Tok × Bool) (t : Tok) : List Tok × Bool := if t.k = 8 ∨ t.k = 9 then (a.1, true) else (a.1 ++ [{ t with s := t.s || a.2 }], false)
def brF (l : List Tok) : List Tok × Bool := l.foldl brS ([], false)
theorem brS_drop {a : List Tok × Bool} {t : Tok} (h : t.k = 8 ∨ t.k = 9) : brS a t = (a.1, true) := if_pos h
theorem brS_keep {a : List Tok × Bool} {t : Tok} (h : ¬ (t.k = 8 ∨ t.k = 9)) : brS a t = (a.1 ++ [⟨t.k, t.x, t.a, t.e, t.s || a.2⟩], false) := if_neg h
theorem brF_go : ∀ (l : List Tok) (acc : List Tok) (d : Bool), (l.foldl brS (acc, d)).1 = acc ++ bareGo d l
  | [], acc, d => by simp [bareGo]
  | t :: r, acc, d => by
    rw [List.foldl_cons, bareGo]
    by_cases h : t.k = 8 ∨ t.k = 9
    · rw [brS_drop h, if_pos h]; exact brF_go r acc true
    · rw [brS_keep h, if_neg h, brF_go r _ false]; simp
theorem brF_bare (l : List Tok) : (brF l).1 = bare l := by
  unfold brF bare
  rw [brF_go]; rfl
theorem brF_snoc (l : List Tok) (t : Tok) : brF (l ++ [t]) = brS (brF l) t := by unfold brF; rw [List.foldl_append]; rfl
theorem brF_len (l : List Tok) : (brF l).1.length ≤ l.length := by
  suffices h : ∀ (l : List Tok) (a : List Tok × Bool), (l.foldl brS a).1.length ≤ a.1.length + l.length by
    have := h l ([], false); simpa [brF] using this
  intro l
  induction l with
  | nil => intro a; simp
  | cons t r ih =>
    intro a
    rw [List.foldl_cons]
    have := ih (brS a t)
    by_cases h : t.k = 8 ∨ t.k = 9
    · rw [brS_drop h] at this ⊢; simp only [List.length_cons] at this ⊢; omega
    · rw [brS_keep h] at this ⊢; simp only [List.length_cons, List.length_append, List.length_nil] at this ⊢; omega
end Tp

set_option maxRecDepth 100000 in
set_option maxHeartbeats 8000000 in
theorem Bare_any (A : Option Addr) (n c : Nat) (l : List Tp.Tok) (w : World) (hn : n ≤ c) (hl : l.length ≤ 1000000) (h : Rd w 5 A n (tkcs l)) :
    Calls Tryz.prog 14 #[.slice A n c] w fun e w' => ∃ v, e = .returned v ∧ w'.ownsRow w.heap.size 85 5 v (Tp.bare l).length (tkcs (Tp.bare l)) ∧ Below w.heap.size w w' := by
  obtain ⟨i0, hi, hz0, hz1, hz2⟩ := info_parts toInfo
  have hln := h.tlen
  go_enter Tryz.func14, Tryz.ntmps14
  go_wp2
  go_step3
  go_wp2
  go_step3
  go_wp2
  go_loopw [3, 4, 6, 9] (fun c3 c4 _ c9 wr => ∃ (k : Nat) (d : Bool), k ≤ n ∧ c9 = .int .i64 k ∧ c4 = .bool d ∧ Hid (d = (Tp.brF (l.take k)).2) ∧ wr.ownsRow w.heap.size 85 5 c3 (Tp.brF (l.take k)).1.length (tkcs (Tp.brF (l.take k)).1) ∧ Below w.heap.size w wr) (fun _ _ _ c _ => n - (intOf c).toNat)
  case atStart => exact ⟨0, false, Nat.zero_le _, rfl, rfl, Lib.hid rfl, World.ownsRow_nil _ _ _ _, Below.refl _ _⟩
  case round =>
    obtain ⟨k, d, hk, rfl, rfl, HD, hrow, hb⟩ := hrel
    obtain ⟨wq, rfl⟩ : ∃ wq : World, wq = wr := ⟨_, rfl⟩
    by_cases hkn : k < n
    · obtain ⟨p, hp⟩ : ∃ p, l[k]? = some p := ⟨_, List.getElem?_eq_getElem (by rw [hln]; exact hkn)⟩
      have HSN := Lib.hid (show Tp.brF (l.take (k + 1)) = Tp.brS (Tp.brF (l.take k)) p by rw [List.take_add_one, hp, ← Tp.brF_snoc]; rfl)
      obtain ⟨b, o, rfl, hbl, d0, d1, d2, d3, d4⟩ := (h.below (Nat.le_refl _) hb).tk hp
      have hlen := Tp.brF_len (l.take k)
      rw [List.length_take] at hlen
      obtain ⟨pk, px, pa, pe, ps⟩ := p
      simp only at d0 d1 d2 d3 d4
      have hlb := Below.size hb
      by_cases hk8 : pk = 8 ∨ pk = 9
      · have HS2 := Lib.hid (HSN.out.trans (Tp.brS_drop hk8))
        clear hp h HSN
        have fin : ∀ W', Below wq.heap.size wq W' → Hid (W'.ownsRow w.heap.size 85 5 u3 (Tp.brF (l.take (k + 1))).1.length (tkcs (Tp.brF (l.take (k + 1))).1) ∧ Below w.heap.size w W') := fun W' hb' => Lib.hid ⟨by rw [HS2.out]; exact own_later hrow hb', hb.trans (hb'.mono hlb)⟩
        have fin := Lib.hid fin
        rcases hk8 with rfl | rfl
        all_goals
          go_wp2
          go_roundw
          case rel => exact ⟨k + 1, true, by omega, by go_num, rfl, Lib.hid (by rw [HS2.out]), (fin.out _ ((Below.refl _ _).alloc (Nat.le_refl _) _)).out.1, (fin.out _ ((Below.refl _ _).alloc (Nat.le_refl _) _)).out.2⟩
          case measure => simp [intOf]; omega
      · have HS2 := Lib.hid (HSN.out.trans (Tp.brS_keep hk8))
        simp only [not_or] at hk8
        obtain ⟨n8, n9⟩ := hk8
        have n8I : ¬ (pk : Int) = 8 := by omega
        have n9I : ¬ (pk : Int) = 9 := by omega
        have n8B : ((pk : Int) == 8) = false := beq_eq_false_iff_ne.2 n8I
        have n9B : ((pk : Int) == 9) = false := beq_eq_false_iff_ne.2 n9I
        obtain ⟨z, hz⟩ : ∃ z, z = (ps || d) := ⟨_, rfl⟩
        have HZ := Lib.hid hz
        have HDZ := Lib.hid (show Tp.brF (l.take (k + 1)) = ((Tp.brF (l.take k)).1 ++ [⟨pk, px, pa, pe, z⟩], false) by rw [HS2.out, hz, HD.out])
        generalize (Tp.brF (l.take k)).1 = L at *
        clear hp h HSN n8 n9 HS2 hz
        have dA := (Below.refl wq.heap.size wq).alloc (Nat.le_refl _) (.cells #[.int .i64 pk, .string (bs px), .int .i64 pa, .int .i64 pe, .bool z] 85)
        have hr2 := own_later hrow dA
        have hA2 := hb.trans (dA.mono hlb)
        have hsz2 : (wq.alloc (.cells #[.int .i64 pk, .string (bs px), .int .i64 pa, .int .i64 pe, .bool z] 85)).heap.size = wq.heap.size + 1 := by simp
        have cT := cellsN_new (wq.alloc (.cells #[.int .i64 pk, .string (bs px), .int .i64 pa, .int .i64 pe, .bool z] 85)) 85 [.int .i64 pk, .string (bs px), .int .i64 pa, .int .i64 pe, .bool z]
        rw [hsz2] at cT
        have hr3 := hr2.alloc (.cells #[.int .i64 pk, .string (bs px), .int .i64 pa, .int .i64 pe, .bool z] 85)
        have hsz3 : w.heap.size ≤ ((wq.alloc (.cells #[.int .i64 pk, .string (bs px), .int .i64 pa, .int .i64 pe, .bool z] 85)).alloc (.cells #[.int .i64 pk, .string (bs px), .int .i64 pa, .int .i64 pe, .bool z] 85)).heap.size := by simp; omega
        have FIN : ∀ v' w7, w7.ownsRow w.heap.size 85 5 v' (L.length + 1) (tkcs L ++ [.int .i64 pk, .string (bs px), .int .i64 pa, .int .i64 pe, .bool z]) → World.grownBy ((wq.alloc (.cells #[.int .i64 pk, .string (bs px), .int .i64 pa, .int .i64 pe, .bool z] 85)).alloc (.cells #[.int .i64 pk, .string (bs px), .int .i64 pa, .int .i64 pe, .bool z] 85)) w7 u3.ownBlock →
            Hid (w7.ownsRow w.heap.size 85 5 v' (Tp.brF (l.take (k + 1))).1.length (tkcs (Tp.brF (l.take (k + 1))).1) ∧ Below w.heap.size w w7) := fun v' w7 ho hg => Lib.hid (by
          rw [HDZ.out, tkcs_snoc, List.length_append]
          exact ⟨ho, (hA2.alloc hA2.size _).grown hg hsz3 (fun y hy => (hr2.lt y hy).1)⟩)
        have FIN := Lib.hid FIN
        have HB2 := Lib.hid (show (Tp.brF (l.take (k + 1))).2 = false by rw [HDZ.out])
        cases ps <;> cases d
        all_goals
          have hzz := HZ.out
          simp only [Bool.or_false, Bool.or_true, Bool.false_or, Bool.true_or] at hzz
          subst hzz
          go_wp2_with (at_builtin; refine wpList_append_own _ rfl _ _ 39 rfl w.heap.size 85 i0 _ 5 48 Tryz.underlying39 hi hz0 hz1 hz2 rfl (by decide) u3 _ _ rfl hr3 ⟨wq.heap.size + 1, 0, none⟩ 1 1 _ rfl rfl cT (by simp [Value.oneCell']) (by unfold maxLen; omega) (by omega) hsz3 ?_; intro v' w7 hown' hgrow _; have FF := FIN.out _ _ hown' hgrow)
          go_roundw
          case rel => exact ⟨k + 1, false, by omega, by go_num, rfl, Lib.hid HB2.out.symm, FF.out.1, FF.out.2⟩
          case measure => simp [intOf]; omega
    · obtain rfl : k = n := by omega
      have HF := Lib.hid (show (Tp.brF (l.take k)).1 = Tp.bare l by rw [List.take_of_length_le (by omega), Tp.brF_bare])
      rw [HF.out] at hrow
      go_wp2
      rw [Exit.noGoto_ret]
      go_ret
      exact ⟨u3, rfl, hrow, hb⟩

end Go.Proofs.YtffjblamfbmoeaaGreatDoor
