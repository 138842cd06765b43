/- Several texts in one: Walks: a runner, made: whatever was laid first; Walks: what a text comes to: Run (a run alone, or the example). -/
import Derived.Test.YtffjblamfbmoeaaGreatDoorUm
import Derived.Deep.RegionHeld3
/-! Walks: a runner, made: whatever was laid first. -/
set_option linter.unusedVariables false
set_option linter.unusedSimpArgs false
namespace Go.Proofs.YtffjblamfbmoeaaGreatDoor
open Go Go.RowKit
attribute [local go_sem] Oper.semAt_some

theorem alloc_get (w : World) (o : Obj) (k : Nat) : (w.alloc o).heap[k]? = if k = w.heap.size then some o else w.heap[k]? := by
  by_cases h : k = w.heap.size
  · rw [if_pos h, h]; exact World.alloc_heap_new w o
  · rw [if_neg h]
    by_cases h2 : k < w.heap.size
    · exact Below.heap_alloc w o k h2
    · rw [Array.getElem?_eq_none (by rw [World.size_alloc]; omega), Array.getElem?_eq_none (by omega)]
/-- The runner is made. -/
def PR (w : World) (fuel : Int) (RB Mm Ml : Nat) (tx : Value) (W : World) : Prop :=
  Rn W RB Mm Ml fuel tx (.slice none 0 0) ∧ MN W Mm ∧ Ml ≠ Mm ∧ Below w.heap.size w W ∧ w.heap.size ≤ RB ∧ w.heap.size ≤ Mm ∧ RB < W.heap.size ∧ Mm < W.heap.size
/-- Four blocks laid: the runner, its two maps and another one, in whatever order. -/
theorem pr_of (w : World) (fuel : Int) (tx : Value) (o0 o1 o2 o3 : Obj) (r m n : Nat) (hr : ([o0, o1, o2, o3] : List Obj)[r]? = some (.cells #[.slice none 0 0, tx, .map (some (w.heap.size + m)), .map (some (w.heap.size + n)), .int .i64 fuel, .int .i64 0, .slice none 0 0] 65 (0, 0)))
    (hm : ([o0, o1, o2, o3] : List Obj)[m]? = some (.map #[] 0)) (hn : ([o0, o1, o2, o3] : List Obj)[n]? = some (.map #[] 0)) (hmn : n ≠ m) :
    PR w fuel (w.heap.size + r) (w.heap.size + m) (w.heap.size + n) tx ((((w.alloc o0).alloc o1).alloc o2).alloc o3).drew := by
  have hg : ∀ (k : Nat) (o : Obj), ([o0, o1, o2, o3] : List Obj)[k]? = some o → ((((w.alloc o0).alloc o1).alloc o2).alloc o3).drew.heap[w.heap.size + k]? = some o := by
    intro k o h
    show ((((w.alloc o0).alloc o1).alloc o2).alloc o3).heap[w.heap.size + k]? = some o
    have hk : k < 4 := (List.getElem?_eq_some_iff.1 h).1
    rcases (by omega : k = 0 ∨ k = 1 ∨ k = 2 ∨ k = 3) with rfl | rfl | rfl | rfl <;> simp only [List.getElem?_cons_zero, List.getElem?_cons_succ, Option.some.injEq] at h <;> subst h <;> simp only [alloc_get, World.size_alloc]
    all_goals (repeat (first | rfl | (rw [if_neg (by omega)]) | (rw [if_pos (by omega)])))
  have hr4 : r < 4 := (List.getElem?_eq_some_iff.1 hr).1
  have hm4 : m < 4 := (List.getElem?_eq_some_iff.1 hm).1
  have hs : ((((w.alloc o0).alloc o1).alloc o2).alloc o3).drew.heap.size = w.heap.size + 4 := by
    show ((((w.alloc o0).alloc o1).alloc o2).alloc o3).heap.size = _
    simp only [World.size_alloc]
  exact ⟨⟨hg r _ hr, 0, hg n _ hn⟩, ⟨0, hg m _ hm⟩, by omega, (((((Below.refl w.heap.size w).alloc (Nat.le_refl _) _).alloc (by rw [World.size_alloc]; omega) _).alloc (by rw [World.size_alloc, World.size_alloc]; omega) _).alloc (by rw [World.size_alloc, World.size_alloc, World.size_alloc]; omega) _).drew, by omega, by omega, by omega, by omega⟩
theorem pr_at (w : World) (fuel : Int) (tx : Value) (o0 o1 o2 o3 : Obj) (RB Mm Ml : Nat) (hr : ∃ r, RB = w.heap.size + r ∧ ([o0, o1, o2, o3] : List Obj)[r]? = some (.cells #[.slice none 0 0, tx, .map (some Mm), .map (some Ml), .int .i64 fuel, .int .i64 0, .slice none 0 0] 65 (0, 0)))
    (hm : ∃ m, Mm = w.heap.size + m ∧ ([o0, o1, o2, o3] : List Obj)[m]? = some (.map #[] 0)) (hn : ∃ n, Ml = w.heap.size + n ∧ ([o0, o1, o2, o3] : List Obj)[n]? = some (.map #[] 0)) (hmn : Ml ≠ Mm) :
    PR w fuel RB Mm Ml tx ((((w.alloc o0).alloc o1).alloc o2).alloc o3).drew := by
  obtain ⟨r, rfl, hr⟩ := hr
  obtain ⟨m, rfl, hm⟩ := hm
  obtain ⟨n, rfl, hn⟩ := hn
  exact pr_of w fuel tx o0 o1 o2 o3 r m n hr hm hn (by omega)
end Go.Proofs.YtffjblamfbmoeaaGreatDoor

/-! Walks: what a text comes to: Run (a run alone, or the example). -/
set_option linter.unusedVariables false
set_option linter.unusedSimpArgs false
namespace Go.Proofs.YtffjblamfbmoeaaGreatDoor
open Go Go.RowKit
attribute [local go_sem] Oper.semAt_some

theorem makeTx (W : World) : (Instr.makeSlice 61 (.int .i64 0) (.int .i64 0)).run Tryz.prog W = .ok (.slice (some ⟨W.heap.size, 0, none⟩) 0 0) (W.alloc (.cells #[] 68)) := by kernel_rfl
/-- Which rows a text has, and what they come to. -/
def RMode (R : List Tp.Row) (tot : List Tp.PTok) (fuel : Int) : Prop := (R = [] ∧ tot = []) ∨ (∃ r, R = [r] ∧ r.d = false ∧ tot = (Tp.of (Tp.says r)).map lnT) ∨
  ∃ r r' t1 t2, R = [r, r'] ∧ r.d = true ∧ r.n = defT ∧ Tp.says r = [t1, t2] ∧ (t1.k = 1 ∧ t1.x = [88]) ∧ (t2.k = 2 ∧ t2.x = [49] ∧ t2.s = true) ∧ r'.d = false ∧ 2 ≤ fuel ∧
    ∃ s1 s2, Tp.of (Tp.says r') = [⟨1, [88], s1, []⟩, ⟨1, Tp.lineN, s2, []⟩] ∧ tot = [⟨2, [49], s1, []⟩, ⟨10, Tp.lineN, s2, []⟩]
theorem RMode.dir {R : List Tp.Row} {tot : List Tp.PTok} {fuel : Int} (h : RMode R tot fuel) : ∀ r ∈ R, r.d = false ∨ r.n = defT := by
  rcases h with ⟨rfl, _⟩ | ⟨r, rfl, h, _⟩ | ⟨r, r', t1, t2, rfl, h1, h2, _, _, _, h3, _⟩
  · intro r hr; cases hr
  · intro x hx; rw [List.mem_singleton.1 hx]; exact .inl h
  · intro x hx
    rcases List.mem_cons.1 hx with rfl | hx
    · exact .inr h2
    · rw [List.mem_singleton.1 hx]; exact .inl h3
theorem RMode.start {R : List Tp.Row} {tot : List Tp.PTok} {fuel : Int} (h : RMode R tot fuel) {W : World} {RB Mm Ml : Nat} {tx : Value} (hf : 1 ≤ fuel ∧ fuel ≤ 4096) (hR : Rn W RB Mm Ml fuel tx (.slice none 0 0)) (hM : MN W Mm) (hmx : MX W) : RuS W W.heap.size RB Mm Ml tx R tot 0 W := by
  refine ⟨KpR.refl _ _ _, ?_⟩
  rcases h with ⟨rfl, rfl⟩ | ⟨r, rfl, h, h2⟩ | ⟨r, r', t1, t2, rfl, h1, h2, h3, h4, h5, h6, h7, h8⟩
  · exact .inr (.inr ⟨rfl, fuel, _, hR, World.ownsRow_nil _ _ _ _⟩)
  · exact .inl ⟨r, fuel, rfl, rfl, h, hf.1, hf.2, hR, .inl ⟨h2, hM⟩⟩
  · exact .inr (.inl ⟨rfl, hmx, hM, r, r', t1, t2, fuel, rfl, h1, h2, h3, h4, h5, h6, h7, hf.2, hR, h8⟩)

set_option maxRecDepth 100000 in
set_option maxHeartbeats 8000000 in
theorem Run_any (t : Tp.T) (fuel : Int) (tot : List Tp.PTok) (w : World) (hf : 1 ≤ fuel ∧ fuel ≤ 4096) (hl : t.length ≤ 1000000) (hmx : MX w) (hs : (Tp.scan t).2 = 0) (hrl : (Tp.rows (Tp.scan t).1).length ≤ 1000000) (hll : ∀ r ∈ Tp.rows (Tp.scan t).1, r.l.length ≤ 1000000) (htl : (Tp.scan t).1.length ≤ 1000000)
    (hsl : ∀ r ∈ Tp.rows (Tp.scan t).1, (Tp.says r).length ≤ 1000000) (hq : ∀ p ∈ tot, p.k = 1 → p.x ≠ Tp.pragmaN) (hmode : RMode (Tp.rows (Tp.scan t).1) tot fuel) :
    Calls Tryz.prog 9 #[.slice none 0 0, .string (bs t), .slice none 0 0, .int .i64 fuel] w fun e w' => ∃ v, e = .returned (.tuple #[v, .int .i64 0]) ∧ w'.ownsRow w.heap.size 49 4 v tot.length (ptcs tot) ∧ Below w.heap.size w w' := by
  have MT := makeTx
  have MM := fun (W : World) => map_make (P := Tryz.prog) Tryz.underlying63 W
  have MN' := fun (n : Int) (W : World) => map_makeN (P := Tryz.prog) Tryz.underlying62 (w := W) .i64 n
  have hd1 : decide (fuel < 0) = false := by simp; omega
  have hd2 : decide (4096 < fuel) = false := by simp; omega
  go_enter Tryz.func9, Tryz.ntmps9
  go_wp2
  refine Code.wp_mono (Q := fun e a W => e = .normal ∧ ∃ RB Mm Ml tx, PR w fuel RB Mm Ml tx W ∧ a = { tmps := #[.slice none 0 0, .string (bs t), .slice none 0 0, .int .i64 fuel, undef, undef, undef, undef, .slice none 0 0, .int .i64 0, .pointer (some ⟨RB, 0, none⟩), undef, undef, undef, undef, undef, undef, undef, .int .i64 fuel, .bool false, .bool false, .int .i64 fuel, .bool false, .bool false, .slice none 0 0, .int .i64 0, .bool false, .slice none 0 0, .slice none 0 0, .int .i64 0, tx, .slice none 0 0, .int .i64 0, .map (some Mm), .map (some Ml), .int .i64 fuel, .agg #[.slice none 0 0, tx, .map (some Mm), .map (some Ml), .int .i64 fuel, .int .i64 0, .slice none 0 0], undef, undef, undef, undef, undef, undef, undef, undef, undef, undef, undef, undef, undef, undef, undef, undef, undef, undef, undef, undef, undef, undef, undef, undef, undef, undef, undef, undef, undef, undef, undef, undef, undef, undef, undef, undef], defers := [] }) ?after ?region
  case region =>
    go_region_held3 (fun _ => True) (trivial) (fail)
    all_goals
      refine ⟨rfl, _, _, _, _, ?_, rfl⟩
      refine pr_at _ _ _ _ _ _ _ _ _ _ ?_ ?_ ?_ (by omega)
      all_goals first | exact ⟨0, by omega, rfl⟩ | exact ⟨1, by omega, rfl⟩ | exact ⟨2, by omega, rfl⟩ | exact ⟨3, by omega, rfl⟩
  case after =>
  rintro e a W ⟨rfl, RB, Mm, Ml, tx, ⟨hR, hM, hne, hb, hwR, hwM, hlR, hlM⟩, rfl⟩
  have RX := Lib.hid (read_any t W hl (hmx.later hb) hs hmode.dir hrl hll htl)
  have hmxW := Lib.hid (hmx.later hb)
  have HS := Lib.hid hsl
  have HRL := Lib.hid hrl
  have HQ := Lib.hid hq
  have HMO := Lib.hid hmode
  have HR := Lib.hid hR
  have HM := Lib.hid hM
  have HB := Lib.hid hb
  clear hR hM hb hsl hrl hq hmode hs hmx hll htl hl MT MM MN'
  dsimp only
  go_wp2
  go_loopw [39] (fun z wr => z = .int .i64 0 ∧ wr = W) (fun _ _ => 0)
  case atStart => exact ⟨rfl, rfl⟩
  case round =>
    obtain ⟨rfl, rfl⟩ := hrel
    go_wp2_with (first
      | (go_at_call 23
         (with_reducible refine RX.out.mono ?_)
         rintro e w2 ⟨TB, rfl, hT, hb2⟩
         have hs2 := hb2.size
         have RU := Lib.hid (run_any wr.heap.size RB Mm Ml TB tx _ tot w2 hT hlR hlM hs2 hne HS.out HRL.out HQ.out (HMO.out.start hf (HR.out.below hb2) (HM.out.below hb2) (hmxW.out.later hb2)))
         clear hT)
      | (go_at_call 22
         (with_reducible refine RU.out.mono ?_)
         rintro e w3 ⟨rfl, ⟨_, f3, v3, hR3, hv3⟩, hk3⟩
         have c6 := hR3.cells.2.2.2.1
         clear hR3))
    go_ret2
    have hsB := HB.out.size
    exact ⟨v3, rfl, own_base hv3 (by omega), (HB.out.trans (hb2.mono hsB)).trans (hk3.2.2 w.heap.size hwR hwM (by omega))⟩
end Go.Proofs.YtffjblamfbmoeaaGreatDoor
