/- Walks: what an iterator of ranges gives, collected. -/
import Derived.Test.YtccpjjhaeocfhaaDoorS6
set_option linter.unusedVariables false
set_option linter.unusedSimpArgs false
namespace Go.Proofs.YtccpjjhaeocfhaaDoor
open Go Go.RowKit Go.Shelf
attribute [local go_sem] Oper.semAt_some

/-- A range as a round's argument. -/
def rgv (r : Sp.R) : Array Value := #[.agg #[.int .i64 r.1, .int .i64 r.2]]
/-- The contract of an iterator of the ranges L, which leaves memory alone, and whose rounds leave what lies below N. -/
def RSeq (gf : Nat) (lb : Array Value) (L : List Sp.R) (N : Nat) (W : World) : Prop :=
  Seq 4 Tryd.prog gf lb rgv (fun X Y => X = Y) (Keep N) (fun pre => pre <+: L) (fun xs => xs = L) (fun pre => pre <+: L) W

theorem pre_len {α : Type} {pre : List α} {x : α} {L : List α} (h : pre ++ [x] <+: L) : pre.length < L.length := by
  have := h.length_le
  simp at this; omega

def apTmps (gf : Nat) (lb : Array Value) (h : Nat) (v5 v7 : Value) : Array Value :=
  #[.slice none 0 0, .func (.func gf) #[] lb, .pointer (some ⟨h, 0, none⟩), undef, .slice none 0 0, v5, .func (.func gf) #[] lb, v7, undef, undef, undef, undef, undef]

/-- What holds between the rounds. -/
def ApI (w : World) (pre : List Sp.R) (W : World) : Prop :=
  Coll W w.heap.size 22 (w.heap.size + 1) 38 2 pre.length (rgcs pre) ∧ Below w.heap.size w W ∧ w.heap.size + 1 ≤ W.heap.size

set_option maxRecDepth 100000 in
set_option maxHeartbeats 2000000 in
theorem AppendSeq_any (gf : Nat) (lb : Array Value) (L : List Sp.R) (w : World) (hL : L.length ≤ 1000000) (eg : ∀ args w, (callFunc gf args).run Tryd.prog w = .ok (.enter gf args) w)
    (hS : ∀ W1, Keep w.heap.size w W1 → RSeq gf lb L w.heap.size W1) :
    Calls Tryd.prog 44 #[.slice none 0 0, .func (.func gf) #[] lb] w (RgRes L w) := by
  obtain ⟨i0, hi, hz0, hz1, hz2⟩ := info_parts rgInfo
  have HS := Lib.hid hS; clear hS
  have EG := Lib.hid eg; clear eg
  refine callsIn_wide (n := 5) |>.1 ?_
  refine callsIn_of_wp_marks Tryd.func44 rfl trivial ?_ rfl
  simp only [Tryd.ntmps44, List.size_toArray, List.length_cons, List.length_nil, Nat.reduceAdd, Nat.reduceSub, Array.replicate_succ, Array.replicate_zero, List.push_toArray, List.append_toArray, List.nil_append, List.cons_append]
  gi_wp2
  have hw1 : (w.alloc (.cells #[.slice none 0 0] 22)).heap.size = w.heap.size + 1 := by simp
  have hB0 : Below w.heap.size w (w.alloc (.cells #[.slice none 0 0] 22)) := (Below.refl _ w).alloc (Nat.le_refl _) _
  have hC0 := Coll.new w 22 w.heap.size 38 2
  refine rangeLaw2 (gf := gf) (lb := lb) rfl EG.out
    (fun W1 hs1 hbb => HS.out W1 (Keep.below (hB0.trans (hbb.mono (by omega))) (Nat.le_refl _)))
    (fun X Y k o hg hk ho _ => hg ▸ ho)
    (fun h1 h2 => h1.trans h2) (fun W l o o' hl ho hc _ => ⟨by simp, fun k hk => World.putObj_heap_other (by rw [hw1] at hl; omega)⟩) (fun _ => rfl)
    (ApI w) (fun _ _ _ => False)
    (fun pre X Y hi hg => hg ▸ hi)
    (fun pre W l o o' ⟨h1, h2, h3⟩ hl ho hc => ⟨h1.put o' ho hc, below_put h2 o' (by rw [hw1] at hl; omega), by simpa using h3⟩)
    (fun c pre W l o o' hi _ _ _ => hi)
    (fun W1 hs1 hbb => ⟨by
        obtain ⟨v, hx, ho⟩ := hC0
        refine ⟨_, (Bx.new w 22 (.slice none 0 0)).below hbb (by simp), World.ownsRow_nil _ _ _ _⟩, hB0.trans (hbb.mono (by omega)), by rw [hs1, hw1]; omega⟩)
    (fun pre x a' W => ∃ P, a' = { tmps := apTmps gf lb w.heap.size (.pointer (some ⟨P, 0, none⟩)) (.agg #[.int .i64 x.1, .int .i64 x.2]), defers := [] } ∧ W.heap[P]? = some (.cells #[.int .i64 x.1, .int .i64 x.2] 38 (0, 0)) ∧ ApI w pre W)
    (fun pre x a' W l o o' ⟨P, h1, h2, h3, h4, h5⟩ hl ho hc => ⟨P, h1, (World.putObj_heap_other (by rintro rfl; rw [h2] at ho; cases ho; cases hc)).trans h2, h3.put o' ho hc, below_put h4 o' (by rw [hw1] at hl; omega), by simpa using h5⟩) ?assign ?body ?done ?stop
  case assign =>
    intro y pre x W K ⟨h1, h2, h3⟩ hgo hsz hK
    simp only [rgv]
    gi_wp2
    exact hK _ _ ((KeepsOthers.alloc W _).from _) (Keep.below ((Below.refl W.heap.size W).alloc (Nat.le_refl _) _) (by omega)) ⟨_, rfl, heap_alloc_new W _, h1.alloc _, h2.alloc h2.size _, by simp; omega⟩
  case body =>
    rintro y pre x a' W ⟨P, rfl, hP, ⟨v, hv, hrow⟩, hB, hsz⟩ hgo hsz2
    have hpl := pre_len hgo
    have hc := hv.cell
    have hf := hv.frozen
    have hlt := hv.lt
    have p0 := Lib.cell_of_heap hP 0
    have p1 := Lib.cell_of_heap hP 1
    simp only [List.getElem?_toArray, List.getElem?_cons_zero, List.getElem?_cons_succ] at p0 p1
    obtain ⟨ra, rc, rfl, hrc, _⟩ := own_form hrow
    have hws := hB.size
    clear hgo
    unfold apTmps
    gi_wp2_with (gi_at_builtin; refine wpListIn_append_own _ rfl _ _ 22 rfl (w.heap.size + 1) 38 i0 _ 2 16 Tryd.underlying22 hi hz0 hz1 hz2 rfl (by decide) _ _ _ rfl (hrow.alloc _) ⟨W.heap.size, 0, none⟩ 1 1 [.int .i64 x.1, .int .i64 x.2] rfl rfl (two_at _ _ _ _) (by simp [Value.oneCell']) (by unfold maxLen; omega) (by omega) (by simp; omega) ?_; intro v' w1 hown' hgrow _; obtain ⟨g', cap', rfl⟩ := ownsRow_succ hown'; have hv1 := coll_app hv hrow (by omega) hgrow; have hc1 := hv1.cell; have hf1 := hv1.frozen)
    obtain ⟨e1, e2, e3⟩ := coll_end (w := w) (B := (w.alloc (.cells #[.slice none 0 0] 22)).heap.size) hv hrow (by omega) (Nat.le_refl _) hsz hB hgrow hown'
    refine ⟨e1, ⟨by have := hgrow.size; simp [World.setCell] at this ⊢; omega, fun k hk => e3 k (by omega) (by omega)⟩, ?_⟩
    rw [rgcs_snoc] at e2
    exact ⟨by rw [List.length_append]; exact e2.1, e2.2.1, e2.2.2⟩
  case done =>
    rintro D ys W hD hS ⟨⟨v, hv, hrow⟩, hB, hsz⟩ hK
    have hc := hv.cell
    have HS2 := Lib.hid hS; clear hS
    have HD := Lib.hid hD; clear hD
    gi_wp2
    refine ⟨by simp, .inl ⟨_, _, rfl, run_takeDeferred hK, ?_⟩⟩
    refine ⟨_, results_tmp rfl _ _ _, v, rfl, ?_⟩
    have hr := hrow.kept (grownBy_putObj' W D (.deferred none)) (.inr (own_ne_obj hrow hK rfl))
    obtain ⟨A, c, rfl, hcc, hRd⟩ := own_form hr
    rw [← HS2.out]
    exact ⟨A, c, rfl, hcc, hRd, below_put hB _ (by have := HD.out; rw [hw1] at this; omega)⟩
  case stop =>
    rintro D c pre W _ _ h _
    exact h.elim

set_option maxHeartbeats 400000 in
theorem Collect_any (gf : Nat) (lb : Array Value) (L : List Sp.R) (w : World) (hL : L.length ≤ 1000000) (eg : ∀ args w, (callFunc gf args).run Tryd.prog w = .ok (.enter gf args) w)
    (hS : ∀ W1, Keep w.heap.size w W1 → RSeq gf lb L w.heap.size W1) :
    Calls Tryd.prog 24 #[.func (.func gf) #[] lb] w (RgRes L w) := by
  have AC := Lib.hid (AppendSeq_any gf lb L w hL eg hS)
  clear hS eg
  go_enter Tryd.func24, Tryd.ntmps24
  go_wp2_with (go_at_call 44; refine AC.out.mono ?_; rintro e w1 ⟨v, rfl, hv⟩)
  go_ret
  exact ⟨v, rfl, hv⟩

end Go.Proofs.YtccpjjhaeocfhaaDoor
