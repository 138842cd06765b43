/- What the program's Parse keeps between the lines. -/
import Derived.Test.YtliabgcpciekpaaDoorYrL
import Derived.Test.YtliabgcpciekpaaDoorYrE
import Derived.Maps.Own
import Derived.Maps.OwnOps
import Derived.Maps.OwnSet
import Derived.Maps.Views
import Derived.StringKeys
import Derived.Maps.OwnIn
set_option linter.unusedVariables false
set_option linter.unusedSimpArgs false
namespace Go.Proofs.YtliabgcpciekpaaDoor
open Go Go.RowKit Go.Maps
attribute [local go_sem] Oper.semAt_some

namespace St
theorem lns_mem : ∀ {t : T} {a : Nat} {x : Nat × T}, x ∈ lns a t → a ≤ x.1 ∧ x.1 + x.2.length ≤ a + t.length := by
  intro t
  induction t with
  | nil => intro a x h; simp [lns] at h
  | cons c r ih =>
    intro a x h
    rw [lns] at h
    split at h
    · rcases List.mem_cons.1 h with h | h
      · subst h; simp
      · have := ih h; simp only [List.length_cons]; omega
    · split at h
      · rw [List.mem_singleton] at h; subst h; simp
      · next p l q hq =>
        rcases List.mem_cons.1 h with h | h
        · subst h
          have := ih (a := a + 1) (x := (p, l)) (by rw [hq]; simp)
          simp only [List.length_cons] at *
          omega
        · have := ih (a := a + 1) (x := x) (by rw [hq]; simp [h]); simp only [List.length_cons]; omega
theorem lns_length : ∀ (t : T) (a : Nat), (lns a t).length ≤ t.length := by
  intro t
  induction t with
  | nil => intro a; simp [lns]
  | cons c r ih =>
    intro a
    rw [lns]
    split
    · have := ih (a + 1); simp only [List.length_cons]; omega
    · have := ih (a + 1)
      split
      · simp
      · next hq => rw [hq] at this; simp only [List.length_cons] at this ⊢; omega
end St

def psRes (t : St.T) : Value := .tuple #[.agg (St.stv (St.psV t)).toArray, .int .i64 (St.psP t), .int .i64 (St.psE t)]

theorem wpIn_scope {n : Nat} {P : Program} {c : Code} {Q : Exit → Act → World → Prop} {a : Act} {w : World} (h : c.wpIn Fence.wide n P (Exit.noGoto Q) a w) : (Code.scope c).wpIn Fence.wide n P Q a w :=
  wpIn_wide.2 (wp_scope_straight (wpIn_wide.1 h))
theorem wpIn_label {n l : Nat} {P : Program} {Q : Exit → Act → World → Prop} {a : Act} {w : World} (h : Q .normal a w) : (Code.label l).wpIn Fence.wide n P Q a w := wpIn_wide.2 (wp_label h)
theorem wpListIn_store_mid {F : Fence} {n : Nat} {P : Program} {ops : Array Oper} {rest : List Oper} {op : Oper} {a : Act} {w : World} {Q : Exit → Act → World → Prop} (hgd : op.guard = none) (ty : TypeId) (x y : Operand) (ho : op.op = .store ty x y)
    (b o : Nat) (cells : Array Value) (hx : a.eval x = .pointer (some ⟨b, o, none⟩)) (hy : a.eval y = .agg cells)
    (ht : w.there b o cells.size) (hi : (P.info? ty).map (·.size) = some cells.size) (h1 : cells.all (·.oneCell') = true)
    (h : wpListIn F n P ops Q rest (a.put op.dst undef) (w.setCells b o cells.toList)) : wpListIn F n P ops Q (op :: rest) a w := by
  refine wpListIn_plain hgd fun K hK' => ?_
  unfold Oper.wpIn
  refine ⟨by simp [Oper.about, ho], ?_⟩
  rw [Oper.semAt_plain F _ _ (by rw [ho]; intro c hc'; cases hc')]
  simp only [execOp, ho, hx, hy, Instr.storeAt, Instr.sureAddr, Sem.run_bind, Sem.run_pure, Result.andThen_ok, run_storeVar_mid w b o ty cells ht hi h1]
  exact hK' _ _ h

theorem wpListIn_lookup_guarded {H : Type} {F : Fence} {nF : Nat} {P : Program} (w : World) {ops : Array Oper} {rest : List Oper} {o : Oper} {a : Act} {Q : Exit → Act → World → Prop}
    (hw : Region.wanted o (yielded ops a.tmps) = true) (m x : Operand) (t : TypeId) (hop : o.op = Op.lookup t m x false)
    (k e : TypeId) (q : IntKind) (K : Keyed P k) (ht : P.underlying t = some (.map k e)) (he : P.underlying e = some (.int q)) (hz : (zeroValue e).run P w = .ok (.int q 0) w) (b n : Nat) (D : DataW H)
    (hm : a.eval m = .map (some b)) (hown : w.ownsMap P k (plainElem P e) b n D) (key : Value) (kl : Lit) (hx : a.eval x = key) (hkey : keyOf P k key = some kl)
    (hK : ∀ c : Int, D.atKey kl (.lit (.int q 0)) = .lit (.int q c) → (Lit.int q c).wf = true → wpListIn F nF P ops Q rest (a.put o.dst (.int q c)) w) :
    wpListIn F nF P ops Q (o :: rest) a w := by
  obtain ⟨c, hrun, hat, hwc⟩ := hown.lookup_int K ht he hz hkey
  unfold wpListIn
  rw [if_pos hw]
  unfold Oper.wpIn
  refine ⟨by simp [Oper.about, hop], ?_⟩
  rw [Oper.semAt_plain F _ _ (by rw [hop]; intro c hc'; cases hc')]
  simp [execOp, hop, hm, hx, hrun, Result.andThen]
  exact hK c hat hwc

/-- The map of what has been named. -/
structure SeenOf (D : DataW Unit) (h : Nat → Bool) : Prop where
  tidy : Tidy D
  has : ∀ i, i < 18 → Maps.has D (.string (St.nm i)) = h i
  one : ∀ i, i < 18 → h i = true → ∀ z, D.atKey (.string (St.nm i)) z = .lit (.int .i64 1)
theorem SeenOf.empty : SeenOf (.map []) (fun _ => false) := ⟨tidy_empty, fun i _ => by simp [has_eq], fun i _ h => by cases h⟩
theorem SeenOf.put {D : DataW Unit} {h : Nat → Bool} (s : SeenOf D h) {i : Nat} (hi : i < 18) : SeenOf (D.put (.string (St.nm i)) (.lit (.int .i64 1))) (St.had h i) := by
  have hk : WideAt.IsKeyLit (.string (St.nm i)) := trivial
  refine ⟨s.tidy.put hk _, fun j hj => ?_, fun j hj hh z => ?_⟩
  · unfold St.had
    by_cases e : j = i
    · subst e; rw [if_pos rfl, has_put_same s.tidy.isMap hk]
    · rw [if_neg e, has_put_other (by intro e2; injection e2 with e2; exact e (St.nm_inj hj hi e2)), s.has j hj]
  · unfold St.had at hh
    by_cases e : j = i
    · subst e; rw [atKey_put_same s.tidy.isMap hk]
    · rw [if_neg e] at hh
      rw [atKey_put_other (by intro e2; injection e2 with e2; exact e (St.nm_inj hj hi e2)), s.one j hj hh]
theorem SeenOf.val {D : DataW Unit} {h : Nat → Bool} (s : SeenOf D h) {i : Nat} (hi : i < 18) : D.atKey (.string (St.nm i)) (.lit (.int .i64 0)) = .lit (.int .i64 (if h i = true then 1 else 0)) := by
  cases hh : h i
  · rw [atKey_of_not_has (by rw [s.has i hi, hh])]; rfl
  · rw [s.one i hi hh]; rfl
theorem ownsMap_kept {P : Program} {k : TypeId} {R : Value → Option (DataW Unit × List MemPlace)} {b n : Nat} {D : DataW Unit} {w w' : World} (h : w.ownsMap P k R b n D) (e : w'.heap[b]? = w.heap[b]?) : w'.ownsMap P k R b n D := by
  obtain ⟨es, clock, hb, r⟩ := h
  exact ⟨es, clock, e.trans hb, r⟩
theorem ba_first {c : UInt8} {r : List UInt8} (h : 0 < (bs (c :: r)).size) : (bs (c :: r))[0] = c := by
  have h1 := ba_get (bs (c :: r)) 0 h
  rw [bs_data] at h1
  simpa using h1.symm
theorem lawS : Keyed Tryd.prog 9 := string_keyed Tryd.underlying9
theorem zeroI (w : World) : (zeroValue 3).run Tryd.prog w = .ok (.int .i64 0) w := by kernel_rfl

/-- What holds between the lines. -/
structure PaI (w : World) (b : Nat) (v : Nat → Int) (h : Nat → Bool) (n : Nat) (W : World) : Prop where
  r0 : Sty W w.heap.size (fv 0)
  x1 : Bx W (w.heap.size + 1) 3 (.int .i64 0)
  x2 : Bx W (w.heap.size + 1 + 1) 24 (.int .i64 0)
  sty : Sty W b v
  m : Bx W (b + 1 + 1) 92 (.map (some (b + 1)))
  own : ∃ D, W.ownsMap Tryd.prog 9 (plainElem Tryd.prog 3) (b + 1) n D ∧ SeenOf D h
  o1 : w.heap.size + 3 ≤ b
  sz : b + 3 ≤ W.heap.size
  bel : Below w.heap.size w W
section
variable {w W W' : World} {b n : Nat} {v : Nat → Int} {h : Nat → Bool}
theorem PaI.mid (g : PaI w b v h n W) (hb : Below W.heap.size W W') : PaI w b v h n W' := by
  obtain ⟨D, h1, h2⟩ := g.own
  have := g.sz
  exact ⟨g.r0.later hb, g.x1.below hb g.x1.lt, g.x2.below hb g.x2.lt, g.sty.later hb, g.m.below hb g.m.lt, ⟨D, ownsMap_kept h1 (hb.block _ (by omega)), h2⟩, g.o1, Nat.le_trans g.sz hb.size, g.bel.trans (hb.mono g.bel.size)⟩
theorem PaI.grown (g : PaI w b v h n W) (hg : W.grownBy W' none) : PaI w b v h n W' :=
  g.mid ⟨hg.os, hg.tape, hg.output, hg.size, fun k hk => hg.block k hk (by simp)⟩
theorem PaI.put (g : PaI w b v h n W) {l : Nat} {o : Obj} (o' : Obj) (hl : b + 3 ≤ l) (ho : W.heap[l]? = some o) (hc : o.isCells = false) : PaI w b v h n (W.putObj l o') := by
  obtain ⟨D, h1, h2⟩ := g.own
  have := g.o1
  exact ⟨g.r0.put o' ho hc, g.x1.put' o' ho hc, g.x2.put' o' ho hc, g.sty.put o' ho hc, g.m.put' o' ho hc, ⟨D, ownsMap_kept h1 (World.putObj_heap_other (by omega)), h2⟩, g.o1, by simpa using g.sz, below_put g.bel o' (by omega)⟩
theorem PaI.set (g : PaI w b v h n W) {v' : Nat → Int} (hs : Sty W' b v') (hg : W.grownBy W' (some b)) : PaI w b v' h n W' := by
  obtain ⟨D, h1, h2⟩ := g.own
  have := g.o1; have := g.sz
  exact ⟨(hg.block _ g.r0.lt (by simp; omega)).trans g.r0, (hg.block _ g.x1.lt (by simp; omega)).trans g.x1, (hg.block _ g.x2.lt (by simp; omega)).trans g.x2, hs, (hg.block _ g.m.lt (by simp; omega)).trans g.m,
    ⟨D, ownsMap_kept h1 (hg.block _ (by omega) (by simp)), h2⟩, g.o1, Nat.le_trans g.sz hg.size, g.bel.grown hg g.bel.size (fun k e => by cases e; omega)⟩
end
theorem PaI.up {w W : World} {b n : Nat} {v : Nat → Int} {h : Nat → Bool} (g : PaI w b v h n W) : PaI w b v h (n + 1) W := by
  obtain ⟨D, h1, h2⟩ := g.own
  exact ⟨g.r0, g.x1, g.x2, g.sty, g.m, ⟨D, h1.mono (by omega), h2⟩, g.o1, g.sz, g.bel⟩
theorem PaI.mapped {w W W' : World} {b n : Nat} {v : Nat → Int} {h h' : Nat → Bool} (g : PaI w b v h n W) {D' : DataW Unit} (ho : W'.ownsMap Tryd.prog 9 (plainElem Tryd.prog 3) (b + 1) (n + 1) D') (hs : SeenOf D' h') (hg : W.grownBy W' (some (b + 1))) : PaI w b v h' (n + 1) W' := by
  have := g.o1; have := g.sz
  exact ⟨(hg.block _ g.r0.lt (by simp; omega)).trans g.r0, (hg.block _ g.x1.lt (by simp; omega)).trans g.x1, (hg.block _ g.x2.lt (by simp; omega)).trans g.x2, (hg.block _ g.sty.lt (by simp)).trans g.sty, (hg.block _ g.m.lt (by simp)).trans g.m,
    ⟨D', ho, hs⟩, g.o1, Nat.le_trans g.sz hg.size, g.bel.grown hg g.bel.size (fun k e => by cases e; omega)⟩
theorem keeps_row {B b : Nat} {W W' : World} (hg : W.grownBy W' (some b)) (h : b < B) : KeepsFrom B W W' :=
  ⟨hg.size, fun k o hk e _ => (hg.block k (Array.getElem?_eq_some_iff.1 e).1 (by simp; omega)).trans e⟩
/-- What is left in the results' boxes. -/
structure PaE (w : World) (v : Nat → Int) (p e : Int) (W : World) : Prop where
  r0 : W.rangeAt w.heap.size 0 (St.stv v)
  x1 : Bx W (w.heap.size + 1) 3 (.int .i64 p)
  x2 : Bx W (w.heap.size + 1 + 1) 24 (.int .i64 e)
  bel : Below w.heap.size w W
theorem PaE.put {w W : World} {v : Nat → Int} {p e : Int} (g : PaE w v p e W) {l : Nat} {o : Obj} (o' : Obj) (hl : w.heap.size ≤ l) (ho : W.heap[l]? = some o) (hc : o.isCells = false) : PaE w v p e (W.putObj l o') :=
  ⟨fun j u hj => by
    have h1 := g.r0 j u hj
    refine (World.cell?_of_block (w := W) (World.putObj_heap_other ?_)).trans h1
    rintro rfl
    unfold World.cell? at h1
    simp only [ho] at h1
    cases o <;> simp_all [Obj.isCells], g.x1.put' o' ho hc, g.x2.put' o' ho hc, below_put g.bel o' hl⟩
theorem pa_results {w W : World} {v : Nat → Int} {p e : Int} {tmps : Array Value} (g : PaE w v p e W) (h2 : tmps.getD 2 undef = .pointer (some ⟨w.heap.size, 0, none⟩)) (h3 : tmps.getD 3 undef = .pointer (some ⟨w.heap.size + 1, 0, none⟩)) (h4 : tmps.getD 4 undef = .pointer (some ⟨w.heap.size + 1 + 1, 0, none⟩)) :
    (results Tryd.f17 tmps).run Tryd.prog W = .ok (.tuple #[.agg (St.stv v).toArray, .int .i64 p, .int .i64 e]) W := by
  have z1 := g.x1.cell
  have z2 := g.x2.cell
  have h2' : tmps[2]?.getD undef = .pointer (some ⟨w.heap.size, 0, none⟩) := by simpa using h2
  have h3' : tmps[3]?.getD undef = .pointer (some ⟨w.heap.size + 1, 0, none⟩) := by simpa using h3
  have h4' : tmps[4]?.getD undef = .pointer (some ⟨w.heap.size + 1 + 1, 0, none⟩) := by simpa using h4
  have hinfo : (Tryd.prog.info? 23).map (·.size) = some (St.stv v).length := by rw [St.stv_len]; kernel_rfl
  have e0 := run_loadVar_mid (P := Tryd.prog) W w.heap.size 0 23 (St.stv v) _ g.r0 Tryd.underlying23 rfl hinfo
  have e1 : (loadVar 3 ⟨w.heap.size + 1, 0, none⟩).run Tryd.prog W = .ok (.int .i64 p) W := by simp [go_sem, z1]
  have e2 : (loadVar 24 ⟨w.heap.size + 1 + 1, 0, none⟩).run Tryd.prog W = .ok (.int .i64 e) W := by simp [go_sem, z2]
  simp [results, Tryd.results17, h2', h3', h4', asAddr, e0, e1, e2]
theorem setCells_block {b : Nat} {T : TypeId} {fr : Nat × Nat} : ∀ (vs : List Value) (o : Nat) (cs : Array Value) (W : World), W.heap[b]? = some (.cells cs T fr) → o + vs.length ≤ cs.size →
    (W.setCells b o vs).heap[b]? = some (.cells (cs.toList.take o ++ vs ++ cs.toList.drop (o + vs.length)).toArray T fr)
  | [], o, cs, W, h, _ => by simpa [World.setCells] using h
  | v :: r, o, cs, W, h, hl => by
    simp only [List.length_cons] at hl
    have h1 : (W.setCell ⟨b, o, none⟩ v).heap[b]? = some (.cells (cs.setIfInBounds o v) T fr) := by simp [World.setCell, Array.getElem?_modify, h]
    have h2 := setCells_block r (o + 1) (cs.setIfInBounds o v) _ h1 (by simp; omega)
    refine (show _ = _ from h2).trans ?_
    congr 2
    apply congrArg
    have e1 : (cs.setIfInBounds o v).toList = cs.toList.set o v := by simp
    have hlt : o < cs.toList.length := by simp; omega
    rw [e1, List.set_eq_take_append_cons_drop, if_pos hlt]
    have hto : (cs.toList.take o).length = o := by simp; omega
    rw [show o + 1 = (cs.toList.take o).length + 1 by omega, List.take_append, List.drop_append]
    simp only [hto, List.append_assoc, List.cons_append, Nat.add_sub_cancel_left, List.take_succ_cons, List.take_zero, List.nil_append]
    rw [List.take_of_length_le (by omega : (cs.toList.take o).length ≤ o + 1), List.drop_eq_nil_of_le (by omega : (cs.toList.take o).length ≤ o + 1 + r.length), List.nil_append, show o + 1 + r.length - o = r.length + 1 by omega, List.drop_succ_cons, List.drop_drop, show o + 1 + r.length = o + (r.length + 1) by omega, List.length_cons]
theorem Sty.store {W : World} {b : Nat} {v : Nat → Int} (h : Sty W b v) (u : Nat → Int) : Sty (W.setCells b 0 (St.stv u)) b u := by
  have := setCells_block (St.stv u) 0 _ W h (by simp [St.stv_len])
  unfold Sty
  rw [this]
  simp [St.stv_len]
theorem sty_there {W : World} {b : Nat} {v : Nat → Int} (h : Sty W b v) (u : Nat → Int) : W.there b 0 (St.stv u).toArray.size := by
  intro j hj
  rw [List.size_toArray, St.stv_len] at hj
  rw [Nat.zero_add]
  exact ⟨by rw [h.cell hj]; rfl, h.frozen j⟩
theorem sty_one (u : Nat → Int) : (St.stv u).toArray.all (·.oneCell') = true := all_oneCell_toArray (fun x hx => by
  obtain ⟨i, hi, rfl⟩ := List.mem_map.1 hx
  unfold St.cellN
  split <;> rfl)
theorem sty_info (u : Nat → Int) : (Tryd.prog.info? 23).map (·.size) = some (St.stv u).toArray.size := by rw [List.size_toArray, St.stv_len]; kernel_rfl

theorem sty_zero (w : World) : Sty (w.alloc (.cells #[.int .i64 0, .int .i64 0, .int .i64 0, .int .i64 0, .bool false, .bool false, .bool false, .int .i64 0, .int .i64 0, .int .i64 0, .int .i64 0, .int .i64 0, .int .i64 0, .int .i64 0, .int .i64 0, .int .i64 0, .int .i64 0, .int .i64 0] 23)) w.heap.size (fv 0) := by rw [← zeroSt]; exact Sty.new w (fv 0)
theorem run_store18 {W : World} {b : Nat} {v : Nat → Int} (h : Sty W b v) (u : Nat → Int) : (storeCells ⟨b, 0, none⟩ (St.stv u)).run Tryd.prog W = .ok () (W.setCells b 0 (St.stv u)) := by
  have ht := sty_there h u
  have := run_storeCells_cells (P := Tryd.prog) b 0 (St.stv u) 0 W (fun j hj => by simpa using (ht j (by simpa using hj)).1) (fun j hj => by simpa using (ht j (by simpa using hj)).2)
    (fun x hx => (Array.all_eq_true_iff_forall_mem.1 (sty_one u)) x (by simpa using hx))
  simpa using this

end Go.Proofs.YtliabgcpciekpaaDoor
