/- Words for memory: a slice that reads as some cells; ranges, numbers and flags as cells; boxes; small helpers of the walks. -/
import Derived.Test.YtliabgcpciekpaaDoorProg
import Derived.Test.YtliabgcpciekpaaDoorSeq2
import Derived.RangeFuncBox
import Derived.Shelf.Abstract
import Derived.Shelf.RegionOpen
import Derived.OwnWalkIn
import Derived.TacticsInMore
import Derived.LoopNIn
import Derived.LoopIn
import Derived.Maps.AppendAt
import Derived.Lib.Strings
import Derived.WalkKit
import Derived.WalkSpells
import Derived.WalkLawsBesides
import Derived.Deep.QuietTactic
import Derived.BigQuiet
import Derived.Lib.Hide
import Derived.Outline
set_option linter.unusedVariables false
set_option linter.unusedSimpArgs false
namespace Go.Proofs.YtliabgcpciekpaaDoor
open Go Go.RowKit Go.Shelf
/-- The slice at A of n elements of sz cells each reads, in w, as the cells xs. -/
def Rd (w : World) (sz : Nat) (A : Option Addr) (n : Nat) (xs : List Value) : Prop :=
  xs.length = n * sz ∧ (0 < n → ∃ b o, A = some ⟨b, o, none⟩ ∧ b < w.heap.size ∧ ∀ j u, xs[j]? = some u → w.cell? ⟨b, o + j, none⟩ = some u)

section
variable {w w' : World} {sz n : Nat} {A : Option Addr} {xs : List Value}
theorem Rd.below (h : Rd w sz A n xs) {B : Nat} (hB : w.heap.size ≤ B) (hb : Below B w w') : Rd w' sz A n xs :=
  ⟨h.1, fun hn => by
    obtain ⟨b, o, e, hlt, hc⟩ := h.2 hn
    exact ⟨b, o, e, Nat.lt_of_lt_of_le hlt hb.size, fun j u hu => (hb.cell (p := ⟨b, o + j, none⟩) (Nat.lt_of_lt_of_le hlt hB)).trans (hc j u hu)⟩⟩
theorem Rd.later (h : Rd w sz A n xs) (hb : Below w.heap.size w w') : Rd w' sz A n xs := h.below (Nat.le_refl _) hb
/-- Whatever lies below the bound B stays. -/
theorem Rd.nil (w : World) (sz : Nat) (A : Option Addr) : Rd w sz A 0 [] := ⟨by simp, fun h => absurd h (by omega)⟩
theorem Rd.of_own {base : Nat} {e : TypeId} {c : Nat} (h : w.ownsRow base e sz (.slice A n c) n xs) : Rd w sz A n xs := by
  refine ⟨h.1, fun hn => ?_⟩
  rcases h.2 with ⟨hv, hx⟩ | ⟨g, cap, cur, hv, hg, hh, r⟩
  · omega
  · injection hv with h1 h2 h3
    refine ⟨g, 0, h1, (Array.getElem?_eq_some_iff.1 hh).1, fun j u hu => ?_⟩
    have := h.cells (g := g) (by rw [h1]; rfl) j u hu
    by_cases hj : j = 0
    · subst hj; simpa [Addr.add] using this
    · simpa [Addr.add, hj] using this
end

/-- A slice value that reads as some cells. -/
def Sl (w : World) (sz : Nat) (v : Value) (n : Nat) (xs : List Value) : Prop := ∃ A c, v = .slice A n c ∧ n ≤ c ∧ Rd w sz A n xs
theorem Sl.later {w w' : World} {sz n : Nat} {v : Value} {xs : List Value} (h : Sl w sz v n xs) (hb : Below w.heap.size w w') : Sl w' sz v n xs := by
  obtain ⟨A, c, e, hc, hr⟩ := h
  exact ⟨A, c, e, hc, hr.later hb⟩
theorem Sl.below {w w' : World} {sz n : Nat} {v : Value} {xs : List Value} (h : Sl w sz v n xs) {B : Nat} (hB : w.heap.size ≤ B) (hb : Below B w w') : Sl w' sz v n xs := by
  obtain ⟨A, c, e, hc, hr⟩ := h
  exact ⟨A, c, e, hc, hr.below hB hb⟩

/-- A range's cells; flags'; numbers'. -/
def rgc (r : Int × Int) : List Value := [.int .i64 r.1, .int .i64 r.2]
def rgcs (l : List (Int × Int)) : List Value := l.flatMap rgc
def bls (l : List Bool) : List Value := l.map Value.bool
def ins (l : List Int) : List Value := l.map (Value.int .i64)
theorem rgcs_length (l : List (Int × Int)) : (rgcs l).length = l.length * 2 := by
  induction l with
  | nil => rfl
  | cons e r ih => simp only [rgcs, List.flatMap_cons, List.length_append, List.length_cons] at ih ⊢; simp only [rgc, List.length_cons, List.length_nil]; omega
theorem rgcs_at {l : List (Int × Int)} : ∀ {k : Nat} {e : Int × Int}, l[k]? = some e → (rgcs l)[k * 2]? = some (.int .i64 e.1) ∧ (rgcs l)[k * 2 + 1]? = some (.int .i64 e.2) := by
  induction l with
  | nil => intro k e h; simp at h
  | cons x r ih =>
    intro k e h
    cases k with
    | zero => simp only [List.getElem?_cons_zero, Option.some.injEq] at h; subst h; exact ⟨rfl, rfl⟩
    | succ k =>
      simp only [List.getElem?_cons_succ] at h
      have := ih h
      have e1 : rgcs (x :: r) = rgc x ++ rgcs r := rfl
      have e2 : (rgc x).length = 2 := rfl
      rw [e1]
      refine ⟨?_, ?_⟩
      · rw [List.getElem?_append_right (by omega), e2, ← this.1]; congr 1; omega
      · rw [List.getElem?_append_right (by omega), e2, ← this.2]; congr 1; omega
theorem Rd.rg {w : World} {A : Option Addr} {l : List (Int × Int)} {n : Nat} (h : Rd w 2 A n (rgcs l)) {k : Nat} {e : Int × Int} (hk : l[k]? = some e) :
    ∃ b o, A = some ⟨b, o, none⟩ ∧ b < w.heap.size ∧ w.cell? ⟨b, o + k * 2, none⟩ = some (.int .i64 e.1) ∧ w.cell? ⟨b, o + k * 2 + 1, none⟩ = some (.int .i64 e.2) := by
  have hl : k < l.length := (List.getElem?_eq_some_iff.1 hk).1
  have h1 := h.1
  rw [rgcs_length] at h1
  obtain ⟨b, o, e, hlt, hc⟩ := h.2 (by omega)
  obtain ⟨a1, a2⟩ := rgcs_at hk
  exact ⟨b, o, e, hlt, hc _ _ a1, by have := hc _ _ a2; rwa [← Nat.add_assoc] at this⟩
theorem Rd.bl {w : World} {A : Option Addr} {l : List Bool} {n : Nat} (h : Rd w 1 A n (bls l)) {k : Nat} {e : Bool} (hk : l[k]? = some e) :
    ∃ b o, A = some ⟨b, o, none⟩ ∧ b < w.heap.size ∧ w.cell? ⟨b, o + k, none⟩ = some (.bool e) := by
  have hl : k < l.length := (List.getElem?_eq_some_iff.1 hk).1
  have h1 := h.1
  simp only [bls, List.length_map, Nat.mul_one] at h1
  obtain ⟨b, o, e, hlt, hc⟩ := h.2 (by omega)
  exact ⟨b, o, e, hlt, hc _ _ (by simp [bls, hk])⟩
theorem Rd.nu {w : World} {A : Option Addr} {l : List Int} {n : Nat} (h : Rd w 1 A n (ins l)) {k : Nat} {e : Int} (hk : l[k]? = some e) :
    ∃ b o, A = some ⟨b, o, none⟩ ∧ b < w.heap.size ∧ w.cell? ⟨b, o + k, none⟩ = some (.int .i64 e) := by
  have hl : k < l.length := (List.getElem?_eq_some_iff.1 hk).1
  have h1 := h.1
  simp only [ins, List.length_map, Nat.mul_one] at h1
  obtain ⟨b, o, e, hlt, hc⟩ := h.2 (by omega)
  exact ⟨b, o, e, hlt, hc _ _ (by simp [ins, hk])⟩
theorem below_drewN {B : Nat} {a w : World} (h : Below B a w) (n : Nat) : Below B a (w.drewN n) := ⟨h.os, h.tape, h.output, h.size, h.block⟩
theorem ret_int {k : IntKind} {a b : Int} (h : a = b) : Ending.returned (.int k a) = .returned (.int k b) := by rw [h]
theorem ret_bool {a b : Bool} (h : a = b) : Ending.returned (.bool a) = .returned (.bool b) := by rw [h]

/-- A box: a block of one cell. -/
def Bx (w : World) (b : Nat) (T : TypeId) (v : Value) : Prop := w.heap[b]? = some (.cells #[v] T (0, 0))
theorem Bx.cell {w : World} {b : Nat} {T : TypeId} {v : Value} (h : Bx w b T v) : w.cell? ⟨b, 0, none⟩ = some v := by unfold Bx at h; simp [World.cell?, h]
theorem Bx.frozen {w : World} {b : Nat} {T : TypeId} {v : Value} (h : Bx w b T v) : w.frozen? ⟨b, 0, none⟩ = false := by unfold Bx at h; simp [World.frozen?, h]
theorem Bx.lt {w : World} {b : Nat} {T : TypeId} {v : Value} (h : Bx w b T v) : b < w.heap.size := (Array.getElem?_eq_some_iff.1 h).1
theorem Bx.set {w : World} {b : Nat} {T : TypeId} {v : Value} (h : Bx w b T v) (u : Value) : Bx (w.setCell ⟨b, 0, none⟩ u) b T u := by
  unfold Bx at h ⊢
  simp [World.setCell, Array.getElem?_modify, h]
theorem Bx.new (w : World) (T : TypeId) (v : Value) : Bx (w.alloc (.cells #[v] T)) w.heap.size T v := heap_alloc_new w _
theorem Bx.below {w w' : World} {b B : Nat} {T : TypeId} {v : Value} (h : Bx w b T v) (hb : Below B w w') (hB : b < B) : Bx w' b T v := (hb.block b hB).trans h
theorem Bx.same {w w' : World} {b : Nat} {T : TypeId} {v : Value} (h : Bx w b T v) (e : w'.heap[b]? = w.heap[b]?) : Bx w' b T v := e.trans h

theorem grownBy_set (w : World) (b : Nat) (u : Value) : w.grownBy (w.setCell ⟨b, 0, none⟩ u) (some b) :=
  ⟨rfl, rfl, rfl, by simp [World.setCell], fun k _ hk => Below.heap_setCell _ _ _ _ (fun e => hk (by rw [e]))⟩

/-- What a call that collects leaves: a slice of its own. -/
def SlOwn (w w' : World) (e : TypeId) (sz : Nat) (v : Value) (n : Nat) (xs : List Value) : Prop := w'.ownsRow w.heap.size e sz v n xs ∧ Below w.heap.size w w'

/-- A box that holds a slice of the call's own, which has been collected so far. -/
def Coll (W : World) (Bl : Nat) (Tl base : Nat) (e : TypeId) (sz n : Nat) (xs : List Value) : Prop := ∃ v, Bx W Bl Tl v ∧ W.ownsRow base e sz v n xs

theorem own_base {W : World} {base b' : Nat} {e : TypeId} {sz n : Nat} {v : Value} {xs : List Value} (h : W.ownsRow base e sz v n xs) (hb : b' ≤ base) : W.ownsRow b' e sz v n xs := by
  refine ⟨h.1, ?_⟩
  rcases h.2 with h2 | ⟨g, cap, cur, hv, hg, r⟩
  · exact .inl h2
  · exact .inr ⟨g, cap, cur, hv, Nat.le_trans hb hg, r⟩
theorem own_ne {W : World} {base : Nat} {e : TypeId} {sz n : Nat} {v : Value} {xs : List Value} (h : W.ownsRow base e sz v n xs) {j : Nat} (hj : j < base) : v.ownBlock ≠ some j := by
  intro e'
  have := (h.lt j e').1
  omega
theorem own_ne_obj {W : World} {base : Nat} {e : TypeId} {sz n : Nat} {v : Value} {xs : List Value} (h : W.ownsRow base e sz v n xs) {j : Nat} {o : Obj} (hj : W.heap[j]? = some o) (ho : o.isCells = false) : v.ownBlock ≠ some j := by
  intro e'
  rcases h.2 with ⟨rfl, _⟩ | ⟨g, cap, cur, rfl, _, hg, _⟩
  · simp [Value.ownBlock] at e'
  · simp only [Value.ownBlock, Option.some.injEq] at e'
    subst e'
    rw [hg] at hj; cases hj; cases ho
theorem Bx.ne_obj {w : World} {b : Nat} {T : TypeId} {v : Value} (h : Bx w b T v) {j : Nat} {o : Obj} (hj : w.heap[j]? = some o) (ho : o.isCells = false) : b ≠ j := by
  rintro rfl
  unfold Bx at h; rw [h] at hj; cases hj; cases ho

section
variable {W W' : World} {Bl Tl base : Nat} {e : TypeId} {sz n : Nat} {xs : List Value}
theorem Coll.grown (h : Coll W Bl Tl base e sz n xs) {k : Nat} (hg : W.grownBy W' (some k)) (h1 : k ≠ Bl) (h2 : k < base) : Coll W' Bl Tl base e sz n xs := by
  obtain ⟨v, hb, ho⟩ := h
  exact ⟨v, (hg.block Bl hb.lt (fun e => h1 (by injection e with e; exact e.symm))).trans hb, ho.kept hg (.inr (own_ne ho h2))⟩
theorem Coll.put (h : Coll W Bl Tl base e sz n xs) {l : Nat} {o : Obj} (o' : Obj) (hl : W.heap[l]? = some o) (ho : o.isCells = false) : Coll (W.putObj l o') Bl Tl base e sz n xs := by
  obtain ⟨v, hb, hr⟩ := h
  exact ⟨v, (World.putObj_heap_other (hb.ne_obj hl ho)).trans hb, hr.kept (grownBy_putObj' W l o') (.inr (own_ne_obj hr hl ho))⟩
theorem below_put {w0 : World} (h : Below w0.heap.size w0 W) {l : Nat} (o' : Obj) (hl : w0.heap.size ≤ l) : Below w0.heap.size w0 (W.putObj l o') :=
  h.trans ⟨rfl, rfl, rfl, by simp, fun k hk => World.putObj_heap_other (by omega)⟩
theorem Coll.new (w : World) (Tl base : Nat) (e : TypeId) (sz : Nat) : Coll (w.alloc (.cells #[.slice none 0 0] Tl)) w.heap.size Tl base e sz 0 [] :=
  ⟨_, Bx.new _ _ _, World.ownsRow_nil _ _ _ _⟩
theorem Coll.alloc (h : Coll W Bl Tl base e sz n xs) (o : Obj) : Coll (W.alloc o) Bl Tl base e sz n xs := by
  obtain ⟨v, hb, ho⟩ := h
  exact ⟨v, (Below.heap_alloc W o Bl hb.lt).trans hb, ho.alloc o⟩
theorem Coll.below {B : Nat} (h : Coll W Bl Tl base e sz n xs) (hb : Below B W W') (h1 : Bl < B) (h2 : W.heap.size ≤ B) : Coll W' Bl Tl base e sz n xs := by
  obtain ⟨v, hx, ho⟩ := h
  refine ⟨v, hx.below hb h1, ho.kept (row := none) ⟨hb.os, hb.tape, hb.output, hb.size, fun k hk _ => hb.block k (by omega)⟩ ?_⟩
  rcases ho.2 with ⟨rfl, _⟩ | ⟨g, cap, cur, rfl, _⟩
  · exact .inl rfl
  · exact .inr (by simp [Value.ownBlock])
end

theorem coll_app {W w1 : World} {Bl Tl base : Nat} {e : TypeId} {sz n : Nat} {v : Value} {xs : List Value} {o : Obj} (hv : Bx W Bl Tl v) (hrow : W.ownsRow base e sz v n xs) (hBl : Bl < base)
    (hgrow : (W.alloc o).grownBy w1 v.ownBlock) : Bx w1 Bl Tl v := by
  have h1 : Bx (W.alloc o) Bl Tl v := (Below.heap_alloc W o Bl hv.lt).trans hv
  exact (hgrow.block Bl h1.lt (fun e => own_ne hrow hBl e.symm)).trans h1

theorem coll_end {w W w1 : World} {B Bl Tl base : Nat} {e : TypeId} {sz n m : Nat} {v v' : Value} {xs ys : List Value} {o : Obj} (hv : Bx W Bl Tl v) (hrow : W.ownsRow base e sz v n xs) (hBl : Bl < base) (hw : w.heap.size ≤ Bl) (hsz : base ≤ W.heap.size)
    (hB : Below w.heap.size w W) (hgrow : (W.alloc o).grownBy w1 v.ownBlock) (hown' : w1.ownsRow base e sz v' m ys) :
    KeepsFrom B W (w1.setCell ⟨Bl, 0, none⟩ v') ∧ (Coll (w1.setCell ⟨Bl, 0, none⟩ v') Bl Tl base e sz m ys ∧ Below w.heap.size w (w1.setCell ⟨Bl, 0, none⟩ v') ∧ base ≤ (w1.setCell ⟨Bl, 0, none⟩ v').heap.size) ∧
    ∀ k, k < base → k ≠ Bl → (w1.setCell ⟨Bl, 0, none⟩ v').heap[k]? = W.heap[k]? := by
  have hv1 := coll_app hv hrow hBl hgrow
  have hg := grownBy_set w1 Bl v'
  have hs1 : W.heap.size + 1 ≤ w1.heap.size := by have := hgrow.size; simpa using this
  have hs2 : (w1.setCell ⟨Bl, 0, none⟩ v').heap.size = w1.heap.size := by simp [World.setCell]
  refine ⟨?_, ⟨⟨v', hv1.set v', hown'.kept hg (.inr (own_ne hown' hBl))⟩, ?_, by omega⟩, fun k hk hne => ?_⟩
  · refine (((KeepsOthers.alloc W o).trans (KeepsOthers.of_grownBy hgrow (fun j o' hj ho' => ?_))).trans (KeepsOthers.setCell _ _ _)).from B
    rcases (hrow.alloc o).2 with ⟨rfl, _⟩ | ⟨g, cap, cur, rfl, _, hg', _⟩
    · simp [Value.ownBlock] at hj
    · simp only [Value.ownBlock, Option.some.injEq] at hj
      subst hj
      rw [hg'] at ho'; cases ho'; rfl
  · exact ((hB.alloc hB.size o).grown hgrow (by have := hB.size; simp; omega) (fun k hk => by have := (hrow.lt k hk).1; omega)).setCell (p := ⟨Bl, 0, none⟩) hw _
  · rw [hg.block k (by omega) (fun e => hne (by injection e)), hgrow.block k (by simp; omega) (fun e => own_ne hrow hk e.symm)]
    exact Below.heap_alloc W o k (by omega)

/-- What lies in the blocks below N stays. -/
def Keep (N : Nat) (a b : World) : Prop := a.heap.size ≤ b.heap.size ∧ ∀ k, k < N → b.heap[k]? = a.heap[k]?
theorem Keep.refl (N : Nat) (a : World) : Keep N a a := ⟨Nat.le_refl _, fun _ _ => rfl⟩
theorem Keep.trans {N : Nat} {a b c : World} (h : Keep N a b) (g : Keep N b c) : Keep N a c := ⟨Nat.le_trans h.1 g.1, fun k hk => (g.2 k hk).trans (h.2 k hk)⟩
theorem Keep.below {N M : Nat} {a b : World} (h : Below M a b) (hN : N ≤ M) : Keep N a b := ⟨h.size, fun k hk => h.block k (by omega)⟩
theorem Keep.mono {N M : Nat} {a b : World} (h : Keep M a b) (hN : N ≤ M) : Keep N a b := ⟨h.1, fun k hk => h.2 k (by omega)⟩
theorem cell_same {a b : World} {p : Addr} (h : b.heap[p.block]? = a.heap[p.block]?) : b.cell? p = a.cell? p := by unfold World.cell?; rw [h]
theorem Rd.keep {w w' : World} {sz n : Nat} {A : Option Addr} {xs : List Value} (h : Rd w sz A n xs) (g : Keep w.heap.size w w') : Rd w' sz A n xs :=
  ⟨h.1, fun hn => by
    obtain ⟨b, o, e, hlt, hc⟩ := h.2 hn
    exact ⟨b, o, e, Nat.lt_of_lt_of_le hlt g.1, fun j u hu => (cell_same (p := ⟨b, o + j, none⟩) (g.2 b hlt)).trans (hc j u hu)⟩⟩
theorem Bx.keep {w w' : World} {b N : Nat} {T : TypeId} {v : Value} (h : Bx w b T v) (g : Keep N w w') (hb : b < N) : Bx w' b T v := (g.2 b hb).trans h

theorem own_form {W : World} {base : Nat} {e : TypeId} {sz n : Nat} {v : Value} {xs : List Value} (h : W.ownsRow base e sz v n xs) : ∃ A c, v = .slice A n c ∧ n ≤ c ∧ Rd W sz A n xs := by
  rcases h.2 with ⟨rfl, rfl⟩ | ⟨g, cap, cur, rfl, hg, hh, hnc, _⟩
  · exact ⟨none, 0, rfl, Nat.le_refl _, Rd.of_own h⟩
  · exact ⟨_, cap, rfl, hnc, Rd.of_own h⟩
theorem own_later {W W' : World} {base : Nat} {e : TypeId} {sz n : Nat} {v : Value} {xs : List Value} (h : W.ownsRow base e sz v n xs) (hb : Below W.heap.size W W') : W'.ownsRow base e sz v n xs := by
  refine h.kept (row := none) ⟨hb.os, hb.tape, hb.output, hb.size, fun k hk _ => hb.block k hk⟩ ?_
  rcases h.2 with ⟨rfl, _⟩ | ⟨g, cap, cur, rfl, _⟩
  · exact .inl rfl
  · exact .inr (by simp [Value.ownBlock])

def bs (x : List UInt8) : ByteArray := ⟨x.toArray⟩
theorem bs_data (x : List UInt8) : (bs x).data.toList = x := by simp [bs]
theorem bs_toList (x : List UInt8) : (bs x).toList = x := by rw [Lib.toList_data, bs_data]
theorem bs_of (s : ByteArray) : bs s.data.toList = s := Lib.mk_data s
theorem bs_size (x : List UInt8) : (bs x).size = x.length := by rw [Lib.size_eq, bs_data]
theorem bs_cat (x y : List UInt8) : bs x ++ bs y = bs (x ++ y) := by
  apply ByteArray.ext
  simp [bs]

end Go.Proofs.YtliabgcpciekpaaDoor
