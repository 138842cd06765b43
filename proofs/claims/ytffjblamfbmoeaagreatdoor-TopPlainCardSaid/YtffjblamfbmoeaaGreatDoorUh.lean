/- Several texts in one: strings.Builder: copyCheck, WriteString and WriteByte (the library's contracts for them cannot be laid at this translation); Maps by strings, of no entry or of one; Walks: macros, at X -> 1: reserved, is, valid, Same; Walks: tokens as macro tokens; Walks: macros, at X -> 1: Define; Walks: macros, at X -> 1: the line; a logical text, spelt; Walks: a logical text, spelt, where nothing must be parted; Walks: lists of tokens compared; macro.Same at X; Walks: macro.Text, at X -> 1. -/
import Derived.Test.YtffjblamfbmoeaaGreatDoorUa
import Derived.Test.YtffjblamfbmoeaaGreatDoorShelf
import Derived.Lib.Strings
import Derived.Lib.Slices
import Derived.Lib.Walk
import Derived.Lib.Builder
import Derived.Lib.AppendStr
import Derived.Laws.Externs
import Derived.Maps.Own
import Derived.Test.YtffjblamfbmoeaaGreatDoorUg
import Derived.Test.YtffjblamfbmoeaaGreatDoorUf
/-! strings.Builder: copyCheck, WriteString and WriteByte (the library's contracts for them cannot be laid at this translation). -/
set_option linter.unusedVariables false
namespace Go.Proofs.YtffjblamfbmoeaaGreatDoor
open Go Go.RowKit

theorem sizeBuilder : (Tryz.prog.info? 95).map (fun i => i.size) = some 2 := by kernel_rfl
theorem liesBuilder : liesAt Tryz.prog Tryz.prog.depth 95 (2 / Tryz.prog.cellsOf 95) 0 95 1 = true := by kernel_rfl
theorem infoByte : (Tryz.prog.info? 5).map (fun i => (i.zero, i.size, i.bytes)) = some (some (.int .u8 0), 1, 1) := by kernel_rfl

set_option maxHeartbeats 1000000 in
set_option maxRecDepth 100000 in
theorem copyCheck_used (b : Nat) (w : World) (h0 : w.cell? ⟨b, 0, none⟩ = some (.pointer (some ⟨b, 0, none⟩))) :
    Calls Tryz.prog 61 #[.pointer (some ⟨b, 0, none⟩)] w fun e w' => e = .returned (.tuple #[]) ∧ w' = w := by
  obtain ⟨j, hj, _⟩ := Option.map_eq_some_iff.1 sizeBuilder
  go_enter Tryz.func61, Tryz.ntmps61
  go_wp2
  rw [Lib.run_neq_ptr_same w _ Tryz.underlying93 hj]
  go_wp2
  go_end0
  exact ⟨rfl, rfl⟩

set_option maxHeartbeats 1000000 in
set_option maxRecDepth 100000 in
theorem copyCheck_fresh (b : Nat) (w : World) (h0 : w.cell? ⟨b, 0, none⟩ = some (.pointer none)) (hsh : w.shape? b = some (95, 2)) (hfz : w.frozen? ⟨b, 0, none⟩ = false) :
    Calls Tryz.prog 61 #[.pointer (some ⟨b, 0, none⟩)] w fun e w' => e = .returned (.tuple #[]) ∧ w' = w.setCell ⟨b, 0, none⟩ (.pointer (some ⟨b, 0, none⟩)) := by
  obtain ⟨j, hj, hjs⟩ := Option.map_eq_some_iff.1 sizeBuilder
  go_enter Tryz.func61, Tryz.ntmps61
  go_wp2
  rw [Lib.run_to_unsafe w ⟨b, 0, none⟩ Tryz.underlying93 Tryz.underlying159 hj (by rw [hjs]; decide) hsh (Nat.zero_lt_succ 1)]
  simp only [Result.andThen]
  rw [Oper.upon_value]
  go_wp2
  rw [run_callFunc_extern Tryz.func81 (by kernel_rfl) (by kernel_rfl) (by kernel_rfl) (e := Extern.AbiNoEscape.same) (by kernel_rfl)]
  rw [Lib.run_noEscape]
  simp only [Result.andThen]
  rw [Oper.upon_value]
  go_wp2
  rw [Lib.run_from_unsafe w ⟨b, 0, none⟩ Tryz.underlying159 Tryz.underlying93 hj hsh liesBuilder]
  simp only [Result.andThen]
  rw [Oper.upon_value]
  go_wp2
  go_end0
  exact ⟨rfl, rfl⟩

abbrev IsBd (B b : Nat) (bs : List Value) (w : World) : Prop := Lib.IsBuilder 95 5 B b bs w

/-- Every block that is not b and holds no bytes lies as it lay. -/
def Oth (b : Nat) (w w' : World) : Prop := ∀ (k : Nat) (o : Obj), w.heap[k]? = some o → k ≠ b → (∀ c fr, o ≠ .cells c 5 fr) → w'.heap[k]? = some o
theorem Oth.refl (b : Nat) (w : World) : Oth b w w := fun _ _ h _ _ => h
theorem Oth.trans {b : Nat} {x y z : World} (h : Oth b x y) (k : Oth b y z) : Oth b x z := fun i o hi hb hT => k i o (h i o hi hb hT) hb hT
theorem Oth.setCell {b : Nat} (w : World) (j : Nat) (u : Value) : Oth b w (w.setCell ⟨b, j, none⟩ u) := fun k o h hb _ => (Below.heap_setCell _ _ _ _ hb).trans h
theorem Oth.below {b : Nat} {w w' : World} (h : Below w.heap.size w w') : Oth b w w' := fun k o hk _ _ => (h.block k (Array.getElem?_eq_some_iff.1 hk).1).trans hk

theorem copyCheck_any (B b : Nat) (bs : List Value) (w : World) (h : IsBd B b bs w) :
    Calls Tryz.prog 61 #[.pointer (some ⟨b, 0, none⟩)] w fun e w' => e = .returned (.tuple #[]) ∧ (Lib.BuilderAt 95 5 B b (.pointer (some ⟨b, 0, none⟩)) bs w' ∧ Below B w w' ∧ Oth b w w') := by
  rcases h with h | h
  · refine (copyCheck_fresh b w h.cell0 h.shape h.frozen0).mono ?_
    rintro e w' ⟨rfl, rfl⟩
    exact ⟨rfl, h.used _, (Below.refl B w).setCell (p := ⟨b, 0, none⟩) h.1 _, Oth.setCell _ _ _⟩
  · refine (copyCheck_used b w h.cell0).mono ?_
    rintro e w' ⟨rfl, rfl⟩
    exact ⟨rfl, h, Below.refl B _, Oth.refl _ _⟩

set_option maxHeartbeats 2000000 in
set_option maxRecDepth 100000 in
theorem WriteString_any (B b : Nat) (bs : List Value) (s : ByteArray) (w : World) (h : IsBd B b bs w) (hlen : bs.length + s.size ≤ 140737488355328) (hBw : B ≤ w.heap.size) :
    Calls Tryz.prog 37 #[.pointer (some ⟨b, 0, none⟩), .string s] w fun e w' => e = .returned (.tuple #[.int .i64 s.size, .nilIface]) ∧ IsBd B b (bs ++ Lib.strCells s) w' ∧ Below B w w' ∧ Oth b w w' := by
  obtain ⟨i0, hi, hz0, hz1, hz2⟩ := info_parts infoByte
  go_enter Tryz.func37, Tryz.ntmps37
  go_wp2_with (go_at_call 61; refine (copyCheck_any B b bs _ h).mono ?_)
  rintro e w1 ⟨rfl, h1, hb1, ho1⟩
  obtain ⟨hB, v, hbk, hown, hne⟩ := h1
  have c0 : w1.cell? ⟨b, 0, none⟩ = some (.pointer (some ⟨b, 0, none⟩)) := by rw [Lib.cell_of_heap hbk]; rfl
  have c1 : w1.cell? ⟨b, 1, none⟩ = some v := by rw [Lib.cell_of_heap hbk]; rfl
  go_wp2_with (at_builtin; refine Lib.wpList_append_own_string _ rfl _ _ 76 9 rfl B 5 i0 Tryz.underlying76 Tryz.underlying9 hi hz0 hz1 hz2 _ _ _ rfl hown s rfl ?c3 ?c4 ?c5 ?_)
  case c3 => unfold maxLen; omega
  case c4 => omega
  case c5 => have := hb1.size; omega
  intro v' w2 hown' hgrow _
  have hlt : b < w1.heap.size := by
    rcases Nat.lt_or_ge b w1.heap.size with h' | h'
    · exact h'
    · simp [Array.getElem?_eq_none h'] at hbk
  have hb2 : w2.heap[b]? = some (.cells #[.pointer (some ⟨b, 0, none⟩), v] 95 (0, 0)) := by
    rw [hgrow.block b hlt (fun e => hne e.symm)]
    exact hbk
  have d0 : w2.cell? ⟨b, 0, none⟩ = some (.pointer (some ⟨b, 0, none⟩)) := by rw [Lib.cell_of_heap hb2]; rfl
  have d1 : w2.cell? ⟨b, 1, none⟩ = some v := by rw [Lib.cell_of_heap hb2]; rfl
  have f1 : w2.frozen? ⟨b, 1, none⟩ = false := Lib.frozen_of_heap hb2 1
  obtain ⟨ao, n', cap, rfl⟩ : ∃ ao n' cap, v' = .slice ao n' cap := by
    rcases hown'.2 with ⟨hv, _⟩ | ⟨g, cap, cur, hv, _⟩
    · exact ⟨_, _, _, hv⟩
    · exact ⟨_, _, _, hv⟩
  go_wp2
  go_ret2
  refine ⟨rfl, Or.inr ?_, ?_, (ho1.trans ?_).trans (Oth.setCell _ _ _)⟩
  · exact Lib.BuilderAt.put (T := 95) (e := 5) hB hb2 (bs' := bs ++ Lib.strCells s) (by simpa [Lib.strCells_length] using hown') (by decide)
  · exact (hb1.grown hgrow (by have := hb1.size; omega) (fun k hk => (hown.lt k hk).1)).setCell (p := ⟨b, 1, none⟩) hB _
  · intro k o hk hb hT
    refine (hgrow.block k (Array.getElem?_eq_some_iff.1 hk).1 (fun e => ?_)).trans hk
    rcases hown.2 with ⟨rfl, _⟩ | ⟨g, cap, cur, rfl, _, hg', _⟩
    · simp [Value.ownBlock] at e
    · have e2 : k = g := by
        have : some k = some g := e
        injection this
      subst e2
      rw [hg'] at hk; cases hk; exact hT _ _ rfl

set_option maxHeartbeats 2000000 in
set_option maxRecDepth 100000 in
theorem WriteByte_any (B b : Nat) (bs : List Value) (c : Int) (w : World) (h : IsBd B b bs w) (hlen : bs.length + 1 ≤ 140737488355328) (hBw : B ≤ w.heap.size) :
    Calls Tryz.prog 34 #[.pointer (some ⟨b, 0, none⟩), .int .u8 c] w fun e w' => e = .returned .nilIface ∧ IsBd B b (bs ++ [.int .u8 c]) w' ∧ Below B w w' ∧ Oth b w w' := by
  obtain ⟨i0, hi, hz0, hz1, hz2⟩ := info_parts infoByte
  go_enter Tryz.func34, Tryz.ntmps34
  go_wp2_with (go_at_call 61; refine (copyCheck_any B b bs _ h).mono ?_)
  rintro e w1 ⟨rfl, h1, hb1, ho1⟩
  obtain ⟨hB, v, hbk, hown, hne⟩ := h1
  have c0 : w1.cell? ⟨b, 0, none⟩ = some (.pointer (some ⟨b, 0, none⟩)) := by rw [Lib.cell_of_heap hbk]; rfl
  have c1 : w1.cell? ⟨b, 1, none⟩ = some v := by rw [Lib.cell_of_heap hbk]; rfl
  go_wp2_with (at_builtin; refine wpList_append_own _ rfl _ _ 76 rfl B 5 i0 _ 1 1 Tryz.underlying76 hi hz0 hz1 hz2 rfl (by decide) _ _ _ rfl (hown.alloc _) ⟨w1.heap.size, 0, none⟩ 1 1 [.int .u8 c] rfl rfl (cell_one_new _ _ _) (by simp [Value.oneCell']) ?c3 ?c4 ?c5 ?_)
  case c3 => unfold maxLen; omega
  case c4 => omega
  case c5 => have := hb1.size; simp; omega
  intro v' w2 hown' hgrow _
  have hlt : b < w1.heap.size := by
    rcases Nat.lt_or_ge b w1.heap.size with h' | h'
    · exact h'
    · simp [Array.getElem?_eq_none h'] at hbk
  have hb2 : w2.heap[b]? = some (.cells #[.pointer (some ⟨b, 0, none⟩), v] 95 (0, 0)) := by
    rw [hgrow.block b (by simp; omega) (fun e => hne e.symm)]
    exact (Below.heap_alloc _ _ _ hlt).trans hbk
  have d0 : w2.cell? ⟨b, 0, none⟩ = some (.pointer (some ⟨b, 0, none⟩)) := by rw [Lib.cell_of_heap hb2]; rfl
  have d1 : w2.cell? ⟨b, 1, none⟩ = some v := by rw [Lib.cell_of_heap hb2]; rfl
  have f1 : w2.frozen? ⟨b, 1, none⟩ = false := Lib.frozen_of_heap hb2 1
  obtain ⟨ao, n', cap, rfl⟩ : ∃ ao n' cap, v' = .slice ao n' cap := by
    rcases hown'.2 with ⟨hv, _⟩ | ⟨g, cap, cur, hv, _⟩
    · exact ⟨_, _, _, hv⟩
    · exact ⟨_, _, _, hv⟩
  go_wp2
  go_ret
  refine ⟨rfl, Or.inr ?_, ?_, (ho1.trans ?_).trans (Oth.setCell _ _ _)⟩
  · exact Lib.BuilderAt.put (T := 95) (e := 5) hB hb2 (bs' := bs ++ [.int .u8 c]) (by simpa using hown') (by decide)
  · exact ((hb1.alloc (by have := hb1.size; omega) _).grown hgrow (by have := hb1.size; simp; omega) (fun k hk => (hown.lt k hk).1)).setCell (p := ⟨b, 1, none⟩) hB _
  · intro k o hk hb hT
    have hkl := (Array.getElem?_eq_some_iff.1 hk).1
    refine (hgrow.block k (by simp; omega) (fun e => ?_)).trans ((Below.heap_alloc _ _ _ hkl).trans hk)
    rcases hown.2 with ⟨rfl, _⟩ | ⟨g, cap, cur, rfl, _, hg', _⟩
    · simp [Value.ownBlock] at e
    · have e2 : k = g := by
        have : some k = some g := e
        injection this
      subst e2
      rw [hg'] at hk; cases hk; exact hT _ _ rfl

theorem IsBd.alloc {B b : Nat} {bs : List Value} {w : World} (h : IsBd B b bs w) (o : Obj) : IsBd B b bs (w.alloc o) := by
  have key : ∀ p, Lib.BuilderAt 95 5 B b p bs w → Lib.BuilderAt 95 5 B b p bs (w.alloc o) := by
    rintro p ⟨hB, v, hb, hown, hne⟩
    exact ⟨hB, v, (Below.heap_alloc w o b (Array.getElem?_eq_some_iff.1 hb).1).trans hb, hown.alloc o, hne⟩
  rcases h with h | h
  · exact .inl (key _ h)
  · exact .inr (key _ h)

theorem IsBd.block {B b : Nat} {bs : List Value} {w : World} (h : IsBd B b bs w) : ∃ c, w.heap[b]? = some (.cells c 95 (0, 0)) := by
  rcases h with ⟨_, v, hbk, _⟩ | ⟨_, v, hbk, _⟩
  · exact ⟨_, hbk⟩
  · exact ⟨_, hbk⟩
theorem IsBd.below {B b : Nat} {xs : List Value} {w w' : World} (h : IsBd B b xs w) (hb : Below w.heap.size w w') : IsBd B b xs w' := by
  have key : ∀ p, Lib.BuilderAt 95 5 B b p xs w → Lib.BuilderAt 95 5 B b p xs w' := by
    rintro p ⟨hB, v, hbk, hown, hne⟩
    exact ⟨hB, v, (hb.block b (Array.getElem?_eq_some_iff.1 hbk).1).trans hbk, own_later hown hb, hne⟩
  rcases h with h | h
  · exact .inl (key _ h)
  · exact .inr (key _ h)
/-- A block that is no cells is overwritten. -/
theorem IsBd.put {B b l : Nat} {xs : List Value} {w : World} {o : Obj} (h : IsBd B b xs w) (o' : Obj) (hl : w.heap[l]? = some o) (ho : o.isCells = false) : IsBd B b xs (w.putObj l o') := by
  have key : ∀ p, Lib.BuilderAt 95 5 B b p xs w → Lib.BuilderAt 95 5 B b p xs (w.putObj l o') := by
    rintro p ⟨hB, v, hbk, hown, hne⟩
    exact ⟨hB, v, (World.putObj_heap_other (by rintro rfl; rw [hbk] at hl; cases hl; cases ho)).trans hbk, hown.kept (grownBy_putObj' w l o') (.inr (own_ne_obj hown hl ho)), hne⟩
  rcases h with h | h
  · exact .inl (key _ h)
  · exact .inr (key _ h)
theorem bytes_append (x y : List UInt8) : Lib.byteCells x ++ Lib.strCells (bs y) = Lib.byteCells (x ++ y) := by
  rw [Lib.strCells_eq, bs_data, Lib.byteCells_append]
theorem bytes_one (x : List UInt8) (c : UInt8) : Lib.byteCells x ++ [.int .u8 (c.toNat : Int)] = Lib.byteCells (x ++ [c]) := by rw [Lib.byteCells_append]; rfl

end Go.Proofs.YtffjblamfbmoeaaGreatDoor

/-! Maps by strings, of no entry or of one. -/
set_option linter.unusedVariables false
set_option linter.unusedSimpArgs false
namespace Go.Proofs.YtffjblamfbmoeaaGreatDoor
open Go Go.RowKit Go.Maps
section
variable {P : Program} {t k e : TypeId} {w : World} {b c : Nat} {x y : ByteArray} {z v : Value}
theorem ba_beq (x y : ByteArray) : (x == y) = decide (x = y) := by
  cases x with | mk a => cases y with | mk b =>
  have h1 : ((⟨a⟩ : ByteArray) == ⟨b⟩) = (a == b) := rfl
  rw [h1]
  by_cases h : a = b
  · subst h; simp
  · simp [h]
theorem key_ok (hk : P.underlying k = some .string) (em : Bool) (w : World) : (Instr.checkKey em 10000 k (.string x)).run P w = .ok () w := by
  show (Instr.checkKey em (9999 + 1) k (.string x)).run P w = _
  rw [Instr.checkKey]
  simp [run_underlying hk, Result.andThen]
theorem map_none (ht : P.underlying t = some (.map k e)) (hk : P.underlying k = some .string) (hz : (zeroValue e).run P w = .ok z w) (hb : w.heap[b]? = some (.map #[] c)) :
    (Instr.lookup t (.map (some b)) (.string x) true).run P w = .ok (.tuple #[z, .bool false]) w := by
  simp [Instr.lookup, run_underlying ht, MapKept.run_getObj_map hb, key_ok hk, run_underlying hk, Instr.findKey, Instr.findNow, Instr.sameNow, hz, Result.andThen]
theorem map_miss {u : Value} {n : Nat} (ht : P.underlying t = some (.map k e)) (hk : P.underlying k = some .string) (hz : (zeroValue e).run P w = .ok z w) (hb : w.heap[b]? = some (.map #[{ key := .string y, val := u, born := n }] c)) (hne : x ≠ y) :
    (Instr.lookup t (.map (some b)) (.string x) true).run P w = .ok (.tuple #[z, .bool false]) w := by
  simp [Instr.lookup, run_underlying ht, MapKept.run_getObj_map hb, key_ok hk, run_underlying hk, Instr.findKey, Instr.findNow, Instr.sameNow, hz, Result.andThen, ba_beq, hne]
theorem map_hit {u : Value} {n : Nat} (ht : P.underlying t = some (.map k e)) (hk : P.underlying k = some .string) (hb : w.heap[b]? = some (.map #[{ key := .string x, val := u, born := n }] c)) :
    (Instr.lookup t (.map (some b)) (.string x) true).run P w = .ok (.tuple #[u, .bool true]) w := by
  simp [Instr.lookup, run_underlying ht, MapKept.run_getObj_map hb, key_ok hk, run_underlying hk, Instr.findKey, Instr.findNow, Instr.sameNow, Result.andThen, ba_beq]
theorem map_put (ht : P.underlying t = some (.map k e)) (hk : P.underlying k = some .string) (hb : w.heap[b]? = some (.map #[] c)) :
    (Instr.mapUpdate t (.map (some b)) (.string x) v).run P w = .ok () (w.putObj b (.map #[{ key := .string x, val := v, born := c }] (c + 1))) := by
  simp [Instr.mapUpdate, run_underlying ht, MapKept.run_getObj_map hb, key_ok hk, run_underlying hk, Instr.findKey, Instr.findNow, Instr.sameNow, Result.andThen, World.putObj, MapKept.run_setObj_map _ hb]
theorem alloc_put (W : World) (o o' : Obj) : (W.alloc o).putObj W.heap.size o' = W.alloc o' := by
  have h : ∀ (a : Array Obj) (x y : Obj), (a.push x).setIfInBounds a.size y = a.push y := by
    intro a x y
    apply Array.ext_getElem?
    intro i
    rcases Nat.lt_trichotomy i a.size with h | h | h
    · rw [Array.getElem?_setIfInBounds_ne (by omega), Array.getElem?_push_lt h, Array.getElem?_push_lt h]
    · subst h; simp
    · rw [Array.getElem?_eq_none (by simp; omega), Array.getElem?_eq_none (by simp; omega)]
  show ({ W with heap := (W.heap.push o).setIfInBounds W.heap.size o' } : World) = { W with heap := W.heap.push o' }
  rw [h]
theorem map_new (ht : P.underlying t = some (.map k e)) (hk : P.underlying k = some .string) (W : World) (x : ByteArray) (v : Value) :
    (Instr.mapUpdate t (.map (some W.heap.size)) (.string x) v).run P (W.alloc (.map #[] 0)) = .ok () (W.alloc (.map #[{ key := .string x, val := v, born := 0 }] 1)) := by
  rw [map_put ht hk (heap_alloc_new W (.map #[] 0)), alloc_put]
theorem map_make (ht : P.underlying t = some (.map k e)) (w : World) : (Instr.makeMap t none).run P w = .ok (.map (some w.heap.size)) (w.alloc (.map #[] 0)) := by
  simp [Instr.makeMap, run_underlying ht, Result.andThen]
theorem map_makeN (ht : P.underlying t = some (.map k e)) (q : IntKind) (n : Int) (w : World) : (Instr.makeMap t (some (.int q n))).run P w = .ok (.map (some w.heap.size)) (w.alloc (.map #[] 0)) := by
  simp [Instr.makeMap, run_underlying ht, asInt, asIntOf, Result.andThen]
theorem map_len {es : Array MapEntry} (ht : P.underlying t = some (.map k e)) (ty : TypeId) (hb : w.heap[b]? = some (.map es c)) : (Builtin.len_ #[t] ty #[.map (some b)]).run P w = .ok (.int .i64 es.size) w := by
  simp [Builtin.len_, run_underlying ht, MapKept.run_getObj_map hb, Result.andThen, goInt]
end
end Go.Proofs.YtffjblamfbmoeaaGreatDoor

/-! Walks: macros, at X -> 1: reserved, is, valid, Same. -/
set_option linter.unusedVariables false
set_option linter.unusedSimpArgs false
namespace Go.Proofs.YtffjblamfbmoeaaGreatDoor
open Go Go.RowKit
attribute [local go_sem] Oper.semAt_some

set_option maxRecDepth 100000 in
set_option maxHeartbeats 8000000 in
theorem reserved_X (w : World) : Calls Tryz.prog 41 #[.string (bs [88])] w fun e w' => e = .returned (.bool false) ∧ w' = w := by
  rw [show bs [88] = ⟨#[88]⟩ from rfl]
  go_enter Tryz.func41, Tryz.ntmps41
  go_wp2
  go_ret
  exact ⟨rfl, rfl⟩

def tkv (p : Tp.Tok) : Value := .agg #[.int .i64 p.k, .string (bs p.x), .int .i64 p.a, .int .i64 p.e, .bool p.s]
def ptv' (p : Tp.PTok) : Value := .agg #[.int .i64 p.k, .string (bs p.x), .bool p.s, .slice none 0 0]

set_option maxRecDepth 100000 in
set_option maxHeartbeats 8000000 in
theorem is_no (p : Tp.Tok) (v : Value) (w : World) (h : p.k ≠ 5) : Calls Tryz.prog 42 #[tkv p, v] w fun e w' => e = .returned (.bool false) ∧ w' = w.alloc (.cells #[.int .i64 p.k, .string (bs p.x), .int .i64 p.a, .int .i64 p.e, .bool p.s] 85) := by
  obtain ⟨pk, px, pa, pe, ps⟩ := p
  simp only at h
  have hI : ¬ (pk : Int) = 5 := by omega
  unfold tkv
  simp only
  go_enter Tryz.func42, Tryz.ntmps42
  go_wp2
  go_ret
  exact ⟨rfl, rfl⟩

theorem is_no2 (px : Tp.T) (pa pe : Nat) (ps : Bool) (v : Value) (W : World) : Calls Tryz.prog 42 #[.agg #[.int .i64 2, .string (bs px), .int .i64 pa, .int .i64 pe, .bool ps], v] W fun e w' => e = .returned (.bool false) ∧ w' = W.alloc (.cells #[.int .i64 2, .string (bs px), .int .i64 pa, .int .i64 pe, .bool ps] 85) := is_no ⟨2, px, pa, pe, ps⟩ v W (by simp)

set_option maxRecDepth 100000 in
set_option maxHeartbeats 8000000 in
theorem mSame1_any (p q : Tp.PTok) (w : World) (h : p.k = q.k ∧ p.x = q.x ∧ p.s = q.s) : Calls Tryz.prog 45 #[ptv' p, ptv' q] w fun e w' => e = .returned (.bool true) ∧ Below w.heap.size w w' := by
  obtain ⟨pk, px, ps, pp⟩ := p
  obtain ⟨qk, qx, qs, qp⟩ := q
  simp only at h
  obtain ⟨rfl, rfl, rfl⟩ := h
  unfold ptv'
  simp only
  have EQ := Lib.hid (fun W => Tryz.slices_Equal_string_empty none none 0 0 0 W (by decide))
  go_enter Tryz.func45, Tryz.ntmps45
  go_wp2_with (go_at_call 26; (with_reducible refine (EQ.out _).mono ?_); rintro e w2 ⟨rfl, rfl⟩)
  go_ret
  exact ⟨rfl, ((Below.refl _ _).alloc (Nat.le_refl _) _).alloc (by simp) _⟩

set_option maxRecDepth 100000 in
set_option maxHeartbeats 8000000 in
theorem pSame1_any (p q : Tp.PTok) (w : World) (h : p.k = q.k ∧ p.x = q.x) : Calls Tryz.prog 25 #[ptv' p, ptv' q] w fun e w' => e = .returned (.bool true) ∧ Below w.heap.size w w' := by
  obtain ⟨pk, px, ps, pp⟩ := p
  obtain ⟨qk, qx, qs, qp⟩ := q
  simp only at h
  obtain ⟨rfl, rfl⟩ := h
  unfold ptv'
  simp only
  have EQ := Lib.hid (fun W => Tryz.slices_Equal_string_empty none none 0 0 0 W (by decide))
  go_enter Tryz.func25, Tryz.ntmps25
  go_wp2_with (go_at_call 26; (with_reducible refine (EQ.out _).mono ?_); rintro e w2 ⟨rfl, rfl⟩)
  go_ret
  exact ⟨rfl, ((Below.refl _ _).alloc (Nat.le_refl _) _).alloc (by simp) _⟩

set_option maxRecDepth 100000 in
set_option maxHeartbeats 8000000 in
theorem valid_X (v : Value) (A : Option Addr) (c : Nat) (p : Tp.Tok) (nm : Tp.T) (w : World) (hp : p.k = 2) (hc : 1 ≤ c) (h : Rd w 5 A 1 (tkcs [p])) :
    Calls Tryz.prog 44 #[.agg #[.string (bs nm), .bool false, .slice none 0 0, .bool false, .slice none 0 0], .slice A 1 c] w fun e w' => e = .returned (.bool true) ∧ Below w.heap.size w w' := by
  have IS := Lib.hid is_no2
  obtain ⟨b, o, rfl, hbl, d0, d1, d2, d3, d4⟩ := h.tk (k := 0) (p := p) rfl
  obtain ⟨pk, px, pa, pe, ps⟩ := p
  simp only [Nat.zero_mul, Nat.add_zero] at hp d0 d1 d2 d3 d4
  subst hp
  have D := Lib.hid (show ∀ W', Below (w.alloc (.cells #[.string (bs nm), .bool false, .slice none 0 0, .bool false, .slice none 0 0] 25)).heap.size (w.alloc (.cells #[.string (bs nm), .bool false, .slice none 0 0, .bool false, .slice none 0 0] 25)) W' →
      (W'.cell? ⟨b, o, none⟩ = some (.int .i64 2) ∧ W'.cell? ⟨b, o + 1, none⟩ = some (.string (bs px)) ∧ W'.cell? ⟨b, o + 2, none⟩ = some (.int .i64 pa) ∧ W'.cell? ⟨b, o + 3, none⟩ = some (.int .i64 pe) ∧ W'.cell? ⟨b, o + 4, none⟩ = some (.bool ps)) ∧
      W'.cell? ⟨w.heap.size, 1, none⟩ = some (.bool false) ∧ W'.cell? ⟨w.heap.size, 2, none⟩ = some (.slice none 0 0) ∧ W'.cell? ⟨w.heap.size, 3, none⟩ = some (.bool false) ∧ w.heap.size < W'.heap.size ∧ b < W'.heap.size from fun W' hb => by
    have B0 : Below w.heap.size w W' := ((Below.refl _ _).alloc (Nat.le_refl _) _).trans (hb.mono (by simp))
    have hbk := (hb.block w.heap.size (by simp)).trans (heap_alloc_new w _)
    have hs := hb.size
    simp only [World.size_alloc] at hs
    exact ⟨⟨(B0.cell (p := ⟨b, o, none⟩) hbl).trans d0, (B0.cell (p := ⟨b, o + 1, none⟩) hbl).trans d1, (B0.cell (p := ⟨b, o + 2, none⟩) hbl).trans d2, (B0.cell (p := ⟨b, o + 3, none⟩) hbl).trans d3, (B0.cell (p := ⟨b, o + 4, none⟩) hbl).trans d4⟩, Lib.cell_of_heap hbk 1, Lib.cell_of_heap hbk 2, Lib.cell_of_heap hbk 3, hs, by omega⟩)
  have FIN := Lib.hid (show ∀ W', Below (w.alloc (.cells #[.string (bs nm), .bool false, .slice none 0 0, .bool false, .slice none 0 0] 25)).heap.size (w.alloc (.cells #[.string (bs nm), .bool false, .slice none 0 0, .bool false, .slice none 0 0] 25)) W' → Below w.heap.size w W' from fun W' hb => ((Below.refl _ _).alloc (Nat.le_refl _) _).trans (hb.mono (by simp)))
  clear h
  have hmm := fun w => map_make (P := Tryz.prog) Tryz.underlying63 w
  have hput := fun (W : World) (x : ByteArray) (v : Value) => map_new (P := Tryz.prog) Tryz.underlying63 Tryz.underlying9 W x v
  go_enter Tryz.func44, Tryz.ntmps44
  go_wp2_with (first
    | (go_at_call 42
       (with_reducible refine (IS.out _ _ _ _ _ _).mono ?_)
       rintro e w2 ⟨rfl, hx⟩
       have hB : Below (w.alloc (.cells #[.string (bs nm), .bool false, .slice none 0 0, .bool false, .slice none 0 0] 25)).heap.size (w.alloc (.cells #[.string (bs nm), .bool false, .slice none 0 0, .bool false, .slice none 0 0] 25)) w2 := by
         rw [hx]
         repeat' (first | assumption | exact Below.refl _ _ | refine Below.alloc ?_ ?_ _ | omega | (simp; done) | (simp; omega))
       clear hx
       obtain ⟨⟨e0, e1, e2, e3, e4⟩, m1, m2, m3, hs2, hs3⟩ := D.out w2 hB))

  go_loopw [7, 33] (fun _ z wr => z = .int .i64 0 ∧ Below (w.alloc (.cells #[.string (bs nm), .bool false, .slice none 0 0, .bool false, .slice none 0 0] 25)).heap.size (w.alloc (.cells #[.string (bs nm), .bool false, .slice none 0 0, .bool false, .slice none 0 0] 25)) wr) (fun _ _ _ => 0)
  case atStart => exact ⟨rfl, hB.alloc hB.size _⟩
  case round =>
    obtain ⟨rfl, hb⟩ := hrel
    obtain ⟨wq, rfl⟩ : ∃ wq : World, wq = wr := ⟨_, rfl⟩
    go_wp2
    go_loopw [8, 9, 42] (fun _ _ z wr => (z = .int .i64 0 ∨ z = .int .i64 1) ∧ Below (w.alloc (.cells #[.string (bs nm), .bool false, .slice none 0 0, .bool false, .slice none 0 0] 25)).heap.size (w.alloc (.cells #[.string (bs nm), .bool false, .slice none 0 0, .bool false, .slice none 0 0] 25)) wr) (fun _ _ z _ => 1 - (intOf z).toNat)
    case atStart => exact ⟨.inl rfl, hb⟩
    case round =>
      obtain ⟨hz, hb2⟩ := hrel
      obtain ⟨wz, rfl⟩ : ∃ wz : World, wz = wr := ⟨_, rfl⟩
      obtain ⟨⟨e0, e1, e2, e3, e4⟩, m1, m2, m3, hs2, hs3⟩ := D.out wz hb2
      have FW := FIN.out wz hb2
      have hb3 := hb2.alloc hb2.size (.cells #[.int .i64 2, .string (bs px), .int .i64 pa, .int .i64 pe, .bool ps] 85)
      rcases hz with rfl | rfl
      · clear d0 d1 d2 d3 d4
        go_wp2
        go_roundw
        case rel => exact ⟨.inr rfl, hb3⟩
        case measure => simp [intOf]
      · go_wp2
        go_ret
        exact ⟨rfl, FW⟩
end Go.Proofs.YtffjblamfbmoeaaGreatDoor

/-! Walks: tokens as macro tokens. -/
set_option linter.unusedVariables false
set_option linter.unusedSimpArgs false
namespace Go.Proofs.YtffjblamfbmoeaaGreatDoor
open Go Go.RowKit

/-- A new row of zeros: one element's zeros behind the other. -/
theorem made_flat (z : Array Value) (hz : 0 < z.size) (n : Nat) : (madeCells z (n * z.size)).toList = (List.replicate n z.toList).flatten := by
  have e : ∀ m, (madeCells z m).toList = (List.range m).map fun i => z[i % z.size]! := fun m => by
    unfold madeCells; simp [Array.toList_range]
  rw [e]
  induction n with
  | zero => simp
  | succ n ih =>
    rw [Nat.succ_mul, List.range_add, List.map_append, ih, List.replicate_succ', List.flatten_append]
    congr 1
    simp only [List.flatten_cons, List.flatten_nil, List.append_nil, List.map_map]
    apply List.ext_getElem?
    intro i
    by_cases hi : i < z.size
    · rw [List.getElem?_map, List.getElem?_range hi]
      simp [Nat.mul_comm n z.size, Nat.mul_add_mod, Nat.mod_eq_of_lt hi, hi]
    · rw [List.getElem?_eq_none (by simp; omega), List.getElem?_eq_none (by simp; omega)]

/-- A macro token's cells, where it has no parts. -/
def ptc (p : Tp.PTok) : List Value := [.int .i64 p.k, .string (bs p.x), .bool p.s, .slice none 0 0]
def ptcs (l : List Tp.PTok) : List Value := l.flatMap ptc
theorem ptcs_length (l : List Tp.PTok) : (ptcs l).length = l.length * 4 := by
  induction l with
  | nil => rfl
  | cons e r ih => simp only [ptcs, List.flatMap_cons, List.length_append, List.length_cons] at ih ⊢; simp only [ptc, List.length_cons, List.length_nil]; omega
theorem ptcs_snoc (l : List Tp.PTok) (p : Tp.PTok) : ptcs (l ++ [p]) = ptcs l ++ ptc p := by simp [ptcs]
theorem ptcs_app (l m : List Tp.PTok) : ptcs (l ++ m) = ptcs l ++ ptcs m := by simp [ptcs]
theorem ptcs_at {l : List Tp.PTok} : ∀ {k : Nat} {p : Tp.PTok}, l[k]? = some p → (ptcs l)[k * 4]? = some (.int .i64 p.k) ∧ (ptcs l)[k * 4 + 1]? = some (.string (bs p.x)) ∧ (ptcs l)[k * 4 + 2]? = some (.bool p.s) ∧ (ptcs l)[k * 4 + 3]? = some (.slice none 0 0) := by
  induction l with
  | nil => intro k e h; simp at h
  | cons x r ih =>
    intro k e h
    have e1 : ptcs (x :: r) = ptc x ++ ptcs r := rfl
    have e2 : (ptc x).length = 4 := rfl
    cases k with
    | zero => simp only [List.getElem?_cons_zero, Option.some.injEq] at h; subst h; exact ⟨rfl, rfl, rfl, rfl⟩
    | succ k =>
      simp only [List.getElem?_cons_succ] at h
      have := ih h
      rw [e1]
      refine ⟨?_, ?_, ?_, ?_⟩
      · rw [List.getElem?_append_right (by omega), e2, ← this.1]; congr 1; omega
      · rw [List.getElem?_append_right (by omega), e2, ← this.2.1]; congr 1; omega
      · rw [List.getElem?_append_right (by omega), e2, ← this.2.2.1]; congr 1; omega
      · rw [List.getElem?_append_right (by omega), e2, ← this.2.2.2]; congr 1; omega
theorem Rd.pt {w : World} {A : Option Addr} {l : List Tp.PTok} {n : Nat} (h : Rd w 4 A n (ptcs l)) {k : Nat} {p : Tp.PTok} (hk : l[k]? = some p) :
    ∃ b o, A = some ⟨b, o, none⟩ ∧ b < w.heap.size ∧ w.cell? ⟨b, o + k * 4, none⟩ = some (.int .i64 p.k) ∧ w.cell? ⟨b, o + k * 4 + 1, none⟩ = some (.string (bs p.x)) ∧ w.cell? ⟨b, o + k * 4 + 2, none⟩ = some (.bool p.s) ∧ w.cell? ⟨b, o + k * 4 + 3, none⟩ = some (.slice none 0 0) := by
  have hl : k < l.length := (List.getElem?_eq_some_iff.1 hk).1
  have h1 := h.1
  rw [ptcs_length] at h1
  obtain ⟨b, o, e, hlt, hc⟩ := h.2 (by omega)
  obtain ⟨a1, a2, a3, a4⟩ := ptcs_at hk
  exact ⟨b, o, e, hlt, hc _ _ a1, by have := hc _ _ a2; rwa [← Nat.add_assoc] at this, by have := hc _ _ a3; rwa [← Nat.add_assoc] at this, by have := hc _ _ a4; rwa [← Nat.add_assoc] at this⟩
theorem Rd.plen {w : World} {A : Option Addr} {l : List Tp.PTok} {n : Nat} (h : Rd w 4 A n (ptcs l)) : l.length = n := by
  have := h.1
  rw [ptcs_length] at this
  omega

/-- The macro tokens that have been filled in, ahead of zeros. -/
def fillP (L : List Tp.PTok) (k : Nat) : List Value := ptcs (L.take k) ++ (List.replicate (L.length - k) [Value.int .i64 0, .string ⟨#[]⟩, .bool false, .slice none 0 0]).flatten
theorem set4 (P R : List Value) (k : Nat) (hk : P.length = k) (z0 z1 z2 z3 a b c d : Value) : ((((P ++ ([z0, z1, z2, z3] ++ R)).set k a).set (k + 1) b).set (k + 2) c).set (k + 3) d = P ++ ([a, b, c, d] ++ R) := by
  subst hk
  simp [List.set_append]
theorem fillP_open {L : List Tp.PTok} {k : Nat} (h : k < L.length) : fillP L k = ptcs (L.take k) ++ ([Value.int .i64 0, .string ⟨#[]⟩, .bool false, .slice none 0 0] ++ (List.replicate (L.length - (k + 1)) [Value.int .i64 0, .string ⟨#[]⟩, .bool false, .slice none 0 0]).flatten) := by
  unfold fillP
  obtain ⟨m, hm⟩ : ∃ m, L.length - k = m + 1 := ⟨L.length - k - 1, by omega⟩
  rw [hm, show L.length - (k + 1) = m by omega, List.replicate_succ, List.flatten_cons]
theorem fillP_set {L : List Tp.PTok} {k : Nat} {p : Tp.PTok} (h : L[k]? = some p) : ((((fillP L k).set (k * 4) (.int .i64 p.k)).set (k * 4 + 1) (.string (bs p.x))).set (k * 4 + 2) (.bool p.s)).set (k * 4 + 3) (.slice none 0 0) = fillP L (k + 1) := by
  have hl : k < L.length := (List.getElem?_eq_some_iff.1 h).1
  rw [fillP_open hl, set4 _ _ _ (by rw [ptcs_length, List.length_take, Nat.min_eq_left (by omega)])]
  unfold fillP
  rw [List.take_add_one, h, Option.toList_some, ptcs_snoc, List.append_assoc]
  rfl
theorem fillP_at {L : List Tp.PTok} {k : Nat} (h : k < L.length) : (fillP L k)[k * 4]? = some (.int .i64 0) ∧ (fillP L k)[k * 4 + 1]? = some (.string ⟨#[]⟩) ∧ (fillP L k)[k * 4 + 2]? = some (.bool false) ∧ (fillP L k)[k * 4 + 3]? = some (.slice none 0 0) := by
  rw [fillP_open h]
  have hp : (ptcs (L.take k)).length = k * 4 := by rw [ptcs_length, List.length_take, Nat.min_eq_left (by omega)]
  refine ⟨?_, ?_, ?_, ?_⟩
  · rw [List.getElem?_append_right (by omega), hp]; simp
  · rw [List.getElem?_append_right (by omega), hp, show k * 4 + 1 - k * 4 = 1 by omega]; rfl
  · rw [List.getElem?_append_right (by omega), hp, show k * 4 + 2 - k * 4 = 2 by omega]; rfl
  · rw [List.getElem?_append_right (by omega), hp, show k * 4 + 3 - k * 4 = 3 by omega]; rfl
theorem fillP_end (L : List Tp.PTok) : fillP L L.length = ptcs L := by unfold fillP; rw [List.take_length, Nat.sub_self]; simp
theorem made_fillP (L : List Tp.PTok) : (madeCells (Value.agg #[.int .i64 0, .string ⟨#[]⟩, .bool false, .slice none 0 0]).cells (L.length * 4)).toList = fillP L 0 := by
  have := made_flat #[.int .i64 0, .string ⟨#[]⟩, .bool false, .slice none 0 0] (by decide) L.length
  rw [show (Value.agg #[.int .i64 0, .string ⟨#[]⟩, .bool false, .slice none 0 0]).cells = #[.int .i64 0, .string ⟨#[]⟩, .bool false, .slice none 0 0] from by simp [Value.cells]]
  unfold fillP
  simpa [ptcs] using this
theorem ptInfo : (Tryz.prog.info? 49).map (fun i => (i.zero, i.size, i.bytes)) = some (some (.agg #[.int .i64 0, .string ⟨#[]⟩, .bool false, .slice none 0 0]), 4, 56) := by kernel_rfl
theorem of_at {l : List Tp.Tok} {k : Nat} {p : Tp.Tok} (h : l[k]? = some p) : (Tp.of l)[k]? = some ⟨p.k, p.x, p.s, []⟩ := by unfold Tp.of; rw [List.getElem?_map, h]; rfl
theorem of_len (l : List Tp.Tok) : (Tp.of l).length = l.length := by unfold Tp.of; simp

set_option maxRecDepth 100000 in
set_option maxHeartbeats 8000000 in
theorem Of_any (A : Option Addr) (n c : Nat) (l : List Tp.Tok) (w : World) (hn : n ≤ c) (hl : l.length ≤ 1000000) (h : Rd w 5 A n (tkcs l)) :
    Calls Tryz.prog 13 #[.slice A n c] w fun e w' => ∃ v, e = .returned v ∧ w'.ownsRow w.heap.size 49 4 v n (ptcs (Tp.of l)) ∧ Below w.heap.size w w' := by
  obtain ⟨i0, hi, hz0, hz1, hz2⟩ := info_parts ptInfo
  have hln := h.tlen
  have hmf := made_fillP (Tp.of l)
  rw [of_len, hln] at hmf
  have HMF := Lib.hid hmf
  have HOL := Lib.hid ((of_len l).trans hln)
  clear hmf
  go_enter Tryz.func13, Tryz.ntmps13
  go_wp2_with (at_make; refine wpList_make_full _ rfl _ _ 23 rfl w.heap.size 49 i0 _ 4 Tryz.underlying23 hi hz0 hz1 .i64 .i64 n n n rfl rfl rfl rfl (by rw [hz2]; omega) (by unfold maxLen; omega) (Nat.le_refl _) ?_; intro w3 hown3 hgrow3; rw [HMF.out] at hown3)
  have hb3 : Below w.heap.size w w3 := (Below.refl _ w).grown hgrow3 (Nat.le_refl _) (fun k e => by cases e)
  clear hgrow3
  go_loopw [4, 5, 11] (fun _ _ z wr => ∃ k : Nat, k ≤ n ∧ z = .int .i64 k ∧ wr.ownsRow w.heap.size 49 4 (.slice (some ⟨w.heap.size, 0, none⟩) n n) n (fillP (Tp.of l) k) ∧ Below w.heap.size w wr) (fun _ _ z _ => n - (intOf z).toNat)
  case atStart => exact ⟨0, Nat.zero_le _, rfl, hown3, hb3⟩
  case round =>
    obtain ⟨k, hk, rfl, hrow, hb⟩ := hrel
    obtain ⟨wq, rfl⟩ : ∃ wq : World, wq = wr := ⟨_, rfl⟩
    by_cases hkn : k < n
    · obtain ⟨p, hp⟩ : ∃ p, l[k]? = some p := ⟨_, List.getElem?_eq_getElem (by rw [hln]; exact hkn)⟩
      have HF := Lib.hid (fillP_set (of_at hp))
      obtain ⟨b, o, rfl, hbl, d0, d1, d2, d3, d4⟩ := (h.below (Nat.le_refl _) hb).tk hp
      obtain ⟨q0, q1, q2, q3⟩ := fillP_at (L := Tp.of l) (k := k) (by rw [HOL.out]; exact hkn)
      have e0 := (hrow.cellAt (k * 4) (by omega)).trans q0
      have e1 := (hrow.cellAt (k * 4 + 1) (by omega)).trans q1
      have e2 := (hrow.cellAt (k * 4 + 2) (by omega)).trans q2
      have e3 := (hrow.cellAt (k * 4 + 3) (by omega)).trans q3
      have f0 := hrow.frozenAt (k * 4)
      have f1 := hrow.frozenAt (k * 4 + 1)
      have f2 := hrow.frozenAt (k * 4 + 2)
      have f3 := hrow.frozenAt (k * 4 + 3)
      have hlt := (hrow.lt w.heap.size rfl).2
      have HR := Lib.hid hrow
      have hlb := Below.size hb
      obtain ⟨pk, px, pa, pe, ps⟩ := p
      simp only at d0 d1 d2 d3 d4
      clear hp h hrow q0 q1 q2 q3
      go_wp2
      have HO := ((((HR.out.stored (k * 4) (.int .i64 pk)).1.stored (k * 4 + 1) (.string (bs px))).1.stored (k * 4 + 2) (.bool ps)).1.stored (k * 4 + 3) (.slice none 0 0)).1.alloc (.cells #[.int .i64 pk, .string (bs px), .int .i64 pa, .int .i64 pe, .bool ps] 85)
      rw [HF.out] at HO
      go_roundw
      case rel => exact ⟨k + 1, by omega, by go_num, HO, ((((hb.setCell (p := ⟨_, _, none⟩) (Nat.le_refl _) _).setCell (p := ⟨_, _, none⟩) (Nat.le_refl _) _).setCell (p := ⟨_, _, none⟩) (Nat.le_refl _) _).setCell (p := ⟨_, _, none⟩) (Nat.le_refl _) _).alloc (by simp [World.setCell]; omega) _⟩
      case measure => simp [intOf]; omega
    · obtain rfl : k = n := by omega
      have hrow2 := hrow
      rw [← HOL.out, fillP_end, HOL.out] at hrow2
      go_wp2
      go_ret
      exact ⟨_, rfl, hrow2, hb⟩

end Go.Proofs.YtffjblamfbmoeaaGreatDoor

/-! Walks: macros, at X -> 1: Define. -/
set_option linter.unusedVariables false
set_option linter.unusedSimpArgs false
namespace Go.Proofs.YtffjblamfbmoeaaGreatDoor
open Go Go.RowKit
attribute [local go_sem] Oper.semAt_some

def xM : Tp.PTok := ⟨2, [49], false, []⟩
/-- The macro X -> 1, by its body's slice. -/
def mvX (A : Option Addr) (c : Nat) : Value := .agg #[.string (bs [88]), .bool false, .slice none 0 0, .bool false, .slice A 1 c]

set_option maxRecDepth 100000 in
set_option maxHeartbeats 8000000 in
theorem Define_X (A : Option Addr) (c : Nat) (t1 t2 : Tp.Tok) (w : World) (hc : 2 ≤ c) (h : Rd w 5 A 2 (tkcs [t1, t2])) (h1 : t1.k = 1 ∧ t1.x = [88]) (h2 : t2.k = 2 ∧ t2.x = [49] ∧ t2.s = true) :
    Calls Tryz.prog 19 #[.slice A 2 c] w fun e w' => ∃ A' c', e = .returned (.tuple #[mvX A' c', .int .i64 0]) ∧ w'.ownsRow w.heap.size 49 4 (.slice A' 1 c') 1 (ptcs [xM]) ∧ Below w.heap.size w w' := by
  obtain ⟨b, o, rfl, hbl, d0, d1, d2, d3, d4⟩ := h.tk (k := 0) (p := t1) rfl
  obtain ⟨b', o', e', _, f0, f1, f2, f3, f4⟩ := h.tk (k := 1) (p := t2) rfl
  simp only [Option.some.injEq, Addr.mk.injEq, and_true] at e'
  obtain ⟨rfl, rfl⟩ := e'
  obtain ⟨k1, x1, a1, n1, s1⟩ := t1
  obtain ⟨k2, x2, a2, n2, s2⟩ := t2
  simp only at h1 h2
  obtain ⟨rfl, rfl⟩ := h1
  obtain ⟨rfl, rfl, rfl⟩ := h2
  simp only [Nat.zero_mul, Nat.one_mul, Nat.add_zero] at d0 d1 d2 d3 d4 f0 f1 f2 f3 f4
  have RS := Lib.hid reserved_X
  have hc1 : ¬ c = 1 := by omega
  have VX := Lib.hid (fun (W : World) (hr : Rd W 5 (some ⟨b, o + 5, none⟩) 1 (tkcs [⟨2, [49], a2, n2, true⟩])) => valid_X (.slice none 0 0) (some ⟨b, o + 5, none⟩) (c - 1) ⟨2, [49], a2, n2, true⟩ [88] W rfl (by omega) hr)
  have OX := Lib.hid (fun (W : World) (hr : Rd W 5 (some ⟨b, o + 5, none⟩) 1 (tkcs [⟨2, [49], a2, n2, true⟩])) => Of_any (some ⟨b, o + 5, none⟩) 1 (c - 1) [⟨2, [49], a2, n2, true⟩] W (by omega) (by simp) hr)
  have HRD := Lib.hid (show ∀ W, Below w.heap.size w W → Rd W 5 (some ⟨b, o + 5, none⟩) 1 (tkcs [⟨2, [49], a2, n2, true⟩]) from fun W hb => (h.below (Nat.le_refl _) hb).sub (f := 1) (t := 2) (by omega) (by simp))
  go_enter Tryz.func19, Tryz.ntmps19
  go_wp2_with (first
    | (go_at_call 41; (with_reducible refine (RS.out _).mono ?_); rintro e w2 ⟨rfl, rfl⟩))
  go_region_held3 (fun w' => w'.cell? ⟨b, o + 1, none⟩ = some (.string (bs [88]))) (go_keep) (fail)
  obtain ⟨wD, hwD⟩ : ∃ wD, ((w.alloc (.cells #[.string ⟨#[]⟩, .bool false, .slice none 0 0, .bool false, .slice none 0 0] 25)).alloc (.cells #[.string (bs [88]), .bool false, .slice none 0 0, .bool false, .slice none 0 0] 25)).drew = wD := ⟨_, rfl⟩
  have B1 : Below w.heap.size w wD := by rw [← hwD]; exact (((Below.refl _ _).alloc (Nat.le_refl _) _).alloc (by simp) _).drew
  have sD : wD.heap.size = w.heap.size + 2 := by rw [← hwD]; simp
  have q1 : wD.heap[w.heap.size]? = some (.cells #[.string ⟨#[]⟩, .bool false, .slice none 0 0, .bool false, .slice none 0 0] 25) := by
    rw [← hwD]; exact (Below.heap_alloc _ _ _ (by simp)).trans (heap_alloc_new w _)
  have q2 : wD.heap[w.heap.size + 1]? = some (.cells #[.string (bs [88]), .bool false, .slice none 0 0, .bool false, .slice none 0 0] 25) := by
    rw [← hwD]
    have := heap_alloc_new (w.alloc (.cells #[.string ⟨#[]⟩, .bool false, .slice none 0 0, .bool false, .slice none 0 0] 25)) (.cells #[.string (bs [88]), .bool false, .slice none 0 0, .bool false, .slice none 0 0] 25)
    rwa [World.size_alloc] at this
  rw [hwD]
  clear hwD
  have c0 := Lib.cell_of_heap q2 0
  have c1 := Lib.cell_of_heap q2 1
  have c2 := Lib.cell_of_heap q2 2
  have c3 := Lib.cell_of_heap q2 3
  have c4 := Lib.cell_of_heap q2 4
  simp only [List.getElem?_toArray, List.getElem?_cons_zero, List.getElem?_cons_succ] at c0 c1 c2 c3 c4
  have HB1 := Lib.hid B1
  have f4D := (B1.cell (p := ⟨b, o + 5 + 4, none⟩) hbl).trans f4
  go_wp2_with (first
    | (go_at_call 44
       (with_reducible refine (VX.out _ (HRD.out _ HB1.out)).mono ?_)
       rintro e w3 ⟨rfl, hb3⟩
       have B3 := HB1.out.trans (hb3.mono HB1.out.size)
       have HB3 := Lib.hid B3
       have hs3 := hb3.size)
    | (go_at_call 13
       (with_reducible refine (OX.out _ (HRD.out _ HB3.out)).mono ?_)
       rintro e w4 ⟨v, rfl, hown, hb4⟩
       have hown' := hown
       obtain ⟨g, cap, rfl⟩ := ownsRow_succ (k := 0) hown'
       have B4 := HB3.out.trans (hb4.mono HB3.out.size)
       have q14 := (hb4.block w.heap.size (by omega)).trans ((hb3.block w.heap.size (by omega)).trans q1)
       have q24 := (hb4.block (w.heap.size + 1) (by omega)).trans ((hb3.block (w.heap.size + 1) (by omega)).trans q2)
       have fz := Lib.frozen_of_heap q24 4
       have cz := Lib.cell_of_heap q24 4
       have cy0 := Lib.cell_of_heap q24 0
       have cy1 := Lib.cell_of_heap q24 1
       have cy2 := Lib.cell_of_heap q24 2
       have cy3 := Lib.cell_of_heap q24 3
       simp only [List.getElem?_toArray, List.getElem?_cons_zero, List.getElem?_cons_succ] at cz cy0 cy1 cy2 cy3
       have gz := hown.lt g rfl
       have gne : ¬ g = w.heap.size + 1 := by omega
       have gne' : ¬ w.heap.size + 1 = g := by omega
       have gne2 : ¬ w.heap.size = g := by omega
       have gne3 : ¬ g = w.heap.size := by omega
       have fg := hown.frozenAt 2
       have cg : w4.cell? ⟨g, 2, none⟩ = some (.bool true) := hown.cellAt 2 (by omega)
       have gl := gz.2
       have fy0 := Lib.frozen_of_heap q14 0
       have fy1 := Lib.frozen_of_heap q14 1
       have fy2 := Lib.frozen_of_heap q14 2
       have fy3 := Lib.frozen_of_heap q14 3
       have fy4 := Lib.frozen_of_heap q14 4
       have cx0 := Lib.cell_of_heap q14 0
       have cx1 := Lib.cell_of_heap q14 1
       have cx2 := Lib.cell_of_heap q14 2
       have cx3 := Lib.cell_of_heap q14 3
       have cx4 := Lib.cell_of_heap q14 4
       simp only [List.getElem?_toArray, List.getElem?_cons_zero, List.getElem?_cons_succ] at cx0 cx1 cx2 cx3 cx4
       have ly := (Array.getElem?_eq_some_iff.1 q14).1
       have lz := (Array.getElem?_eq_some_iff.1 q24).1))
  have u0 : (w4.setCell ⟨w.heap.size + 1, 4, none⟩ (.slice (some ⟨g, 0, none⟩) 1 cap)).ownsRow w3.heap.size 49 4 (.slice (some ⟨g, 0, none⟩) 1 cap) 1 (ptcs (Tp.of [⟨2, [49], a2, n2, true⟩])) := hown.kept (grownBy_setR w4 (w.heap.size + 1) 4 _) (.inr (by simp only [Value.ownBlock]; simpa using gne))
  have u1 := (u0.stored 2 (.bool false)).1
  have hst : (ptcs (Tp.of [⟨2, [49], a2, n2, true⟩])).set 2 (.bool false) = ptcs [xM] := rfl
  rw [hst] at u1
  have B5 := ((B4.setCell (p := ⟨w.heap.size + 1, 4, none⟩) (by simp) (.slice (some ⟨g, 0, none⟩) 1 cap)).setCell (p := ⟨g, 2, none⟩) (by simp; omega) (.bool false))
  have q5 : ((w4.setCell ⟨w.heap.size + 1, 4, none⟩ (.slice (some ⟨g, 0, none⟩) 1 cap)).setCell ⟨g, 2, none⟩ (.bool false)).heap[w.heap.size]? = some (.cells #[.string ⟨#[]⟩, .bool false, .slice none 0 0, .bool false, .slice none 0 0] 25) :=
    (Below.heap_setCell _ _ _ _ gne2).trans ((Below.heap_setCell _ _ _ _ (by simp)).trans q14)
  clear u0 hown hown'
  generalize (w4.setCell ⟨w.heap.size + 1, 4, none⟩ (.slice (some ⟨g, 0, none⟩) 1 cap)).setCell ⟨g, 2, none⟩ (.bool false) = w5 at *
  have r0 := heap_setCell_same _ _ 0 _ _ (.string (bs [88])) q5
  have r1 := heap_setCell_same _ _ 1 _ _ (.bool false) r0
  have r2 := heap_setCell_same _ _ 2 _ _ (.slice none 0 0) r1
  have r3 := heap_setCell_same _ _ 3 _ _ (.bool false) r2
  have r4 := heap_setCell_same _ _ 4 _ _ (.slice (some ⟨g, 0, none⟩) 1 cap) r3
  have B6 := ((((B5.setCell (p := ⟨w.heap.size, 0, none⟩) (Nat.le_refl _) (.string (bs [88]))).setCell (p := ⟨w.heap.size, 1, none⟩) (Nat.le_refl _) (.bool false)).setCell (p := ⟨w.heap.size, 2, none⟩) (Nat.le_refl _) (.slice none 0 0)).setCell (p := ⟨w.heap.size, 3, none⟩) (Nat.le_refl _) (.bool false)).setCell (p := ⟨w.heap.size, 4, none⟩) (Nat.le_refl _) (.slice (some ⟨g, 0, none⟩) 1 cap)
  have hgx : ∀ (i : Nat) (u : Value) (W : World), W.ownsRow w3.heap.size 49 4 (.slice (some ⟨g, 0, none⟩) 1 cap) 1 (ptcs [xM]) → (W.setCell ⟨w.heap.size, i, none⟩ u).ownsRow w3.heap.size 49 4 (.slice (some ⟨g, 0, none⟩) 1 cap) 1 (ptcs [xM]) := fun i u W h => h.kept (grownBy_setR W w.heap.size i u) (.inr (by simp only [Value.ownBlock]; simpa using gne3))
  have u6 := hgx 4 (.slice (some ⟨g, 0, none⟩) 1 cap) _ (hgx 3 (.bool false) _ (hgx 2 (.slice none 0 0) _ (hgx 1 (.bool false) _ (hgx 0 (.string (bs [88])) _ u1))))
  generalize ((((w5.setCell ⟨w.heap.size, 0, none⟩ (.string (bs [88]))).setCell ⟨w.heap.size, 1, none⟩ (.bool false)).setCell ⟨w.heap.size, 2, none⟩ (.slice none 0 0)).setCell ⟨w.heap.size, 3, none⟩ (.bool false)).setCell ⟨w.heap.size, 4, none⟩ (.slice (some ⟨g, 0, none⟩) 1 cap) = w6 at *
  have t0 := Lib.cell_of_heap r4 0
  have t1 := Lib.cell_of_heap r4 1
  have t2 := Lib.cell_of_heap r4 2
  have t3 := Lib.cell_of_heap r4 3
  have t4 := Lib.cell_of_heap r4 4
  simp only [List.setIfInBounds_toArray, List.set_cons_zero, List.set_cons_succ, List.getElem?_toArray, List.getElem?_cons_zero, List.getElem?_cons_succ] at t0 t1 t2 t3 t4
  refine bodyPost_ret (show (results Tryz.f19 _).run Tryz.prog _ = .ok (.tuple #[mvX (some ⟨g, 0, none⟩) cap, .int .i64 0]) _ by simp [results, Tryz.results19, go_sem, t0, t1, t2, t3, t4, mvX]) rfl ?_
  exact ⟨_, _, rfl, own_base u6 (by omega), B6⟩
end Go.Proofs.YtffjblamfbmoeaaGreatDoor

/-! Walks: macros, at X -> 1: the line; a logical text, spelt. -/
set_option linter.unusedVariables false
set_option linter.unusedSimpArgs false
namespace Go.Proofs.YtffjblamfbmoeaaGreatDoor
open Go Go.RowKit
attribute [local go_sem] Oper.semAt_some

def defL : Tp.T := [35, 100, 101, 102, 105, 110, 101, 32, 88, 32, 49, 10]

set_option maxRecDepth 100000 in
set_option maxHeartbeats 8000000 in
theorem line_X (A : Option Addr) (c : Nat) (w : World) (hc : 1 ≤ c) (h : Rd w 4 A 1 (ptcs [xM])) :
    Calls Tryz.prog 18 #[mvX A c] w fun e w' => e = .returned (.string (bs defL)) ∧ Below w.heap.size w w' := by
  obtain ⟨b, o, rfl, hbl, d0, d1, d2, d3⟩ := h.pt (k := 0) (p := xM) rfl
  simp only [Nat.zero_mul, Nat.add_zero] at d0 d1 d2 d3
  unfold mvX
  unfold xM at d0 d1 d2
  simp only at d0 d1 d2
  obtain ⟨w0, hw0⟩ : ∃ w0, w.alloc (.cells #[.string (bs [88]), .bool false, .slice none 0 0, .bool false, .slice (some ⟨b, o, none⟩) 1 c] 25) = w0 := ⟨_, rfl⟩
  have s0 : w0.heap.size = w.heap.size + 1 := by rw [← hw0]; simp
  have bk0 : w0.heap[w.heap.size]? = some (.cells #[.string (bs [88]), .bool false, .slice none 0 0, .bool false, .slice (some ⟨b, o, none⟩) 1 c] 25) := by rw [← hw0]; exact heap_alloc_new w _
  have B0 : Below w.heap.size w w0 := by rw [← hw0]; exact (Below.refl _ _).alloc (Nat.le_refl _) _
  have D := Lib.hid (show ∀ W, Below w0.heap.size w0 W → (W.cell? ⟨b, o, none⟩ = some (.int .i64 2) ∧ W.cell? ⟨b, o + 1, none⟩ = some (.string (bs [49])) ∧ W.cell? ⟨b, o + 2, none⟩ = some (.bool false) ∧ W.cell? ⟨b, o + 3, none⟩ = some (.slice none 0 0)) ∧
      (W.cell? ⟨w.heap.size, 0, none⟩ = some (.string (bs [88])) ∧ W.cell? ⟨w.heap.size, 1, none⟩ = some (.bool false) ∧ W.cell? ⟨w.heap.size, 2, none⟩ = some (.slice none 0 0) ∧ W.cell? ⟨w.heap.size, 3, none⟩ = some (.bool false) ∧ W.cell? ⟨w.heap.size, 4, none⟩ = some (.slice (some ⟨b, o, none⟩) 1 c)) ∧ b < W.heap.size ∧ w.heap.size < W.heap.size from fun W hb => by
    have B1 := B0.trans (hb.mono (by omega))
    have hbk := (hb.block w.heap.size (by omega)).trans bk0
    have hs := hb.size
    exact ⟨⟨(B1.cell (p := ⟨b, o, none⟩) hbl).trans d0, (B1.cell (p := ⟨b, o + 1, none⟩) hbl).trans d1, (B1.cell (p := ⟨b, o + 2, none⟩) hbl).trans d2, (B1.cell (p := ⟨b, o + 3, none⟩) hbl).trans d3⟩, ⟨Lib.cell_of_heap hbk 0, Lib.cell_of_heap hbk 1, Lib.cell_of_heap hbk 2, Lib.cell_of_heap hbk 3, Lib.cell_of_heap hbk 4⟩, by omega, by omega⟩)
  have FIN := Lib.hid (show ∀ W, Below w0.heap.size w0 W → Below w.heap.size w W from fun W hb => B0.trans (hb.mono (by omega)))
  have WS := Lib.hid (show ∀ (l s' : Tp.T) (s : ByteArray) (W : World), bs s' = s → l.length ≤ 1000 → s'.length ≤ 1000 → IsBd w0.heap.size w0.heap.size (Lib.byteCells l) W → Below w0.heap.size w0 W →
      Calls Tryz.prog 37 #[.pointer (some ⟨w0.heap.size, 0, none⟩), .string s] W fun e w' => (∃ u, e = .returned u) ∧ IsBd w0.heap.size w0.heap.size (Lib.byteCells (l ++ s')) w' ∧ Below w0.heap.size W w' ∧ Oth w0.heap.size W w' from fun l s' s W hs hl hs' h hb => by
    subst hs
    refine (WriteString_any w0.heap.size w0.heap.size (Lib.byteCells l) (bs s') W h (by rw [bs_size]; simp [Lib.byteCells]; omega) hb.size).mono ?_
    rintro e w' ⟨rfl, h1, h2, h3⟩
    rw [bytes_append] at h1
    exact ⟨⟨_, rfl⟩, h1, h2, h3⟩)
  have WB := Lib.hid (show ∀ (l : Tp.T) (x : UInt8) (i : Int) (W : World), (x.toNat : Int) = i → l.length ≤ 1000 → IsBd w0.heap.size w0.heap.size (Lib.byteCells l) W → Below w0.heap.size w0 W →
      Calls Tryz.prog 34 #[.pointer (some ⟨w0.heap.size, 0, none⟩), .int .u8 i] W fun e w' => (∃ u, e = .returned u) ∧ IsBd w0.heap.size w0.heap.size (Lib.byteCells (l ++ [x])) w' ∧ Below w0.heap.size W w' ∧ Oth w0.heap.size W w' from fun l x i W hi hl h hb => by
    subst hi
    refine (WriteByte_any w0.heap.size w0.heap.size (Lib.byteCells l) x.toNat W h (by simp [Lib.byteCells]; omega) hb.size).mono ?_
    rintro e w' ⟨rfl, h1, h2, h3⟩
    rw [bytes_one] at h1
    exact ⟨⟨_, rfl⟩, h1, h2, h3⟩)
  have I0 : IsBd w0.heap.size w0.heap.size (Lib.byteCells []) (w0.alloc (.cells #[.pointer none, .slice none 0 0] 95)) := Lib.fresh_isBuilder _ _ w0
  have hb0 : Below w0.heap.size w0 (w0.alloc (.cells #[.pointer none, .slice none 0 0] 95)) := (Below.refl _ _).alloc (Nat.le_refl _) _
  have HI := Lib.hid I0
  have HB := Lib.hid hb0
  have HW0 := Lib.hid hw0
  clear I0 hb0 hw0 h d0 d1 d2 d3
  simp only [s0] at WS WB HI HB D FIN
  go_enter Tryz.func18, Tryz.ntmps18
  go_wp2_with (first
    | (go_at_call 37
       rw [HW0.out]
       (with_reducible refine (WS.out [] [35, 100, 101, 102, 105, 110, 101, 32] ⟨#[35, 100, 101, 102, 105, 110, 101, 32]⟩ _ rfl (by simp) (by simp) HI.out HB.out).mono ?_)
       rintro e w2 ⟨⟨u, rfl⟩, hi2, hb2, ho2⟩
       replace HI := Lib.hid hi2
       replace HB := Lib.hid (HB.out.trans hb2)
       obtain ⟨⟨d0, d1, d2, d3⟩, ⟨m0, m1, m2, m3, m4⟩, hbl2, hml2⟩ := D.out w2 HB.out
       clear hi2)
    | (go_at_call 37
       (with_reducible refine (WS.out ([] ++ [35, 100, 101, 102, 105, 110, 101, 32]) [88] _ _ rfl (by simp) (by simp) HI.out HB.out).mono ?_)
       rintro e w2 ⟨⟨u, rfl⟩, hi2, hb2, ho2⟩
       replace HI := Lib.hid hi2
       replace HB := Lib.hid (HB.out.trans hb2)
       obtain ⟨⟨d0, d1, d2, d3⟩, ⟨m0, m1, m2, m3, m4⟩, hbl2, hml2⟩ := D.out w2 HB.out
       clear hi2))
  have HIs := Lib.hid HI.out
  go_loopw [4, 5, 33] (fun _ _ z wr => (z = .int .i64 0 ∧ IsBd (w.heap.size + 1) (w.heap.size + 1) (Lib.byteCells ([] ++ [35, 100, 101, 102, 105, 110, 101, 32] ++ [88])) wr ∨ z = .int .i64 1 ∧ IsBd (w.heap.size + 1) (w.heap.size + 1) (Lib.byteCells (([] ++ [35, 100, 101, 102, 105, 110, 101, 32] ++ [88]) ++ [32] ++ [49])) wr) ∧ Below (w.heap.size + 1) w0 wr) (fun _ _ z _ => 1 - (intOf z).toNat)
  case atStart => exact ⟨.inl ⟨rfl, HI.out⟩, HB.out⟩
  case round =>
    obtain ⟨hz, hb⟩ := hrel
    obtain ⟨wq, rfl⟩ : ∃ wq : World, wq = wr := ⟨_, rfl⟩
    obtain ⟨⟨d0, d1, d2, d3⟩, ⟨m0, m1, m2, m3, m4⟩, hbl2, hml2⟩ := D.out wq hb
    have hsz := hb.size
    rcases hz with ⟨rfl, hi⟩ | ⟨rfl, hi⟩
    · have hlb : w.heap.size + 1 < wq.heap.size := by obtain ⟨cc, hcc⟩ := hi.block; exact (Array.getElem?_eq_some_iff.1 hcc).1
      obtain ⟨w5, hw5⟩ : ∃ w5, wq.alloc (.cells #[.int .i64 2, .string (bs [49]), .bool false, .slice none 0 0] 49) = w5 := ⟨_, rfl⟩
      have HA := Lib.hid (show IsBd (w.heap.size + 1) (w.heap.size + 1) (Lib.byteCells ([] ++ [35, 100, 101, 102, 105, 110, 101, 32] ++ [88])) w5 from by rw [← hw5]; exact hi.alloc _)
      have HC := Lib.hid (show Below (w.heap.size + 1) w0 w5 from by rw [← hw5]; exact hb.alloc (by omega) _)
      have hn5 : w5.heap[wq.heap.size]? = some (.cells #[.int .i64 2, .string (bs [49]), .bool false, .slice none 0 0] 49) := by rw [← hw5]; exact heap_alloc_new wq _
      have HW5 := Lib.hid hw5
      clear hw5
      go_wp2_with (first
        | (go_at_call 34
           rw [HW5.out]
           (with_reducible refine (WB.out ([] ++ [35, 100, 101, 102, 105, 110, 101, 32] ++ [88]) 32 32 _ rfl (by simp) HA.out HC.out).mono ?_)
           rintro e w6 ⟨⟨u, rfl⟩, hi2, hb2, ho2⟩
           replace HA := Lib.hid hi2
           replace HC := Lib.hid (HC.out.trans hb2)
           have hk := ho2 _ _ hn5 (by omega) (fun c fr e => by cases e)
           have k1 := Lib.cell_of_heap hk 1
           simp only [List.getElem?_toArray, List.getElem?_cons_zero, List.getElem?_cons_succ] at k1
           clear hi2 ho2 hk)
        | (go_at_call 37
           (with_reducible refine (WS.out (([] ++ [35, 100, 101, 102, 105, 110, 101, 32] ++ [88]) ++ [32]) [49] _ _ rfl (by simp) (by simp) HA.out HC.out).mono ?_)
           rintro e w7 ⟨⟨u, rfl⟩, hi2, hb2, ho2⟩
           replace HA := Lib.hid hi2
           replace HC := Lib.hid (HC.out.trans hb2)
           clear hi2 ho2))
      go_roundw
      case rel => exact ⟨.inr ⟨rfl, HA.out⟩, HC.out⟩
      case measure => simp [intOf]
    · have HA := Lib.hid hi
      have HC := Lib.hid hb
      have BS := Lib.hid (fun (W : World) (h : IsBd (w.heap.size + 1) (w.heap.size + 1) (Lib.byteCells (([] ++ [35, 100, 101, 102, 105, 110, 101, 32] ++ [88]) ++ [32] ++ [49] ++ [10])) W) (hb : Below (w.heap.size + 1) w0 W) => Tryz.Builder_String_any _ _ _ W h (by have := hb.size; omega))
      clear hi hb
      go_wp2_with (first
        | (go_at_call 34
           (with_reducible refine (WB.out (([] ++ [35, 100, 101, 102, 105, 110, 101, 32] ++ [88]) ++ [32] ++ [49]) 10 10 _ rfl (by simp) HA.out HC.out).mono ?_)
           rintro e w6 ⟨⟨u, rfl⟩, hi2, hb2, ho2⟩
           replace HA := Lib.hid hi2
           replace HC := Lib.hid (HC.out.trans hb2)
           clear hi2 ho2)
        | (go_at_call 35
           (with_reducible refine (BS.out _ HA.out HC.out).mono ?_)
           rintro e w7 ⟨rfl, hb2⟩
           replace HC := Lib.hid (HC.out.trans hb2)))
      go_ret
      exact ⟨rfl, FIN.out _ HC.out⟩
end Go.Proofs.YtffjblamfbmoeaaGreatDoor

/-! Walks: a logical text, spelt, where nothing must be parted. -/
set_option linter.unusedVariables false
set_option linter.unusedSimpArgs false
namespace Go.Proofs.YtffjblamfbmoeaaGreatDoor
open Go Go.RowKit
attribute [local go_sem] Oper.semAt_some

set_option maxRecDepth 100000 in
set_option maxHeartbeats 8000000 in
theorem parted_no (t : Tp.T) (a : Nat) (w : World) (ha : a < (bs t).size) (hl : t.length ≤ 1000) (h1 : ¬ ((bs t)[a].toNat : Int) = 92) (h2 : ¬ ((bs t)[a].toNat : Int) = 63) :
    Calls Tryz.prog 36 #[.string (bs t), .int .i64 a] w fun e w' => e = .returned (.bool false) ∧ w' = w := by
  have hts : (bs t).size ≤ 1000 := by rw [bs_size]; exact hl
  have h1B : (((bs t)[a].toNat : Int) == 92) = false := beq_eq_false_iff_ne.2 h1
  have h2B : (((bs t)[a].toNat : Int) == 63) = false := beq_eq_false_iff_ne.2 h2
  by_cases e1 : a + 1 < (bs t).size <;> by_cases e2 : a + 2 < (bs t).size
  all_goals
    go_enter Tryz.func36, Tryz.ntmps36
    go_wp2
    all_goals (go_ret; exact ⟨rfl, rfl⟩)

theorem byte_take {t : Tp.T} {k : Nat} (h : k < (bs t).size) : t.take k ++ [(bs t)[k]] = t.take (k + 1) := by
  have hg := ba_getT (bs t) k h
  rw [bs_data] at hg
  rw [List.take_add_one, hg]; rfl

set_option maxRecDepth 100000 in
set_option maxHeartbeats 8000000 in
theorem Spell_plain (t : Tp.T) (w : World) (hl : t.length ≤ 1000) (h0 : 0 < t.length) (hlast : ((bs t)[t.length - 1]'(by rw [bs_size]; omega)).toNat = 10)
    (hq : ∀ (a : Nat) (ha : a < (bs t).size), ¬ ((bs t)[a].toNat : Int) = 92 ∧ ¬ ((bs t)[a].toNat : Int) = 63) :
    Calls Tryz.prog 16 #[.string (bs t)] w fun e w' => e = .returned (.tuple #[.string (bs t), .int .i64 0]) ∧ Below w.heap.size w w' := by
  have hts : (bs t).size = t.length := bs_size t
  have PN := Lib.hid (fun (a : Nat) (W : World) (ha : a < (bs t).size) => parted_no t a W ha hl (hq a ha).1 (hq a ha).2)
  have WB := Lib.hid (show ∀ (k : Nat) (W : World) (hk : k < (bs t).size), IsBd w.heap.size w.heap.size (Lib.byteCells (t.take k)) W → w.heap.size ≤ W.heap.size →
      Calls Tryz.prog 34 #[.pointer (some ⟨w.heap.size, 0, none⟩), .int .u8 (bs t)[k].toNat] W fun e w' => (∃ u, e = .returned u) ∧ IsBd w.heap.size w.heap.size (Lib.byteCells (t.take (k + 1))) w' ∧ Below w.heap.size W w' from fun k W hk h hb => by
    refine (WriteByte_any w.heap.size w.heap.size (Lib.byteCells (t.take k)) (bs t)[k].toNat W h (by rw [Lib.byteCells_length]; simp; omega) hb).mono ?_
    rintro e w' ⟨rfl, h1, h2, h3⟩
    rw [bytes_one, byte_take hk] at h1
    exact ⟨⟨_, rfl⟩, h1, h2⟩)
  have hI0 : IsBd w.heap.size w.heap.size (Lib.byteCells (t.take 0)) (w.alloc (.cells #[.pointer none, .slice none 0 0] 95)) := Lib.fresh_isBuilder _ _ w
  have BL := Lib.hid (fun (W : World) (h : IsBd w.heap.size w.heap.size (Lib.byteCells t) W) => Tryz.Builder_Len _ _ _ W h)
  have BS := Lib.hid (fun (W : World) (h : IsBd w.heap.size w.heap.size (Lib.byteCells t) W) (hb : w.heap.size ≤ W.heap.size) => Tryz.Builder_String_any _ _ _ W h hb)
  have HL := Lib.hid (show (Lib.byteCells t).length = (bs t).size by rw [Lib.byteCells_length, hts])
  rw [HL.out] at BL
  have hE : (bs t).toList.isEmpty = false := by
    rw [bs_toList]
    cases t with
    | nil => cases h0
    | cons a b => rfl
  have hbl : (bs t).size - 1 < (bs t).size := by omega
  have hlast2 : ((bs t)[(bs t).size - 1]'hbl).toNat = 10 := by simpa [hts] using hlast
  have hlb : (((bs t)[(bs t).size - 1].toNat : Int) != 10) = false := by rw [hlast2]; rfl
  have hsz : (bs t).size ≤ 1000 := by omega
  have hsz0 : 0 < (bs t).size := by omega
  have HT := Lib.hid hts
  clear hq hlast hts hl h0 hlast2
  go_enter Tryz.func16, Tryz.ntmps16
  go_wp2
  go_loopw [5, 21] (fun _ z wr => ∃ k : Nat, k ≤ (bs t).size ∧ z = .int .i64 k ∧ IsBd w.heap.size w.heap.size (Lib.byteCells (t.take k)) wr ∧ Below w.heap.size w wr) (fun _ z _ => (bs t).size - (intOf z).toNat)
  case atStart => exact ⟨0, Nat.zero_le _, rfl, hI0, (Below.refl _ _).alloc (Nat.le_refl _) _⟩
  case round =>
    obtain ⟨k, hk, rfl, hi, hb⟩ := hrel
    obtain ⟨wq, rfl⟩ : ∃ wq : World, wq = wr := ⟨_, rfl⟩
    have HI := Lib.hid hi
    have HB := Lib.hid hb
    have hws := hb.size
    by_cases hkn : k < (bs t).size
    · clear hi hb
      go_wp2_with (first
        | (go_at_call 34
           (with_reducible refine (WB.out k _ hkn HI.out hws).mono ?_)
           rintro e w6 ⟨⟨u, rfl⟩, hi2, hb2⟩
           replace HI := Lib.hid hi2
           replace HB := Lib.hid (HB.out.trans hb2)
           clear hi2 hb2)
        | (go_at_call 36
           (with_reducible refine (PN.out k _ hkn).mono ?_)
           rintro e w7 ⟨rfl, rfl⟩))
      go_roundw
      case rel => exact ⟨k + 1, by omega, by go_num, HI.out, HB.out⟩
      case measure => simp [intOf]; omega
    · have hkl : k = (bs t).size := by omega
      have HI2 := Lib.hid (show IsBd w.heap.size w.heap.size (Lib.byteCells t) wq from by rw [hkl, List.take_of_length_le (by rw [HT.out]; exact Nat.le_refl _)] at hi; exact hi)
      clear hi hb
      go_wp2_with (first
        | (go_at_call 38
           (with_reducible refine (BL.out _ HI2.out).mono ?_)
           rintro e w6 ⟨rfl, rfl⟩)
        | (go_at_call 35
           (with_reducible refine (BS.out _ HI2.out hws).mono ?_)
           rintro e w7 ⟨rfl, hb2⟩
           replace HB := Lib.hid (HB.out.trans hb2)))
      go_ret2
      exact ⟨rfl, HB.out⟩
end Go.Proofs.YtffjblamfbmoeaaGreatDoor

/-! Walks: lists of tokens compared; macro.Same at X. -/
set_option linter.unusedVariables false
set_option linter.unusedSimpArgs false
namespace Go.Proofs.YtffjblamfbmoeaaGreatDoor
open Go Go.RowKit
attribute [local go_sem] Oper.semAt_some

set_option maxRecDepth 100000 in
set_option maxHeartbeats 8000000 in
theorem EqualFunc_m (A B : Option Addr) (n c d : Nat) (la lb : List Tp.PTok) (w : World) (hc : n ≤ c) (hd : n ≤ d) (hl : n ≤ 1000000) (ha : Rd w 4 A n (ptcs la)) (hb : Rd w 4 B n (ptcs lb))
    (hq : ∀ (k : Nat) (p q : Tp.PTok), la[k]? = some p → lb[k]? = some q → p.k = q.k ∧ p.x = q.x ∧ p.s = q.s) :
    Calls Tryz.prog 24 #[.slice A n c, .slice B n d, .func (.func 45) #[] #[]] w fun e w' => e = .returned (.bool true) ∧ Below w.heap.size w w' := by
  have hla := ha.plen
  have hlb := hb.plen
  have S1 := Lib.hid (fun (p q : Tp.PTok) (W : World) (h : p.k = q.k ∧ p.x = q.x ∧ p.s = q.s) => (mSame1_any p q W h))
  unfold ptv' at S1
  go_enter Tryz.func24, Tryz.ntmps24
  go_wp2
  go_loopw [7, 8, 9, 17] (fun _ _ _ z wr => ∃ k : Nat, k ≤ n ∧ z = .int .i64 k ∧ Below w.heap.size w wr) (fun _ _ _ z _ => n - (intOf z).toNat)
  case atStart => exact ⟨0, Nat.zero_le _, rfl, Below.refl _ _⟩
  case round =>
    obtain ⟨k, hk, rfl, hbw⟩ := hrel
    obtain ⟨wq, rfl⟩ : ∃ wq : World, wq = wr := ⟨_, rfl⟩
    by_cases hkn : k < n
    · obtain ⟨p, hp⟩ : ∃ p, la[k]? = some p := ⟨_, List.getElem?_eq_getElem (by rw [hla]; exact hkn)⟩
      obtain ⟨q, hqq⟩ : ∃ q, lb[k]? = some q := ⟨_, List.getElem?_eq_getElem (by rw [hlb]; exact hkn)⟩
      obtain ⟨b1, o1, rfl, hb1, d0, d1, d2, d3⟩ := (ha.below (Nat.le_refl _) hbw).pt hp
      obtain ⟨b2, o2, rfl, hb2, f0, f1, f2, f3⟩ := (hb.below (Nat.le_refl _) hbw).pt hqq
      have hr := hq k p q hp hqq
      have hws := hbw.size
      have bA := (Below.refl wq.heap.size wq).alloc (Nat.le_refl _) (.cells #[.int .i64 p.k, .string (bs p.x), .bool p.s, .slice none 0 0] 49)
      have g0 := (bA.cell (p := ⟨b2, o2 + k * 4, none⟩) hb2).trans f0
      have g1 := (bA.cell (p := ⟨b2, o2 + k * 4 + 1, none⟩) hb2).trans f1
      have g2 := (bA.cell (p := ⟨b2, o2 + k * 4 + 2, none⟩) hb2).trans f2
      have g3 := (bA.cell (p := ⟨b2, o2 + k * 4 + 3, none⟩) hb2).trans f3
      have SX := Lib.hid (fun W => S1.out p q W hr)
      have HBW := Lib.hid hbw
      obtain ⟨pk, px, ps, pp⟩ := p
      obtain ⟨qk, qx, qs, qp⟩ := q
      simp only at d0 d1 d2 d3 g0 g1 g2 g3 SX
      clear hp hqq hr ha hb hq f0 f1 f2 f3 S1 bA
      go_wp2_with (go_at_call 45; (with_reducible refine (SX.out _).mono ?_); rintro e w3 ⟨rfl, hb3⟩; have hb3 := Lib.hid hb3)
      go_roundw
      case rel =>
        refine ⟨k + 1, by omega, by go_num, ?_⟩
        have h1 := ((HBW.out.alloc hws (.cells #[.int .i64 pk, .string (bs px), .bool ps, .slice none 0 0] 49)).alloc (by simp; omega) (.cells #[.int .i64 qk, .string (bs qx), .bool qs, .slice none 0 0] 49))
        exact h1.trans (hb3.out.mono (by simp; omega))
      case measure => simp [intOf]; omega
    · obtain rfl : k = n := by omega
      go_wp2
      go_ret
      exact ⟨rfl, hbw⟩

set_option maxRecDepth 100000 in
set_option maxHeartbeats 8000000 in
theorem EqualFunc_p (A B : Option Addr) (n c d : Nat) (la lb : List Tp.PTok) (w : World) (hc : n ≤ c) (hd : n ≤ d) (hl : n ≤ 1000000) (ha : Rd w 4 A n (ptcs la)) (hb : Rd w 4 B n (ptcs lb))
    (hq : ∀ (k : Nat) (p q : Tp.PTok), la[k]? = some p → lb[k]? = some q → p.k = q.k ∧ p.x = q.x) :
    Calls Tryz.prog 24 #[.slice A n c, .slice B n d, .func (.func 25) #[] #[]] w fun e w' => e = .returned (.bool true) ∧ Below w.heap.size w w' := by
  have hla := ha.plen
  have hlb := hb.plen
  have S1 := Lib.hid (fun (p q : Tp.PTok) (W : World) (h : p.k = q.k ∧ p.x = q.x) => (pSame1_any p q W h))
  unfold ptv' at S1
  go_enter Tryz.func24, Tryz.ntmps24
  go_wp2
  go_loopw [7, 8, 9, 17] (fun _ _ _ z wr => ∃ k : Nat, k ≤ n ∧ z = .int .i64 k ∧ Below w.heap.size w wr) (fun _ _ _ z _ => n - (intOf z).toNat)
  case atStart => exact ⟨0, Nat.zero_le _, rfl, Below.refl _ _⟩
  case round =>
    obtain ⟨k, hk, rfl, hbw⟩ := hrel
    obtain ⟨wq, rfl⟩ : ∃ wq : World, wq = wr := ⟨_, rfl⟩
    by_cases hkn : k < n
    · obtain ⟨p, hp⟩ : ∃ p, la[k]? = some p := ⟨_, List.getElem?_eq_getElem (by rw [hla]; exact hkn)⟩
      obtain ⟨q, hqq⟩ : ∃ q, lb[k]? = some q := ⟨_, List.getElem?_eq_getElem (by rw [hlb]; exact hkn)⟩
      obtain ⟨b1, o1, rfl, hb1, d0, d1, d2, d3⟩ := (ha.below (Nat.le_refl _) hbw).pt hp
      obtain ⟨b2, o2, rfl, hb2, f0, f1, f2, f3⟩ := (hb.below (Nat.le_refl _) hbw).pt hqq
      have hr := hq k p q hp hqq
      have hws := hbw.size
      have bA := (Below.refl wq.heap.size wq).alloc (Nat.le_refl _) (.cells #[.int .i64 p.k, .string (bs p.x), .bool p.s, .slice none 0 0] 49)
      have g0 := (bA.cell (p := ⟨b2, o2 + k * 4, none⟩) hb2).trans f0
      have g1 := (bA.cell (p := ⟨b2, o2 + k * 4 + 1, none⟩) hb2).trans f1
      have g2 := (bA.cell (p := ⟨b2, o2 + k * 4 + 2, none⟩) hb2).trans f2
      have g3 := (bA.cell (p := ⟨b2, o2 + k * 4 + 3, none⟩) hb2).trans f3
      have SX := Lib.hid (fun W => S1.out p q W hr)
      have HBW := Lib.hid hbw
      obtain ⟨pk, px, ps, pp⟩ := p
      obtain ⟨qk, qx, qs, qp⟩ := q
      simp only at d0 d1 d2 d3 g0 g1 g2 g3 SX
      clear hp hqq hr ha hb hq f0 f1 f2 f3 S1 bA
      go_wp2_with (go_at_call 25; (with_reducible refine (SX.out _).mono ?_); rintro e w3 ⟨rfl, hb3⟩; have hb3 := Lib.hid hb3)
      go_roundw
      case rel =>
        refine ⟨k + 1, by omega, by go_num, ?_⟩
        have h1 := ((HBW.out.alloc hws (.cells #[.int .i64 pk, .string (bs px), .bool ps, .slice none 0 0] 49)).alloc (by simp; omega) (.cells #[.int .i64 qk, .string (bs qx), .bool qs, .slice none 0 0] 49))
        exact h1.trans (hb3.out.mono (by simp; omega))
      case measure => simp [intOf]; omega
    · obtain rfl : k = n := by omega
      go_wp2
      go_ret
      exact ⟨rfl, hbw⟩

set_option maxRecDepth 100000 in
set_option maxHeartbeats 8000000 in
theorem Same_X (A B : Option Addr) (c d : Nat) (w : World) (hc : 1 ≤ c) (hd : 1 ≤ d) (ha : Rd w 4 A 1 (ptcs [xM])) (hb : Rd w 4 B 1 (ptcs [xM])) :
    Calls Tryz.prog 21 #[mvX A c, mvX B d] w fun e w' => e = .returned (.bool true) ∧ Below w.heap.size w w' := by
  have EQ := Lib.hid (fun W => Tryz.slices_Equal_string_empty none none 0 0 0 W (by decide))
  have b2 : Below w.heap.size w ((w.alloc (.cells #[.string (bs [88]), .bool false, .slice none 0 0, .bool false, .slice A 1 c] 25)).alloc (.cells #[.string (bs [88]), .bool false, .slice none 0 0, .bool false, .slice B 1 d] 25)) := ((Below.refl _ _).alloc (Nat.le_refl _) _).alloc (by simp) _
  have EF := Lib.hid (EqualFunc_m A B 1 c d [xM] [xM] _ hc hd (by decide) (ha.below (Nat.le_refl _) b2) (hb.below (Nat.le_refl _) b2) (fun k p q h1 h2 => by rw [h1] at h2; cases h2; exact ⟨rfl, rfl, rfl⟩))
  have B2 := Lib.hid b2
  unfold mvX
  clear ha hb b2
  go_enter Tryz.func21, Tryz.ntmps21
  go_wp2_with (first
    | (go_at_call 26; (with_reducible refine (EQ.out _).mono ?_); rintro e w2 ⟨rfl, rfl⟩)
    | (go_at_call 24; (with_reducible refine EF.out.mono ?_); rintro e w2 ⟨rfl, hb2⟩))
  go_ret
  exact ⟨rfl, B2.out.trans (hb2.mono B2.out.size)⟩
end Go.Proofs.YtffjblamfbmoeaaGreatDoor

/-! Walks: macro.Text, at X -> 1. -/
set_option linter.unusedVariables false
set_option linter.unusedSimpArgs false
namespace Go.Proofs.YtffjblamfbmoeaaGreatDoor
open Go Go.RowKit
attribute [local go_sem] Oper.semAt_some

theorem own_cap {W : World} {base : Nat} {e : TypeId} {sz n c : Nat} {A : Option Addr} {xs : List Value} (h : W.ownsRow base e sz (.slice A n c) n xs) : c ≤ maxLen := by
  rcases h.2 with ⟨e1, _⟩ | ⟨g, cap, cur, e1, _, _, _, hc, _⟩
  · simp only [Value.slice.injEq] at e1; rw [e1.2.2]; exact Nat.zero_le _
  · simp only [Value.slice.injEq] at e1; rw [e1.2.2]; exact hc
def defK : List Tp.Tok := (Tp.scan defL).1
def dt1 : Tp.Tok := (Tp.says ⟨true, defT, defK⟩).getD 0 ⟨0, [], 0, 0, false⟩
def dt2 : Tp.Tok := (Tp.says ⟨true, defT, defK⟩).getD 1 ⟨0, [], 0, 0, false⟩
theorem def_scan : (Tp.scan defL).2 = 0 := by kernel_rfl
theorem def_rows : Tp.rows defK = [⟨true, defT, defK⟩] := by kernel_rfl
theorem def_says : Tp.says ⟨true, defT, defK⟩ = [dt1, dt2] := by kernel_rfl
theorem def_t1 : dt1.k = 1 ∧ dt1.x = [88] := ⟨by kernel_rfl, by kernel_rfl⟩
theorem def_t2 : dt2.k = 2 ∧ dt2.x = [49] ∧ dt2.s = true := ⟨by kernel_rfl, by kernel_rfl, by kernel_rfl⟩
theorem def_len : defK.length = 5 := by kernel_rfl
theorem def_q0 : ∀ i : Fin 12, ¬ ((Tp.g defL i.val).toNat : Int) = 92 ∧ ¬ ((Tp.g defL i.val).toNat : Int) = 63 := by decide
theorem def_q : ∀ (a : Nat) (ha : a < (bs defL).size), ¬ ((bs defL)[a].toNat : Int) = 92 ∧ ¬ ((bs defL)[a].toNat : Int) = 63 := by
  intro a ha
  have := def_q0 ⟨a, ha⟩
  rwa [g_at ha] at this
theorem map_one {α β : Type} {ps : List (α × β)} {r : α} (h : ps.map (·.1) = [r]) : ∃ v, ps = [(r, v)] := by
  match ps, h with
  | [(a, v)], h => simp only [List.map_cons, List.map_nil, List.cons.injEq, and_true] at h; exact ⟨v, by rw [h]⟩

set_option maxRecDepth 100000 in
set_option maxHeartbeats 8000000 in
theorem Text_X (A : Option Addr) (c : Nat) (w : World) (hc : 1 ≤ c) (hmx : MX w) (h : Rd w 4 A 1 (ptcs [xM])) :
    Calls Tryz.prog 8 #[mvX A c] w fun e w' => e = .returned (.tuple #[.string (bs defL), .int .i64 0]) ∧ Below w.heap.size w w' := by
  have LX := Lib.hid (fun (W : World) (hr : Rd W 4 A 1 (ptcs [xM])) => line_X A c W hc hr)
  have SP := Lib.hid (fun (W : World) => Spell_plain defL W (by decide) (by decide) rfl def_q)
  have SC := Lib.hid (fun (W : World) (hm : MX W) => Scan_any defL W (by decide) hm)
  unfold ScP at SC
  rw [def_scan, show (Tp.scan defL).1 = defK from rfl, def_len] at SC
  have RW := Lib.hid (fun (A : Option Addr) (c : Nat) (W : World) (h1 : 5 ≤ c) (h2 : c ≤ maxLen) (hr : Rd W 5 A 5 (tkcs defK)) => Rows_any A 5 c defK W h1 h2 (by rw [def_len]; decide) hr)
  have SY := Lib.hid (fun (A : Option Addr) (c : Nat) (W : World) (h1 : 5 ≤ c) (hr : Rd W 5 A 5 (tkcs defK)) => Says_any true defT defK A 5 c W h1 (by rw [def_len]; decide) hr)
  rw [def_says] at SY
  have DX := Lib.hid (fun (A : Option Addr) (c : Nat) (W : World) (h1 : 2 ≤ c) (hr : Rd W 5 A 2 (tkcs [dt1, dt2])) => Define_X A c dt1 dt2 W h1 hr def_t1 def_t2)
  have SM := Lib.hid (fun (A' : Option Addr) (c' : Nat) (W : World) (h1 : 1 ≤ c') (h2 : Rd W 4 A' 1 (ptcs [xM])) (hr : Rd W 4 A 1 (ptcs [xM])) => Same_X A' A c' c W h1 hc h2 hr)
  have HRD := Lib.hid (show ∀ W, Below w.heap.size w W → Rd W 4 A 1 (ptcs [xM]) from fun W hb => h.below (Nat.le_refl _) hb)
  have HMX := Lib.hid (show ∀ W, Below w.heap.size w W → MX W from fun W hb => hmx.later hb)
  obtain ⟨w0, hw0⟩ : ∃ w0, w.alloc (.cells #[.string (bs [88]), .bool false, .slice none 0 0, .bool false, .slice A 1 c] 25) = w0 := ⟨_, rfl⟩
  have hx0 : Below w.heap.size w w0 := by rw [← hw0]; exact (Below.refl _ _).alloc (Nat.le_refl _) _
  have hs0 : w0.heap.size = w.heap.size + 1 := by rw [← hw0]; simp
  have hq0 : w0.heap[w.heap.size]? = some (.cells #[.string (bs [88]), .bool false, .slice none 0 0, .bool false, .slice A 1 c] 25) := by rw [← hw0]; exact heap_alloc_new w _
  have HB := Lib.hid hx0
  have HW0 := Lib.hid hw0
  have HQ := Lib.hid (show ∀ W, Below w0.heap.size w0 W → W.cell? ⟨w.heap.size, 0, none⟩ = some (.string (bs [88])) ∧ W.cell? ⟨w.heap.size, 1, none⟩ = some (.bool false) ∧ W.cell? ⟨w.heap.size, 2, none⟩ = some (.slice none 0 0) ∧ W.cell? ⟨w.heap.size, 3, none⟩ = some (.bool false) ∧ W.cell? ⟨w.heap.size, 4, none⟩ = some (.slice A 1 c) ∧ w.heap.size < W.heap.size ∧ Below w.heap.size w W from fun W hb => by
    have hbk := (hb.block w.heap.size (by omega)).trans hq0
    exact ⟨Lib.cell_of_heap hbk 0, Lib.cell_of_heap hbk 1, Lib.cell_of_heap hbk 2, Lib.cell_of_heap hbk 3, Lib.cell_of_heap hbk 4, by have := hb.size; omega, hx0.trans (hb.mono (by omega))⟩)
  have HC := Lib.hid (Below.refl w0.heap.size w0)
  unfold mvX at LX SM DX
  unfold mvX
  clear h hmx hw0 hx0 hq0
  go_enter Tryz.func8, Tryz.ntmps8
  go_wp2_with (first
    | (go_at_call 18
       rw [HW0.out]
       (with_reducible refine (LX.out _ (HRD.out _ HB.out)).mono ?_)
       rintro e w1 ⟨rfl, hb1⟩
       replace HC := Lib.hid (HC.out.trans hb1))
    | (go_at_call 16
       (with_reducible refine (SP.out _).mono ?_)
       rintro e w2 ⟨rfl, hb2⟩
       replace HC := Lib.hid (HC.out.trans (hb2.mono HC.out.size)))
    | (go_at_call 11
       (with_reducible refine (SC.out _ (HMX.out _ (HQ.out _ HC.out).2.2.2.2.2.2)).mono ?_)
       rintro e w3 ⟨v3, rfl, hown3, hb3⟩
       replace HC := Lib.hid (HC.out.trans (hb3.mono HC.out.size))
       obtain ⟨A3, c3, rfl, hc3, hr3⟩ := own_form hown3
       have hcc3 := own_cap hown3)
    | (go_at_call 12
       (with_reducible refine (RW.out _ _ _ hc3 hcc3 hr3).mono ?_)
       rintro e w4 ⟨v4, ps, rfl, hown4, hps, hrwo, hb4⟩
       replace HC := Lib.hid (HC.out.trans (hb4.mono HC.out.size))
       rw [def_rows] at hps
       obtain ⟨vv, rfl⟩ := map_one hps
       have hvv := hrwo _ (List.mem_singleton.2 rfl)
       simp only [def_len] at hvv
       obtain ⟨A5, c5, rfl, hc5, hr5⟩ := own_form hvv
       have hown4' := hown4
       obtain ⟨g, cap, rfl⟩ := ownsRow_succ (k := 0) hown4'
       have r0 : w4.cell? ⟨g, 0, none⟩ = some (.bool true) := hown4.cellAt 0 (by simp)
       have r1 : w4.cell? ⟨g, 1, none⟩ = some (.string (bs defT)) := hown4.cellAt 1 (by simp)
       have r2 : w4.cell? ⟨g, 2, none⟩ = some (.slice A5 5 c5) := hown4.cellAt 2 (by simp)
       clear hown4 hown4' hvv hrwo hps hr3)
    | (go_at_call 20
       (with_reducible refine (SY.out _ _ _ hc5 hr5).mono ?_)
       rintro e w5 ⟨v5, rfl, hown5, hb5⟩
       replace HC := Lib.hid (HC.out.trans (hb5.mono HC.out.size))
       obtain ⟨A6, c6, rfl, hc6, hr6⟩ := own_form hown5)
    | (go_at_call 19
       (with_reducible refine (DX.out _ _ _ hc6 hr6).mono ?_)
       rintro e w6 ⟨A7, c7, rfl, hown7, hb7⟩
       replace HC := Lib.hid (HC.out.trans (hb7.mono HC.out.size))
       obtain ⟨p0, p1, p2, p3, p4, p5, p6⟩ := HQ.out _ HC.out
       have hc7 : 1 ≤ c7 := by obtain ⟨_, _, e, h1, _⟩ := own_form hown7; cases e; exact h1
       have hr7 := (Rd.of_own hown7).later ((Below.refl w6.heap.size w6).alloc (Nat.le_refl _) (.cells #[.string (bs [88]), .bool false, .slice none 0 0, .bool false, .slice A7 1 c7] 25))
       have hb8 := p6.alloc p6.size (.cells #[.string (bs [88]), .bool false, .slice none 0 0, .bool false, .slice A7 1 c7] 25))
    | (go_at_call 21
       (with_reducible refine (SM.out _ _ _ hc7 hr7 (HRD.out _ hb8)).mono ?_)
       rintro e w9 ⟨rfl, hb9⟩))
  go_ret2
  exact ⟨rfl, hb8.trans (hb9.mono hb8.size)⟩
end Go.Proofs.YtffjblamfbmoeaaGreatDoor
