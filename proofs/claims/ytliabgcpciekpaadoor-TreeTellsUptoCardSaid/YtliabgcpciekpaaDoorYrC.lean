/- Walks: strings.TrimLeft and strings.TrimRight at blank, tab and return. -/
import Derived.Test.YtliabgcpciekpaaDoorYrB
set_option linter.unusedVariables false
set_option linter.unusedSimpArgs false
namespace Go.Proofs.YtliabgcpciekpaaDoor
open Go Go.RowKit

def zeros : Array Value := Array.replicate 256 (.bool false)
theorem zero256 (w : World) : (zeroValue 123).run Tryd.prog w = .ok (.agg zeros) w := by kernel_rfl
def whSet : Array Value := Lib.setCells [32, 9, 13]
theorem whSet_size : whSet.size = 256 := Lib.setCells_size _
theorem blk_contains (x : UInt8) : ([32, 9, 13] : List UInt8).contains x = St.blk x := by
  rw [Bool.eq_iff_iff, List.contains_iff_mem]
  simp [St.blk, or_assoc]
theorem frozen_no {W : World} {b : Nat} {c : Array Value} {T : TypeId} (h : W.heap[b]? = some (.cells c T (0, 0))) (j : Nat) : W.frozen? ⟨b, j, none⟩ = false := by simp [World.frozen?, h]
theorem wh_there (w : World) : (w.alloc (.cells zeros 123)).there w.heap.size 0 whSet.size := by
  intro j hj
  rw [whSet_size] at hj
  have hh := heap_alloc_new w (.cells zeros 123)
  rw [Nat.zero_add]
  refine ⟨?_, frozen_no hh j⟩
  rw [Lib.cell_of_heap hh]
  simp [zeros, hj]
theorem wh_info : (Tryd.prog.info? 123).map (·.size) = some whSet.size := by rw [whSet_size]; kernel_rfl
theorem wh_one : whSet.all (·.oneCell') = true := Lib.setCells_one _
theorem wh_set (w : World) : Wht ((w.alloc (.cells zeros 123)).setCells w.heap.size 0 whSet.toList) w.heap.size := by
  intro x
  have hr := World.rangeAt_setCells_same (w.alloc (.cells zeros 123)) w.heap.size 0 whSet.toList (by have := wh_there w; simpa using this)
  have h1 : whSet.toList[x.toNat]? = some (.bool (St.blk x)) := by
    rw [Array.getElem?_toList]
    have := Lib.setCells_at [32, 9, 13] x
    rw [blk_contains] at this
    exact this
  have := hr x.toNat _ h1
  rwa [Nat.zero_add] at this
theorem wh_below {w0 w : World} (h : Below w0.heap.size w0 w) : Below w0.heap.size w0 ((w.alloc (.cells zeros 123)).setCells w.heap.size 0 whSet.toList) :=
  below_setCells h.size _ _ _ (h.alloc h.size _)
theorem mk_set (w : World) : Calls Tryd.prog 71 #[.string ⟨#[32, 9, 13]⟩] w fun e w' => e = .returned (.tuple #[.agg whSet, .bool true]) ∧ Below w.heap.size w w' := by
  refine (Tryd.strings_makeASCIISet zero256 ⟨#[32, 9, 13]⟩ w (by decide) (fun j b hj => ?_)).mono ?_
  · have : b ∈ ([32, 9, 13] : List UInt8) := List.mem_of_getElem? hj
    simp at this
    rcases this with rfl | rfl | rfl <;> decide
  · rintro e w' ⟨rfl, rfl⟩
    exact ⟨rfl, (Below.refl _ _).alloc (Nat.le_refl _) _⟩

theorem gen_world2 {w : World} {Q : World → Prop} (p : World → Prop) (hp : p w) (h : ∀ W, p W → Q W) : Q w := h w hp
theorem wpList_alloc_agg {P : Program} {ops : Array Oper} {rest : List Oper} {op : Oper} {a : Act} {w : World} {Q : Exit → Act → World → Prop} (hgd : op.guard = none) (ty : TypeId) (ho : op.op = .alloc ty) (cs : Array Value)
    (hz : ∀ w, (zeroValue ty).run P w = .ok (.agg cs) w) (h : wpList P ops Q rest (a.put op.dst (.pointer (some ⟨w.heap.size, 0, none⟩))) (w.alloc (.cells cs ty))) : wpList P ops Q (op :: rest) a w :=
  wpList_plain hgd fun _ hK => by
    unfold Oper.wp execOp
    simp [ho, go_sem, hz]
    exact hK _ _ h

set_option maxRecDepth 100000 in
set_option maxHeartbeats 400000 in
theorem TrimLeft_any (s : ByteArray) (w : World) :
    Calls Tryd.prog 47 #[.string s, .string ⟨#[32, 9, 13]⟩] w fun e w' => e = .returned (.string (bs (St.trimL s.data.toList))) ∧ Below w.heap.size w w' := by
  by_cases h0 : s.size = 0
  · have he := ba_nil h0
    have HR := Lib.hid (show bs (St.trimL s.data.toList) = s by rw [he, St.trimL_nil, ← he, bs_of])
    have t1 : s.toList = [] := by rw [Lib.toList_data]; exact he
    have t2 : s.toList.isEmpty = true := by rw [t1]; rfl
    have t3 : ((s.size : Int) == 0) = true := by simp [h0]
    clear he h0
    go_enter Tryd.func47, Tryd.ntmps47
    go_wp2
    go_ret
    exact ⟨by rw [HR.out]; rfl, Below.refl _ _⟩
  have hne : s.data.toList ≠ [] := by intro e; apply h0; rw [Lib.size_eq, e]; rfl
  have t1 : ¬ s.toList = [] := by rw [Lib.toList_data]; exact hne
  have t2 : s.toList.isEmpty = false := by rw [List.isEmpty_eq_false_iff]; exact t1
  have t3 : ((s.size : Int) == 0) = false := by rw [beq_eq_false_iff_ne]; omega
  clear hne h0
  go_enter Tryd.func47, Tryd.ntmps47
  go_wp2_with (first
    | (go_at_call 71; (with_reducible refine (mk_set _).mono ?_); rintro e w1 ⟨rfl, b1⟩)
    | (refine wpList_alloc_agg rfl _ rfl zeros zero256 ?_)
    | (refine wpList_store_mid rfl _ _ _ rfl _ _ whSet rfl rfl (wh_there _) wh_info wh_one ?_; refine gen_world2 (Q := fun W => wpList _ _ _ _ _ W) (fun W => Wht W w1.heap.size ∧ Below w.heap.size w W) ⟨wh_set w1, wh_below b1⟩ ?_; rintro w3 ⟨q1, q2⟩; have Q1 := Lib.hid q1; clear q1)
    | (go_at_call 72; (with_reducible refine (trimLeftASCII_any s _ _ Q1.out).mono ?_); rintro e w2 ⟨rfl, rfl⟩))
  go_ret
  exact ⟨rfl, q2⟩

set_option maxRecDepth 100000 in
set_option maxHeartbeats 2000000 in
theorem TrimRight_any (s : ByteArray) (w : World) (hsz : s.size ≤ 1000000000) :
    Calls Tryd.prog 48 #[.string s, .string ⟨#[32, 9, 13]⟩] w fun e w' => e = .returned (.string (bs (St.trimR s.data.toList))) ∧ Below w.heap.size w w' := by
  by_cases h0 : s.size = 0
  · have he := ba_nil h0
    have HR := Lib.hid (show bs (St.trimR s.data.toList) = s by rw [he, St.trimR_nil, ← he, bs_of])
    have t1 : s.toList = [] := by rw [Lib.toList_data]; exact he
    have t2 : s.toList.isEmpty = true := by rw [t1]; rfl
    have t3 : ((s.size : Int) == 0) = true := by simp [h0]
    clear he h0
    go_enter Tryd.func48, Tryd.ntmps48
    go_wp2
    go_ret
    exact ⟨by rw [HR.out]; rfl, Below.refl _ _⟩
  have hne : s.data.toList ≠ [] := by intro e; apply h0; rw [Lib.size_eq, e]; rfl
  have t1 : ¬ s.toList = [] := by rw [Lib.toList_data]; exact hne
  have t2 : s.toList.isEmpty = false := by rw [List.isEmpty_eq_false_iff]; exact t1
  have t3 : ((s.size : Int) == 0) = false := by rw [beq_eq_false_iff_ne]; omega
  clear hne h0
  go_enter Tryd.func48, Tryd.ntmps48
  go_wp2_with (first
    | (go_at_call 71; (with_reducible refine (mk_set _).mono ?_); rintro e w1 ⟨rfl, b1⟩)
    | (refine wpList_alloc_agg rfl _ rfl zeros zero256 ?_)
    | (refine wpList_store_mid rfl _ _ _ rfl _ _ whSet rfl rfl (wh_there _) wh_info wh_one ?_; refine gen_world2 (Q := fun W => wpList _ _ _ _ _ W) (fun W => Wht W w1.heap.size ∧ Below w.heap.size w W) ⟨wh_set w1, wh_below b1⟩ ?_; rintro w3 ⟨q1, q2⟩; have Q1 := Lib.hid q1; clear q1)
    | (go_at_call 75; (with_reducible refine (trimRightASCII_any s _ _ hsz Q1.out).mono ?_); rintro e w2 ⟨rfl, rfl⟩))
  go_ret
  exact ⟨rfl, q2⟩

end Go.Proofs.YtliabgcpciekpaaDoor
