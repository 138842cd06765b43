/- Walks: great, few, alive (the laws' own). -/
import Derived.Test.YtliabgcpciekpaaDoorTrJ
import Derived.Test.YtliabgcpciekpaaDoorTrL
import Derived.BigQuiet
set_option linter.unusedVariables false
set_option linter.unusedSimpArgs false
namespace Go.Proofs.YtliabgcpciekpaaDoor
open Go Go.RowKit Go.Maps

namespace Tr
def gw (n : Int) (f : T × T) : Int := wrap64 (wrap64 (wrap64 (n + 20) + (f.1.length : Int)) + (f.2.length : Int))
def grI (fs : List (T × T)) : Int := fs.foldl gw 0
theorem grI_step {fs : List (T × T)} {k : Nat} {f : T × T} (h : fs[k]? = some f) : grI (fs.take (k + 1)) = gw (grI (fs.take k)) f := by
  unfold grI
  rw [List.take_add_one, h, List.foldl_append]
  rfl
def fewL : List (T × T) := [([97, 47, 46, 99, 102, 109, 116], []), ([46, 99, 102, 109, 116], []), ([97, 47, 98, 47, 120, 46, 99], [])]
end Tr

set_option maxRecDepth 100000 in
set_option maxHeartbeats 1000000 in
theorem great_any (A : Option Addr) (c : Nat) (fs : List (Tr.T × Tr.T)) (w : World) (hn : fs.length ≤ 140737488355328) (h : Rd w 2 A fs.length (fls fs)) :
    Calls Tryd.prog 23 #[.slice A fs.length c] w fun e w' => e = .returned (.bool (decide (3000 < Tr.grI fs))) ∧ Below w.heap.size w w' := by
  go_enter Tryd.func23, Tryd.ntmps23
  go_wp2
  go_loopw [3, 4] (fun n i wr => ∃ k : Nat, k ≤ fs.length ∧ i = .int .i64 k ∧ (∃ z, n = .int .i64 z ∧ Hid (z = Tr.grI (fs.take k))) ∧ ∃ m, wr = w.drewN m) (fun _ i _ => fs.length - (intOf i).toNat)
  case atStart => exact ⟨0, Nat.zero_le _, rfl, ⟨0, rfl, Lib.hid rfl⟩, 0, rfl⟩
  case round =>
    obtain ⟨k, hk, rfl, ⟨z, rfl, HZ⟩, m, rfl⟩ := hrel
    by_cases hlt : k < fs.length
    · have hf := List.getElem?_eq_getElem hlt
      obtain ⟨b, o, rfl, hb, k0, k1⟩ := h.fi hf
      have HS := Lib.hid (Tr.grI_step hf)
      generalize fs[k] = f at *
      have e1 : (bs f.1).size = f.1.length := bs_size _
      have e2 : (bs f.2).size = f.2.length := bs_size _
      have HG : Hid (Tr.gw z f = Tr.grI (fs.take (k + 1))) := Lib.hid (by rw [HS.out, HZ.out])
      clear hf
      go_wp2
      go_quiet (fail)
      go_wp2
      exact ⟨⟨k + 1, by omega, by go_num, ⟨_, rfl, Lib.hid (by rw [← HG.out]; rfl)⟩, _, rfl⟩, by simp [intOf]; omega⟩
    · obtain rfl : k = fs.length := by omega
      rw [List.take_length] at HZ
      go_wp2
      go_ret
      exact ⟨by rw [HZ.out]; rfl, below_drewN (Below.refl _ _) m⟩

set_option maxHeartbeats 1000000 in
theorem few_any (w : World) :
    Calls Tryd.prog 36 #[] w fun e w' => ∃ A c, e = .returned (.slice A 3 c) ∧ Rd w' 2 A 3 (fls Tr.fewL) ∧ Below w.heap.size w w' := by
  go_enter Tryd.func36, Tryd.ntmps36
  go_wp2
  go_ret
  refine ⟨_, _, rfl, ⟨rfl, fun _ => ⟨w.heap.size, 0, rfl, by simp, fun j u hu => ?_⟩⟩, (Below.refl _ _).alloc (Nat.le_refl _) _⟩
  rw [Nat.zero_add]
  refine (Lib.cell_of_heap (heap_alloc_new w _) j).trans ?_
  rw [← hu]
  simp [fls, Tr.fewL, bs]

theorem few_near1 : nsRes (Tr.nms Tr.fewL) [97, 47, 98, 47, 120, 46, 99] = .tuple #[.string ⟨#[97, 47, 46, 99, 102, 109, 116]⟩, .bool true, .int .i64 0] := by kernel_rfl
theorem few_near2 : nsRes (Tr.nms Tr.fewL) [98, 47, 121, 46, 99] = .tuple #[.string ⟨#[46, 99, 102, 109, 116]⟩, .bool true, .int .i64 0] := by kernel_rfl
theorem few_bd : ∀ f ∈ Tr.fewL, f.1.length ≤ 140737488355328 := by decide

theorem few_n1 (W : World) (A : Option Addr) (c : Nat) (h : Rd W 2 A 3 (fls Tr.fewL)) : Calls Tryd.prog 24 #[.slice A 3 c, .string ⟨#[97, 47, 98, 47, 120, 46, 99]⟩] W fun e w' => e = .returned (.tuple #[.string ⟨#[97, 47, 46, 99, 102, 109, 116]⟩, .bool true, .int .i64 0]) ∧ Below W.heap.size W w' :=
  (Nearest_any A c Tr.fewL [97, 47, 98, 47, 120, 46, 99] W h (by decide) few_bd (by decide)).mono fun e w' q => ⟨q.1.trans (congrArg Ending.returned few_near1), q.2⟩
theorem few_n2 (W : World) (A : Option Addr) (c : Nat) (h : Rd W 2 A 3 (fls Tr.fewL)) : Calls Tryd.prog 24 #[.slice A 3 c, .string ⟨#[98, 47, 121, 46, 99]⟩] W fun e w' => e = .returned (.tuple #[.string ⟨#[46, 99, 102, 109, 116]⟩, .bool true, .int .i64 0]) ∧ Below W.heap.size W w' :=
  (Nearest_any A c Tr.fewL [98, 47, 121, 46, 99] W h (by decide) few_bd (by decide)).mono fun e w' q => ⟨q.1.trans (congrArg Ending.returned few_near2), q.2⟩

set_option maxRecDepth 100000 in
set_option maxHeartbeats 1000000 in
theorem treeAlive_any (w : World) :
    Calls Tryd.prog 22 #[] w fun e w' => e = .returned (.bool true) ∧ Below w.heap.size w w' := by
  have K1 := Lib.hid few_n1
  have K2 := Lib.hid few_n2
  have FW := Lib.hid (fun W => few_any W)
  go_enter Tryd.func22, Tryd.ntmps22
  go_wp2_with (first
    | (go_at_call 36; refine (FW.out w).mono ?_; rintro e w1 ⟨A1, c1, rfl, r1, b1⟩)
    | (go_at_call 24; (with_reducible refine (K1.out _ _ _ r1).mono ?_); rintro e w2 ⟨rfl, b2⟩)
    | (go_at_call 36; refine (FW.out w2).mono ?_; rintro e w3 ⟨A3, c3, rfl, r3, b3⟩)
    | (go_at_call 24; (with_reducible refine (K2.out _ _ _ r3).mono ?_); rintro e w4 ⟨rfl, b4⟩))
  go_ret
  have h2 := b1.trans (b2.mono b1.size)
  have h3 := h2.trans (b3.mono h2.size)
  exact ⟨rfl, h3.trans (b4.mono h3.size)⟩

end Go.Proofs.YtliabgcpciekpaaDoor
