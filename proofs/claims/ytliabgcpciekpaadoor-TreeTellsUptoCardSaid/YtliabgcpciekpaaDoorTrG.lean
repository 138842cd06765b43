/- Walks: the files that count, a path's folders, the nearest style's file (the program's). -/
import Derived.Test.YtliabgcpciekpaaDoorTrF
import Derived.Test.YtliabgcpciekpaaDoorYsB
import Derived.Test.YtliabgcpciekpaaDoorYrM
set_option linter.unusedVariables false
set_option linter.unusedSimpArgs false
namespace Go.Proofs.YtliabgcpciekpaaDoor
open Go Go.RowKit Go.Maps
attribute [local go_sem] Oper.semAt_some

namespace Tr
theorem nms_snoc (fs : List (T × T)) (f : T × T) : nms (fs ++ [f]) = nms fs ++ [f.1] := by simp [nms]
theorem nms_take (fs : List (T × T)) (i : Nat) : nms (fs.take i) = (nms fs).take i := by simp [nms]
theorem nms_step {fs : List (T × T)} {i : Nat} {f : T × T} (h : fs[i]? = some f) : nms (fs.take (i + 1)) = nms (fs.take i) ++ [f.1] := by
  rw [List.take_add_one, h]; exact nms_snoc _ _
theorem nms_at {fs : List (T × T)} {i : Nat} {f : T × T} (h : fs[i]? = some f) : (nms fs)[i]? = some f.1 := by simp [nms, h]
end Tr

/-- The block of one file. -/
def Fb (W : World) (P : Nat) (f : Tr.T × Tr.T) : Prop := W.heap[P]? = some (.cells #[.string (bs f.1), .string (bs f.2)] 43 (0, 0))

set_option maxRecDepth 100000 in
set_option maxHeartbeats 4000000 in
theorem counted_any (A : Option Addr) (cap : Nat) (fs : List (Tr.T × Tr.T)) (w : World) (hrd : Rd w 2 A fs.length (fls fs)) (hn : fs.length ≤ 140737488355328) (hz : ∀ f ∈ fs, f.1.length ≤ 140737488355328) :
    Calls Tryd.prog 57 #[.slice A fs.length cap] w fun e w' => ∃ D, e = .returned (.map (some w.heap.size)) ∧ w'.ownsMap Tryd.prog 9 (plainElem Tryd.prog 3) w.heap.size fs.length D ∧ Tr.CntOf D (Tr.nms fs) ∧ Below w.heap.size w w' := by
  have hmm := fun w => run_makeMap0 Tryd.underlying92 w
  go_enter Tryd.func57, Tryd.ntmps57
  go_wp2
  go_loopw [11] (fun v W => ∃ (i : Nat) (D : DataW Unit), i ≤ fs.length ∧ v = .int .i64 i ∧ W.ownsMap Tryd.prog 9 (plainElem Tryd.prog 3) w.heap.size i D ∧ Hid (Tr.CntOf D (Tr.nms (fs.take i))) ∧ Below w.heap.size w W) (fun v _ => fs.length - (intOf v).toNat)
  case atStart => exact ⟨0, _, Nat.zero_le _, rfl, World.ownsMap_made w _ _ _, Lib.hid Tr.CntOf.empty, (Below.refl _ _).alloc (Nat.le_refl _) _⟩
  case round =>
    obtain ⟨i, D, hi, rfl, hown, HC, hB⟩ := hrel
    by_cases hlt : i < fs.length
    · have hf := List.getElem?_eq_getElem hlt
      obtain ⟨b, o, rfl, hb, k0, k1⟩ := (hrd.later hB).fi hf
      have HF := Lib.hid hf
      have hzl := hz fs[i] (List.getElem_mem hlt)
      generalize fs[i] = f at *
      clear hf
      have hfs : (bs f.1).size = f.1.length := bs_size _
      have hkey : keyOf Tryd.prog 9 (.string (bs f.1)) = some (.string f.1) := by
        have := Go.WideMaps.keyOf_string_mk (P := Tryd.prog) Tryd.underlying9 (s := bs f.1) (by rw [hfs]; unfold maxLen; omega)
        rwa [bs_data] at this
      have hownA : (wr.alloc (.cells #[.string (bs f.1), .string (bs f.2)] 43)).ownsMap Tryd.prog 9 (plainElem Tryd.prog 3) w.heap.size i D := ownsMap_kept hown (Below.heap_alloc _ _ _ hown.lt)
      have PA := Lib.hid (fun W => Path_any (bs f.1) W (by rw [hfs]; exact hzl))
      rw [bs_data] at PA
      have HK := Lib.hid hkey
      have HOA := Lib.hid hownA
      have HO := Lib.hid hown
      have HST := Lib.hid (Tr.nms_step HF.out)
      have HBA := Lib.hid (hB.alloc hB.size (.cells #[.string (bs f.1), .string (bs f.2)] 43))
      have hlen : (Tr.nms (fs.take i)).length = i := by simp [Tr.nms]; omega
      have HLEN := Lib.hid hlen
      cases hhas : Tr.known (Tr.nms (fs.take i)) f.1
      · have hhd := HC.out.has f.1
        rw [hhas] at hhd
        have HHAS := Lib.hid hhas
        cases hpp : Tr.isPath f.1
        · have HC2 := Lib.hid (HC.out.old (x := f.1) (.inr hpp))
          rw [hpp] at PA
          clear hkey hownA hown hhas hpp hlen hB hfs hzl
          go_wp2_with (first
            | (at_lookup; refine wpList_lookup_own_ok_int _ rfl _ _ 92 rfl 9 3 .i64 lawS Tryd.underlying92 Tryd.underlying3 (zeroI _) w.heap.size i D rfl HOA.out _ _ rfl HK.out ?_; intro c hat hwc; clear hat hwc)
            | (go_at_call 25; refine (PA.out _).mono ?_; rintro e w3 ⟨rfl, b3⟩))
          go_roundw
          case rel => exact ⟨i + 1, D, by omega, by go_num, ownsMap_kept HOA.out (b3.block _ (by have := HO.out.lt; simp; omega)) |>.mono (by omega), by rw [HST.out]; exact HC2, HBA.out.trans (b3.mono HBA.out.size)⟩
          case measure => simp [intOf]; omega
        · have HC2 := Lib.hid (HC.out.put (x := f.1) HHAS.out hpp)
          rw [hpp] at PA
          clear hkey hownA hown hhas hpp hlen hB hfs hzl
          go_wp2_with (first
            | (at_lookup; refine wpList_lookup_own_ok_int _ rfl _ _ 92 rfl 9 3 .i64 lawS Tryd.underlying92 Tryd.underlying3 (zeroI _) w.heap.size i D rfl HOA.out _ _ rfl HK.out ?_; intro c hat hwc; clear hat hwc)
            | (go_at_call 25; refine (PA.out _).mono ?_; rintro e w3 ⟨rfl, b3⟩; have hF3 : Fb w3 wr.heap.size f := (b3.block _ (by simp)).trans (heap_alloc_new wr _); have d3 := Lib.cell_of_heap hF3 0; have hF3 := Lib.hid hF3)
            | (at_mapUpdate; refine wpList_mapUpdate_own _ rfl _ _ _ 92 rfl 9 3 lawS Tryd.underlying92 _ w.heap.size i _ rfl (ownsMap_kept HOA.out (b3.block _ (by have := HO.out.lt; simp; omega))) (by unfold maxLen; omega) _ _ _ rfl rfl HK.out _ [] (plainElem_int Tryd.underlying3 (WalkArith.wf_i64 (by omega))) ?_; intro w4 o4 g4; have o4 := Lib.hid o4; have g4 := Lib.hid g4))
          go_roundw
          case rel => exact ⟨i + 1, _, by omega, by go_num, o4.out, by rw [HST.out]; rw [HLEN.out] at HC2; exact HC2, (HBA.out.trans (b3.mono HBA.out.size)).grown g4.out (HBA.out.trans (b3.mono HBA.out.size)).size (fun k e => by cases e; exact Nat.le_refl _)⟩
          case measure => simp [intOf]; omega
      · have hhd := HC.out.has f.1
        rw [hhas] at hhd
        have HC2 := Lib.hid (HC.out.old (x := f.1) (.inl hhas))
        clear hkey hownA hown hhas hlen hB hfs hzl
        go_wp2_with (first
          | (at_lookup; refine wpList_lookup_own_ok_int _ rfl _ _ 92 rfl 9 3 .i64 lawS Tryd.underlying92 Tryd.underlying3 (zeroI _) w.heap.size i D rfl HOA.out _ _ rfl HK.out ?_; intro c hat hwc; clear hat hwc))
        go_roundw
        case rel => exact ⟨i + 1, D, by omega, by go_num, HOA.out.mono (by omega), by rw [HST.out]; exact HC2, HBA.out⟩
        case measure => simp [intOf]; omega
    · obtain rfl : i = fs.length := by omega
      rw [List.take_length] at HC
      have HO := Lib.hid hown
      clear hown
      go_wp2
      go_ret
      exact ⟨D, rfl, HO.out, HC.out, hB⟩

end Go.Proofs.YtliabgcpciekpaaDoor
