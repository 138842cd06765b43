/- Walks: the files in a folder (the program's). -/
import Derived.Test.YtliabgcpciekpaaDoorTrI
import Derived.Test.YtliabgcpciekpaaDoorSortShelf
import Derived.Sort.OwnSorted
import Derived.Maps.RangeWalk
set_option linter.unusedVariables false
set_option linter.unusedSimpArgs false
namespace Go.Proofs.YtliabgcpciekpaaDoor
open Go Go.RowKit Go.Maps Go.Sort

namespace Tr
/-- What Under gives. -/
def unL (ms : List T) (f : T) : List T := if (decide (f = []) || isPath f) = true then und ms (inF f) else []
def unE (f : T) : Int := if (decide (f = []) || isPath f) = true then 0 else 220
end Tr

theorem strInfo : (Tryd.prog.info? 9).map (fun i => (i.zero, i.size, i.bytes)) = some (some (.string ⟨#[]⟩), 1, 16) := by kernel_rfl
theorem sts_enc (l : List Tr.T) : sts l = l.map encStr := rfl
/-- A slice of texts of the call's own, sorted by the library. -/
theorem sort_own {w : World} {base : Nat} {v : Value} {l : List Tr.T} (h : w.ownsRow base 9 1 v l.length (sts l)) (hl : l.length ≤ 4398046511104) :
    Calls Tryd.prog 59 #[v] w fun e w' => e = .returned (.tuple #[]) ∧ w'.ownsRow base 9 1 v l.length (sts (l.mergeSort leB)) ∧ Below base w w' := by
  rcases h.2 with ⟨hv, h0⟩ | ⟨g, cap, cur, hv, hbase, hb, h1, h2, h3, h4⟩
  · have hl0 : l = [] := List.eq_nil_of_length_eq_zero h0
    subst hl0 hv
    refine (Tryd.slices_Sort_string_none none 0 w).mono ?_
    rintro e w' ⟨rfl, rfl⟩
    exact ⟨rfl, by simpa using h, Below.refl _ _⟩
  · subst hv
    rw [sts_enc] at h4
    have hH : Holds encStr w g 0 l.toArray := holds_of_block hb (by simpa using h4)
    refine (Tryd.slices_Sort_string g 0 cap l w hH (Array.getElem?_eq_some_iff.1 hb).1 (by omega)).mono ?_
    rintro e w' ⟨rfl, nn, os, rfl⟩
    refine ⟨rfl, ownsRow_sorted (by simp) hbase hb h1 h2 h3, ?_⟩
    exact ⟨rfl, rfl, rfl, (grownBy_sorted (w := w) (g := g) _).size, fun k hk => (grownBy_sorted (w := w) (g := g) _).block k (by have := (Array.getElem?_eq_some_iff.1 hb).1; omega) (fun e => by have := Option.some.inj e; omega)⟩

/-- In a round over the map of what counts. -/
structure MrI (w : World) (M R B n : Nat) (D : DataW Unit) (q : Tr.T → Bool) (v : Value) (wr : World) (ss : List Tr.T) (left : Lit → Bool) (cnt : Nat) : Prop where
  rg : wr.ranges Tryd.prog 9 (plainElem Tryd.prog 3) M R n D left cnt
  le : ss.length + cnt ≤ Maps.size D
  row : wr.ownsRow B 9 1 v (ss.filter q).length (sts (ss.filter q))
  col : Collected D left ss
  bel : Below w.heap.size w wr
  sz : B ≤ wr.heap.size
theorem MrI.stepped {w : World} {M R B n : Nat} {D : DataW Unit} {q : Tr.T → Bool} {v : Value} {wr w2 : World} {ss : List Tr.T} {left : Lit → Bool} {cnt : Nat} (h : MrI w M R B n D q v wr ss left cnt) {x : Tr.T} {cnt2 : Nat} {y : DataW Unit}
    (hrg2 : w2.ranges Tryd.prog 9 (plainElem Tryd.prog 3) M R n D (fun z => left z && !z.sameKey (.string x)) cnt2) (hlt : cnt2 < cnt) (hg2 : wr.grownBy w2 (some R)) (hlk : left (.string x) = true) (hat : ∀ zd, D.atKey (.string x) zd = y) (hR : R < B) (hRw : w.heap.size ≤ R) :
    w2.ranges Tryd.prog 9 (plainElem Tryd.prog 3) M R n D (fun z => left z && !z.sameKey (.string x)) cnt2 ∧ (ss ++ [x]).length + cnt2 ≤ Maps.size D ∧ w2.ownsRow B 9 1 v (ss.filter q).length (sts (ss.filter q)) ∧ Collected D (fun z => left z && !z.sameKey (.string x)) (ss ++ [x]) ∧ Below w.heap.size w w2 ∧ B ≤ w2.heap.size :=
  ⟨hrg2, by have := h.le; simp; omega, h.row.kept hg2 (.inr (own_ne h.row hR)), h.col.step hlk hat, h.bel.grown hg2 h.bel.size (fun k e => by cases e; omega), Nat.le_trans h.sz hg2.size⟩
theorem known_of_collected {D : DataW Unit} {ms : List Tr.T} {left : Lit → Bool} {ss : List Tr.T} (CN : Tr.CntOf D ms) (h : Collected D left ss) (hl : ∀ kl, left kl = false) : ∀ x, x ∈ ss ↔ Tr.known ms x = true := fun x => by
  rw [h.2 x, CN.has x, hl]; simp

set_option maxRecDepth 100000 in
set_option maxHeartbeats 4000000 in
theorem Under_any (A : Option Addr) (cap : Nat) (fs : List (Tr.T × Tr.T)) (fd : Tr.T) (w : World) (hrd : Rd w 2 A fs.length (fls fs)) (hn : fs.length ≤ 4398046511104) (hz : ∀ f ∈ fs, f.1.length ≤ 140737488355328) (hfl : fd.length ≤ 140737488355328) :
    Calls Tryd.prog 27 #[.slice A fs.length cap, .string (bs fd)] w fun e w' => ∃ v, e = .returned (.tuple #[v, .int .i64 (Tr.unE fd)]) ∧ w'.ownsRow w.heap.size 9 1 v (Tr.unL (Tr.nms fs) fd).length (sts (Tr.unL (Tr.nms fs) fd)) ∧ Below w.heap.size w w' := by
  obtain ⟨i0, hi, hz0, hz1, hz2⟩ := info_parts strInfo
  have PA := fun W => Path_any (bs fd) W (by rw [bs_size]; exact hfl)
  simp only [bs_data] at PA
  have PA := Lib.hid PA
  have htl : (bs fd).toList = fd := bs_toList fd
  by_cases h0 : fd = []
  · subst h0
    have t2 : (bs []).toList.isEmpty = true := by rw [htl]; rfl
    have HL := Lib.hid (show Tr.unL (Tr.nms fs) [] = Tr.und (Tr.nms fs) (Tr.inF []) by unfold Tr.unL; simp)
    have HE := Lib.hid (show Tr.unE [] = 0 by unfold Tr.unE; simp)
    have CA := Lib.hid (fun W (hb : Below w.heap.size w W) => counted_any A cap fs W (hrd.later hb) (by omega) hz)
    have hq0 : ∀ x, Tr.inF [] x = true := fun x => by unfold Tr.inF; simp
    have HQ := Lib.hid hq0
    clear hq0 hrd hz
    go_enter Tryd.func27, Tryd.ntmps27
    go_wp2_with (first
      | (go_at_call 57; refine (CA.out _ (Below.refl _ _)).mono ?_; rintro e w2 ⟨D, rfl, own, CN, b2⟩; have CN := Lib.hid CN)
      | (at_range; refine wpList_range_own _ rfl _ 92 rfl 9 3 lawS Tryd.underlying92 _ w.heap.size fs.length D rfl own ?_; intro w3 hrg0 hg0 hs0))
    go_frame
    have hcn := own.size_le
    have hb12 := b2
    have hq2 := b2.size
    have hlt2 := own.lt
    go_loopw [6] (fun v wr => ∃ ss left cnt, MrI w w.heap.size w2.heap.size (w2.heap.size + 1) fs.length D (Tr.inF []) v wr ss left cnt) (fun _ wr => wr.rangeLeft w.heap.size w2.heap.size)
    case atStart => exact ⟨[], _, _, hrg0, by simp, World.ownsRow_nil _ _ _ _, Collected.start D, (hb12.grown hg0 hb12.size (fun k e => by cases e)), by omega⟩
    case round =>
      obtain ⟨ss, left, cnt, hI⟩ := hrel
      have hrg := hI.rg
      go_wp2_with (first
        | (at_next; refine wpList_next_ranges _ rfl _ rfl 9 lawS (plainElem Tryd.prog 3) (fun l : Tr.T => .string (bs l)) (Value.int .i64) (fun key kl hk => by obtain ⟨x, hx, _⟩ := Maps.keyOf_str Tryd.underlying9 hk; exact ⟨x, hx⟩) (fun v y hv => by obtain ⟨c, rfl, _⟩ := plainElem_int_inv Tryd.underlying3 hv; exact ⟨c, rfl⟩) w.heap.size w2.heap.size fs.length _ _ _ rfl hrg ?_ ?_))
      · intro hc0 hl0
        have hle := hI.le
        have hfl2 : (ss.filter (Tr.inF [])).length ≤ ss.length := List.length_filter_le _ _
        have SO := Lib.hid (sort_own hI.row (by omega))
        have e1 := Tr.sort_und (q := Tr.inF []) hI.col.1 (known_of_collected CN.out hI.col hl0)
        have e2 : (Tr.und (Tr.nms fs) (Tr.inF [])).length = (ss.filter (Tr.inF [])).length := by rw [← e1, List.length_mergeSort]
        have E1 := Lib.hid e1
        have E2 := Lib.hid e2
        have BI := Lib.hid hI.bel
        clear e1 e2 hI hrg hl0 hc0 hle hfl2 hrg0 own
        go_wp2_with (go_at_call 59; refine SO.out.mono ?_; rintro e w5 ⟨rfl, o5, b5⟩; have o5 := Lib.hid o5; have b5 := Lib.hid b5)
        go_ret2
        refine ⟨_, by rw [HE.out]; rfl, ?_, BI.out.trans (b5.out.mono (by omega))⟩
        rw [HL.out, E2.out, ← E1.out]
        exact own_base o5.out (by omega)
      · intro x c kl yd yp w4 cnt2 hkey hlk hv hat hrg2 hlt hg2 hs2 hen
        obtain ⟨x', ex, rfl, hxl⟩ := Maps.keyOf_str Tryd.underlying9 hkey
        obtain rfl : x = x' := encStr_inj ex
        obtain ⟨r2, l2, o2, c2, bl2, s2⟩ := hI.stepped hrg2 hlt hg2 hlk hat (by omega) (by omega)
        have hle := hI.le
        have hfl2 : (ss.filter (Tr.inF [])).length ≤ ss.length := List.length_filter_le _ _
        have R0 := Lib.hid hrg
        clear hs2 hv hat hkey hlk hg2 hrg2 hI hrg ex hrg0 own
        have hq := HQ.out x
        have hff : (ss ++ [x]).filter (Tr.inF []) = ss.filter (Tr.inF []) ++ [x] := by rw [List.filter_append]; simp [hq]
        have HFF := Lib.hid hff
        have O2 := Lib.hid (o2.alloc (.cells #[.string (bs x)] 9))
        have hbd : (ss.filter (Tr.inF [])).length + 1 ≤ 4398046511104 := by simp at l2; omega
        clear hq hff
        go_wp2_with (first
          | (at_builtin; refine wpList_append_own _ rfl _ _ 38 rfl (w2.heap.size + 1) 9 i0 (.string ⟨#[]⟩) 1 16 Tryd.underlying38 hi hz0 hz1 hz2 rfl (by decide) _ _ _ rfl O2.out ⟨w4.heap.size, 0, none⟩ 1 1 [.string (bs x)] rfl rfl (cell_one_new _ _ _) (by simp [Value.oneCell']) (by unfold maxLen; omega) (by omega) (by simp; omega) ?_; intro v' w6 hown' hg3 hnil3; have hown' := Lib.hid hown'; have hg3 := Lib.hid hg3; clear hnil3; go_frame))
        have hrg3 := (r2.alloc (.cells #[.string (bs x)] 9)).kept hg3.out (own_ne O2.out (j := w.heap.size) (by omega)).symm (own_ne O2.out (j := w2.heap.size) (by omega)).symm
        go_roundw
        case rel =>
          have hb5 := bl2.alloc bl2.size (.cells #[.string (bs x)] 9)
          refine ⟨ss ++ [x], _, cnt2, ⟨hrg3, l2, ?_, c2, hb5.grown hg3.out hb5.size (fun k e => ?_), ?_⟩⟩
          · rw [HFF.out, sts_snoc, List.length_append]; exact hown'.out
          · have := (O2.out.lt k e).1; omega
          · have := hg3.out.size; simp at this; omega
        case measure => rw [hrg3.left_eq, R0.out.left_eq]; exact hlt
  · have b0 : (fd == []) = false := beq_eq_false_iff_ne.2 h0
    have c0 : fd.isEmpty = false := by rw [List.isEmpty_eq_false_iff]; exact h0
    have d0 : ¬ (bs fd).toList = [] := by rw [htl]; exact h0
    cases hp : Tr.isPath fd
    · have HL := Lib.hid (show Tr.unL (Tr.nms fs) fd = [] by unfold Tr.unL; rw [hp]; simp [h0])
      have HE := Lib.hid (show Tr.unE fd = 220 by unfold Tr.unE; rw [hp]; simp [h0])
      rw [hp] at PA
      go_enter Tryd.func27, Tryd.ntmps27
      go_wp2_with (go_at_call 25; refine (PA.out _).mono ?_; rintro e w1 ⟨rfl, b1⟩)
      go_ret2
      exact ⟨_, by rw [HE.out]; rfl, by rw [HL.out]; exact World.ownsRow_nil _ _ _ _, b1⟩
    · have HL := Lib.hid (show Tr.unL (Tr.nms fs) fd = Tr.und (Tr.nms fs) (Tr.inF fd) by unfold Tr.unL; rw [hp]; simp)
      have HE := Lib.hid (show Tr.unE fd = 0 by unfold Tr.unE; rw [hp]; simp)
      have CA := Lib.hid (fun W (hb : Below w.heap.size w W) => counted_any A cap fs W (hrd.later hb) (by omega) hz)
      have HPF := Lib.hid (fun (x : Tr.T) => show Lib.hasPrefix (bs x).data.toList (bs fd ++ ⟨#[47]⟩).data.toList = Tr.inF fd x by
        rw [bs_data]; unfold Lib.hasPrefix Tr.inF
        have : (bs fd ++ ⟨#[47]⟩ : ByteArray).data.toList = fd ++ [47] := by rw [show (⟨#[47]⟩ : ByteArray) = bs [47] from rfl, bs_cat, bs_data]
        rw [this]; simp [h0])
      rw [hp] at PA
      have hcat : ¬ 9223372036854775807 < fd.length + 1 := by omega
      have hfs : (bs fd).size = fd.length := bs_size fd
      clear h0 hp hrd hz
      go_enter Tryd.func27, Tryd.ntmps27
      go_wp2_with (first
        | (go_at_call 25; refine (PA.out _).mono ?_; rintro e w1 ⟨rfl, b1⟩)
        | (go_at_call 57; refine (CA.out _ b1).mono ?_; rintro e w2 ⟨D, rfl, own, CN, b2⟩; have CN := Lib.hid CN)
        | (at_range; refine wpList_range_own _ rfl _ 92 rfl 9 3 lawS Tryd.underlying92 _ w1.heap.size fs.length D rfl own ?_; intro w3 hrg0 hg0 hs0))
      go_frame
      have hcn := own.size_le
      have hb12 := b1.trans (b2.mono b1.size)
      have hq1 := b1.size
      have hq2 := b2.size
      have hlt2 := own.lt
      go_loopw [6] (fun v wr => ∃ ss left cnt, MrI w w1.heap.size w2.heap.size (w2.heap.size + 1) fs.length D (Tr.inF fd) v wr ss left cnt) (fun _ wr => wr.rangeLeft w1.heap.size w2.heap.size)
      case atStart => exact ⟨[], _, _, hrg0, by simp, World.ownsRow_nil _ _ _ _, Collected.start D, (hb12.grown hg0 hb12.size (fun k e => by cases e)), by omega⟩
      case round =>
        obtain ⟨ss, left, cnt, hI⟩ := hrel
        have hrg := hI.rg
        go_wp2_with (first
          | (at_next; refine wpList_next_ranges _ rfl _ rfl 9 lawS (plainElem Tryd.prog 3) (fun l : Tr.T => .string (bs l)) (Value.int .i64) (fun key kl hk => by obtain ⟨x, hx, _⟩ := Maps.keyOf_str Tryd.underlying9 hk; exact ⟨x, hx⟩) (fun v y hv => by obtain ⟨c, rfl, _⟩ := plainElem_int_inv Tryd.underlying3 hv; exact ⟨c, rfl⟩) w1.heap.size w2.heap.size fs.length _ _ _ rfl hrg ?_ ?_))
        · intro hc0 hl0
          have hle := hI.le
          have hfl2 : (ss.filter (Tr.inF fd)).length ≤ ss.length := List.length_filter_le _ _
          have SO := Lib.hid (sort_own hI.row (by omega))
          have e1 := Tr.sort_und (q := Tr.inF fd) hI.col.1 (known_of_collected CN.out hI.col hl0)
          have e2 : (Tr.und (Tr.nms fs) (Tr.inF fd)).length = (ss.filter (Tr.inF fd)).length := by rw [← e1, List.length_mergeSort]
          have E1 := Lib.hid e1
          have E2 := Lib.hid e2
          have BI := Lib.hid hI.bel
          clear e1 e2 hI hrg hl0 hc0 hle hfl2 hrg0 own
          go_wp2_with (go_at_call 59; refine SO.out.mono ?_; rintro e w5 ⟨rfl, o5, b5⟩; have o5 := Lib.hid o5; have b5 := Lib.hid b5)
          go_ret2
          refine ⟨_, by rw [HE.out]; rfl, ?_, BI.out.trans (b5.out.mono (by omega))⟩
          rw [HL.out, E2.out, ← E1.out]
          exact own_base o5.out (by omega)
        · intro x c kl yd yp w4 cnt2 hkey hlk hv hat hrg2 hlt hg2 hs2 hen
          obtain ⟨x', ex, rfl, hxl⟩ := Maps.keyOf_str Tryd.underlying9 hkey
          obtain rfl : x = x' := encStr_inj ex
          obtain ⟨r2, l2, o2, c2, bl2, s2⟩ := hI.stepped hrg2 hlt hg2 hlk hat (by omega) (by omega)
          have PF := fun W => Tryd.strings_HasPrefix (bs x) (bs fd ++ ⟨#[47]⟩) W
          simp only [HPF.out x] at PF
          have hle := hI.le
          have hfl2 : (ss.filter (Tr.inF fd)).length ≤ ss.length := List.length_filter_le _ _
          have R0 := Lib.hid hrg
          clear hs2 hv hat hkey hlk hg2 hrg2 hI hrg ex hrg0 own
          cases hq : Tr.inF fd x
          · simp only [hq] at PF
            have PF := Lib.hid PF
            have hff : (ss ++ [x]).filter (Tr.inF fd) = ss.filter (Tr.inF fd) := by rw [List.filter_append]; simp [hq]
            rw [← hff] at o2
            clear hq hff
            go_wp2_with (go_at_call 58; refine (PF.out _).mono ?_; rintro e w5 ⟨rfl, rfl⟩)
            go_roundw
            case rel => exact ⟨ss ++ [x], _, cnt2, r2, l2, o2, c2, bl2, s2⟩
            case measure => rw [r2.left_eq, R0.out.left_eq]; exact hlt
          · simp only [hq] at PF
            have PF := Lib.hid PF
            have hff : (ss ++ [x]).filter (Tr.inF fd) = ss.filter (Tr.inF fd) ++ [x] := by rw [List.filter_append]; simp [hq]
            have HFF := Lib.hid hff
            have O2 := Lib.hid (o2.alloc (.cells #[.string (bs x)] 9))
            have hbd : (ss.filter (Tr.inF fd)).length + 1 ≤ 4398046511104 := by simp at l2; omega
            clear hq hff
            go_wp2_with (first
              | (go_at_call 58; refine (PF.out _).mono ?_; rintro e w5 ⟨rfl, rfl⟩)
              | (at_builtin; refine wpList_append_own _ rfl _ _ 38 rfl (w2.heap.size + 1) 9 i0 (.string ⟨#[]⟩) 1 16 Tryd.underlying38 hi hz0 hz1 hz2 rfl (by decide) _ _ _ rfl O2.out ⟨w5.heap.size, 0, none⟩ 1 1 [.string (bs x)] rfl rfl (cell_one_new _ _ _) (by simp [Value.oneCell']) (by unfold maxLen; omega) (by omega) (by simp; omega) ?_; intro v' w6 hown' hg3 hnil3; have hown' := Lib.hid hown'; have hg3 := Lib.hid hg3; clear hnil3; go_frame))
            have hrg3 := (r2.alloc (.cells #[.string (bs x)] 9)).kept hg3.out (own_ne O2.out (j := w1.heap.size) (by omega)).symm (own_ne O2.out (j := w2.heap.size) (by omega)).symm
            go_roundw
            case rel =>
              have hb5 := bl2.alloc bl2.size (.cells #[.string (bs x)] 9)
              refine ⟨ss ++ [x], _, cnt2, ⟨hrg3, l2, ?_, c2, hb5.grown hg3.out hb5.size (fun k e => ?_), ?_⟩⟩
              · rw [HFF.out, sts_snoc, List.length_append]; exact hown'.out
              · have := (O2.out.lt k e).1; omega
              · have := hg3.out.size; simp at this; omega
            case measure => rw [hrg3.left_eq, R0.out.left_eq]; exact hlt

end Go.Proofs.YtliabgcpciekpaaDoor
