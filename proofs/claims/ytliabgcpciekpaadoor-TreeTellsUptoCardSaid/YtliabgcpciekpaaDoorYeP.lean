/- The listed table of the powers of ten, and strconv.Itoa at the numbers of a style. -/
import Derived.Test.YtliabgcpciekpaaDoorYeI
import Derived.Test.YtliabgcpciekpaaDoorLdW
import Derived.Lib.LaidTab
import Derived.Lib.AppendIntMem
import Derived.MakeChecks
set_option linter.unusedVariables false
set_option linter.unusedSimpArgs false
namespace Go.Proofs.YtliabgcpciekpaaDoor
open Go Go.RowKit

def Pow (w : World) : Prop := Lib.TabIs Tryd.prog w "internal/strconv.uint64pow10" .u64 Lib.pow10Tab

theorem Pow.later {w w' : World} (h : Pow w) (hb : Below w.heap.size w w') : Pow w' := by
  unfold Pow Lib.TabIs World.var? at *
  rw [gPow, Option.bind_some] at *
  cases e : w.heap[0]? with
  | none => rw [e] at h; cases h
  | some o =>
    rw [hb.block _ (Array.getElem?_eq_some_iff.1 e).1]
    exact h

theorem pow_data : Rows.laid_internal_strconv_uint64pow10 (H := Unit) = Lib.tabData .u64 Lib.pow10Tab := by kernel_rfl
theorem pow_gty : (Tryd.prog.globals[0]?).map (·.type) = some 167 := by kernel_rfl

theorem pow_laid {W : World} {a b : String × DataW Unit} {rest : List (String × DataW Unit)}
    (h : laidMet Tryd.prog (a :: b :: ("internal/strconv.uint64pow10", Rows.laid_internal_strconv_uint64pow10) :: rest) W) : Pow W := by
  obtain ⟨ps, hv, _⟩ := h
  obtain ⟨g1, t1, c1, f1, p1, q1, _, _, _, _, hv1, _⟩ := hv
  obtain ⟨g2, t2, c2, f2, p2, q2, _, _, _, _, hv2, _⟩ := hv1
  obtain ⟨g3, t3, c3, f3, p3, q3, hg, ht, hvar, hd, _, _⟩ := hv2
  obtain rfl := Option.some.inj (gPow.symm.trans hg)
  obtain rfl := Option.some.inj (pow_gty.symm.trans ht)
  rw [pow_data] at hd
  unfold Pow Lib.TabIs
  rw [hvar, ← Lib.cells_of_tab Tryd.underlying167 Tryd.underlying155 (by kernel_rfl) (by kernel_rfl) hd]

theorem pow_of {W : World} (hL : laidMetH Tryd.prog Rows.stylePrintsRow.laid W) : Pow W := by
  rw [MakeChecks.laidMetH_plain _ _ _ (by kernel_rfl)] at hL
  exact pow_laid hL

theorem itc_of {w : World} (h : Pow w) {n : Int} (h0 : 0 ≤ n) (h1 : n ≤ 1000000) : ItC w n := by
  intro w' hb
  refine (Tryd.strconv_Itoa n (by omega) (by omega) w' (h.later hb)).mono ?_
  rintro e w'' ⟨rfl, k, os, rfl⟩
  exact ⟨rfl, Lib.below_grow _ _ (Nat.le_refl _) _ _⟩

end Go.Proofs.YtliabgcpciekpaaDoor
