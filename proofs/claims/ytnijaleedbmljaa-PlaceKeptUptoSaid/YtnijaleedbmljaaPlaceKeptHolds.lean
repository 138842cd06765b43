/- The row PlaceKept (its second form). -/
import Derived.Test.YtnijaleedbmljaaRows
import Derived.Test.YtnijaleedbmljaaPlaceKept
import Derived.Test.YtnijaleedbmljaaOpnV
import Derived.WalkKit
import Derived.ProofKit
import Derived.OpenShut
import Derived.ShutString
import Derived.ChangeOld
import Derived.Below
import Derived.JoinedCond
namespace Go.Proofs.Ytnijaleedbmljaa.placeKept
open Go.ChangeShapes Go.WideShapes Go.ChangeAt Go.RowKit
open Go.ChangeMaps (open_string shut_string)
set_option linter.unusedVariables false

theorem own : ownKnob Try.prog.godebug = none := by kernel_rfl
theorem laidOut : laidOutB Try.prog = true := by kernel_rfl

set_option maxRecDepth 100000 in
theorem lifted (os : Os) (started : os.Started) (H : Type) (enc : TypeId × Value → H) (F : Stop.Interp) :
    ReturnsInHanded {} Try.checked os 10 .any ((Rows.OpenSpec.upto Rows.placeKeptSpec).pre6 enc Try.prog Try.f10 Rows.placeKeptUptoRow.domain false) (((Rows.OpenSpec.upto Rows.placeKeptSpec).at F).post enc Try.prog Try.f10 false true false false) := by
  refine returnsInHanded_of_cond (C := Try.checked) (s := Rows.OpenSpec.upto Rows.placeKeptSpec) (k := Rows.uptoSmall) rfl own started (by kernel_rfl) Try.func10
    (OpenSpec.witness (enc := enc) (C := Try.checked) (s := Rows.OpenSpec.upto Rows.placeKeptSpec) (k := Rows.uptoSmall) rfl false ⟨#[], #[.string .empty, .slice none 0 0], []⟩ 8 (by kernel_rfl) (by kernel_rfl) (by kernel_rfl)
      (x := ([.lit (.string []), .nil], [], [])) (by kernel_rfl) rfl (by kernel_rfl)) ?_
  intro W base args ds gs before hval0 hW _ hk _
  have hval : ∀ (j : Nat) t v, Try.f10.params[j]? = some t → args[j]? = some v → Value.okWide Try.prog W .any base t v := hval0
  have hW' := hW
  obtain ⟨p, q, hA0, hV, rfl, hfz, hnd⟩ := hW
  have hA : DataW.TrodAll enc Try.prog W 0 (fun _ => true) true Try.f10.params.toList args.toList ds p := hA0
  rw [Try.params10] at hA hval
  obtain ⟨v0, vs0, d0, ds0, p0, q0, hargs, rfl, rfl, h0, r0⟩ := trodAll_cons hA
  obtain ⟨v1, vs1, d1, ds1, p1, q1, rfl, rfl, rfl, h1, r1⟩ := trodAll_cons r0
  obtain ⟨rfl, rfl, rfl⟩ := trodAll_nil r1
  obtain rfl : args = #[v0, v1] := by cases args; simp_all
  obtain ⟨rfl, rfl⟩ := trodVars_none hV
  obtain ⟨a0, rfl, rfl, rfl, w0⟩ := open_string Try.underlying9 (hval 0 9 v0 rfl rfl) h0
  have sb0 : a0.size ≤ 1048576 := by
    have := bulk_one hk (d := .lit (.string a0.data.toList)) (by simp)
    simp only [Rows.uptoBulk] at this
    rw [Lib.size_eq]; omega
  obtain ⟨a1, len1, cap1, rfl⟩ := okWide_slice Try.underlying22 (hval 1 22 v1 rfl rfl)
  have k1 := h1
  have lt1 : ∀ x ∈ p1, x.block < W.heap.size := by obtain ⟨m, hm⟩ := k1; exact DataW.trod_lt m _ _ _ hm
  have bk1 : Rows.uptoBulk d1 ≤ 1048576 := bulk_one hk (by simp)
  obtain ⟨l1, rfl, hrd1, hlm1, hlx1, hle1⟩ : ∃ l : List Pl.Ed, l.length = len1 ∧ Rd W 3 a1 len1 (edcs l) ∧ len1 ≤ maxLen ∧ txts l ≤ Rows.uptoBulk d1 ∧ ∀ e ∈ l, e.x.length ≤ Rows.uptoBulk d1 ∧ (Lit.int .i64 e.f).wf = true ∧ (Lit.int .i64 e.t).wf = true := by
    obtain ⟨fuel, hf⟩ := h1
    exact open_edits_upto (by simpa [Value.cells] using hf)
  have hlb1 : l1.length ≤ 1048576 := by
    obtain ⟨fuel, hf⟩ := k1
    exact Nat.le_trans (slice_len (by simpa [Value.cells] using hf)) bk1
  clear hA0 hval0
  simp only [List.append_nil] at hW'
  refine (PlaceKept_any a0 a1 cap1 l1 W w0 sb0 hlm1 hlb1 (fun e he => Nat.le_trans (hle1 e he).1 bk1) hrd1).mono fun e W' ⟨he, bel⟩ => ?_
  subst he
  exact ⟨_, rfl, _, _, _, [], _, [], hW', trodAll_mk1 (shut_bool Try.underlying4 _), (trodAll_cons_mk (shut_string Try.underlying9 w0) (trodAll_cons_mk (Below.trod laidOut (by kernel_rfl) (of_decide_eq_true (by kernel_rfl)) k1 bel lt1) trodAll_mk0)), rfl, bel.frame _, fun h => by cases h⟩

theorem over : Rows.placeKeptUptoRow.holds Try.pinned (Rows.OpenSpec.upto Rows.placeKeptSpec) :=
  OpenClaim.holds_of_cond 10 Try.f10 rfl rfl rfl rfl rfl rfl rfl ⟨rfl, rfl, rfl, rfl, rfl⟩ rfl rfl rfl rfl rfl (by kernel_rfl) Try.func10 (by kernel_rfl)
    (of_decide_eq_true (by kernel_rfl)) (by unfold Func.isWrapper; first | (rw [if_pos (by decide +kernel)]; kernel_rfl) | (rw [if_neg (by decide +kernel)]; exact ⟨rfl, rfl⟩))
    (fun os started H enc _ F => lifted os started H enc F)

/-- The statement. -/
theorem placeKept_holds : Rows.PlaceKeptUptoSaid := over

end Go.Proofs.Ytnijaleedbmljaa.placeKept
