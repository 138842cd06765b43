/- Walks: a path's style's file, and its style (the program's). -/
import Derived.Test.YtliabgcpciekpaaDoorTrI
import Derived.Test.YtliabgcpciekpaaDoorYrO
set_option linter.unusedVariables false
set_option linter.unusedSimpArgs false
namespace Go.Proofs.YtliabgcpciekpaaDoor
open Go Go.RowKit Go.Maps

namespace Tr
/-- What Nearest gives. -/
def nsN (ms : List T) (p : T) : T := if isPath p = true then near ms p else []
def nsH (ms : List T) (p : T) : Bool := isPath p && has ms p
def nsE (p : T) : Int := if isPath p = true then 0 else 220
end Tr
def nsRes (ms : List Tr.T) (p : Tr.T) : Value := .tuple #[.string (bs (Tr.nsN ms p)), .bool (Tr.nsH ms p), .int .i64 (Tr.nsE p)]

set_option maxRecDepth 100000 in
set_option maxHeartbeats 4000000 in
theorem Nearest_any (A : Option Addr) (cap : Nat) (fs : List (Tr.T × Tr.T)) (p : Tr.T) (w : World) (hrd : Rd w 2 A fs.length (fls fs)) (hn : fs.length ≤ 140737488355328) (hz : ∀ f ∈ fs, f.1.length ≤ 140737488355328) (hpl : p.length ≤ 140737488355328) :
    Calls Tryd.prog 24 #[.slice A fs.length cap, .string (bs p)] w fun e w' => e = .returned (nsRes (Tr.nms fs) p) ∧ Below w.heap.size w w' := by
  have PA := Path_any (bs p) w (by rw [bs_size]; exact hpl)
  rw [bs_data] at PA
  have PA := Lib.hid PA
  cases hp : Tr.isPath p
  · have HR := Lib.hid (show nsRes (Tr.nms fs) p = .tuple #[.string (bs []), .bool false, .int .i64 220] by unfold nsRes Tr.nsN Tr.nsH Tr.nsE; rw [hp]; rfl)
    rw [hp] at PA
    go_enter Tryd.func24, Tryd.ntmps24
    go_wp2_with (go_at_call 25; refine PA.out.mono ?_; rintro e w1 ⟨rfl, b1⟩)
    go_ret3
    exact ⟨by rw [HR.out]; rfl, b1⟩
  · rw [hp] at PA
    have NA := Lib.hid (fun W (hb : Below w.heap.size w W) => nearest_any A cap fs p W (hrd.later hb) hn hz hp)
    cases hnr : Tr.nr (Tr.nms fs) p with
    | none =>
      obtain ⟨e1, e2, e3⟩ := Tr.nrI_none hnr
      have HR := Lib.hid (show nsRes (Tr.nms fs) p = .tuple #[.string (bs []), .bool false, .int .i64 0] by unfold nsRes Tr.nsN Tr.nsH Tr.nsE; rw [hp, e2, e3]; rfl)
      rw [e1] at NA
      clear hnr e1 e2 e3
      go_enter Tryd.func24, Tryd.ntmps24
      go_wp2_with (first
        | (go_at_call 25; refine PA.out.mono ?_; rintro e w1 ⟨rfl, b1⟩)
        | (go_at_call 54; refine (NA.out _ b1).mono ?_; rintro e w2 ⟨rfl, b2⟩))
      go_ret3
      exact ⟨by rw [HR.out]; rfl, b1.trans (b2.mono b1.size)⟩
    | some i =>
      obtain ⟨k, e1, hk, hat, e4, e3⟩ := Tr.nrI_some hnr
      rw [Tr.nms_length] at hk
      have hf := List.getElem?_eq_getElem hk
      have hnm := Tr.nms_at hf
      rw [hat] at hnm
      simp only [Option.some.injEq] at hnm
      have HR := Lib.hid (show nsRes (Tr.nms fs) p = .tuple #[.string (bs fs[k].1), .bool true, .int .i64 0] by unfold nsRes Tr.nsN Tr.nsH Tr.nsE; rw [hp, ← hnm, e3]; rfl)
      rw [e1] at NA
      have RA := Lib.hid (fun W (hb : Below w.heap.size w W) => (hrd.later hb).fi hf)
      clear hnr e1 e3 e4 hat hnm hf
      generalize fs[k] = f at *
      have hkI : ¬ (k : Int) < 0 := by omega
      go_enter Tryd.func24, Tryd.ntmps24
      go_wp2_with (first
        | (go_at_call 25; refine PA.out.mono ?_; rintro e w1 ⟨rfl, b1⟩)
        | (go_at_call 54; refine (NA.out _ b1).mono ?_; rintro e w2 ⟨rfl, b2⟩; obtain ⟨b, o, rfl, hb, k0, k1⟩ := RA.out _ (b1.trans (b2.mono b1.size))))
      go_ret3
      exact ⟨by rw [HR.out]; rfl, b1.trans (b2.mono b1.size)⟩

end Go.Proofs.YtliabgcpciekpaaDoor
