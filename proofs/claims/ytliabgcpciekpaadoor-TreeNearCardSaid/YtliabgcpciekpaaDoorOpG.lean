/- One file that came in, opened to its texts. -/
import Derived.Test.YtliabgcpciekpaaDoorOpF
set_option linter.unusedVariables false
set_option linter.unusedSimpArgs false
set_option maxRecDepth 10000
namespace Go.Proofs.YtliabgcpciekpaaDoor
open Go Go.RowKit Go.ChangeShapes Go.WideShapes Go.Deep

theorem open_files_none {H : Type} {enc : TypeId × Value → H} {w : World} {base : Nat} {spare : Nat → Bool} {held : Bool} {fuel : Nat} {A : Option Addr} {len cap : Nat} {x : DataW H × List MemPlace}
    (h : DataW.trod enc Tryd.prog w base spare held fuel 41 [.slice A len cap] = some x) : A = none → cap = 0 := by
  rcases open_slice Tryd.underlying41 h with ⟨hcs, _⟩ | ⟨a, len', cap', m, n, D, PP, hcs, _⟩
  · simp only [List.cons.injEq, Value.slice.injEq, and_true] at hcs
    exact fun _ => hcs.2.2
  · simp only [List.cons.injEq, Value.slice.injEq, and_true] at hcs
    intro e
    rw [e] at hcs
    cases hcs.1

theorem open_file {H : Type} {enc : TypeId × Value → H} {W : World} {r : Reach} {b0 base : Nat} {sp : Nat → Bool} {held : Bool} {v : Value} {d : DataW H} {p : List MemPlace}
    (hv : Value.okWide Tryd.prog W r b0 43 v) (h : DataW.Trod enc Tryd.prog W base sp held 43 v d p) :
    ∃ f : List UInt8 × List UInt8, v = .agg #[.string (bs f.1), .string (bs f.2)] ∧ f.1.length ∈ d.weights Tryd.prog 43 ∧ f.2.length ∈ d.weights Tryd.prog 43 := by
  obtain ⟨cs, rfl, hsz⟩ := okWide_struct Tryd.underlying43 hv
  rw [cellsF] at hsz
  obtain ⟨fuel, hf⟩ := h
  obtain ⟨ys, n', _, hd, _, hyl, hfs⟩ := DataW.trod_struct Tryd.underlying43 hf
  have hcl : Value.cells (.agg cs) = cs := rfl
  rw [hcl] at hfs
  obtain ⟨u0, u1, hu⟩ := two_ofF (show cs.toList.length = 2 by simpa using hsz)
  rw [hu] at hfs
  obtain ⟨y0, y1, rfl⟩ := two_ofF (show ys.length = 2 from hyl)
  have h0 : DataW.trod enc Tryd.prog W base sp held n' 9 (([u0, u1].drop 0).take (Tryd.prog.cellsOf 9)) = some y0 := hfs 0 _ rfl
  have h1 : DataW.trod enc Tryd.prog W base sp held n' 9 (([u0, u1].drop 1).take (Tryd.prog.cellsOf 9)) = some y1 := hfs 1 _ rfl
  rw [cellsS] at h0 h1
  obtain ⟨n0, e0, r0, w0⟩ := DataW.trod_string Tryd.underlying9 (cs := [u0]) (x := y0) h0
  obtain ⟨n1, e1, r1, w1⟩ := DataW.trod_string Tryd.underlying9 (cs := [u1]) (x := y1) h1
  simp only [List.cons.injEq, and_true] at e0 e1
  subst e0 e1
  have hdd := congrArg Prod.fst hd
  simp only [List.map_cons, List.map_nil, r0, r1] at hdd
  have hcs : cs = #[.string n0, .string n1] := by
    apply Array.ext'
    rw [hu]
  refine ⟨(n0.data.toList, n1.data.toList), ?_, ?_, ?_⟩
  · rw [hcs, bs_of, bs_of]
  · rw [hdd]; simp [DataW.weights, Tryd.underlying43, DataW.weightsEach]
  · rw [hdd]; simp [DataW.weights, Tryd.underlying43, DataW.weightsEach]

end Go.Proofs.YtliabgcpciekpaaDoor
