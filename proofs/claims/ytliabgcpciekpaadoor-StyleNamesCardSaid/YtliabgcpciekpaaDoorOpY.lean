/- A style that came in, opened to its numbers. -/
import Derived.Test.YtliabgcpciekpaaDoorYlA
import Derived.ChangeSame
import Derived.Lib.SmallJoins
set_option linter.unusedVariables false
set_option linter.unusedSimpArgs false
set_option maxRecDepth 10000
namespace Go.Proofs.YtliabgcpciekpaaDoor
open Go Go.RowKit Go.ChangeShapes Go.WideShapes

theorem cellsSt : Tryd.prog.cellsOf 23 = 18 := by kernel_rfl
theorem cellsI' : Tryd.prog.cellsOf 3 = 1 := by kernel_rfl
theorem cellsB' : Tryd.prog.cellsOf 4 = 1 := by kernel_rfl

/-- The fields of a style. -/
noncomputable def stFields : Array Field := match Tryd.prog.underlying 23 with
  | some (.struct fs) => fs
  | _ => #[]
theorem stU : Tryd.prog.underlying 23 = some (.struct stFields) := by kernel_rfl
theorem stF : stFields.map (fun f => (f.offset, f.type)) = ((List.range 18).map fun i => (i, if St.isFl i = true then 4 else 3)).toArray := by kernel_rfl
theorem st_field {i : Nat} (hi : i < 18) : ∃ f, stFields[i]? = some f ∧ f.offset = i ∧ f.type = (if St.isFl i = true then 4 else 3) := by
  have h := congrArg (fun a => a[i]?) stF
  simp only [Array.getElem?_map, List.getElem?_toArray, List.getElem?_map, List.getElem?_range hi, Option.map_some] at h
  cases hf : stFields[i]? with
  | none => rw [hf] at h; simp at h
  | some f =>
    rw [hf] at h
    simp only [Option.map_some, Option.some.injEq, Prod.mk.injEq] at h
    exact ⟨f, rfl, h.1, h.2⟩

theorem open_style {H : Type} {enc : TypeId × Value → H} {W : World} {r : Reach} {b0 base : Nat} {sp : Nat → Bool} {held : Bool} {v : Value} {d : DataW H} {p : List MemPlace}
    (hv : Value.okWide Tryd.prog W r b0 23 v) (h : DataW.Trod enc Tryd.prog W base sp held 23 v d p) :
    ∃ s : Nat → Int, v = .agg (St.stv s).toArray ∧ St.Fl s := by
  obtain ⟨cs, rfl, hsz⟩ := okWide_struct stU hv
  rw [cellsSt] at hsz
  obtain ⟨fuel, hf⟩ := h
  obtain ⟨xs, n, _, _, hl, hlen, hfs⟩ := DataW.trod_struct stU hf
  have hcl : Value.cells (.agg cs) = cs := rfl
  rw [hcl] at hfs
  have hx : ∀ i, i < 18 → ∃ x : Int, cs[i]? = some (St.cellN i x) ∧ (St.isFl i = true → x = 0 ∨ x = 1) := by
    intro i hi
    obtain ⟨f, h1, h2, h3⟩ := st_field hi
    have h4 := hfs i f h1
    have hli : i < cs.toList.length := by simpa [hsz] using hi
    have hlx : i < xs.length := by rw [hlen]; exact (Array.getElem?_eq_some_iff.1 h1).1
    have hg : ∀ (l : List Value), (cs.toList.drop i).take 1 = l → l = [cs.toList[i]] := by
      intro l e
      rw [← e, List.drop_eq_getElem_cons hli]
      rfl
    rw [List.getElem?_eq_getElem hlx, h2, h3] at h4
    cases hfl : St.isFl i
    · rw [hfl] at h4
      simp only [Bool.false_eq_true, if_false, cellsI'] at h4
      obtain ⟨a, e, _, _⟩ := DataW.trod_int Tryd.underlying3 h4
      have e2 := hg _ e
      refine ⟨a, ?_, fun h => by cases h⟩
      have e3 : cs.toList[i] = .int .i64 a := by
        have := e2.symm
        simpa using this
      unfold St.cellN
      rw [hfl]
      have e4 : cs.toList[i]? = some (.int .i64 a) := by rw [List.getElem?_eq_getElem hli, e3]
      simpa using e4
    · rw [hfl] at h4
      simp only [if_true, cellsB'] at h4
      obtain ⟨a, e, _⟩ := DataW.trod_bool Tryd.underlying4 h4
      have e2 := hg _ e
      refine ⟨if a = true then 1 else 0, ?_, fun _ => by cases a <;> simp⟩
      have e3 : cs.toList[i] = .bool a := by
        have := e2.symm
        simpa using this
      unfold St.cellN
      rw [hfl]
      have e4 : cs.toList[i]? = some (.bool a) := by rw [List.getElem?_eq_getElem hli, e3]
      cases a <;> simpa using e4
  have hsk : ∃ s : Nat → Int, ∀ i, i < 18 → cs[i]? = some (St.cellN i (s i)) ∧ (St.isFl i = true → s i = 0 ∨ s i = 1) := by
    refine ⟨fun i => if h : i < 18 then Classical.choose (hx i h) else 0, fun i hi => ?_⟩
    have e : (if h : i < 18 then Classical.choose (hx i h) else 0) = Classical.choose (hx i hi) := dif_pos hi
    simp only [e]
    exact Classical.choose_spec (hx i hi)
  obtain ⟨s, hs⟩ := hsk
  refine ⟨s, ?_, fun i hi hf => (hs i hi).2 hf⟩
  congr 1
  apply Array.ext_getElem?
  intro i
  have hr : (St.stv s).toArray[i]? = (St.stv s)[i]? := by simp
  rw [hr]
  by_cases hi : i < 18
  · rw [St.stv_at _ hi, (hs i hi).1]
  · rw [List.getElem?_eq_none (by rw [St.stv_len]; omega), Array.getElem?_eq_none (by omega)]

end Go.Proofs.YtliabgcpciekpaaDoor
