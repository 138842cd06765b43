/- Walks: a style as it is at first (the program's). -/
import Derived.Test.YtliabgcpciekpaaDoorYeE
import Derived.Lib.LazyBuf
set_option linter.unusedVariables false
set_option linter.unusedSimpArgs false
namespace Go.Proofs.YtliabgcpciekpaaDoor
open Go Go.RowKit
attribute [local go_sem] Oper.semAt_some

/-- A style whose first n entries are as at first, the others 0. -/
def fv (n : Nat) : Nat → Int := fun i => if i < n then St.first i else 0
theorem fv_put (n : Nat) : St.sput (fv n) n (St.first n) = fv (n + 1) := by
  funext i
  unfold St.sput fv
  by_cases h : i = n
  · subst h; rw [if_pos rfl, if_pos (by omega)]
  · rw [if_neg h]
    by_cases h2 : i < n
    · rw [if_pos h2, if_pos (by omega)]
    · rw [if_neg h2, if_neg (by omega)]
theorem first_fl : ∀ i, i < 18 → St.isFl i = true → St.first i = 0 ∨ St.first i = 1 := St.below18 (by decide)
theorem fv_fl (n : Nat) : St.Fl (fv n) := by
  intro i hi hf
  unfold fv
  split
  · exact first_fl i hi hf
  · exact .inl rfl
theorem zeroSt : (St.stv (fv 0)).toArray = #[.int .i64 0, .int .i64 0, .int .i64 0, .int .i64 0, .bool false, .bool false, .bool false, .int .i64 0, .int .i64 0, .int .i64 0, .int .i64 0, .int .i64 0, .int .i64 0, .int .i64 0, .int .i64 0, .int .i64 0, .int .i64 0, .int .i64 0] := by rfl

theorem KpE.grown {W W' : World} {b : Nat} {v : Nat → Int} (hs : Sty W b v) (hg : W.grownBy W' (some b)) : KpE W W' := fun k c fr e =>
  (hg.block k (Array.getElem?_eq_some_iff.1 e).1 (by rintro ⟨⟩; unfold Sty at hs; rw [hs] at e; cases e)).trans e
theorem keeps_grown {W W' : World} {b B : Nat} {v : Nat → Int} (hs : Sty W b v) (hg : W.grownBy W' (some b)) : KeepsFrom B W W' :=
  ⟨hg.size, fun k o _ e ho => (hg.block k (Array.getElem?_eq_some_iff.1 e).1 (by rintro ⟨⟩; unfold Sty at hs; rw [hs] at e; cases e; cases ho)).trans e⟩
theorem Sty.other {W W' : World} {b c : Nat} {v : Nat → Int} (h : Sty W b v) (hg : W.grownBy W' (some c)) (hne : b ≠ c) : Sty W' b v :=
  (hg.block b h.lt (fun e => hne (by injection e))).trans h
theorem results_cell_mid {P : Program} {fn : Func} {p : Tmp} {ty : TypeId} (h : fn.results = #[.cell p ty]) (tmps : Array Value) (w : World) (b : Nat) (cs : List Value) (d : TypeDesc)
    (hp : tmps.getD p undef = .pointer (some ⟨b, 0, none⟩)) (hc : w.rangeAt b 0 cs) (hu : P.underlying ty = some d) (hd : d.isRow = true) (hi : (P.info? ty).map (·.size) = some cs.length) :
    (results fn tmps).run P w = .ok (.agg cs.toArray) w := by
  have hp' : tmps[p]?.getD undef = .pointer (some ⟨b, 0, none⟩) := by simpa using hp
  simp [results, h, hp', asAddr, run_loadVar_mid w b 0 ty cs d hc hu hd hi]

theorem pre_eq2 {pre : List Nat} {x : Nat} (h : pre ++ [x] <+: List.range 18) : x = pre.length ∧ x < 18 := by
  have hx := pre_lt h
  refine ⟨?_, hx⟩
  obtain ⟨t, ht⟩ := h
  have h1 : (pre ++ [x] ++ t)[pre.length]? = some x := by simp
  rw [ht] at h1
  have hl : pre.length < 18 := by
    have := congrArg List.length ht
    simp at this
    omega
  rw [List.getElem?_eq_getElem (by simpa using hl)] at h1
  simpa using h1.symm

theorem heap_setCells_other {b k : Nat} (hne : k ≠ b) : ∀ (vs : List Value) (o : Nat) (w : World), (w.setCells b o vs).heap[k]? = w.heap[k]?
  | [], _, _ => rfl
  | v :: r, o, w => (heap_setCells_other hne r (o + 1) _).trans (Below.heap_setCell _ _ _ _ hne)

def FiI (w : World) (pre : List Nat) (W : World) : Prop := Sty W (w.heap.size + 1) (fv pre.length) ∧ Sty W w.heap.size (fv 0) ∧ Below w.heap.size w W ∧ w.heap.size + 3 ≤ W.heap.size
def fiTmps (h : Nat) (p e : Value) : Array Value := #[.pointer (some ⟨h, 0, none⟩), .pointer (some ⟨h + 1, 0, none⟩), p, .func (.func 64) #[] #[.pointer (some ⟨h + 1 + 1, 0, none⟩)], e, undef, undef, undef, undef, undef]

set_option maxRecDepth 100000 in
set_option maxHeartbeats 4000000 in
theorem First_any (w : World) :
    Calls Tryd.prog 19 #[] w fun e w' => e = .returned (.agg (St.stv (fv 18)).toArray) ∧ Below w.heap.size w w' := by
  refine callsIn_wide (n := 5) |>.1 ?_
  refine callsIn_of_wp_marks Tryd.func19 rfl trivial ?_ rfl
  simp only [Tryd.ntmps19, List.size_toArray, List.length_cons, List.length_nil, Nat.reduceAdd, Nat.reduceSub, Array.replicate_succ, Array.replicate_zero, List.push_toArray, List.append_toArray, List.nil_append, List.cons_append]
  refine wpIn_wide.2 ?_
  go_wp2_with (first
    | (go_at_call 37; (with_reducible refine (entries_any _ _).mono ?_); rintro e w2 ⟨rfl, rfl⟩))
  refine (wpIn_wide (n := 5)).1 ?_
  rw [← zeroSt]
  obtain ⟨wB, hwB⟩ : ∃ wB, (((w.alloc (.cells (St.stv (fv 0)).toArray 23)).alloc (.cells (St.stv (fv 0)).toArray 23)).alloc (.cells #[.pointer (some ⟨w.heap.size + 1, 0, none⟩)] 74)) = wB := ⟨_, rfl⟩
  have hsB : wB.heap.size = w.heap.size + 3 := by rw [← hwB]; simp
  have hbB : Below w.heap.size w wB := by rw [← hwB]; exact (((Below.refl _ _).alloc (Nat.le_refl _) _).alloc (by simp only [World.size_alloc]; omega) _).alloc (by simp only [World.size_alloc]; omega) _
  have S0 : Sty wB w.heap.size (fv 0) := by
    rw [← hwB]
    exact ((Sty.new w (fv 0)).later ((Below.refl _ _).alloc (Nat.le_refl _) _)).later ((Below.refl _ _).alloc (Nat.le_refl _) _)
  have S1 : Sty wB (w.heap.size + 1) (fv 0) := by
    rw [← hwB]
    have h1 := Sty.new (w.alloc (.cells (St.stv (fv 0)).toArray 23)) (fv 0)
    rw [World.size_alloc] at h1
    exact h1.later ((Below.refl _ _).alloc (Nat.le_refl _) _)
  have P1 : Bx wB (w.heap.size + 1 + 1) 74 (.pointer (some ⟨w.heap.size + 1, 0, none⟩)) := by
    rw [← hwB]
    have h1 := Bx.new ((w.alloc (.cells (St.stv (fv 0)).toArray 23)).alloc (.cells (St.stv (fv 0)).toArray 23)) 74 (.pointer (some ⟨w.heap.size + 1, 0, none⟩))
    rw [World.size_alloc, World.size_alloc] at h1
    exact h1
  rw [hwB]
  clear hwB
  refine rangeLaw2 (gf := 64) (lb := #[.pointer (some ⟨w.heap.size + 1 + 1, 0, none⟩)]) rfl (enters_of Tryd.func64 (by kernel_rfl) rfl)
    (fun W1 hs1 hbb => entries1_seq (5 - 1) (w.heap.size + 1 + 1) (w.heap.size + 1) W1 (P1.below hbb P1.lt) (by have := (S1.below hbb S1.lt); unfold Sty at this; rw [this]; rfl))
    (fun X Y k o hg hk ho _ => (hg.block k (Array.getElem?_eq_some_iff.1 ho).1 (by simp)).trans ho)
    (fun h1 h2 => h1.trans h2) (fun W l o o' hl ho hc _ => KpE.put W l o o' ho hc) (fun _ => rfl)
    (FiI w) (fun _ _ _ => False)
    (fun pre X Y ⟨h1, h2, h4, h5⟩ hg => ⟨(hg.block _ h1.lt (by simp)).trans h1, (hg.block _ h2.lt (by simp)).trans h2, h4.grown hg h4.size (fun k e => by cases e), Nat.le_trans h5 hg.size⟩)
    (fun pre W l o o' ⟨h1, h2, h4, h5⟩ hl ho hc => ⟨h1.put o' ho hc, h2.put o' ho hc, below_put h4 o' (by rw [hsB] at hl; omega), by simpa using h5⟩)
    (fun c pre W l o o' h hl ho hc => h)
    (fun W1 hs1 hbb => ⟨S1.below hbb S1.lt, S0.below hbb S0.lt, hbB.trans (hbb.mono hbB.size), by rw [hs1, hsB]; omega⟩)
    (fun pre x a' W => ∃ P, a' = { tmps := fiTmps w.heap.size (.pointer (some ⟨P, 0, none⟩)) (entV (w.heap.size + 1) x), defers := [] } ∧ Eb W P (w.heap.size + 1) x ∧ FiI w pre W)
    (fun pre x a' W l o o' ⟨P, h0, he, ⟨h1, h2, h4, h5⟩⟩ hl ho hc => ⟨P, h0, he.put o' ho hc, ⟨h1.put o' ho hc, h2.put o' ho hc, below_put h4 o' (by rw [hsB] at hl; omega), by simpa using h5⟩⟩) ?assign ?body ?done ?stop
  case assign =>
    intro y pre x W K hi hgo hsz hK
    simp only [entV]
    have HK := Lib.hid (hK { tmps := fiTmps w.heap.size (.pointer (some ⟨W.heap.size, 0, none⟩)) (entV (w.heap.size + 1) x), defers := [] } (W.alloc (.cells (entL (w.heap.size + 1) x).toArray 78)) ((KeepsOthers.alloc W _).from _) (KpE.below (B := 0) ((Below.refl _ _).alloc (Nat.le_refl _) _))
      ⟨_, rfl, Eb.new W _ _, ⟨hi.1.later ((Below.refl _ _).alloc (Nat.le_refl _) _), hi.2.1.later ((Below.refl _ _).alloc (Nat.le_refl _) _), hi.2.2.1.alloc hi.2.2.1.size _, by have := hi.2.2.2; simp; omega⟩⟩)
    unfold fiTmps entV entL at HK
    generalize hp4 : (if St.isFl x = true then none else some (⟨w.heap.size + 1, x, none⟩ : Addr)) = p4 at *
    generalize hp5 : (if St.isFl x = true then some (⟨w.heap.size + 1, x, none⟩ : Addr) else none) = p5 at *
    clear hK hi hp4 hp5
    gi_wp2
    exact HK.out
  case body =>
    rintro y pre x a' W ⟨P, rfl, hP, ⟨h1, h2, h4, h5⟩⟩ hgo hsz
    obtain ⟨hxp, hx⟩ := pre_eq2 hgo
    have hpx : (pre ++ [x]).length = x + 1 := by simp [hxp]
    rw [← hxp] at h1
    obtain ⟨c0, c1, c2, c3, c4, c5⟩ := hP.cells
    have SA := Lib.hid (set_any (w.heap.size + 1) x (bs (St.nm x)) (St.low x) (St.high x) (St.first x) (St.first x) (fv x) W h1 hx (first_fl x hx))
    rw [fv_put] at SA
    have HPX := Lib.hid hpx
    unfold fiTmps
    generalize hp4 : (if St.isFl x = true then none else some (⟨w.heap.size + 1, x, none⟩ : Addr)) = p4 at *
    generalize hp5 : (if St.isFl x = true then some (⟨w.heap.size + 1, x, none⟩ : Addr) else none) = p5 at *
    clear hp4 hp5 hgo hxp hpx
    gi_wp2_with (refine ⟨trivial, ?_⟩; gi_at_call 53; (with_reducible refine (CallsIn.inRound y (callsIn_wide.2 SA.out)).mono ?_); rintro e w3 ⟨rfl, s3, g3⟩)
    exact ⟨keeps_grown h1 g3, KpE.grown h1 g3, by rw [HPX.out]; exact s3, h2.other g3 (by omega), h4.grown g3 h4.size (fun k e => by cases e; omega), Nat.le_trans h5 g3.size⟩
  case done =>
    rintro D xs W hD hS ⟨h1, h2, h4, h5⟩ hK
    obtain rfl : D = w.heap.size + 3 := by rw [hD, hsB]
    rw [hS, List.length_range] at h1
    have hlen := St.stv_len (fv 18)
    have hinfo : (Tryd.prog.info? 23).map (·.size) = some (St.stv (fv 18)).length := by rw [hlen]; kernel_rfl
    have hinfo2 : (Tryd.prog.info? 23).map (·.size) = some (St.stv (fv 18)).toArray.size := by rw [List.size_toArray]; exact hinfo
    have hone : (St.stv (fv 18)).toArray.all (·.oneCell') = true := all_oneCell_toArray (fun u hu => by
      obtain ⟨i, hi, rfl⟩ := List.mem_map.1 hu
      unfold St.cellN
      split <;> rfl)
    have hth : W.there w.heap.size 0 (St.stv (fv 18)).toArray.size := by
      intro j hj
      rw [List.size_toArray, hlen] at hj
      rw [Nat.zero_add]
      exact ⟨by rw [h2.cell hj]; rfl, h2.frozen j⟩
    have hth2 : W.there w.heap.size 0 (St.stv (fv 18)).toArray.toList.length := by simpa using hth
    have SR := h1.range
    have HR := Lib.hid (World.rangeAt_setCells_same W w.heap.size 0 (St.stv (fv 18)).toArray.toList hth2)
    have HB := Lib.hid (below_setCells (b := w.heap.size) (Nat.le_refl _) (St.stv (fv 18)).toArray.toList 0 W h4)
    go_wp2_with (first
      | (refine wpList_load_mid rfl _ _ rfl _ _ rfl (St.stv (fv 18)) _ SR Tryd.underlying23 rfl hinfo ?_)
      | (refine wpList_store_mid rfl _ _ _ rfl _ _ (St.stv (fv 18)).toArray rfl rfl hth hinfo2 hone ?_))
    have hK9 : (W.setCells w.heap.size 0 (St.stv (fv 18))).heap[w.heap.size + 3]? = some (.deferred (some [])) := (heap_setCells_other (by omega) _ _ _).trans hK
    have HR2 : (W.setCells w.heap.size 0 (St.stv (fv 18))).rangeAt w.heap.size 0 (St.stv (fv 18)) := by have := HR.out; simpa using this
    have HB2 : Below w.heap.size w (W.setCells w.heap.size 0 (St.stv (fv 18))) := by have := HB.out; simpa using this
    generalize W.setCells w.heap.size 0 (St.stv (fv 18)) = W9 at *
    refine ⟨by simp [Act.put], .inl ⟨_, _, rfl, run_takeDeferred hK9, ?_⟩⟩
    have HR3 : (W9.putObj (w.heap.size + 3) (.deferred none)).rangeAt w.heap.size 0 (St.stv (fv 18)) := fun j u hj =>
      (World.cell?_of_block (w := W9) (World.putObj_heap_other (by simp))).trans (HR2 j u hj)
    refine ⟨_, results_cell_mid Tryd.results19 _ _ w.heap.size (St.stv (fv 18)) _ rfl HR3 Tryd.underlying23 rfl hinfo, rfl, below_put HB2 _ (by omega)⟩
  case stop =>
    rintro D c pre W hD hS h hK
    exact h.elim

end Go.Proofs.YtliabgcpciekpaaDoor
