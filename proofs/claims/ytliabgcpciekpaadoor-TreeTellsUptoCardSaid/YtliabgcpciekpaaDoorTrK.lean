/- Walks: a path's style (the program's). -/
import Derived.Test.YtliabgcpciekpaaDoorTrJ
import Derived.Test.YtliabgcpciekpaaDoorStylePrints
set_option linter.unusedVariables false
set_option linter.unusedSimpArgs false
namespace Go.Proofs.YtliabgcpciekpaaDoor
open Go Go.RowKit Go.Maps

namespace Tr
theorem psV_bad {t : T} (h : St.psE t ≠ 0) : St.psV t = fv 0 := by
  by_cases hl : 65536 < t.length
  · exact (St.ps_long hl).1
  · cases hr : St.run St.s0 (St.lns 0 t) with
    | error p => exact (St.ps_bad hl hr).1
    | ok s => exact absurd (St.ps_good hl hr).2.2 h
/-- What For gives. -/
def frV (fs : List (T × T)) (p : T) : Nat → Int := if isPath p = true then St.psV (ftx fs p) else fv 0
def frE (fs : List (T × T)) (p : T) : Int := if isPath p = true then St.psE (ftx fs p) else 220
end Tr
def frRes (fs : List (Tr.T × Tr.T)) (p : Tr.T) : Value := .tuple #[.agg (St.stv (Tr.frV fs p)).toArray, .string (bs (Tr.nsN (Tr.nms fs) p)), .int .i64 (Tr.frE fs p)]

theorem wpAnyH_store {P : Program} {md : Region.Mode} {ops : Array Oper} {Q : Exit → Act → World → Prop} {S : World → Prop} {fuel : Nat} {listed : Array Bool} {a : Act} {w : World} (i : Nat) {o : Oper} (ho : ops[i]? = some o) (hg : o.guard = none) (hr : Region.ready md ops listed = [i])
    (ty : TypeId) (x y : Operand) (hop : o.op = .store ty x y) (b off : Nat) (cells : Array Value) (hx : a.eval x = .pointer (some ⟨b, off, none⟩)) (hy : a.eval y = .agg cells)
    (ht : w.there b off cells.size) (hi : (P.info? ty).map (·.size) = some cells.size) (h1 : cells.all (·.oneCell') = true)
    (hS : S (w.setCells b off cells.toList)) (h : S (w.setCells b off cells.toList) → wpAnyH P md ops Q S fuel (listed.setIfInBounds i true) (a.put o.dst undef) (w.setCells b off cells.toList)) : wpAnyH P md ops Q S (fuel + 1) listed a w := by
  refine wpAnyH_ready hr (by simp) (AllReadyH.cons ho (fun K hK => ?_) AllReadyH.nil)
  rw [if_pos (by simp [Region.wanted, hg])]
  unfold Oper.wp
  simp only [execOp, hop, hx, hy, Instr.storeAt, Instr.sureAddr, Sem.run_bind, Sem.run_pure, Result.andThen_ok, run_storeVar_mid w b off ty cells ht hi h1]
  exact hK.out _ _ hS h

theorem fr_results {W : World} {b : Nat} {v : Nat → Int} {nm : ByteArray} {e : Int} {tmps : Array Value} (g : W.rangeAt b 0 (St.stv v)) (h4 : tmps.getD 4 undef = .pointer (some ⟨b, 0, none⟩)) (h5 : tmps.getD 5 undef = .string nm) (h6 : tmps.getD 6 undef = .int .i64 e) :
    (results Tryd.f26 tmps).run Tryd.prog W = .ok (.tuple #[.agg (St.stv v).toArray, .string nm, .int .i64 e]) W := by
  have h4' : tmps[4]?.getD undef = .pointer (some ⟨b, 0, none⟩) := by simpa using h4
  have h5' : tmps[5]?.getD undef = .string nm := by simpa using h5
  have h6' : tmps[6]?.getD undef = .int .i64 e := by simpa using h6
  have hinfo : (Tryd.prog.info? 23).map (·.size) = some (St.stv v).length := by rw [St.stv_len]; kernel_rfl
  have e0 := run_loadVar_mid (P := Tryd.prog) W b 0 23 (St.stv v) _ g Tryd.underlying23 rfl hinfo
  simp [results, Tryd.results26, h4', h5', h6', asAddr, e0]

/-- What is held at the end of For. -/
def FrS (w : World) (fb : Nat) (nm : Value) (sb : Nat) (V : Nat → Int) (W : World) : Prop :=
  W.cell? ⟨fb, 0, none⟩ = some nm ∧ W.rangeAt sb 0 (St.stv V) ∧ (∃ u, Sty W w.heap.size u) ∧ Below w.heap.size w W ∧ fb ≠ w.heap.size ∧ sb ≠ w.heap.size
theorem FrS.store {w W : World} {fb sb : Nat} {nm : Value} {V : Nat → Int} (h : FrS w fb nm sb V W) (v : Nat → Int) : FrS w fb nm sb V (W.setCells w.heap.size 0 (St.stv v)) ∧ Sty (W.setCells w.heap.size 0 (St.stv v)) w.heap.size v := by
  obtain ⟨h1, h2, ⟨u, h3⟩, h4, h5, h6⟩ := h
  have hS := h3.store v
  have e1 : (W.setCells w.heap.size 0 (St.stv v)).heap[fb]? = W.heap[fb]? := heap_setCells_other h5 _ _ _
  have e2 : (W.setCells w.heap.size 0 (St.stv v)).heap[sb]? = W.heap[sb]? := heap_setCells_other h6 _ _ _
  have hB : Below w.heap.size w (W.setCells w.heap.size 0 (St.stv v)) := below_setCells (Nat.le_refl _) _ _ _ h4
  generalize W.setCells w.heap.size 0 (St.stv v) = W' at *
  refine ⟨⟨(cell_same (p := ⟨fb, 0, none⟩) e1).trans h1, fun j x hj => ?_, ⟨v, hS⟩, hB, h5, h6⟩, hS⟩
  exact (cell_same (p := ⟨sb, 0 + j, none⟩) e2).trans (h2 j x hj)
theorem Fb.lt {W : World} {P : Nat} {f : Tr.T × Tr.T} (h : Fb W P f) : P < W.heap.size := (Array.getElem?_eq_some_iff.1 h).1
theorem Fb.frozen {W : World} {P : Nat} {f : Tr.T × Tr.T} (h : Fb W P f) (k : Nat) : W.frozen? ⟨P, k, none⟩ = false := by unfold Fb at h; simp [World.frozen?, h]
theorem Fb.set2 {W : World} {P : Nat} {f : Tr.T × Tr.T} (h : Fb W P f) (a b : Tr.T) : Fb ((W.setCell ⟨P, 0, none⟩ (.string (bs a))).setCell ⟨P, 1, none⟩ (.string (bs b))) P (a, b) := by
  unfold Fb at h ⊢
  simp [World.setCell, Array.getElem?_modify, h]

set_option maxRecDepth 100000 in
set_option maxHeartbeats 4000000 in
theorem For_any (A : Option Addr) (cap : Nat) (fs : List (Tr.T × Tr.T)) (p : Tr.T) (w : World) (hrd : Rd w 2 A fs.length (fls fs)) (hn : fs.length ≤ 140737488355328) (hz : ∀ f ∈ fs, f.1.length ≤ 140737488355328) (hpl : p.length ≤ 140737488355328) :
    Calls Tryd.prog 26 #[.slice A fs.length cap, .string (bs p)] w fun e w' => e = .returned (frRes fs p) ∧ Below w.heap.size w w' := by
  have PA := fun W => Path_any (bs p) W (by rw [bs_size]; exact hpl)
  simp only [bs_data] at PA
  have PA := Lib.hid PA
  have hb0 := (Below.refl w.heap.size w).alloc (Nat.le_refl _) (.cells #[.int .i64 0, .int .i64 0, .int .i64 0, .int .i64 0, .bool false, .bool false, .bool false, .int .i64 0, .int .i64 0, .int .i64 0, .int .i64 0, .int .i64 0, .int .i64 0, .int .i64 0, .int .i64 0, .int .i64 0, .int .i64 0, .int .i64 0] 23)
  have S0 := sty_zero w
  have HB0 := Lib.hid hb0
  have HS0 := Lib.hid S0
  clear hb0 S0
  cases hp : Tr.isPath p
  · have HR := Lib.hid (show frRes fs p = .tuple #[.agg (St.stv (fv 0)).toArray, .string (bs []), .int .i64 220] by unfold frRes Tr.frV Tr.frE Tr.nsN; rw [hp]; rfl)
    rw [hp] at PA
    go_enter Tryd.func26, Tryd.ntmps26
    go_wp2_with (first
      | (go_at_call 25; refine (PA.out _).mono ?_; rintro e w1 ⟨rfl, b1⟩; have S1 := HS0.out.later b1)
      | (refine wpList_store_mid rfl _ _ _ rfl _ _ (#[.int .i64 0, .int .i64 0, .int .i64 0, .int .i64 0, .bool false, .bool false, .bool false, .int .i64 0, .int .i64 0, .int .i64 0, .int .i64 0, .int .i64 0, .int .i64 0, .int .i64 0, .int .i64 0, .int .i64 0, .int .i64 0, .int .i64 0] : Array Value) rfl rfl (zlit_there S1) zlit_info zlit_one ?_; refine gen_world2 (Q := fun W => wpList _ _ _ _ _ W) (fun W => Sty W w.heap.size (fv 0) ∧ Below w.heap.size w W) ⟨by rw [← zeroSt]; exact S1.store (fv 0), below_setCells (Nat.le_refl _) _ _ _ (HB0.out.trans (b1.mono HB0.out.size))⟩ ?_; rintro w2 ⟨S2, c2⟩; have S2 := Lib.hid S2; (try dsimp only); simp only [Act.put, List.setIfInBounds_toArray, List.set_cons_zero, List.set_cons_succ]))
    exact bodyPost_ret (fr_results S2.out.range rfl rfl rfl) rfl ⟨by rw [HR.out]; rfl, c2⟩
  · rw [hp] at PA
    have NA := Lib.hid (fun W (hb : Below w.heap.size w W) => nearest_any A cap fs p W (hrd.later hb) hn hz hp)
    have KP := fun W => Parse_any (bs (Tr.ftx fs p)) W
    simp only [bs_data] at KP
    have HR := Lib.hid (show frRes fs p = .tuple #[.agg (St.stv (St.psV (Tr.ftx fs p))).toArray, .string (bs (Tr.near (Tr.nms fs) p)), .int .i64 (St.psE (Tr.ftx fs p))] by unfold frRes Tr.frV Tr.frE Tr.nsN; rw [hp]; rfl)
    have VB := Lib.hid (fun h => Tr.psV_bad (t := Tr.ftx fs p) h)
    unfold psRes at KP
    cases hnr : Tr.nr (Tr.nms fs) p with
    | none =>
      obtain ⟨e1, e2, e3⟩ := Tr.nrI_none hnr
      have e4 := Tr.ftx_none (fs := fs) hnr
      rw [e1] at NA
      rw [e4] at KP HR VB
      rw [e2] at HR
      clear hnr e1 e2 e3 e4
      generalize St.psV [] = V at *
      generalize St.psE [] = er at *
      generalize St.psP [] = pp at *
      have KP := Lib.hid KP
      by_cases her : er = 0
      · subst her
        go_enter Tryd.func26, Tryd.ntmps26
        go_wp2_with (first
          | (go_at_call 25; refine (PA.out _).mono ?_; rintro e w1 ⟨rfl, b1⟩; have S1 := Lib.hid (HS0.out.later b1); have B1 := Lib.hid (HB0.out.trans (b1.mono HB0.out.size)))
          | (go_at_call 54; refine (NA.out _ (B1.out.alloc B1.out.size _)).mono ?_; rintro e w2 ⟨rfl, b2⟩; have S2 := Lib.hid ((S1.out.later ((Below.refl _ _).alloc (Nat.le_refl _) (.cells #[.string ⟨#[]⟩, .string ⟨#[]⟩] 43))).later b2); have B2 := Lib.hid ((B1.out.alloc B1.out.size (.cells #[.string ⟨#[]⟩, .string ⟨#[]⟩] 43)).trans (b2.mono (B1.out.alloc B1.out.size _).size)); have F2 : Fb w2 w1.heap.size ([], []) := (b2.block _ (by simp)).trans (heap_alloc_new w1 _); have k0 := Lib.cell_of_heap F2 0; have k1 := Lib.cell_of_heap F2 1; have q0 := Fb.frozen F2 0; have q1 := Fb.frozen F2 1; have F2 := Lib.hid F2)
          | (go_at_call 17; (with_reducible refine (KP.out _).mono ?_); rintro e w3 ⟨rfl, b3⟩; have S3 := Lib.hid (show Sty w3 w.heap.size (fv 0) from S2.out.later b3); have B3 := Lib.hid (B2.out.trans (b3.mono B2.out.size)); have F3 := Lib.hid (show Fb w3 w1.heap.size ([], []) from (b3.block _ (Array.getElem?_eq_some_iff.1 F2.out).1).trans F2.out))
          | (refine wpList_store_mid rfl _ _ _ rfl _ _ (St.stv V).toArray rfl rfl (st_there w3 V) (sty_info V) (sty_one V) ?_; refine gen_world2 (Q := fun W => wpList _ _ _ _ _ W) (fun W => Sty W w3.heap.size V ∧ Below w3.heap.size w3 W ∧ W.heap.size = w3.heap.size + 1) (st_first w3 V) ?_; rintro w4 ⟨S4, c4, z4⟩; have z4 := Lib.hid z4; have S4 := Lib.hid S4; (try dsimp only); simp only [Act.put, List.setIfInBounds_toArray, List.set_cons_zero, List.set_cons_succ]))
        have hH0 : FrS w w1.heap.size (.string (bs [])) w3.heap.size V w4.drew := ⟨(show w4.cell? _ = _ from Lib.cell_of_heap (show Fb w4 w1.heap.size ([], []) from (c4.block _ (Array.getElem?_eq_some_iff.1 F3.out).1).trans F3.out) 0), S4.out.range, ⟨_, (show Sty w4 w.heap.size (fv 0) from S3.out.later c4)⟩, below_drewN (B3.out.trans (c4.mono B3.out.size)) 1, by have := B1.out.size; have := b1.size; simp at this; omega, by have := B3.out.size; have := B1.out.size; have := b1.size; have := S3.out.lt; simp at *; omega⟩
        have hth := sty_there (show Sty w4.drew w.heap.size (fv 0) from (show Sty w4 w.heap.size (fv 0) from S3.out.later c4)) V
        have HS5 := Lib.hid (show FrS w w1.heap.size (.string (bs [])) w3.heap.size V (w4.drew.setCells w.heap.size 0 (St.stv V).toArray.toList) ∧ Sty (w4.drew.setCells w.heap.size 0 (St.stv V).toArray.toList) w.heap.size V from by rw [List.toList_toArray]; exact hH0.store V)
        refine wp_region_held_drew (S := FrS w w1.heap.size (.string (bs [])) w3.heap.size V) (by kernel_rfl) hH0 (fun hHeld => ?_)
        refine wpAnyH_take (i := 0) (v := .agg (St.stv V).toArray) rfl (by kernel_rfl) (by kernel_rfl) (by kernel_rfl) (fun _ _ _ h => h) (yieldsIf_load_mid (by rfl) _ _ rfl _ _ rfl (St.stv V) _ (fun w h => h.2.1) Tryd.underlying23 rfl (by rw [St.stv_len]; kernel_rfl)) (by assumption) ?_
        try simp only [List.getElem_toArray, List.getElem_cons_succ, List.getElem_cons_zero, Act.put, List.setIfInBounds_toArray, List.set_cons_zero, List.set_cons_succ]
        refine wpAnyH_take (i := 1) (v := ?_) rfl (by kernel_rfl) (by kernel_rfl) (by kernel_rfl) (fun _ _ _ h => h) (Or.inl ⟨by rfl, ?_⟩) (by assumption) ?_
        rotate_left
        · intro w hSw
          (try unfold FrS at hSw)
          go_simp
          all_goals (with_reducible rfl)
        try simp only [List.getElem_toArray, List.getElem_cons_succ, List.getElem_cons_zero, Act.put, List.setIfInBounds_toArray, List.set_cons_zero, List.set_cons_succ]
        refine wpAnyH_take (i := 2) (v := ?_) rfl (by kernel_rfl) (by kernel_rfl) (by kernel_rfl) (fun _ _ _ h => h) (Or.inl ⟨by rfl, ?_⟩) (by assumption) ?_
        rotate_left
        · intro w hSw
          (try unfold FrS at hSw)
          go_simp
          all_goals (with_reducible rfl)
        try simp only [List.getElem_toArray, List.getElem_cons_succ, List.getElem_cons_zero, Act.put, List.setIfInBounds_toArray, List.set_cons_zero, List.set_cons_succ]
        refine wpAnyH_store 3 rfl rfl (by kernel_rfl) _ _ _ rfl w.heap.size 0 (St.stv V).toArray rfl rfl hth (sty_info _) (sty_one _) HS5.out.1 (fun hHeld2 => ?_)
        clear hH0 hth hHeld hHeld2
        revert HS5
        generalize w4.drew.setCells w.heap.size 0 (St.stv V).toArray.toList = w5
        intro HS5
        have hHeld2 := HS5.out.1
        try simp only [List.getElem_toArray, List.getElem_cons_succ, List.getElem_cons_zero, Act.put, List.setIfInBounds_toArray, List.set_cons_zero, List.set_cons_succ]
        refine wpAnyH_take (i := 4) (v := ?_) rfl (by kernel_rfl) (by kernel_rfl) (by kernel_rfl) (fun _ _ _ h => h) (Or.inl ⟨by rfl, ?_⟩) (by assumption) ?_
        rotate_left
        · intro w hSw
          (try unfold FrS at hSw)
          go_simp
          all_goals (with_reducible rfl)
        try simp only [List.getElem_toArray, List.getElem_cons_succ, List.getElem_cons_zero, Act.put, List.setIfInBounds_toArray, List.set_cons_zero, List.set_cons_succ]
        refine wpAnyH_take (i := 5) (v := ?_) rfl (by kernel_rfl) (by kernel_rfl) (by kernel_rfl) (fun _ _ _ h => h) (Or.inl ⟨by rfl, ?_⟩) (by assumption) ?_
        rotate_left
        · intro w hSw
          (try unfold FrS at hSw)
          go_simp
          all_goals (with_reducible rfl)
        try simp only [List.getElem_toArray, List.getElem_cons_succ, List.getElem_cons_zero, Act.put, List.setIfInBounds_toArray, List.set_cons_zero, List.set_cons_succ]
        refine wpAnyH_done (by kernel_rfl) ?_ _
        go_wp2
        exact bodyPost_ret (fr_results HS5.out.2.range rfl rfl rfl) rfl ⟨by rw [HR.out], HS5.out.1.2.2.2.1⟩
      · have hV := VB.out her
        subst hV
        have herB : (er == 0) = false := beq_eq_false_iff_ne.2 her
        go_enter Tryd.func26, Tryd.ntmps26
        go_wp2_with (first
          | (go_at_call 25; refine (PA.out _).mono ?_; rintro e w1 ⟨rfl, b1⟩; have S1 := Lib.hid (HS0.out.later b1); have B1 := Lib.hid (HB0.out.trans (b1.mono HB0.out.size)))
          | (go_at_call 54; refine (NA.out _ (B1.out.alloc B1.out.size _)).mono ?_; rintro e w2 ⟨rfl, b2⟩; have S2 := Lib.hid ((S1.out.later ((Below.refl _ _).alloc (Nat.le_refl _) (.cells #[.string ⟨#[]⟩, .string ⟨#[]⟩] 43))).later b2); have B2 := Lib.hid ((B1.out.alloc B1.out.size (.cells #[.string ⟨#[]⟩, .string ⟨#[]⟩] 43)).trans (b2.mono (B1.out.alloc B1.out.size _).size)); have F2 : Fb w2 w1.heap.size ([], []) := (b2.block _ (by simp)).trans (heap_alloc_new w1 _); have k0 := Lib.cell_of_heap F2 0; have k1 := Lib.cell_of_heap F2 1; have q0 := Fb.frozen F2 0; have q1 := Fb.frozen F2 1; have F2 := Lib.hid F2)
          | (go_at_call 17; (with_reducible refine (KP.out _).mono ?_); rintro e w3 ⟨rfl, b3⟩; have S3 := Lib.hid (show Sty w3 w.heap.size (fv 0) from S2.out.later b3); have B3 := Lib.hid (B2.out.trans (b3.mono B2.out.size)); have F3 := Lib.hid (show Fb w3 w1.heap.size ([], []) from (b3.block _ (Array.getElem?_eq_some_iff.1 F2.out).1).trans F2.out))
          | (refine wpList_store_mid rfl _ _ _ rfl _ _ (St.stv (fv 0)).toArray rfl rfl (st_there w3 (fv 0)) (sty_info (fv 0)) (sty_one (fv 0)) ?_; refine gen_world2 (Q := fun W => wpList _ _ _ _ _ W) (fun W => Sty W w3.heap.size (fv 0) ∧ Below w3.heap.size w3 W ∧ W.heap.size = w3.heap.size + 1) (st_first w3 (fv 0)) ?_; rintro w4 ⟨S4, c4, z4⟩; have z4 := Lib.hid z4; have S4 := Lib.hid S4; (try dsimp only); simp only [Act.put, List.setIfInBounds_toArray, List.set_cons_zero, List.set_cons_succ]))
        have hH0 : FrS w w1.heap.size (.string (bs [])) w3.heap.size (fv 0) w4.drew := ⟨(show w4.cell? _ = _ from Lib.cell_of_heap (show Fb w4 w1.heap.size ([], []) from (c4.block _ (Array.getElem?_eq_some_iff.1 F3.out).1).trans F3.out) 0), S4.out.range, ⟨_, (show Sty w4 w.heap.size (fv 0) from S3.out.later c4)⟩, below_drewN (B3.out.trans (c4.mono B3.out.size)) 1, by have := B1.out.size; have := b1.size; simp at this; omega, by have := B3.out.size; have := B1.out.size; have := b1.size; have := S3.out.lt; simp at *; omega⟩
        have hth := zlit_there (show Sty w4.drew w.heap.size (fv 0) from (show Sty w4 w.heap.size (fv 0) from S3.out.later c4))
        have HS5 := Lib.hid (show FrS w w1.heap.size (.string (bs [])) w3.heap.size (fv 0) (w4.drew.setCells w.heap.size 0 (#[.int .i64 0, .int .i64 0, .int .i64 0, .int .i64 0, .bool false, .bool false, .bool false, .int .i64 0, .int .i64 0, .int .i64 0, .int .i64 0, .int .i64 0, .int .i64 0, .int .i64 0, .int .i64 0, .int .i64 0, .int .i64 0, .int .i64 0] : Array Value).toList) ∧ Sty (w4.drew.setCells w.heap.size 0 (#[.int .i64 0, .int .i64 0, .int .i64 0, .int .i64 0, .bool false, .bool false, .bool false, .int .i64 0, .int .i64 0, .int .i64 0, .int .i64 0, .int .i64 0, .int .i64 0, .int .i64 0, .int .i64 0, .int .i64 0, .int .i64 0, .int .i64 0] : Array Value).toList) w.heap.size (fv 0) from by rw [← zeroSt, List.toList_toArray]; exact hH0.store (fv 0))
        refine wp_region_held_drew (S := FrS w w1.heap.size (.string (bs [])) w3.heap.size (fv 0)) (by kernel_rfl) hH0 (fun hHeld => ?_)
        refine wpAnyH_take (i := 0) (v := ?_) rfl (by kernel_rfl) (by kernel_rfl) (by kernel_rfl) (fun _ _ _ h => h) (Or.inl ⟨by rfl, ?_⟩) (by assumption) ?_
        rotate_left
        · intro w hSw
          (try unfold FrS at hSw)
          go_simp
          all_goals (with_reducible rfl)
        try simp only [List.getElem_toArray, List.getElem_cons_succ, List.getElem_cons_zero, Act.put, List.setIfInBounds_toArray, List.set_cons_zero, List.set_cons_succ]
        refine wpAnyH_take (i := 1) (v := ?_) rfl (by kernel_rfl) (by kernel_rfl) (by kernel_rfl) (fun _ _ _ h => h) (Or.inl ⟨by rfl, ?_⟩) (by assumption) ?_
        rotate_left
        · intro w hSw
          (try unfold FrS at hSw)
          go_simp
          all_goals (with_reducible rfl)
        try simp only [List.getElem_toArray, List.getElem_cons_succ, List.getElem_cons_zero, Act.put, List.setIfInBounds_toArray, List.set_cons_zero, List.set_cons_succ]
        refine wpAnyH_take (i := 2) (v := ?_) rfl (by kernel_rfl) (by kernel_rfl) (by kernel_rfl) (fun _ _ _ h => h) (Or.inl ⟨by rfl, ?_⟩) (by assumption) ?_
        rotate_left
        · intro w hSw
          (try unfold FrS at hSw)
          go_simp
          all_goals (with_reducible rfl)
        try simp only [List.getElem_toArray, List.getElem_cons_succ, List.getElem_cons_zero, Act.put, List.setIfInBounds_toArray, List.set_cons_zero, List.set_cons_succ]
        refine wpAnyH_take (i := 3) (v := ?_) rfl (by kernel_rfl) (by kernel_rfl) (by kernel_rfl) (fun _ _ _ h => h) (Or.inl ⟨by rfl, ?_⟩) (by assumption) ?_
        rotate_left
        · intro w hSw
          (try unfold FrS at hSw)
          go_simp
          all_goals (with_reducible rfl)
        try simp only [List.getElem_toArray, List.getElem_cons_succ, List.getElem_cons_zero, Act.put, List.setIfInBounds_toArray, List.set_cons_zero, List.set_cons_succ]
        refine wpAnyH_store 4 rfl rfl (by kernel_rfl) _ _ _ rfl w.heap.size 0 (#[.int .i64 0, .int .i64 0, .int .i64 0, .int .i64 0, .bool false, .bool false, .bool false, .int .i64 0, .int .i64 0, .int .i64 0, .int .i64 0, .int .i64 0, .int .i64 0, .int .i64 0, .int .i64 0, .int .i64 0, .int .i64 0, .int .i64 0] : Array Value) rfl rfl hth zlit_info zlit_one HS5.out.1 (fun hHeld2 => ?_)
        clear hH0 hth hHeld hHeld2
        revert HS5
        generalize w4.drew.setCells w.heap.size 0 (#[.int .i64 0, .int .i64 0, .int .i64 0, .int .i64 0, .bool false, .bool false, .bool false, .int .i64 0, .int .i64 0, .int .i64 0, .int .i64 0, .int .i64 0, .int .i64 0, .int .i64 0, .int .i64 0, .int .i64 0, .int .i64 0, .int .i64 0] : Array Value).toList = w5
        intro HS5
        have hHeld2 := HS5.out.1
        try simp only [List.getElem_toArray, List.getElem_cons_succ, List.getElem_cons_zero, Act.put, List.setIfInBounds_toArray, List.set_cons_zero, List.set_cons_succ]
        refine wpAnyH_take (i := 5) (v := ?_) rfl (by kernel_rfl) (by kernel_rfl) (by kernel_rfl) (fun _ _ _ h => h) (Or.inl ⟨by rfl, ?_⟩) (by assumption) ?_
        rotate_left
        · intro w hSw
          (try unfold FrS at hSw)
          go_simp
          all_goals (with_reducible rfl)
        try simp only [List.getElem_toArray, List.getElem_cons_succ, List.getElem_cons_zero, Act.put, List.setIfInBounds_toArray, List.set_cons_zero, List.set_cons_succ]
        refine wpAnyH_take (i := 6) (v := ?_) rfl (by kernel_rfl) (by kernel_rfl) (by kernel_rfl) (fun _ _ _ h => h) (Or.inl ⟨by rfl, ?_⟩) (by assumption) ?_
        rotate_left
        · intro w hSw
          (try unfold FrS at hSw)
          go_simp
          all_goals (with_reducible rfl)
        try simp only [List.getElem_toArray, List.getElem_cons_succ, List.getElem_cons_zero, Act.put, List.setIfInBounds_toArray, List.set_cons_zero, List.set_cons_succ]
        refine wpAnyH_done (by kernel_rfl) ?_ _
        go_wp2
        exact bodyPost_ret (fr_results HS5.out.2.range rfl rfl rfl) rfl ⟨by rw [HR.out], HS5.out.1.2.2.2.1⟩
    | some i =>
      obtain ⟨k, e1, hk, hat, e5, e3⟩ := Tr.nrI_some hnr
      rw [Tr.nms_length] at hk
      have hf := List.getElem?_eq_getElem hk
      have hnm := Tr.nms_at hf
      rw [hat] at hnm
      simp only [Option.some.injEq] at hnm
      have e4 := (Tr.ftx_some hnr).trans (Tr.txt_at e5 hf)
      rw [e1] at NA
      rw [e4] at KP HR VB
      rw [hnm] at HR
      have RA := Lib.hid (fun W (hb : Below w.heap.size w W) => (hrd.later hb).fi hf)
      clear hnr e1 e3 e4 e5 hat hnm hf
      generalize fs[k] = f at *
      have hkI : (0 : Int) ≤ (k : Int) := by omega
      have hkD : decide ((0 : Int) ≤ (k : Int)) = true := decide_eq_true hkI
      generalize St.psV f.2 = V at *
      generalize St.psE f.2 = er at *
      generalize St.psP f.2 = pp at *
      have KP := Lib.hid KP
      by_cases her : er = 0
      · subst her
        go_enter Tryd.func26, Tryd.ntmps26
        go_wp2_with (first
          | (go_at_call 25; refine (PA.out _).mono ?_; rintro e w1 ⟨rfl, b1⟩; have S1 := Lib.hid (HS0.out.later b1); have B1 := Lib.hid (HB0.out.trans (b1.mono HB0.out.size)))
          | (go_at_call 54; refine (NA.out _ (B1.out.alloc B1.out.size _)).mono ?_; rintro e w2 ⟨rfl, b2⟩; have S2 := Lib.hid ((S1.out.later ((Below.refl _ _).alloc (Nat.le_refl _) (.cells #[.string ⟨#[]⟩, .string ⟨#[]⟩] 43))).later b2); have B2 := Lib.hid ((B1.out.alloc B1.out.size (.cells #[.string ⟨#[]⟩, .string ⟨#[]⟩] 43)).trans (b2.mono (B1.out.alloc B1.out.size _).size)); have F2 : Fb w2 w1.heap.size ([], []) := (b2.block _ (by simp)).trans (heap_alloc_new w1 _); have k0 := Lib.cell_of_heap F2 0; have k1 := Lib.cell_of_heap F2 1; have q0 := Fb.frozen F2 0; have q1 := Fb.frozen F2 1; have F2 := Lib.hid F2; obtain ⟨b, o, rfl, hb, g0, g1⟩ := RA.out _ B2.out)
          | (go_at_call 17; (with_reducible refine (KP.out _).mono ?_); rintro e w3 ⟨rfl, b3⟩; have F2b := Lib.hid (Fb.set2 F2.out f.1 f.2); have hlt := Fb.lt F2.out; have hne : w1.heap.size ≠ w.heap.size := by { have := B1.out.size; have := S1.out.lt; omega }; have S2b := Lib.hid (show Sty ((w2.setCell ⟨w1.heap.size, 0, none⟩ (.string (bs f.1))).setCell ⟨w1.heap.size, 1, none⟩ (.string (bs f.2))) w.heap.size (fv 0) from (Below.heap_setCell _ _ _ _ hne.symm).trans ((Below.heap_setCell _ _ _ _ hne.symm).trans S2.out)); have B2b := Lib.hid ((B2.out.setCell (p := ⟨w1.heap.size, 0, none⟩) (by have := B1.out.size; simpa using this) (.string (bs f.1))).setCell (p := ⟨w1.heap.size, 1, none⟩) (by have := B1.out.size; simpa using this) (.string (bs f.2))); have S3 := Lib.hid (show Sty w3 w.heap.size (fv 0) from S2b.out.later b3); have B3 := Lib.hid (B2b.out.trans (b3.mono B2b.out.size)); have F3 := Lib.hid (show Fb w3 w1.heap.size f from (b3.block _ (Fb.lt F2b.out)).trans F2b.out); clear hne hlt)
          | (refine wpList_store_mid rfl _ _ _ rfl _ _ (St.stv V).toArray rfl rfl (st_there w3 V) (sty_info V) (sty_one V) ?_; refine gen_world2 (Q := fun W => wpList _ _ _ _ _ W) (fun W => Sty W w3.heap.size V ∧ Below w3.heap.size w3 W ∧ W.heap.size = w3.heap.size + 1) (st_first w3 V) ?_; rintro w4 ⟨S4, c4, z4⟩; have z4 := Lib.hid z4; have S4 := Lib.hid S4; (try dsimp only); simp only [Act.put, List.setIfInBounds_toArray, List.set_cons_zero, List.set_cons_succ]))
        have hH0 : FrS w w1.heap.size (.string (bs f.1)) w3.heap.size V w4.drew := ⟨(show w4.cell? _ = _ from Lib.cell_of_heap (show Fb w4 w1.heap.size f from (c4.block _ (Array.getElem?_eq_some_iff.1 F3.out).1).trans F3.out) 0), S4.out.range, ⟨_, (show Sty w4 w.heap.size (fv 0) from S3.out.later c4)⟩, below_drewN (B3.out.trans (c4.mono B3.out.size)) 1, by have := B1.out.size; have := b1.size; simp at this; omega, by have := B3.out.size; have := B1.out.size; have := b1.size; have := S3.out.lt; simp at *; omega⟩
        have hth := sty_there (show Sty w4.drew w.heap.size (fv 0) from (show Sty w4 w.heap.size (fv 0) from S3.out.later c4)) V
        have HS5 := Lib.hid (show FrS w w1.heap.size (.string (bs f.1)) w3.heap.size V (w4.drew.setCells w.heap.size 0 (St.stv V).toArray.toList) ∧ Sty (w4.drew.setCells w.heap.size 0 (St.stv V).toArray.toList) w.heap.size V from by rw [List.toList_toArray]; exact hH0.store V)
        refine wp_region_held_drew (S := FrS w w1.heap.size (.string (bs f.1)) w3.heap.size V) (by kernel_rfl) hH0 (fun hHeld => ?_)
        refine wpAnyH_take (i := 0) (v := .agg (St.stv V).toArray) rfl (by kernel_rfl) (by kernel_rfl) (by kernel_rfl) (fun _ _ _ h => h) (yieldsIf_load_mid (by rfl) _ _ rfl _ _ rfl (St.stv V) _ (fun w h => h.2.1) Tryd.underlying23 rfl (by rw [St.stv_len]; kernel_rfl)) (by assumption) ?_
        try simp only [List.getElem_toArray, List.getElem_cons_succ, List.getElem_cons_zero, Act.put, List.setIfInBounds_toArray, List.set_cons_zero, List.set_cons_succ]
        refine wpAnyH_take (i := 1) (v := ?_) rfl (by kernel_rfl) (by kernel_rfl) (by kernel_rfl) (fun _ _ _ h => h) (Or.inl ⟨by rfl, ?_⟩) (by assumption) ?_
        rotate_left
        · intro w hSw
          (try unfold FrS at hSw)
          go_simp
          all_goals (with_reducible rfl)
        try simp only [List.getElem_toArray, List.getElem_cons_succ, List.getElem_cons_zero, Act.put, List.setIfInBounds_toArray, List.set_cons_zero, List.set_cons_succ]
        refine wpAnyH_take (i := 2) (v := ?_) rfl (by kernel_rfl) (by kernel_rfl) (by kernel_rfl) (fun _ _ _ h => h) (Or.inl ⟨by rfl, ?_⟩) (by assumption) ?_
        rotate_left
        · intro w hSw
          (try unfold FrS at hSw)
          go_simp
          all_goals (with_reducible rfl)
        try simp only [List.getElem_toArray, List.getElem_cons_succ, List.getElem_cons_zero, Act.put, List.setIfInBounds_toArray, List.set_cons_zero, List.set_cons_succ]
        refine wpAnyH_store 3 rfl rfl (by kernel_rfl) _ _ _ rfl w.heap.size 0 (St.stv V).toArray rfl rfl hth (sty_info _) (sty_one _) HS5.out.1 (fun hHeld2 => ?_)
        clear hH0 hth hHeld hHeld2
        revert HS5
        generalize w4.drew.setCells w.heap.size 0 (St.stv V).toArray.toList = w5
        intro HS5
        have hHeld2 := HS5.out.1
        try simp only [List.getElem_toArray, List.getElem_cons_succ, List.getElem_cons_zero, Act.put, List.setIfInBounds_toArray, List.set_cons_zero, List.set_cons_succ]
        refine wpAnyH_take (i := 4) (v := ?_) rfl (by kernel_rfl) (by kernel_rfl) (by kernel_rfl) (fun _ _ _ h => h) (Or.inl ⟨by rfl, ?_⟩) (by assumption) ?_
        rotate_left
        · intro w hSw
          (try unfold FrS at hSw)
          go_simp
          all_goals (with_reducible rfl)
        try simp only [List.getElem_toArray, List.getElem_cons_succ, List.getElem_cons_zero, Act.put, List.setIfInBounds_toArray, List.set_cons_zero, List.set_cons_succ]
        refine wpAnyH_take (i := 5) (v := ?_) rfl (by kernel_rfl) (by kernel_rfl) (by kernel_rfl) (fun _ _ _ h => h) (Or.inl ⟨by rfl, ?_⟩) (by assumption) ?_
        rotate_left
        · intro w hSw
          (try unfold FrS at hSw)
          go_simp
          all_goals (with_reducible rfl)
        try simp only [List.getElem_toArray, List.getElem_cons_succ, List.getElem_cons_zero, Act.put, List.setIfInBounds_toArray, List.set_cons_zero, List.set_cons_succ]
        refine wpAnyH_done (by kernel_rfl) ?_ _
        go_wp2
        exact bodyPost_ret (fr_results HS5.out.2.range rfl rfl rfl) rfl ⟨by rw [HR.out], HS5.out.1.2.2.2.1⟩
      · have hV := VB.out her
        subst hV
        have herB : (er == 0) = false := beq_eq_false_iff_ne.2 her
        go_enter Tryd.func26, Tryd.ntmps26
        go_wp2_with (first
          | (go_at_call 25; refine (PA.out _).mono ?_; rintro e w1 ⟨rfl, b1⟩; have S1 := Lib.hid (HS0.out.later b1); have B1 := Lib.hid (HB0.out.trans (b1.mono HB0.out.size)))
          | (go_at_call 54; refine (NA.out _ (B1.out.alloc B1.out.size _)).mono ?_; rintro e w2 ⟨rfl, b2⟩; have S2 := Lib.hid ((S1.out.later ((Below.refl _ _).alloc (Nat.le_refl _) (.cells #[.string ⟨#[]⟩, .string ⟨#[]⟩] 43))).later b2); have B2 := Lib.hid ((B1.out.alloc B1.out.size (.cells #[.string ⟨#[]⟩, .string ⟨#[]⟩] 43)).trans (b2.mono (B1.out.alloc B1.out.size _).size)); have F2 : Fb w2 w1.heap.size ([], []) := (b2.block _ (by simp)).trans (heap_alloc_new w1 _); have k0 := Lib.cell_of_heap F2 0; have k1 := Lib.cell_of_heap F2 1; have q0 := Fb.frozen F2 0; have q1 := Fb.frozen F2 1; have F2 := Lib.hid F2; obtain ⟨b, o, rfl, hb, g0, g1⟩ := RA.out _ B2.out)
          | (go_at_call 17; (with_reducible refine (KP.out _).mono ?_); rintro e w3 ⟨rfl, b3⟩; have F2b := Lib.hid (Fb.set2 F2.out f.1 f.2); have hlt := Fb.lt F2.out; have hne : w1.heap.size ≠ w.heap.size := by { have := B1.out.size; have := S1.out.lt; omega }; have S2b := Lib.hid (show Sty ((w2.setCell ⟨w1.heap.size, 0, none⟩ (.string (bs f.1))).setCell ⟨w1.heap.size, 1, none⟩ (.string (bs f.2))) w.heap.size (fv 0) from (Below.heap_setCell _ _ _ _ hne.symm).trans ((Below.heap_setCell _ _ _ _ hne.symm).trans S2.out)); have B2b := Lib.hid ((B2.out.setCell (p := ⟨w1.heap.size, 0, none⟩) (by have := B1.out.size; simpa using this) (.string (bs f.1))).setCell (p := ⟨w1.heap.size, 1, none⟩) (by have := B1.out.size; simpa using this) (.string (bs f.2))); have S3 := Lib.hid (show Sty w3 w.heap.size (fv 0) from S2b.out.later b3); have B3 := Lib.hid (B2b.out.trans (b3.mono B2b.out.size)); have F3 := Lib.hid (show Fb w3 w1.heap.size f from (b3.block _ (Fb.lt F2b.out)).trans F2b.out); clear hne hlt)
          | (refine wpList_store_mid rfl _ _ _ rfl _ _ (St.stv (fv 0)).toArray rfl rfl (st_there w3 (fv 0)) (sty_info (fv 0)) (sty_one (fv 0)) ?_; refine gen_world2 (Q := fun W => wpList _ _ _ _ _ W) (fun W => Sty W w3.heap.size (fv 0) ∧ Below w3.heap.size w3 W ∧ W.heap.size = w3.heap.size + 1) (st_first w3 (fv 0)) ?_; rintro w4 ⟨S4, c4, z4⟩; have z4 := Lib.hid z4; have S4 := Lib.hid S4; (try dsimp only); simp only [Act.put, List.setIfInBounds_toArray, List.set_cons_zero, List.set_cons_succ]))
        have hH0 : FrS w w1.heap.size (.string (bs f.1)) w3.heap.size (fv 0) w4.drew := ⟨(show w4.cell? _ = _ from Lib.cell_of_heap (show Fb w4 w1.heap.size f from (c4.block _ (Array.getElem?_eq_some_iff.1 F3.out).1).trans F3.out) 0), S4.out.range, ⟨_, (show Sty w4 w.heap.size (fv 0) from S3.out.later c4)⟩, below_drewN (B3.out.trans (c4.mono B3.out.size)) 1, by have := B1.out.size; have := b1.size; simp at this; omega, by have := B3.out.size; have := B1.out.size; have := b1.size; have := S3.out.lt; simp at *; omega⟩
        have hth := zlit_there (show Sty w4.drew w.heap.size (fv 0) from (show Sty w4 w.heap.size (fv 0) from S3.out.later c4))
        have HS5 := Lib.hid (show FrS w w1.heap.size (.string (bs f.1)) w3.heap.size (fv 0) (w4.drew.setCells w.heap.size 0 (#[.int .i64 0, .int .i64 0, .int .i64 0, .int .i64 0, .bool false, .bool false, .bool false, .int .i64 0, .int .i64 0, .int .i64 0, .int .i64 0, .int .i64 0, .int .i64 0, .int .i64 0, .int .i64 0, .int .i64 0, .int .i64 0, .int .i64 0] : Array Value).toList) ∧ Sty (w4.drew.setCells w.heap.size 0 (#[.int .i64 0, .int .i64 0, .int .i64 0, .int .i64 0, .bool false, .bool false, .bool false, .int .i64 0, .int .i64 0, .int .i64 0, .int .i64 0, .int .i64 0, .int .i64 0, .int .i64 0, .int .i64 0, .int .i64 0, .int .i64 0, .int .i64 0] : Array Value).toList) w.heap.size (fv 0) from by rw [← zeroSt, List.toList_toArray]; exact hH0.store (fv 0))
        refine wp_region_held_drew (S := FrS w w1.heap.size (.string (bs f.1)) w3.heap.size (fv 0)) (by kernel_rfl) hH0 (fun hHeld => ?_)
        refine wpAnyH_take (i := 0) (v := ?_) rfl (by kernel_rfl) (by kernel_rfl) (by kernel_rfl) (fun _ _ _ h => h) (Or.inl ⟨by rfl, ?_⟩) (by assumption) ?_
        rotate_left
        · intro w hSw
          (try unfold FrS at hSw)
          go_simp
          all_goals (with_reducible rfl)
        try simp only [List.getElem_toArray, List.getElem_cons_succ, List.getElem_cons_zero, Act.put, List.setIfInBounds_toArray, List.set_cons_zero, List.set_cons_succ]
        refine wpAnyH_take (i := 1) (v := ?_) rfl (by kernel_rfl) (by kernel_rfl) (by kernel_rfl) (fun _ _ _ h => h) (Or.inl ⟨by rfl, ?_⟩) (by assumption) ?_
        rotate_left
        · intro w hSw
          (try unfold FrS at hSw)
          go_simp
          all_goals (with_reducible rfl)
        try simp only [List.getElem_toArray, List.getElem_cons_succ, List.getElem_cons_zero, Act.put, List.setIfInBounds_toArray, List.set_cons_zero, List.set_cons_succ]
        refine wpAnyH_take (i := 2) (v := ?_) rfl (by kernel_rfl) (by kernel_rfl) (by kernel_rfl) (fun _ _ _ h => h) (Or.inl ⟨by rfl, ?_⟩) (by assumption) ?_
        rotate_left
        · intro w hSw
          (try unfold FrS at hSw)
          go_simp
          all_goals (with_reducible rfl)
        try simp only [List.getElem_toArray, List.getElem_cons_succ, List.getElem_cons_zero, Act.put, List.setIfInBounds_toArray, List.set_cons_zero, List.set_cons_succ]
        refine wpAnyH_take (i := 3) (v := ?_) rfl (by kernel_rfl) (by kernel_rfl) (by kernel_rfl) (fun _ _ _ h => h) (Or.inl ⟨by rfl, ?_⟩) (by assumption) ?_
        rotate_left
        · intro w hSw
          (try unfold FrS at hSw)
          go_simp
          all_goals (with_reducible rfl)
        try simp only [List.getElem_toArray, List.getElem_cons_succ, List.getElem_cons_zero, Act.put, List.setIfInBounds_toArray, List.set_cons_zero, List.set_cons_succ]
        refine wpAnyH_store 4 rfl rfl (by kernel_rfl) _ _ _ rfl w.heap.size 0 (#[.int .i64 0, .int .i64 0, .int .i64 0, .int .i64 0, .bool false, .bool false, .bool false, .int .i64 0, .int .i64 0, .int .i64 0, .int .i64 0, .int .i64 0, .int .i64 0, .int .i64 0, .int .i64 0, .int .i64 0, .int .i64 0, .int .i64 0] : Array Value) rfl rfl hth zlit_info zlit_one HS5.out.1 (fun hHeld2 => ?_)
        clear hH0 hth hHeld hHeld2
        revert HS5
        generalize w4.drew.setCells w.heap.size 0 (#[.int .i64 0, .int .i64 0, .int .i64 0, .int .i64 0, .bool false, .bool false, .bool false, .int .i64 0, .int .i64 0, .int .i64 0, .int .i64 0, .int .i64 0, .int .i64 0, .int .i64 0, .int .i64 0, .int .i64 0, .int .i64 0, .int .i64 0] : Array Value).toList = w5
        intro HS5
        have hHeld2 := HS5.out.1
        try simp only [List.getElem_toArray, List.getElem_cons_succ, List.getElem_cons_zero, Act.put, List.setIfInBounds_toArray, List.set_cons_zero, List.set_cons_succ]
        refine wpAnyH_take (i := 5) (v := ?_) rfl (by kernel_rfl) (by kernel_rfl) (by kernel_rfl) (fun _ _ _ h => h) (Or.inl ⟨by rfl, ?_⟩) (by assumption) ?_
        rotate_left
        · intro w hSw
          (try unfold FrS at hSw)
          go_simp
          all_goals (with_reducible rfl)
        try simp only [List.getElem_toArray, List.getElem_cons_succ, List.getElem_cons_zero, Act.put, List.setIfInBounds_toArray, List.set_cons_zero, List.set_cons_succ]
        refine wpAnyH_take (i := 6) (v := ?_) rfl (by kernel_rfl) (by kernel_rfl) (by kernel_rfl) (fun _ _ _ h => h) (Or.inl ⟨by rfl, ?_⟩) (by assumption) ?_
        rotate_left
        · intro w hSw
          (try unfold FrS at hSw)
          go_simp
          all_goals (with_reducible rfl)
        try simp only [List.getElem_toArray, List.getElem_cons_succ, List.getElem_cons_zero, Act.put, List.setIfInBounds_toArray, List.set_cons_zero, List.set_cons_succ]
        refine wpAnyH_done (by kernel_rfl) ?_ _
        go_wp2
        exact bodyPost_ret (fr_results HS5.out.2.range rfl rfl rfl) rfl ⟨by rw [HR.out], HS5.out.1.2.2.2.1⟩

end Go.Proofs.YtliabgcpciekpaaDoor
