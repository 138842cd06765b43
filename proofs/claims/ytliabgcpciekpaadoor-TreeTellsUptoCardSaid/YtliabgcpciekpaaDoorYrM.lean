/- Walks: the style of a text (the program's). -/
import Derived.Test.YtliabgcpciekpaaDoorYrMa
set_option linter.unusedVariables false
set_option linter.unusedSimpArgs false
namespace Go.Proofs.YtliabgcpciekpaaDoor
open Go Go.RowKit Go.Maps
attribute [local go_sem] Oper.semAt_some

theorem run_makeMap0 {P : Program} {t k e : TypeId} (ht : P.underlying t = some (.map k e)) (w : World) : (Instr.makeMap t none).run P w = .ok (.map (some w.heap.size)) (w.alloc (.map #[] 0)) := by
  simp [Instr.makeMap, run_underlying ht, Result.andThen]
theorem size_setCells (b : Nat) : ∀ (vs : List Value) (o : Nat) (w : World), (w.setCells b o vs).heap.size = w.heap.size
  | [], _, _ => rfl
  | v :: r, o, w => (size_setCells b r (o + 1) _).trans (by simp [World.setCell])
theorem st_first (w2 : World) (v0 : Nat → Int) : Sty ((w2.alloc (.cells #[.int .i64 0, .int .i64 0, .int .i64 0, .int .i64 0, .bool false, .bool false, .bool false, .int .i64 0, .int .i64 0, .int .i64 0, .int .i64 0, .int .i64 0, .int .i64 0, .int .i64 0, .int .i64 0, .int .i64 0, .int .i64 0, .int .i64 0] 23)).setCells w2.heap.size 0 (St.stv v0).toArray.toList) w2.heap.size v0 ∧
    Below w2.heap.size w2 ((w2.alloc (.cells #[.int .i64 0, .int .i64 0, .int .i64 0, .int .i64 0, .bool false, .bool false, .bool false, .int .i64 0, .int .i64 0, .int .i64 0, .int .i64 0, .int .i64 0, .int .i64 0, .int .i64 0, .int .i64 0, .int .i64 0, .int .i64 0, .int .i64 0] 23)).setCells w2.heap.size 0 (St.stv v0).toArray.toList) ∧
    ((w2.alloc (.cells #[.int .i64 0, .int .i64 0, .int .i64 0, .int .i64 0, .bool false, .bool false, .bool false, .int .i64 0, .int .i64 0, .int .i64 0, .int .i64 0, .int .i64 0, .int .i64 0, .int .i64 0, .int .i64 0, .int .i64 0, .int .i64 0, .int .i64 0] 23)).setCells w2.heap.size 0 (St.stv v0).toArray.toList).heap.size = w2.heap.size + 1 := by
  have h := (sty_zero w2).store v0
  refine ⟨by simpa using h, ?_, by rw [size_setCells, World.size_alloc]⟩
  exact below_setCells (Nat.le_refl _) _ _ _ ((Below.refl _ _).alloc (Nat.le_refl _) _)
theorem st_there (w2 : World) (v0 : Nat → Int) : (w2.alloc (.cells #[.int .i64 0, .int .i64 0, .int .i64 0, .int .i64 0, .bool false, .bool false, .bool false, .int .i64 0, .int .i64 0, .int .i64 0, .int .i64 0, .int .i64 0, .int .i64 0, .int .i64 0, .int .i64 0, .int .i64 0, .int .i64 0, .int .i64 0] 23)).there w2.heap.size 0 (St.stv v0).toArray.size := sty_there (sty_zero w2) v0
theorem zlit_info : (Tryd.prog.info? 23).map (·.size) = some (#[.int .i64 0, .int .i64 0, .int .i64 0, .int .i64 0, .bool false, .bool false, .bool false, .int .i64 0, .int .i64 0, .int .i64 0, .int .i64 0, .int .i64 0, .int .i64 0, .int .i64 0, .int .i64 0, .int .i64 0, .int .i64 0, .int .i64 0] : Array Value).size := by kernel_rfl
theorem zlit_one : (#[.int .i64 0, .int .i64 0, .int .i64 0, .int .i64 0, .bool false, .bool false, .bool false, .int .i64 0, .int .i64 0, .int .i64 0, .int .i64 0, .int .i64 0, .int .i64 0, .int .i64 0, .int .i64 0, .int .i64 0, .int .i64 0, .int .i64 0] : Array Value).all (·.oneCell') = true := by rw [← zeroSt]; exact sty_one (fv 0)
theorem zlit_there {W : World} {b : Nat} {v : Nat → Int} (h : Sty W b v) : W.there b 0 (#[.int .i64 0, .int .i64 0, .int .i64 0, .int .i64 0, .bool false, .bool false, .bool false, .int .i64 0, .int .i64 0, .int .i64 0, .int .i64 0, .int .i64 0, .int .i64 0, .int .i64 0, .int .i64 0, .int .i64 0, .int .i64 0, .int .i64 0] : Array Value).size := by have := sty_there h (fv 0); rwa [zeroSt] at this
theorem PaI.wipe {w W : World} {b n : Nat} {v : Nat → Int} {h : Nat → Bool} (g : PaI w b v h n W) (B : Nat) (hB : b < B) :
    PaE w (fv 0) 0 0 (W.setCells w.heap.size 0 (#[.int .i64 0, .int .i64 0, .int .i64 0, .int .i64 0, .bool false, .bool false, .bool false, .int .i64 0, .int .i64 0, .int .i64 0, .int .i64 0, .int .i64 0, .int .i64 0, .int .i64 0, .int .i64 0, .int .i64 0, .int .i64 0, .int .i64 0] : Array Value).toList) ∧ KeepsFrom B W (W.setCells w.heap.size 0 (#[.int .i64 0, .int .i64 0, .int .i64 0, .int .i64 0, .bool false, .bool false, .bool false, .int .i64 0, .int .i64 0, .int .i64 0, .int .i64 0, .int .i64 0, .int .i64 0, .int .i64 0, .int .i64 0, .int .i64 0, .int .i64 0, .int .i64 0] : Array Value).toList) ∧ W.heap.size ≤ (W.setCells w.heap.size 0 (#[.int .i64 0, .int .i64 0, .int .i64 0, .int .i64 0, .bool false, .bool false, .bool false, .int .i64 0, .int .i64 0, .int .i64 0, .int .i64 0, .int .i64 0, .int .i64 0, .int .i64 0, .int .i64 0, .int .i64 0, .int .i64 0, .int .i64 0] : Array Value).toList).heap.size := by
  have := g.o1
  rw [← zeroSt, List.toList_toArray]
  refine ⟨⟨(g.r0.store (fv 0)).range, (heap_setCells_other (by omega) _ _ _).trans g.x1, (heap_setCells_other (by omega) _ _ _).trans g.x2, below_setCells (Nat.le_refl _) _ _ _ g.bel⟩, ⟨by rw [size_setCells]; exact Nat.le_refl _, fun k o hk e _ => (heap_setCells_other (by omega) _ _ _).trans e⟩, by rw [size_setCells]; exact Nat.le_refl _⟩
theorem PaE.set {w W : World} {v : Nat → Int} {p e : Int} (g : PaE w v p e W) (p' e' : Int) : PaE w v p' e' ((W.setCell ⟨w.heap.size + 1, 0, none⟩ (.int .i64 p')).setCell ⟨w.heap.size + 1 + 1, 0, none⟩ (.int .i64 e')) := by
  refine ⟨fun j u hj => ?_, ?_, ?_, (g.bel.setCell (p := ⟨_, 0, none⟩) (by simp) _).setCell (p := ⟨_, 0, none⟩) (by simp; omega) _⟩
  · exact (World.cell?_of_block (w := W) ((Below.heap_setCell _ _ _ _ (by simp; omega)).trans (Below.heap_setCell _ _ _ _ (by simp)))).trans (g.r0 j u hj)
  · exact (Below.heap_setCell _ _ _ _ (by simp)).trans (g.x1.set _)
  · have h2 : Bx (W.setCell ⟨w.heap.size + 1, 0, none⟩ (.int .i64 p')) (w.heap.size + 1 + 1) 24 (.int .i64 e) := (Below.heap_setCell _ _ _ _ (by simp)).trans g.x2
    exact h2.set _
theorem pa_zero (w : World) : (((w.alloc (.cells #[.int .i64 0, .int .i64 0, .int .i64 0, .int .i64 0, .bool false, .bool false, .bool false, .int .i64 0, .int .i64 0, .int .i64 0, .int .i64 0, .int .i64 0, .int .i64 0, .int .i64 0, .int .i64 0, .int .i64 0, .int .i64 0, .int .i64 0] 23)).alloc (.cells #[.int .i64 0] 3)).alloc (.cells #[.int .i64 0] 24)).there w.heap.size 0 (#[.int .i64 0, .int .i64 0, .int .i64 0, .int .i64 0, .bool false, .bool false, .bool false, .int .i64 0, .int .i64 0, .int .i64 0, .int .i64 0, .int .i64 0, .int .i64 0, .int .i64 0, .int .i64 0, .int .i64 0, .int .i64 0, .int .i64 0] : Array Value).size ∧ PaE w (fv 0) 0 0 ((((w.alloc (.cells #[.int .i64 0, .int .i64 0, .int .i64 0, .int .i64 0, .bool false, .bool false, .bool false, .int .i64 0, .int .i64 0, .int .i64 0, .int .i64 0, .int .i64 0, .int .i64 0, .int .i64 0, .int .i64 0, .int .i64 0, .int .i64 0, .int .i64 0] 23)).alloc (.cells #[.int .i64 0] 3)).alloc (.cells #[.int .i64 0] 24)).setCells w.heap.size 0 (#[.int .i64 0, .int .i64 0, .int .i64 0, .int .i64 0, .bool false, .bool false, .bool false, .int .i64 0, .int .i64 0, .int .i64 0, .int .i64 0, .int .i64 0, .int .i64 0, .int .i64 0, .int .i64 0, .int .i64 0, .int .i64 0, .int .i64 0] : Array Value).toList) := by
  have hw0 : Below w.heap.size w (((w.alloc (.cells #[.int .i64 0, .int .i64 0, .int .i64 0, .int .i64 0, .bool false, .bool false, .bool false, .int .i64 0, .int .i64 0, .int .i64 0, .int .i64 0, .int .i64 0, .int .i64 0, .int .i64 0, .int .i64 0, .int .i64 0, .int .i64 0, .int .i64 0] 23)).alloc (.cells #[.int .i64 0] 3)).alloc (.cells #[.int .i64 0] 24)) :=
    (((Below.refl _ _).alloc (Nat.le_refl _) _).alloc (by simp) _).alloc (by simp; omega) _
  have r0 := (sty_zero w).below (((Below.refl _ _).alloc (Nat.le_refl _) (.cells #[.int .i64 0] 3)).alloc (by simp) (.cells #[.int .i64 0] 24)) (by simp)
  have x1 := Bx.new (w.alloc (.cells #[.int .i64 0, .int .i64 0, .int .i64 0, .int .i64 0, .bool false, .bool false, .bool false, .int .i64 0, .int .i64 0, .int .i64 0, .int .i64 0, .int .i64 0, .int .i64 0, .int .i64 0, .int .i64 0, .int .i64 0, .int .i64 0, .int .i64 0] 23)) 3 (.int .i64 0)
  have x1 := x1.below ((Below.refl _ _).alloc (Nat.le_refl _) (.cells #[.int .i64 0] 24)) (by simp)
  have x2 := Bx.new ((w.alloc (.cells #[.int .i64 0, .int .i64 0, .int .i64 0, .int .i64 0, .bool false, .bool false, .bool false, .int .i64 0, .int .i64 0, .int .i64 0, .int .i64 0, .int .i64 0, .int .i64 0, .int .i64 0, .int .i64 0, .int .i64 0, .int .i64 0, .int .i64 0] 23)).alloc (.cells #[.int .i64 0] 3)) 24 (.int .i64 0)
  simp only [World.size_alloc] at x1 x2
  refine ⟨zlit_there r0, ?_⟩
  rw [← zeroSt, List.toList_toArray, zeroSt]
  exact ⟨(r0.store (fv 0)).range, (heap_setCells_other (by omega) _ _ _).trans x1, (heap_setCells_other (by omega) _ _ _).trans x2, below_setCells (Nat.le_refl _) _ _ _ hw0⟩
def PaJ (w : World) (b : Nat) (pre : List (Nat × St.T)) (W : World) : Prop := ∃ st : St.S, St.run St.s0 pre = .ok st ∧ PaI w b st.1 st.2 pre.length W
def PaX (w : World) (t : St.T) (c : Code) (_ : List (Nat × St.T)) (W : World) : Prop := c = .ret ∧ ∃ p : Nat, St.run St.s0 (St.lns 0 t) = .error p ∧ PaE w (fv 0) p 90 W
def paTmps (h b : Nat) (s : ByteArray) (v0 : Nat → Int) (p : Int) (raw : ByteArray) : Array Value :=
  #[.string s, undef, .pointer (some ⟨h, 0, none⟩), .pointer (some ⟨h + 1, 0, none⟩), .pointer (some ⟨h + 1 + 1, 0, none⟩), .pointer (some ⟨b, 0, none⟩), .pointer (some ⟨b + 1 + 1, 0, none⟩), .int .i64 p, .string raw, undef, undef, undef, undef,
    .string s, .int .i64 s.size, .bool false, undef, .agg (St.stv v0).toArray, .map (some (b + 1)), .string s, .func (.func 68) #[] #[.pointer (some ⟨b + 1 + 1 + 1, 0, none⟩)], .int .i64 p, .string raw,
    undef, undef, undef, undef, undef, undef, undef, undef, undef, undef, undef, undef, undef, undef, undef, undef, undef, undef, undef, undef, undef, undef, undef, undef, undef, undef, undef, undef, undef, undef, undef, undef, undef, undef, undef, undef, undef, undef]
theorem pa_start {w w2 w3 : World} {v0 : Nat → Int} (s : ByteArray) (b2 : Below (((w.alloc (.cells #[.int .i64 0, .int .i64 0, .int .i64 0, .int .i64 0, .bool false, .bool false, .bool false, .int .i64 0, .int .i64 0, .int .i64 0, .int .i64 0, .int .i64 0, .int .i64 0, .int .i64 0, .int .i64 0, .int .i64 0, .int .i64 0, .int .i64 0] 23)).alloc (.cells #[.int .i64 0] 3)).alloc (.cells #[.int .i64 0] 24)).heap.size
      (((w.alloc (.cells #[.int .i64 0, .int .i64 0, .int .i64 0, .int .i64 0, .bool false, .bool false, .bool false, .int .i64 0, .int .i64 0, .int .i64 0, .int .i64 0, .int .i64 0, .int .i64 0, .int .i64 0, .int .i64 0, .int .i64 0, .int .i64 0, .int .i64 0] 23)).alloc (.cells #[.int .i64 0] 3)).alloc (.cells #[.int .i64 0] 24)) w2)
    (S3 : Sty w3 w2.heap.size v0) (b3 : Below w2.heap.size w2 w3) (s3 : w3.heap.size = w2.heap.size + 1) :
    PaI w w2.heap.size v0 (fun _ => false) 0 (((w3.alloc (.map #[] 0)).alloc (.cells #[.map (some (w2.heap.size + 1))] 92)).alloc (.cells #[.string s] 9)) ∧
    Bx (((w3.alloc (.map #[] 0)).alloc (.cells #[.map (some (w2.heap.size + 1))] 92)).alloc (.cells #[.string s] 9)) (w2.heap.size + 1 + 1 + 1) 9 (.string s) ∧
    (((w3.alloc (.map #[] 0)).alloc (.cells #[.map (some (w2.heap.size + 1))] 92)).alloc (.cells #[.string s] 9)).heap.size = w2.heap.size + 4 := by
  have hw0 : Below w.heap.size w (((w.alloc (.cells #[.int .i64 0, .int .i64 0, .int .i64 0, .int .i64 0, .bool false, .bool false, .bool false, .int .i64 0, .int .i64 0, .int .i64 0, .int .i64 0, .int .i64 0, .int .i64 0, .int .i64 0, .int .i64 0, .int .i64 0, .int .i64 0, .int .i64 0] 23)).alloc (.cells #[.int .i64 0] 3)).alloc (.cells #[.int .i64 0] 24)) :=
    (((Below.refl _ _).alloc (Nat.le_refl _) _).alloc (by simp) _).alloc (by simp; omega) _
  have hsz2 := b2.size
  simp only [World.size_alloc] at hsz2
  have hb3 : Below w3.heap.size w3 (((w3.alloc (.map #[] 0)).alloc (.cells #[.map (some (w2.heap.size + 1))] 92)).alloc (.cells #[.string s] 9)) :=
    (((Below.refl _ _).alloc (Nat.le_refl _) _).alloc (by simp) _).alloc (by simp; omega) _
  have r0 := (sty_zero w).below (((Below.refl _ _).alloc (Nat.le_refl _) (.cells #[.int .i64 0] 3)).alloc (by simp) (.cells #[.int .i64 0] 24)) (by simp)
  have x1 := Bx.new (w.alloc (.cells #[.int .i64 0, .int .i64 0, .int .i64 0, .int .i64 0, .bool false, .bool false, .bool false, .int .i64 0, .int .i64 0, .int .i64 0, .int .i64 0, .int .i64 0, .int .i64 0, .int .i64 0, .int .i64 0, .int .i64 0, .int .i64 0, .int .i64 0] 23)) 3 (.int .i64 0)
  have x1 := x1.below ((Below.refl _ _).alloc (Nat.le_refl _) (.cells #[.int .i64 0] 24)) (by simp)
  have x2 := Bx.new ((w.alloc (.cells #[.int .i64 0, .int .i64 0, .int .i64 0, .int .i64 0, .bool false, .bool false, .bool false, .int .i64 0, .int .i64 0, .int .i64 0, .int .i64 0, .int .i64 0, .int .i64 0, .int .i64 0, .int .i64 0, .int .i64 0, .int .i64 0, .int .i64 0] 23)).alloc (.cells #[.int .i64 0] 3)) 24 (.int .i64 0)
  simp only [World.size_alloc] at x1 x2
  have hm := ownsMap_kept (P := Tryd.prog) (k := 9) (R := plainElem Tryd.prog 3) (World.ownsMap_made w3 _ _ _) ((Below.heap_alloc ((w3.alloc (.map #[] 0)).alloc (.cells #[.map (some (w2.heap.size + 1))] 92)) (.cells #[.string s] 9) _ (by simp; omega)).trans (Below.heap_alloc (w3.alloc (.map #[] 0)) _ _ (by simp)))
  have m := Bx.new (w3.alloc (.map #[] 0)) 92 (.map (some (w2.heap.size + 1)))
  have m := m.below ((Below.refl _ _).alloc (Nat.le_refl _) (.cells #[.string s] 9)) (by simp)
  have y := Bx.new ((w3.alloc (.map #[] 0)).alloc (.cells #[.map (some (w2.heap.size + 1))] 92)) 9 (.string s)
  simp only [World.size_alloc, s3] at m y hm
  refine ⟨⟨((r0.later b2).below b3 (by omega)).later hb3, ((x1.below b2 (by simp)).below b3 (by omega)).below hb3 (by omega), ((x2.below b2 (by simp)).below b3 (by omega)).below hb3 (by omega), S3.later hb3, m, ⟨_, hm, SeenOf.empty⟩, by omega, by simp only [World.size_alloc, s3]; omega, ?_⟩, y, by simp only [World.size_alloc, s3]⟩
  exact ((hw0.trans (b2.mono hw0.size)).trans (b3.mono (by omega))).trans (hb3.mono (by omega))
set_option maxRecDepth 100000 in
set_option maxHeartbeats 4000000 in
theorem Parse_any (s : ByteArray) (w : World) :
    Calls Tryd.prog 17 #[.string s] w fun e w' => e = .returned (psRes s.data.toList) ∧ Below w.heap.size w w' := by
  have HSZ := Lib.hid (Lib.size_eq s)
  by_cases hlong : 65536 < s.size
  · obtain ⟨q1, q2, q3⟩ := St.ps_long (t := s.data.toList) (by rw [← HSZ.out]; exact hlong)
    have HR := Lib.hid (show psRes s.data.toList = .tuple #[.agg (St.stv (fv 0)).toArray, .int .i64 0, .int .i64 3] by unfold psRes; rw [q1, q2, q3])
    clear q1 q2 q3
    obtain ⟨zt, ze⟩ := pa_zero w
    have ZE := Lib.hid ze
    clear ze
    have hgo : (65536 : Int) < (s.size : Int) := by omega
    go_enter Tryd.func17, Tryd.ntmps17
    go_wp2
    go_step3
    go_wp2_with (refine wpList_store_mid rfl _ _ _ rfl _ _ (#[.int .i64 0, .int .i64 0, .int .i64 0, .int .i64 0, .bool false, .bool false, .bool false, .int .i64 0, .int .i64 0, .int .i64 0, .int .i64 0, .int .i64 0, .int .i64 0, .int .i64 0, .int .i64 0, .int .i64 0, .int .i64 0, .int .i64 0] : Array Value) rfl rfl zt zlit_info zlit_one ?_; refine gen_world2 (Q := fun W => wpList _ _ _ _ _ W) (fun W4 => PaE w (fv 0) 0 0 W4) ZE.out ?_; rintro w4 E4; have d1 := E4.x1.cell; have t1 := E4.x1.frozen; have d2 := E4.x2.cell; have t2 := E4.x2.frozen; have E4 := Lib.hid E4; (try dsimp only); simp only [Act.put, List.setIfInBounds_toArray, List.set_cons_zero, List.set_cons_succ])
    rw [Exit.noGoto_ret]
    exact bodyPost_ret (pa_results (E4.out.set 0 3) rfl rfl rfl) rfl ⟨by rw [HR.out], (E4.out.set 0 3).bel⟩
  · refine callsIn_wide (n := 6) |>.1 ?_
    refine callsIn_of_wp_marks Tryd.func17 rfl trivial ?_ rfl
    simp only [Tryd.ntmps17, List.size_toArray, List.length_cons, List.length_nil, Nat.reduceAdd, Nat.reduceSub, Array.replicate_succ, Array.replicate_zero, List.push_toArray, List.append_toArray, List.nil_append, List.cons_append]
    gi_wp2
    refine wpIn_scope ?_
    refine wpIn_wide.2 ?_
    have hmm := fun w => run_makeMap0 Tryd.underlying92 w
    obtain ⟨v0, hv0⟩ : ∃ v0, v0 = fv 18 := ⟨_, rfl⟩
    have FA := fun W => First_any W
    rw [← hv0] at FA
    have FA := Lib.hid FA
    have HV0 := Lib.hid hv0
    clear hv0
    have hgo : ¬ (65536 : Int) < (s.size : Int) := by omega
    have hgo2 : decide ((65536 : Int) < (s.size : Int)) = false := decide_eq_false hgo
    go_wp2_with (first
      | (go_at_call 19; (with_reducible refine (FA.out _).mono ?_); rintro e w2 ⟨rfl, b2⟩)
      | (refine wpList_store_mid rfl _ _ _ rfl _ _ (St.stv v0).toArray rfl rfl (st_there w2 v0) (sty_info v0) (sty_one v0) ?_; refine gen_world2 (Q := fun W => wpList _ _ _ _ _ W) (fun W => Sty W w2.heap.size v0 ∧ Below w2.heap.size w2 W ∧ W.heap.size = w2.heap.size + 1) (st_first w2 v0) ?_; rintro w3 ⟨S3, b3, s3⟩; have S3 := Lib.hid S3; have s3 := Lib.hid s3)
      )
    refine wp_label ?_
    go_wp2_with (go_at_call 46; (with_reducible refine (split_any _ _).mono ?_); rintro e w5 ⟨rfl, rfl⟩)
    obtain ⟨P0, B0, HSB⟩ := pa_start s b2 S3.out b3 s3.out
    generalize (((w3.alloc (.map #[] 0)).alloc (.cells #[.map (some (w2.heap.size + 1))] 92)).alloc (.cells #[.string s] 9)) = wB at *
    have hw2 := P0.o1
    generalize w2.heap.size = b at *
    clear b2 S3 b3 s3 FA hmm
    refine (wpIn_wide (n := 6)).1 ?_
    refine rangeLaw2 (gf := 68) (lb := #[.pointer (some ⟨b + 1 + 1 + 1, 0, none⟩)]) rfl (enters_of Tryd.func68 (by kernel_rfl) rfl)
      (fun W1 hs1 hbb => split1_seq (6 - 1) (b + 1 + 1 + 1) s W1 (by omega) (B0.below hbb B0.lt))
      (fun X Y k o hg hk ho _ => (hg.block k (Array.getElem?_eq_some_iff.1 ho).1 (by simp)).trans ho)
      (fun h1 h2 => h2.trans h1) (fun W l o o' hl ho hc _ => World.putObj_heap_other (by rw [HSB] at hl; omega)) (fun _ => rfl)
      (PaJ w b) (PaX w s.data.toList)
      (fun pre X Y ⟨st, h0, h1⟩ hg => ⟨st, h0, h1.grown hg⟩)
      (fun pre W l o o' ⟨st, h0, h1⟩ hl ho hc => ⟨st, h0, h1.put o' (by rw [HSB] at hl; omega) ho hc⟩)
      (fun c pre W l o o' ⟨h0, p, h1, h2⟩ hl ho hc => ⟨h0, p, h1, h2.put o' (by rw [HSB] at hl; omega) ho hc⟩)
      (fun W1 hs1 hbb => ⟨(v0, fun _ => false), by rw [HV0.out]; rfl, P0.mid hbb⟩)
      (fun pre x a' W => a' = { tmps := paTmps w.heap.size b s v0 (x.1 : Int) (bs x.2), defers := [] } ∧ PaJ w b pre W)
      (fun pre x a' W l o o' ⟨h0, st, h1, h2⟩ hl ho hc => ⟨h0, st, h1, h2.put o' (by rw [HSB] at hl; omega) ho hc⟩) ?assign ?body ?done ?stop
    case assign =>
      intro y pre x W K hi hgo hsz hK
      have HK := Lib.hid (hK { tmps := paTmps w.heap.size b s v0 (x.1 : Int) (bs x.2), defers := [] } W (keeps_self _ _) rfl ⟨rfl, hi⟩)
      unfold paTmps at HK
      clear hK hi
      gi_wp2
      exact HK.out
    case body =>
      rintro y pre ⟨p, raw⟩ a' W ⟨rfl, st, hrun, hI⟩ hgo hsz
      have hxm : (p, raw) ∈ St.lns 0 s.data.toList := hgo.subset (by simp)
      have hbd := St.lns_mem hxm
      have hpl : pre.length ≤ 70000 := by
        have h1 := hgo.length_le
        have h2 := St.lns_length s.data.toList 0
        rw [← HSZ.out] at h2
        simp only [List.length_append, List.length_cons, List.length_nil] at h1
        omega
      simp only [← HSZ.out, Nat.zero_add] at hbd
      have hL := St.trimL_len raw
      have hN := St.line_len raw
      have hlong' : s.size ≤ 65536 := by omega
      have TL := fun W => TrimLeft_any (bs raw) W
      have TR := fun W => TrimRight_any (bs (St.trimL raw)) W (by rw [bs_size]; omega)
      have AS := fun W (h : Sty W b st.1) => assign_any (bs (St.line raw)) b st.1 W (by rw [bs_size]; omega) h
      simp only [bs_data] at TL TR AS
      rw [show St.trimR (St.trimL raw) = St.line raw from rfl] at TR
      have hpla : St.place (p, raw) = p + (raw.length - (St.trimL raw).length) := rfl
      have hrs : (bs raw).size = raw.length := bs_size _
      have hls : (bs (St.trimL raw)).size = (St.trimL raw).length := bs_size _
      have hns : (bs (St.line raw)).size = (St.line raw).length := bs_size _
      have hpI : (p : Int) + ((bs raw).size : Int) - ((bs (St.trimL raw)).size : Int) = ((St.place (p, raw) : Nat) : Int) := by rw [hpla, hrs, hls]; omega
      have hp1 : (p : Int) + ((bs raw).size : Int) ≤ 65536 := by omega
      have hls2 : (bs (St.trimL raw)).size ≤ (bs raw).size := by omega
      have HSTOP := Lib.hid (fun q (h : St.step st (p, raw) = .error q) => show St.run St.s0 (St.lns 0 s.data.toList) = .error q by
        obtain ⟨t, ht⟩ := hgo
        rw [← ht]
        exact St.run_stop ((St.run_snoc hrun).trans h))
      have HGO2 := Lib.hid (fun st' (h : St.step st (p, raw) = .ok st') => (St.run_snoc hrun).trans h)
      have HI := Lib.hid hI
      have AS := Lib.hid AS
      have TL := Lib.hid TL
      have TR := Lib.hid TR
      have HPI := Lib.hid hpI
      have HKB := Lib.hid (fun W1 W2 (b1 : Below W.heap.size W W1) (b2 : Below W1.heap.size W1 W2) => (show KeepsFrom wB.heap.size W W2 ∧ W2.heap[b + 1 + 1 + 1]? = W.heap[b + 1 + 1 + 1]? ∧ PaI w b st.1 st.2 pre.length W2 from
        ⟨keeps_below (b1.trans (b2.mono b1.size)), (b1.trans (b2.mono b1.size)).block _ (by omega), (hI.mid b1).mid b2⟩))
      clear hI hrun hgo hxm hpla hrs hls hpI hN hL
      have FIN : Hid (∀ W2, KeepsFrom wB.heap.size W W2 → W2.heap[b + 1 + 1 + 1]? = W.heap[b + 1 + 1 + 1]? → ∀ st' : St.S, St.step st (p, raw) = .ok st' → PaI w b st'.1 st'.2 (pre.length + 1) W2 →
          KeepsFrom wB.heap.size W W2 ∧ W2.heap[b + 1 + 1 + 1]? = W.heap[b + 1 + 1 + 1]? ∧ PaJ w b (pre ++ [(p, raw)]) W2) := Lib.hid (fun W2 h1 h2 st' h3 h4 => ⟨h1, h2, st', HGO2.out st' h3, by simpa using h4⟩)
      cases hl : St.line raw with
      | nil =>
        have HD := Lib.hid (St.step_dull (s := st) (x := (p, raw)) (show St.dull raw = true by unfold St.dull; rw [hl]))
        have TR := TR.out
        rw [hl] at TR
        have TR := Lib.hid TR
        have t1 : (bs []).toList = [] := bs_toList []
        have t2 : (bs []).toList.isEmpty = true := by rw [t1]; rfl
        clear hl AS hns
        generalize bs raw = RB at *
        generalize bs (St.trimL raw) = LB at *
        generalize bs [] = NB at *
        unfold paTmps
        gi_wp2_with (first
          | (refine ⟨trivial, ?_⟩; gi_at_call 47; (with_reducible refine (CallsIn.inRound y (callsIn_wide.2 (TL.out _))).mono ?_); rintro e w1 ⟨rfl, b1⟩)
          | (refine ⟨trivial, ?_⟩; gi_at_call 48; (with_reducible refine (CallsIn.inRound y (callsIn_wide.2 (TR.out _))).mono ?_); rintro e w2 ⟨rfl, b2⟩))
        obtain ⟨k1, k2, k3⟩ := HKB.out _ _ b1 b2
        exact FIN.out _ k1 k2 _ HD.out k3.up
      | cons c r =>
        have h0 : 0 < (bs (c :: r)).size := by rw [bs_size]; simp
        have hc0 := ba_first h0
        have hdl : St.dull raw = decide (c = 35) := by unfold St.dull; rw [hl]
        have TR := TR.out
        have AS := AS.out
        have hsP : St.sdP (St.line raw) = St.sd (St.line raw) := St.sdP_eq raw
        rw [hl] at TR AS hns hsP
        unfold AsRes at AS
        rw [hsP] at AS
        have TR := Lib.hid TR
        have AS := Lib.hid AS
        have t1 : ¬ (bs (c :: r)).toList = [] := by rw [bs_toList]; simp
        have t2 : (bs (c :: r)).toList.isEmpty = false := by rw [List.isEmpty_eq_false_iff]; exact t1
        have hstep : ∀ o, St.sd (c :: r) = o → St.sd (St.line raw) = o := fun o h => by rw [hl]; exact h
        clear hl hsP
        generalize bs raw = RB at *
        generalize bs (St.trimL raw) = LB at *
        generalize hNB : bs (c :: r) = NB at *
        clear hNB
        unfold paTmps
        by_cases hc : c = 35
        · have HD := Lib.hid (St.step_dull (s := st) (x := (p, raw)) (by rw [hdl, hc]; rfl))
          have hcN : (NB[0]).toNat = 35 := by rw [hc0, hc]; rfl
          have hcI : ((NB[0]).toNat : Int) = 35 := by omega
          clear hc0 hdl hc AS
          gi_wp2_with (first
            | (refine ⟨trivial, ?_⟩; gi_at_call 47; (with_reducible refine (CallsIn.inRound y (callsIn_wide.2 (TL.out _))).mono ?_); rintro e w1 ⟨rfl, b1⟩)
            | (refine ⟨trivial, ?_⟩; gi_at_call 48; (with_reducible refine (CallsIn.inRound y (callsIn_wide.2 (TR.out _))).mono ?_); rintro e w2 ⟨rfl, b2⟩))
          obtain ⟨k1, k2, k3⟩ := HKB.out _ _ b1 b2
          exact FIN.out _ k1 k2 _ HD.out k3.up
        · have hdf : St.dull raw = false := by rw [hdl, decide_eq_false hc]
          have hcN : ¬ (NB[0]).toNat = 35 := by rw [hc0]; exact fun e => hc (UInt8.toNat_inj.1 (by rw [e]; rfl))
          have hcI : ¬ ((NB[0]).toNat : Int) = 35 := by omega
          clear hc0 hdl hc
          cases hs : St.sd (c :: r) with
          | none =>
            have HE := Lib.hid (HSTOP.out _ (St.step_none (s := st) (x := (p, raw)) hdf (hstep _ hs)))
            rw [hs] at AS
            unfold AsFin at AS
            clear hs hstep hdf HGO2 FIN
            gi_wp2_with (first
            | (refine ⟨trivial, ?_⟩; gi_at_call 47; (with_reducible refine (CallsIn.inRound y (callsIn_wide.2 (TL.out _))).mono ?_); rintro e w1 ⟨rfl, b1⟩)
            | (refine ⟨trivial, ?_⟩; gi_at_call 48; (with_reducible refine (CallsIn.inRound y (callsIn_wide.2 (TR.out _))).mono ?_); rintro e w2 ⟨rfl, b2⟩; have I2 := (HKB.out _ _ b1 b2).2.2; have S2 := I2.sty; have I2 := Lib.hid I2)
            | (refine ⟨trivial, ?_⟩; gi_at_call 49; (with_reducible refine (CallsIn.inRound y (callsIn_wide.2 (AS.out _ S2))).mono ?_); rintro e w3 ⟨rfl, s3, g3⟩; have I3 := I2.out.set s3 g3; have r3 := I3.r0; have m3 := I3.m.cell; have I3 := Lib.hid I3; have s3 := Lib.hid s3; have G3 := Lib.hid g3)
            | (refine wpListIn_store_mid rfl _ _ _ rfl _ _ (#[.int .i64 0, .int .i64 0, .int .i64 0, .int .i64 0, .bool false, .bool false, .bool false, .int .i64 0, .int .i64 0, .int .i64 0, .int .i64 0, .int .i64 0, .int .i64 0, .int .i64 0, .int .i64 0, .int .i64 0, .int .i64 0, .int .i64 0] : Array Value) rfl rfl (zlit_there r3) zlit_info zlit_one ?_; refine gen_world2 (Q := fun W => wpListIn _ _ _ _ _ _ _ W) (fun W4 => PaE w (fv 0) 0 0 W4 ∧ KeepsFrom wB.heap.size _ W4 ∧ _ ≤ W4.heap.size) (I3.out.wipe wB.heap.size (by omega)) ?_; rintro w4 ⟨E4, k4, z4⟩; have d1 := E4.x1.cell; have t1 := E4.x1.frozen; have d2 := E4.x2.cell; have t2 := E4.x2.frozen; have E4 := Lib.hid E4; have K4 := Lib.hid k4; (try dsimp only); simp only [Act.put, List.setIfInBounds_toArray, List.set_cons_zero, List.set_cons_succ]))
            obtain ⟨k1, k2, k3⟩ := HKB.out _ _ b1 b2
            refine ⟨(((k1.trans (keeps_row G3.out (by omega))).trans K4.out).trans ((KeepsOthers.setCell _ _ _).from _)).trans ((KeepsOthers.setCell _ _ _).from _), rfl, _, HE.out, ?_⟩
            rw [← HPI.out]
            exact E4.out.set _ _
          | some q =>
            obtain ⟨i, x⟩ := q
            rw [hs] at AS
            unfold AsFin at AS
            simp only at AS
            have hi := (St.sd_spec hs).1
            have hhad : st.2 i = true ∨ st.2 i = false := by cases st.2 i <;> simp
            have hkey : keyOf Tryd.prog 9 (.string (bs (St.nm i))) = some (.string (St.nm i)) := by
              have := Go.WideMaps.keyOf_string_mk (P := Tryd.prog) Tryd.underlying9 (s := bs (St.nm i)) (by rw [bs_size]; have := St.nm_len i hi; unfold maxLen; omega)
              rwa [bs_data] at this
            rcases hhad with hh | hh
            · have HE := Lib.hid (HSTOP.out _ (St.step_twice (s := st) (x := (p, raw)) hdf (hstep _ hs) hh))
              have HAT := Lib.hid (fun (D : DataW Unit) (g : SeenOf D st.2) => (g.val hi).trans (by rw [hh]; rfl : _ = DataW.lit (.int .i64 1)))
              clear hs hstep hdf HGO2 FIN
              generalize bs (St.nm i) = NM at *
              gi_wp2_with (first
              | (refine ⟨trivial, ?_⟩; gi_at_call 47; (with_reducible refine (CallsIn.inRound y (callsIn_wide.2 (TL.out _))).mono ?_); rintro e w1 ⟨rfl, b1⟩)
              | (refine ⟨trivial, ?_⟩; gi_at_call 48; (with_reducible refine (CallsIn.inRound y (callsIn_wide.2 (TR.out _))).mono ?_); rintro e w2 ⟨rfl, b2⟩; have I2 := (HKB.out _ _ b1 b2).2.2; have S2 := I2.sty; have I2 := Lib.hid I2)
              | (refine ⟨trivial, ?_⟩; gi_at_call 49; (with_reducible refine (CallsIn.inRound y (callsIn_wide.2 (AS.out _ S2))).mono ?_); rintro e w3 ⟨rfl, s3, g3⟩; have I3 := I2.out.set s3 g3; have r3 := I3.r0; have m3 := I3.m.cell; obtain ⟨D3, o3, so3⟩ := I3.own; have I3 := Lib.hid I3; have s3 := Lib.hid s3; have G3 := Lib.hid g3)
              | (refine wpListIn_store_mid rfl _ _ _ rfl _ _ (#[.int .i64 0, .int .i64 0, .int .i64 0, .int .i64 0, .bool false, .bool false, .bool false, .int .i64 0, .int .i64 0, .int .i64 0, .int .i64 0, .int .i64 0, .int .i64 0, .int .i64 0, .int .i64 0, .int .i64 0, .int .i64 0, .int .i64 0] : Array Value) rfl rfl (zlit_there r3) zlit_info zlit_one ?_; refine gen_world2 (Q := fun W => wpListIn _ _ _ _ _ _ _ W) (fun W4 => PaE w (fv 0) 0 0 W4 ∧ KeepsFrom wB.heap.size _ W4 ∧ _ ≤ W4.heap.size) (I3.out.wipe wB.heap.size (by omega)) ?_; rintro w4 ⟨E4, k4, z4⟩; have d1 := E4.x1.cell; have t1 := E4.x1.frozen; have d2 := E4.x2.cell; have t2 := E4.x2.frozen; have E4 := Lib.hid E4; have K4 := Lib.hid k4; (try dsimp only); simp only [Act.put, List.setIfInBounds_toArray, List.set_cons_zero, List.set_cons_succ])
              | (gi_at_lookup; refine wpListIn_lookup_guarded _ (by rfl) _ _ 92 rfl 9 3 .i64 lawS Tryd.underlying92 Tryd.underlying3 (zeroI _) (b + 1) pre.length _ rfl o3 _ _ rfl hkey ?_; intro cc hat hwc; rw [HAT.out _ so3] at hat; simp only [DataW.lit.injEq, Lit.int.injEq, true_and] at hat; subst hat))
              obtain ⟨k1, k2, k3⟩ := HKB.out _ _ b1 b2
              refine ⟨(((k1.trans (keeps_row G3.out (by omega))).trans K4.out).trans ((KeepsOthers.setCell _ _ _).from _)).trans ((KeepsOthers.setCell _ _ _).from _), rfl, _, HE.out, ?_⟩
              rw [← HPI.out]
              exact E4.out.set _ _
            · have HD := Lib.hid (St.step_set (s := st) (x := (p, raw)) hdf (hstep _ hs) hh)
              have HAT := Lib.hid (fun (D : DataW Unit) (g : SeenOf D st.2) => (g.val hi).trans (by rw [hh]; rfl : _ = DataW.lit (.int .i64 0)))
              have HPUT := Lib.hid (fun (D : DataW Unit) (g : SeenOf D st.2) => g.put hi)
              clear hs hstep hdf HSTOP
              generalize bs (St.nm i) = NM at *
              gi_wp2_with (first
              | (refine ⟨trivial, ?_⟩; gi_at_call 47; (with_reducible refine (CallsIn.inRound y (callsIn_wide.2 (TL.out _))).mono ?_); rintro e w1 ⟨rfl, b1⟩)
              | (refine ⟨trivial, ?_⟩; gi_at_call 48; (with_reducible refine (CallsIn.inRound y (callsIn_wide.2 (TR.out _))).mono ?_); rintro e w2 ⟨rfl, b2⟩; have I2 := (HKB.out _ _ b1 b2).2.2; have S2 := I2.sty; have I2 := Lib.hid I2)
              | (refine ⟨trivial, ?_⟩; gi_at_call 49; (with_reducible refine (CallsIn.inRound y (callsIn_wide.2 (AS.out _ S2))).mono ?_); rintro e w3 ⟨rfl, s3, g3⟩; have I3 := I2.out.set s3 g3; have r3 := I3.r0; have m3 := I3.m.cell; obtain ⟨D3, o3, so3⟩ := I3.own; have I3 := Lib.hid I3; have s3 := Lib.hid s3; have G3 := Lib.hid g3)
              | (gi_at_lookup; refine wpListIn_lookup_guarded _ (by rfl) _ _ 92 rfl 9 3 .i64 lawS Tryd.underlying92 Tryd.underlying3 (zeroI _) (b + 1) pre.length _ rfl o3 _ _ rfl hkey ?_; intro cc hat hwc; rw [HAT.out _ so3] at hat; simp only [DataW.lit.injEq, Lit.int.injEq, true_and] at hat; subst hat)
              | (gi_at_lookup; refine wpListIn_lookup_own_int _ rfl _ _ 92 rfl 9 3 .i64 lawS Tryd.underlying92 Tryd.underlying3 (zeroI _) (b + 1) pre.length _ rfl o3 _ _ rfl hkey ?_; intro cc hat hwc; rw [HAT.out _ so3] at hat; simp only [DataW.lit.injEq, Lit.int.injEq, true_and] at hat; subst hat)
              | (gi_at_mapUpdate; refine wpListIn_mapUpdate_own _ rfl _ _ _ 92 rfl 9 3 lawS Tryd.underlying92 _ (b + 1) pre.length _ rfl o3 (by unfold maxLen; omega) _ _ _ rfl rfl hkey _ [] (plainElem_int Tryd.underlying3 (WalkArith.wf_i64 (by omega))) ?_; intro w4 o4 g4))
              obtain ⟨k1, k2, k3⟩ := HKB.out _ _ b1 b2
              have hz2 := k1.size
              have hz3 := G3.out.size
              exact FIN.out _ ((k1.trans (keeps_row G3.out (by omega))).trans (keeps_row g4 (by omega))) ((g4.block _ (by omega) (by simp; omega)).trans ((G3.out.block _ (by omega) (by simp; omega)).trans k2)) _ HD.out (I3.out.mapped o4 (HPUT.out _ so3) g4)
    case done =>
      rintro D xs W hD hS ⟨st, hrun, hI⟩ hK
      obtain rfl : D = b + 4 := by rw [hD, HSB]
      rw [hS] at hrun
      obtain ⟨q1, q2, q3⟩ := St.ps_good (t := s.data.toList) (by rw [← HSZ.out]; exact hlong) hrun
      have HR := Lib.hid (show psRes s.data.toList = .tuple #[.agg (St.stv st.1).toArray, .int .i64 0, .int .i64 0] by unfold psRes; rw [q1, q2, q3])
      clear q1 q2 q3 hrun hS
      have hinfo : (Tryd.prog.info? 23).map (·.size) = some (St.stv st.1).length := by have := sty_info st.1; rwa [List.size_toArray] at this
      have SR := hI.sty.range
      have hth := sty_there hI.r0 st.1
      have ho1 := hI.o1
      have HS2 := Lib.hid (show PaE w st.1 0 0 (W.setCells w.heap.size 0 (St.stv st.1).toArray.toList) ∧ (W.setCells w.heap.size 0 (St.stv st.1).toArray.toList).heap[b + 4]? = some (.deferred (some [])) from by
        rw [List.toList_toArray]
        exact ⟨⟨(hI.r0.store st.1).range, (heap_setCells_other (by omega) _ _ _).trans hI.x1, (heap_setCells_other (by omega) _ _ _).trans hI.x2, below_setCells (Nat.le_refl _) _ _ _ hI.bel⟩, (heap_setCells_other (by omega) _ _ _).trans hK⟩)
      clear hI hK
      go_wp2_with (first
        | (refine wpList_load_mid rfl _ _ rfl _ _ rfl (St.stv st.1) _ SR Tryd.underlying23 rfl hinfo ?_)
        | (refine wpList_store_mid rfl _ _ _ rfl _ _ (St.stv st.1).toArray rfl rfl hth (sty_info _) (sty_one _) ?_; refine gen_world2 (Q := fun W => wpList _ _ _ _ _ W) (fun W4 => PaE w st.1 0 0 W4 ∧ W4.heap[b + 4]? = some (.deferred (some []))) HS2.out ?_; rintro w4 ⟨E4, K4⟩; have d1 := E4.x1.cell; have t1 := E4.x1.frozen; have d2 := E4.x2.cell; have t2 := E4.x2.frozen; have E4 := Lib.hid E4; have K4 := Lib.hid K4; (try dsimp only); simp only [Act.put, List.setIfInBounds_toArray, List.set_cons_zero, List.set_cons_succ]))
      rw [Exit.noGoto_ret]
      have E5 := E4.out.set 0 0
      have K5 : ((w4.setCell ⟨w.heap.size + 1, 0, none⟩ (.int .i64 0)).setCell ⟨w.heap.size + 1 + 1, 0, none⟩ (.int .i64 0)).heap[b + 4]? = some (.deferred (some [])) :=
        (Below.heap_setCell _ _ _ _ (by simp; omega)).trans ((Below.heap_setCell _ _ _ _ (by simp; omega)).trans K4.out)
      refine ⟨by simp, .inl ⟨_, _, rfl, run_takeDeferred K5, ?_⟩⟩
      have E6 := E5.put (.deferred none) (l := b + 4) (by omega) K5 rfl
      exact ⟨_, pa_results E6 rfl rfl rfl, by rw [HR.out], E6.bel⟩
    case stop =>
      rintro D c pre W hD hS ⟨rfl, p, hrun, hE⟩ hK
      obtain rfl : D = b + 4 := by rw [hD, HSB]
      obtain ⟨q1, q2, q3⟩ := St.ps_bad (t := s.data.toList) (by rw [← HSZ.out]; exact hlong) hrun
      have HR := Lib.hid (show psRes s.data.toList = .tuple #[.agg (St.stv (fv 0)).toArray, .int .i64 (p : Int), .int .i64 90] by unfold psRes; rw [q1, q2, q3])
      clear q1 q2 q3 hrun hS
      gi_wp2
      rw [Exit.noGoto_ret]
      refine ⟨by simp, .inl ⟨_, _, rfl, run_takeDeferred hK, ?_⟩⟩
      have E6 := hE.put (.deferred none) (l := b + 4) (by omega) hK rfl
      exact ⟨_, pa_results E6 rfl rfl rfl, by rw [HR.out], E6.bel⟩

end Go.Proofs.YtliabgcpciekpaaDoor
