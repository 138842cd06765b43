/- The law StylePrints, walked. -/
import Derived.Test.YtliabgcpciekpaaDoorYeP
import Derived.Deep.RegionHeld3
set_option linter.unusedVariables false
set_option linter.unusedSimpArgs false
namespace Go.Proofs.YtliabgcpciekpaaDoor
open Go Go.RowKit

theorem Print_all (v : Nat → Int) (hfl : St.Fl v) (w : World) (hp : Pow w) :
    Calls Tryd.prog 13 #[.agg (St.stv v).toArray] w (PrRes v w) := by
  cases hno : St.chk v
  · exact Print_no v hfl w hno
  · refine Print_yes v hfl w hno (fun i hi => ?_)
    have h1 := (St.chk_iff v).1 hno i hi
    have h2 := St.low_bd i
    have h3 := St.high_bd i hi
    exact itc_of hp (by omega) (by omega)

/-- What stays behind the calls of the law: the style's block. -/
def SpS (w : World) (v : Nat → Int) (W : World) : Prop := W.rangeAt w.heap.size 0 (St.stv v) ∧ Below (w.heap.size + 1) (w.alloc (.cells (St.stv v).toArray 23)) W
theorem SpS.later {w : World} {v : Nat → Int} {W W' : World} (h : SpS w v W) (hb : Below W.heap.size W W') : SpS w v W' := by
  have hs : (w.alloc (.cells (St.stv v).toArray 23)).heap.size = w.heap.size + 1 := by simp
  have h1 := h.2.trans (hb.mono (by have := h.2.size; omega))
  exact ⟨((Sty.new w v).below h1 (by omega)).range, h1⟩

set_option maxRecDepth 100000 in
set_option maxHeartbeats 8000000 in
theorem StylePrints_any (v : Nat → Int) (hfl : St.Fl v) (w : World) (hp : Pow w) :
    Calls Tryd.prog 3 #[.agg (St.stv v).toArray] w fun e w' => e = .returned (.bool true) ∧ Below w.heap.size w w' := by
  have S0 : SpS w v (w.alloc (.cells (St.stv v).toArray 23)) := ⟨(Sty.new w v).range, Below.refl _ _⟩
  have hb0 := (Below.refl w.heap.size w).alloc (Nat.le_refl _) (.cells (St.stv v).toArray 23)
  have HB := Lib.hid (fun W (h : SpS w v W) => hb0.trans (h.2.mono (by omega)))
  have K1 := Lib.hid (fun W (h : SpS w v W) => (Print_all v hfl W (hp.later (HB.out W h))))
  have K2 := Lib.hid (fun W => refPrint_any v hfl W)
  have K3 := Lib.hid (fun W (h : SpS w v W) => (Check_any v hfl W).mono fun e w' (q : _ ∧ _) => (⟨q.1, h.later q.2⟩ : _ ∧ SpS w v w'))
  have K4 := Lib.hid (fun W (h : SpS w v W) => (refCheck_any v hfl W).mono fun e w' (q : _ ∧ _) => (⟨q.1, h.later q.2⟩ : _ ∧ SpS w v w'))
  have hlen := St.stv_len v
  have hinfo : (Tryd.prog.info? 23).map (·.size) = some (St.stv v).length := by rw [hlen]; kernel_rfl
  have hu := Tryd.underlying23
  unfold PrRes at K1 K2
  generalize bs (if St.chk v = true then St.txt v 18 else []) = z at *
  generalize (if St.chk v = true then (0 : Int) else 90) = et at *
  have SR := S0.1
  go_enter Tryd.func3, Tryd.ntmps3
  go_wp2_with (first
    | (refine wpList_load_mid rfl _ _ rfl _ _ rfl (St.stv v) _ SR Tryd.underlying23 rfl hinfo ?_)
    | (refine wpList_load_mid rfl _ _ rfl _ _ rfl (St.stv v) _ SR1 Tryd.underlying23 rfl hinfo ?_)
    | (go_at_call 13; (with_reducible refine (K1.out _ S0).mono ?_); rintro e w1 ⟨rfl, b1⟩; have S1 := S0.later b1; have SR1 := S1.1)
    | (go_at_call 14; (with_reducible refine (K2.out _).mono ?_); rintro e w2 ⟨rfl, b2⟩; have S2 := S1.later b2; have SR2 := S2.1))
  have SD : w2.drew.rangeAt w.heap.size 0 (St.stv v) := S2.1
  have BD : Below (w.heap.size + 1) (w.alloc (.cells (St.stv v).toArray 23)) w2.drew := S2.2.drew
  unfold SpS at K3 K4
  refine wp_region_held_drew (S := fun w' => w'.rangeAt w.heap.size 0 (St.stv v) ∧ Below (w.heap.size + 1) (w.alloc (.cells (St.stv v).toArray 23)) w') (by kernel_rfl) ⟨SD, BD⟩ (fun hHeld => ?_)
  refine wpAnyH_take (i := 0) (v := ?_) rfl (by kernel_rfl) (by kernel_rfl) (by kernel_rfl) (fun _ _ _ h => h) (Or.inl ⟨by rfl, ?_⟩) (by assumption) ?_
  rotate_left
  · intro w hSw
    (try dsimp only at hSw)
    go_simp
    all_goals (with_reducible rfl)
  try simp only [List.getElem_toArray, List.getElem_cons_succ, List.getElem_cons_zero, Act.put, List.setIfInBounds_toArray, List.set_cons_zero, List.set_cons_succ]
  refine wpAnyH_take (i := 1) (v := ?_) rfl (by kernel_rfl) (by kernel_rfl) (by kernel_rfl) (fun _ _ _ h => h) (Or.inl ⟨by rfl, ?_⟩) (by assumption) ?_
  rotate_left
  · intro w hSw
    (try dsimp only at hSw)
    go_simp
    all_goals (with_reducible rfl)
  try simp only [List.getElem_toArray, List.getElem_cons_succ, List.getElem_cons_zero, Act.put, List.setIfInBounds_toArray, List.set_cons_zero, List.set_cons_succ]
  refine wpAnyH_take (i := 2) (v := ?_) rfl (by kernel_rfl) (by kernel_rfl) (by kernel_rfl) (fun _ _ _ h => h) (Or.inl ⟨by rfl, ?_⟩) (by assumption) ?_
  rotate_left
  · intro w hSw
    (try dsimp only at hSw)
    go_simp
    all_goals (with_reducible rfl)
  try simp only [List.getElem_toArray, List.getElem_cons_succ, List.getElem_cons_zero, Act.put, List.setIfInBounds_toArray, List.set_cons_zero, List.set_cons_succ]
  refine wpAnyH_take (i := 3) (v := ?_) rfl (by kernel_rfl) (by kernel_rfl) (by kernel_rfl) (fun _ _ _ h => h) (Or.inl ⟨by rfl, ?_⟩) (by assumption) ?_
  rotate_left
  · intro w hSw
    (try dsimp only at hSw)
    go_simp
    all_goals (with_reducible rfl)
  try simp only [List.getElem_toArray, List.getElem_cons_succ, List.getElem_cons_zero, Act.put, List.setIfInBounds_toArray, List.set_cons_zero, List.set_cons_succ]
  refine wpAnyH_take (i := 4) (v := ?_) rfl (by kernel_rfl) (by kernel_rfl) (by kernel_rfl) (fun _ _ _ h => h) (Or.inl ⟨by rfl, ?_⟩) (by assumption) ?_
  rotate_left
  · intro w hSw
    (try dsimp only at hSw)
    go_simp
    all_goals (with_reducible rfl)
  try simp only [List.getElem_toArray, List.getElem_cons_succ, List.getElem_cons_zero, Act.put, List.setIfInBounds_toArray, List.set_cons_zero, List.set_cons_succ]
  refine wpAnyH_take (i := 5) (v := ?_) rfl (by kernel_rfl) (by kernel_rfl) (by kernel_rfl) (fun _ _ _ h => h) (Or.inl ⟨by rfl, ?_⟩) (by assumption) ?_
  rotate_left
  · intro w hSw
    (try dsimp only at hSw)
    go_simp
    all_goals (with_reducible rfl)
  try simp only [List.getElem_toArray, List.getElem_cons_succ, List.getElem_cons_zero, Act.put, List.setIfInBounds_toArray, List.set_cons_zero, List.set_cons_succ]
  refine wpAnyH_take (i := 6) (v := ?_) rfl (by kernel_rfl) (by kernel_rfl) (by kernel_rfl) (fun _ _ _ h => h) (Or.inl ⟨by rfl, ?_⟩) (by assumption) ?_
  rotate_left
  · intro w hSw
    (try dsimp only at hSw)
    go_simp
    all_goals (with_reducible rfl)
  try simp only [List.getElem_toArray, List.getElem_cons_succ, List.getElem_cons_zero, Act.put, List.setIfInBounds_toArray, List.set_cons_zero, List.set_cons_succ]
  refine wpAnyH_take (i := 7) (v := ?_) rfl (by kernel_rfl) (by kernel_rfl) (by kernel_rfl) (fun _ _ _ h => h) (Or.inl ⟨by rfl, ?_⟩) (by assumption) ?_
  rotate_left
  · intro w hSw
    (try dsimp only at hSw)
    go_simp
    all_goals (with_reducible rfl)
  try simp only [List.getElem_toArray, List.getElem_cons_succ, List.getElem_cons_zero, Act.put, List.setIfInBounds_toArray, List.set_cons_zero, List.set_cons_succ]
  refine wpAnyH_take (i := 8) (v := ?_) rfl (by kernel_rfl) (by kernel_rfl) (by kernel_rfl) (fun _ _ _ h => h) (Or.inl ⟨by rfl, ?_⟩) (by assumption) ?_
  rotate_left
  · intro w hSw
    (try dsimp only at hSw)
    go_simp
    all_goals (with_reducible rfl)
  try simp only [List.getElem_toArray, List.getElem_cons_succ, List.getElem_cons_zero, Act.put, List.setIfInBounds_toArray, List.set_cons_zero, List.set_cons_succ]
  refine wpAnyH_take (i := 9) (v := .agg (St.stv v).toArray) rfl (by kernel_rfl) (by kernel_rfl) (by kernel_rfl) (fun _ _ _ h => h) (yieldsIf_load_mid (by rfl) _ _ rfl _ _ rfl (St.stv v) _ (fun w h => h.1) hu rfl hinfo) (by assumption) ?_
  try simp only [List.getElem_toArray, List.getElem_cons_succ, List.getElem_cons_zero, Act.put, List.setIfInBounds_toArray, List.set_cons_zero, List.set_cons_succ]
  refine wpAnyH_take (i := 11) (v := .agg (St.stv v).toArray) rfl (by kernel_rfl) (by kernel_rfl) (by kernel_rfl) (fun _ _ _ h => h) (yieldsIf_load_mid (by rfl) _ _ rfl _ _ rfl (St.stv v) _ (fun w h => h.1) hu rfl hinfo) (by assumption) ?_
  try simp only [List.getElem_toArray, List.getElem_cons_succ, List.getElem_cons_zero, Act.put, List.setIfInBounds_toArray, List.set_cons_zero, List.set_cons_succ]
  refine wpAnyH_ready (rs := [10]) (by kernel_rfl) (by simp) ?_
  refine AllReadyH.cons rfl (fun K hK => ?_) AllReadyH.nil
  go_simp
  go_at_call 15
  refine (K3.out _ hHeld).mono ?_
  rintro e w10 ⟨rfl, hx10⟩
  go_wp2_with fail
  refine hK.out _ _ hx10 (fun hHeld2 => ?_)
  clear hK K hHeld
  try simp only [List.getElem_toArray, List.getElem_cons_succ, List.getElem_cons_zero, Act.put, List.setIfInBounds_toArray, List.set_cons_zero, List.set_cons_succ]
  refine wpAnyH_ready (rs := [12]) (by kernel_rfl) (by simp) ?_
  refine AllReadyH.cons rfl (fun K hK => ?_) AllReadyH.nil
  go_simp
  go_at_call 16
  refine (K4.out _ hHeld2).mono ?_
  rintro e w12 ⟨rfl, hx12⟩
  go_wp2_with fail
  refine hK.out _ _ hx12 (fun hHeld3 => ?_)
  clear hK K hHeld2
  try simp only [List.getElem_toArray, List.getElem_cons_succ, List.getElem_cons_zero, Act.put, List.setIfInBounds_toArray, List.set_cons_zero, List.set_cons_succ]
  refine wpAnyH_take (i := 13) (v := ?_) rfl (by kernel_rfl) (by kernel_rfl) (by kernel_rfl) (fun _ _ _ h => h) (Or.inl ⟨by rfl, ?_⟩) (by assumption) ?_
  rotate_left
  · intro w hSw
    (try dsimp only at hSw)
    go_simp
    all_goals (with_reducible rfl)
  try simp only [List.getElem_toArray, List.getElem_cons_succ, List.getElem_cons_zero, Act.put, List.setIfInBounds_toArray, List.set_cons_zero, List.set_cons_succ]
  refine wpAnyH_take (i := 14) (v := ?_) rfl (by kernel_rfl) (by kernel_rfl) (by kernel_rfl) (fun _ _ _ h => h) (Or.inl ⟨by rfl, ?_⟩) (by assumption) ?_
  rotate_left
  · intro w hSw
    (try dsimp only at hSw)
    go_simp
    all_goals (with_reducible rfl)
  try simp only [List.getElem_toArray, List.getElem_cons_succ, List.getElem_cons_zero, Act.put, List.setIfInBounds_toArray, List.set_cons_zero, List.set_cons_succ]
  refine wpAnyH_take (i := 15) (v := ?_) rfl (by kernel_rfl) (by kernel_rfl) (by kernel_rfl) (fun _ _ _ h => h) (Or.inl ⟨by rfl, ?_⟩) (by assumption) ?_
  rotate_left
  · intro w hSw
    (try dsimp only at hSw)
    go_simp
    all_goals (with_reducible rfl)
  try simp only [List.getElem_toArray, List.getElem_cons_succ, List.getElem_cons_zero, Act.put, List.setIfInBounds_toArray, List.set_cons_zero, List.set_cons_succ]
  refine wpAnyH_done (by kernel_rfl) ?_ _
  go_wp2
  go_ret
  exact ⟨by simp, hb0.trans (hx12.2.mono (by omega))⟩

end Go.Proofs.YtliabgcpciekpaaDoor
