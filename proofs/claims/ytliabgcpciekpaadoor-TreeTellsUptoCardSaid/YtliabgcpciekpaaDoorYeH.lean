/- Walks: may a style be; its text (the document's). -/
import Derived.Test.YtliabgcpciekpaaDoorYeF
import Derived.Test.YtliabgcpciekpaaDoorYeD
import Derived.Deep.RegionLaw
set_option linter.unusedVariables false
set_option linter.unusedSimpArgs false
namespace Go.Proofs.YtliabgcpciekpaaDoor
open Go Go.RowKit

/-- The document's entry, called where a cell and what lies below are to stay. -/
theorem refentry_keep (i : Nat) (hi : i < 18) (w : World) (p : Addr) (u : Value) (W : World) (hS : W.cell? p = some u ∧ Below w.heap.size w W) :
    Calls Tryd.prog 44 #[.int .i64 (i : Int)] W fun e w' => e = .returned (.agg #[.string (bs (St.nm i)), .int .i64 (St.low i), .int .i64 (St.high i), .int .i64 (St.first i)]) ∧ w'.cell? p = some u ∧ Below w.heap.size w w' := by
  refine (refentry_any i hi W).mono ?_
  rintro e w' ⟨he, hb⟩
  have hlt : p.block < W.heap.size := by
    by_cases h : p.block < W.heap.size
    · exact h
    · have h1 : W.heap[p.block]? = none := Array.getElem?_eq_none (by omega)
      have h2 := hS.1
      unfold World.cell? at h2
      rw [h1] at h2
      simp at h2
  exact ⟨he, (hb.cell hlt).trans hS.1, hS.2.trans (hb.mono hS.2.size)⟩

theorem fld0 (a : ByteArray) (b c d : Int) (w : World) : (Instr.field 90 (.agg #[.string a, .int .i64 b, .int .i64 c, .int .i64 d]) 0).run Tryd.prog w = .ok (.string a) w := by kernel_rfl
theorem fld1 (a : ByteArray) (b c d : Int) (w : World) : (Instr.field 90 (.agg #[.string a, .int .i64 b, .int .i64 c, .int .i64 d]) 1).run Tryd.prog w = .ok (.int .i64 b) w := by kernel_rfl
theorem fld2 (a : ByteArray) (b c d : Int) (w : World) : (Instr.field 90 (.agg #[.string a, .int .i64 b, .int .i64 c, .int .i64 d]) 2).run Tryd.prog w = .ok (.int .i64 c) w := by kernel_rfl

set_option maxRecDepth 100000 in
set_option maxHeartbeats 8000000 in
theorem refCheck_any (v : Nat → Int) (hfl : St.Fl v) (w : World) :
    Calls Tryd.prog 16 #[.agg (St.stv v).toArray] w fun e w' => e = .returned (.int .i64 (if St.chk v = true then 0 else 90)) ∧ Below w.heap.size w w' := by
  have hf0 := fld0
  have hf1 := fld1
  have hf2 := fld2
  have S0 := Sty.new w v
  have SR := S0.range
  have hb0 := (Below.refl w.heap.size w).alloc (Nat.le_refl _) (.cells (St.stv v).toArray 23)
  have NC := Lib.hid (numbers_any v hfl)
  have hlen := St.stv_len v
  have hinfo : (Tryd.prog.info? 23).map (·.size) = some (St.stv v).length := by rw [hlen]; kernel_rfl
  clear S0
  obtain ⟨er, hER⟩ : ∃ er : Int, (if St.chk v = true then 0 else 90) = er := ⟨_, rfl⟩
  rw [hER]
  have HER := Lib.hid hER
  clear hER
  go_enter Tryd.func16, Tryd.ntmps16
  go_wp2_with (first
    | (refine wpList_load_mid rfl _ _ rfl _ _ rfl (St.stv v) _ SR Tryd.underlying23 rfl hinfo ?_)
    | (go_at_call 43; (with_reducible refine (NC.out _).mono ?_); rintro e w1 ⟨g, rfl, r1, b1⟩))
  have hb1 := hb0.trans (b1.mono hb0.size)
  clear SR hinfo hlen hb0 NC
  have HCI := Lib.hid (St.chk_iff v)
  have HNO := Lib.hid (fun i (hi : i < 18) h => St.chk_no (v := v) hi h)
  go_loopw [4] (fun i wr => ∃ k : Nat, k ≤ 18 ∧ i = .int .i64 k ∧ Hid (∀ j, j < k → St.low j ≤ v j ∧ v j ≤ St.high j) ∧ Below w1.heap.size w1 wr) (fun i _ => 18 - (intOf i).toNat)
  case atStart => exact ⟨0, by omega, rfl, Lib.hid (fun j hj => by omega), Below.refl _ _⟩
  case round =>
    obtain ⟨k, hk, rfl, HK, hbw⟩ := hrel
    obtain ⟨wo, rfl⟩ : ∃ wo : World, wo = wr := ⟨_, rfl⟩
    have hbW := hb1.trans (hbw.mono hb1.size)
    by_cases hlt : k < 18
    · have r2 := r1.later hbw
      obtain ⟨g', o', e', hg, hcell⟩ := r2.2 (by omega)
      cases e'
      have ck := hcell k _ (vals_at v hlt)
      rw [Nat.zero_add] at ck
      have hkI : (k : Int) < 18 := by omega
      have hk0 : (0 : Int) ≤ (k : Int) := by omega
      have HN := Lib.hid (HNO.out k hlt)
      have HIN := Lib.hid (St.inR_iff v k)
      clear hcell r2
      by_cases h1 : v k < St.low k
      · have HC := Lib.hid (HN.out (by rw [Bool.eq_false_iff]; intro e; have := HIN.out.1 e; omega))
        have hd1 : decide (v k < St.low k) = true := decide_eq_true h1
        go_wp2
        refine wp_region_held_drew (S := fun w' => w'.cell? ⟨g, k, none⟩ = some (.int .i64 (v k)) ∧ Below w1.heap.size w1 w') (by kernel_rfl) ⟨ck, hbw.drew⟩ (fun hHeld => ?_)
        refine wpAnyH_take (i := 0) (v := ?_) rfl (by kernel_rfl) (by kernel_rfl) (by kernel_rfl) (fun _ _ _ h => h) (Or.inl ⟨by rfl, ?_⟩) (by assumption) ?_
        rotate_left
        · intro w hSw
          (try dsimp only at hSw)
          go_simp
          all_goals (with_reducible rfl)
        try simp only [List.getElem_toArray, List.getElem_cons_succ, List.getElem_cons_zero, Act.put, List.setIfInBounds_toArray, List.set_cons_zero, List.set_cons_succ]
        refine wpAnyH_take (i := 1) (v := ?_) rfl (by kernel_rfl) (by kernel_rfl) (by kernel_rfl) (fun _ _ _ h => h) (Or.inl ⟨by rfl, ?_⟩) (by assumption) ?_
        rotate_left
        · intro w hSw
          (try dsimp only at hSw)
          go_simp
          all_goals (with_reducible rfl)
        try simp only [List.getElem_toArray, List.getElem_cons_succ, List.getElem_cons_zero, Act.put, List.setIfInBounds_toArray, List.set_cons_zero, List.set_cons_succ]
        refine wpAnyH_take (i := 2) (v := ?_) rfl (by kernel_rfl) (by kernel_rfl) (by kernel_rfl) (fun _ _ _ h => h) (Or.inl ⟨by rfl, ?_⟩) (by assumption) ?_
        rotate_left
        · intro w hSw
          (try dsimp only at hSw)
          go_simp
          all_goals (with_reducible rfl)
        try simp only [List.getElem_toArray, List.getElem_cons_succ, List.getElem_cons_zero, Act.put, List.setIfInBounds_toArray, List.set_cons_zero, List.set_cons_succ]
        refine wpAnyH_take (i := 3) (v := ?_) rfl (by kernel_rfl) (by kernel_rfl) (by kernel_rfl) (fun _ _ _ h => h) (Or.inl ⟨by rfl, ?_⟩) (by assumption) ?_
        rotate_left
        · intro w hSw
          (try dsimp only at hSw)
          go_simp
          all_goals (with_reducible rfl)
        try simp only [List.getElem_toArray, List.getElem_cons_succ, List.getElem_cons_zero, Act.put, List.setIfInBounds_toArray, List.set_cons_zero, List.set_cons_succ]
        refine wpAnyH_take (i := 4) (v := ?_) rfl (by kernel_rfl) (by kernel_rfl) (by kernel_rfl) (fun _ _ _ h => h) (Or.inl ⟨by rfl, ?_⟩) (by assumption) ?_
        rotate_left
        · intro w hSw
          (try dsimp only at hSw)
          go_simp
          all_goals (with_reducible rfl)
        try simp only [List.getElem_toArray, List.getElem_cons_succ, List.getElem_cons_zero, Act.put, List.setIfInBounds_toArray, List.set_cons_zero, List.set_cons_succ]
        refine wpAnyH_ready (rs := [5]) (by kernel_rfl) (by simp) ?_
        refine AllReadyH.cons rfl (fun K hK => ?_) AllReadyH.nil
        go_simp
        go_at_call 44
        refine (refentry_keep k hlt w1 ⟨g, k, none⟩ (.int .i64 (v k)) _ hHeld).mono ?_
        rintro e w' ⟨rfl, hx1, hx2⟩
        go_wp2_with fail
        refine hK.out _ _ ⟨hx1, hx2⟩ (fun hHeld2 => ?_)
        clear hK K hHeld
        try simp only [List.getElem_toArray, List.getElem_cons_succ, List.getElem_cons_zero, Act.put, List.setIfInBounds_toArray, List.set_cons_zero, List.set_cons_succ]
        refine wpAnyH_take (i := 6) (v := ?_) rfl (by kernel_rfl) (by kernel_rfl) (by kernel_rfl) (fun _ _ _ h => h) (Or.inl ⟨by rfl, ?_⟩) (by assumption) ?_
        rotate_left
        · intro w hSw
          (try dsimp only at hSw)
          go_simp
          all_goals (with_reducible rfl)
        try simp only [List.getElem_toArray, List.getElem_cons_succ, List.getElem_cons_zero, Act.put, List.setIfInBounds_toArray, List.set_cons_zero, List.set_cons_succ]
        refine wpAnyH_take (i := 7) (v := ?_) rfl (by kernel_rfl) (by kernel_rfl) (by kernel_rfl) (fun _ _ _ h => h) (Or.inl ⟨by rfl, ?_⟩) (by assumption) ?_
        rotate_left
        · intro w hSw
          (try dsimp only at hSw)
          go_simp
          all_goals (with_reducible rfl)
        try simp only [List.getElem_toArray, List.getElem_cons_succ, List.getElem_cons_zero, Act.put, List.setIfInBounds_toArray, List.set_cons_zero, List.set_cons_succ]
        refine wpAnyH_take (i := 8) (v := ?_) rfl (by kernel_rfl) (by kernel_rfl) (by kernel_rfl) (fun _ _ _ h => h) (Or.inl ⟨by rfl, ?_⟩) (by assumption) ?_
        rotate_left
        · intro w hSw
          (try dsimp only at hSw)
          go_simp
          all_goals (with_reducible rfl)
        try simp only [List.getElem_toArray, List.getElem_cons_succ, List.getElem_cons_zero, Act.put, List.setIfInBounds_toArray, List.set_cons_zero, List.set_cons_succ]
        refine wpAnyH_take (i := 9) (v := undef) rfl (by kernel_rfl) (by kernel_rfl) (by kernel_rfl) (fun _ _ _ h => h) (Or.inr ⟨by rfl, rfl⟩) (by assumption) ?_
        try simp only [List.getElem_toArray, List.getElem_cons_succ, List.getElem_cons_zero, Act.put, List.setIfInBounds_toArray, List.set_cons_zero, List.set_cons_succ]
        refine wpAnyH_take (i := 10) (v := undef) rfl (by kernel_rfl) (by kernel_rfl) (by kernel_rfl) (fun _ _ _ h => h) (Or.inr ⟨by rfl, rfl⟩) (by assumption) ?_
        try simp only [List.getElem_toArray, List.getElem_cons_succ, List.getElem_cons_zero, Act.put, List.setIfInBounds_toArray, List.set_cons_zero, List.set_cons_succ]
        refine wpAnyH_take (i := 11) (v := undef) rfl (by kernel_rfl) (by kernel_rfl) (by kernel_rfl) (fun _ _ _ h => h) (Or.inr ⟨by rfl, rfl⟩) (by assumption) ?_
        try simp only [List.getElem_toArray, List.getElem_cons_succ, List.getElem_cons_zero, Act.put, List.setIfInBounds_toArray, List.set_cons_zero, List.set_cons_succ]
        refine wpAnyH_take (i := 12) (v := undef) rfl (by kernel_rfl) (by kernel_rfl) (by kernel_rfl) (fun _ _ _ h => h) (Or.inr ⟨by rfl, rfl⟩) (by assumption) ?_
        try simp only [List.getElem_toArray, List.getElem_cons_succ, List.getElem_cons_zero, Act.put, List.setIfInBounds_toArray, List.set_cons_zero, List.set_cons_succ]
        refine wpAnyH_take (i := 13) (v := undef) rfl (by kernel_rfl) (by kernel_rfl) (by kernel_rfl) (fun _ _ _ h => h) (Or.inr ⟨by rfl, rfl⟩) (by assumption) ?_
        try simp only [List.getElem_toArray, List.getElem_cons_succ, List.getElem_cons_zero, Act.put, List.setIfInBounds_toArray, List.set_cons_zero, List.set_cons_succ]
        refine wpAnyH_take (i := 14) (v := undef) rfl (by kernel_rfl) (by kernel_rfl) (by kernel_rfl) (fun _ _ _ h => h) (Or.inr ⟨by rfl, rfl⟩) (by assumption) ?_
        try simp only [List.getElem_toArray, List.getElem_cons_succ, List.getElem_cons_zero, Act.put, List.setIfInBounds_toArray, List.set_cons_zero, List.set_cons_succ]
        refine wpAnyH_take (i := 15) (v := undef) rfl (by kernel_rfl) (by kernel_rfl) (by kernel_rfl) (fun _ _ _ h => h) (Or.inr ⟨by rfl, rfl⟩) (by assumption) ?_
        try simp only [List.getElem_toArray, List.getElem_cons_succ, List.getElem_cons_zero, Act.put, List.setIfInBounds_toArray, List.set_cons_zero, List.set_cons_succ]
        refine wpAnyH_take (i := 16) (v := undef) rfl (by kernel_rfl) (by kernel_rfl) (by kernel_rfl) (fun _ _ _ h => h) (Or.inr ⟨by rfl, rfl⟩) (by assumption) ?_
        try simp only [List.getElem_toArray, List.getElem_cons_succ, List.getElem_cons_zero, Act.put, List.setIfInBounds_toArray, List.set_cons_zero, List.set_cons_succ]
        refine wpAnyH_take (i := 17) (v := ?_) rfl (by kernel_rfl) (by kernel_rfl) (by kernel_rfl) (fun _ _ _ h => h) (Or.inl ⟨by rfl, ?_⟩) (by assumption) ?_
        rotate_left
        · intro w hSw
          (try dsimp only at hSw)
          go_simp
          all_goals (with_reducible rfl)
        try simp only [List.getElem_toArray, List.getElem_cons_succ, List.getElem_cons_zero, Act.put, List.setIfInBounds_toArray, List.set_cons_zero, List.set_cons_succ]
        refine wpAnyH_done (by kernel_rfl) ?_ _
        all_goals go_wp2
        all_goals go_ret
        all_goals exact ⟨by rw [← HER.out, HC.out]; rfl, hb1.trans ((by assumption : Below w1.heap.size w1 _).mono hb1.size)⟩
      · have hd1 : decide (v k < St.low k) = false := decide_eq_false h1
        by_cases h2 : St.high k < v k
        · have HC := Lib.hid (HN.out (by rw [Bool.eq_false_iff]; intro e; have := HIN.out.1 e; omega))
          have hd2 : decide (St.high k < v k) = true := decide_eq_true h2
          go_wp2
          go_region_held3 (fun w' => w'.cell? ⟨g, k, none⟩ = some (.int .i64 (v k)) ∧ Below w1.heap.size w1 w') (first | (refine And.intro ?_ ?_ <;> (first | assumption | (exact Below.drew (by assumption)) | go_keep)) | assumption | (exact Below.drew (by assumption)) | go_keep) ((first | (go_at_call 44; go_loud (refine (refentry_keep k hlt w1 ⟨g, k, none⟩ (.int .i64 (v k)) _ ?_).mono ?_; (first | assumption | (refine And.intro ?_ ?_ <;> (first | assumption | (exact Below.drew (by assumption)) | (simp [*])))); rintro e w' ⟨rfl, hx1, hx2⟩))))
          all_goals go_wp2
          all_goals go_ret
          all_goals exact ⟨by rw [← HER.out, HC.out]; rfl, hb1.trans ((by assumption : Below w1.heap.size w1 _).mono hb1.size)⟩
        · have hd2 : decide (St.high k < v k) = false := decide_eq_false h2
          have HK2 : Hid (∀ j, j < k + 1 → St.low j ≤ v j ∧ v j ≤ St.high j) := Lib.hid (fun j hj => by
            rcases Nat.lt_succ_iff_lt_or_eq.1 hj with h | h
            · exact HK.out j h
            · subst h; exact ⟨by omega, by omega⟩)
          go_wp2
          go_region_held3 (fun w' => w'.cell? ⟨g, k, none⟩ = some (.int .i64 (v k)) ∧ Below w1.heap.size w1 w') (first | (refine And.intro ?_ ?_ <;> (first | assumption | (exact Below.drew (by assumption)) | go_keep)) | assumption | (exact Below.drew (by assumption)) | go_keep) ((first | (go_at_call 44; go_loud (refine (refentry_keep k hlt w1 ⟨g, k, none⟩ (.int .i64 (v k)) _ ?_).mono ?_; (first | assumption | (refine And.intro ?_ ?_ <;> (first | assumption | (exact Below.drew (by assumption)) | (simp [*])))); rintro e w' ⟨rfl, hx1, hx2⟩))))
          all_goals go_wp2
          all_goals go_roundw
          case rel => exact ⟨k + 1, by omega, by go_num, HK2, by assumption⟩
          case measure => simp [intOf]; omega
    · obtain rfl : k = 18 := by omega
      have HC := Lib.hid (HCI.out.2 (fun i hi => HK.out i hi))
      go_wp2
      go_ret
      exact ⟨by rw [← HER.out, if_pos HC.out]; rfl, hbW⟩

end Go.Proofs.YtliabgcpciekpaaDoor
