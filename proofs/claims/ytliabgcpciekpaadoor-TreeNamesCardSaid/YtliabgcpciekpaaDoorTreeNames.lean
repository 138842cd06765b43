/- The law TreeNames, walked. -/
import Derived.Test.YtliabgcpciekpaaDoorTrM
import Derived.Test.YtliabgcpciekpaaDoorTrN
import Derived.Test.YtliabgcpciekpaaDoorTrK
set_option linter.unusedVariables false
set_option linter.unusedSimpArgs false
namespace Go.Proofs.YtliabgcpciekpaaDoor
open Go Go.RowKit Go.Maps

theorem sl_form {W : World} {base : Nat} {v : Value} {l : List Tr.T} {n : Nat} (h : W.ownsRow base 9 1 v l.length (sts l)) (hn : l.length = n) : ∃ A c, v = .slice A n c ∧ Rd W 1 A n (sts l) := by
  rw [hn] at h
  obtain ⟨A, c, e, _, r⟩ := own_form h
  exact ⟨A, c, e, r⟩
theorem tn1_r : nsRes (Tr.nms Tr.fewL) [97, 47, 46, 99, 102, 109, 116] = .tuple #[.string ⟨#[97, 47, 46, 99, 102, 109, 116]⟩, .bool true, .int .i64 0] := by kernel_rfl
theorem tn1 (W : World) (A : Option Addr) (c : Nat) (h : Rd W 2 A 3 (fls Tr.fewL)) : Calls Tryd.prog 24 #[.slice A 3 c, .string ⟨#[97, 47, 46, 99, 102, 109, 116]⟩] W fun e w' => e = .returned (.tuple #[.string ⟨#[97, 47, 46, 99, 102, 109, 116]⟩, .bool true, .int .i64 0]) ∧ Below W.heap.size W w' :=
  (Nearest_any A c Tr.fewL [97, 47, 46, 99, 102, 109, 116] W h (by decide) few_bd (by decide)).mono fun e w' q => ⟨q.1.trans (congrArg Ending.returned tn1_r), q.2⟩
theorem tn2_r : nsRes (Tr.nms ([] : List (Tr.T × Tr.T))) [120] = .tuple #[.string ⟨#[]⟩, .bool false, .int .i64 0] := by kernel_rfl
theorem tn2 (W : World) : Calls Tryd.prog 24 #[.slice none 0 0, .string ⟨#[120]⟩] W fun e w' => e = .returned (.tuple #[.string ⟨#[]⟩, .bool false, .int .i64 0]) ∧ Below W.heap.size W w' :=
  (Nearest_any none 0 [] [120] W (Rd.nil _ _ _) (by decide) (by simp) (by decide)).mono fun e w' q => ⟨q.1.trans (congrArg Ending.returned tn2_r), q.2⟩
theorem tn3_r : nsRes (Tr.nms Tr.fewL) [47, 120] = .tuple #[.string ⟨#[]⟩, .bool false, .int .i64 220] := by kernel_rfl
theorem tn3 (W : World) (A : Option Addr) (c : Nat) (h : Rd W 2 A 3 (fls Tr.fewL)) : Calls Tryd.prog 24 #[.slice A 3 c, .string ⟨#[47, 120]⟩] W fun e w' => e = .returned (.tuple #[.string ⟨#[]⟩, .bool false, .int .i64 220]) ∧ Below W.heap.size W w' :=
  (Nearest_any A c Tr.fewL [47, 120] W h (by decide) few_bd (by decide)).mono fun e w' q => ⟨q.1.trans (congrArg Ending.returned tn3_r), q.2⟩
theorem tu1_r : Tr.unL (Tr.nms Tr.fewL) [97] = [[97, 47, 46, 99, 102, 109, 116], [97, 47, 98, 47, 120, 46, 99]] := by kernel_rfl
theorem tu1_e : Tr.unE [97] = 0 := by kernel_rfl
theorem tu1 (W : World) (A : Option Addr) (c : Nat) (h : Rd W 2 A 3 (fls Tr.fewL)) : Calls Tryd.prog 27 #[.slice A 3 c, .string ⟨#[97]⟩] W fun e w' => ∃ A' c', e = .returned (.tuple #[.slice A' 2 c', .int .i64 0]) ∧ Rd w' 1 A' 2 (sts [[97, 47, 46, 99, 102, 109, 116], [97, 47, 98, 47, 120, 46, 99]]) ∧ Below W.heap.size W w' :=
  (Under_any A c Tr.fewL [97] W h (by decide) few_bd (by decide)).mono fun e w' ⟨v, h1, h2, h3⟩ => by
    obtain ⟨A', c', rfl, r⟩ := sl_form h2 (n := 2) (by rw [tu1_r]; rfl)
    exact ⟨A', c', by rw [h1, tu1_e], by rw [← tu1_r]; exact r, h3⟩
theorem tu2_r : Tr.unL (Tr.nms Tr.fewL) [97, 47] = ([] : List Tr.T) := by kernel_rfl
theorem tu2_e : Tr.unE [97, 47] = 220 := by kernel_rfl
theorem tu2 (W : World) (A : Option Addr) (c : Nat) (h : Rd W 2 A 3 (fls Tr.fewL)) : Calls Tryd.prog 27 #[.slice A 3 c, .string ⟨#[97, 47]⟩] W fun e w' => ∃ A' c', e = .returned (.tuple #[.slice A' 0 c', .int .i64 220]) ∧ Rd w' 1 A' 0 (sts ([] : List Tr.T)) ∧ Below W.heap.size W w' :=
  (Under_any A c Tr.fewL [97, 47] W h (by decide) few_bd (by decide)).mono fun e w' ⟨v, h1, h2, h3⟩ => by
    obtain ⟨A', c', rfl, r⟩ := sl_form h2 (n := 0) (by rw [tu2_r]; rfl)
    exact ⟨A', c', by rw [h1, tu2_e], by rw [← tu2_r]; exact r, h3⟩
theorem tu3_r : Tr.unL (Tr.nms Tr.fewL) [] = [[46, 99, 102, 109, 116], [97, 47, 46, 99, 102, 109, 116], [97, 47, 98, 47, 120, 46, 99]] := by kernel_rfl
theorem tu3_e : Tr.unE [] = 0 := by kernel_rfl
theorem tu3 (W : World) (A : Option Addr) (c : Nat) (h : Rd W 2 A 3 (fls Tr.fewL)) : Calls Tryd.prog 27 #[.slice A 3 c, .string ⟨#[]⟩] W fun e w' => ∃ A' c', e = .returned (.tuple #[.slice A' 3 c', .int .i64 0]) ∧ Rd w' 1 A' 3 (sts [[46, 99, 102, 109, 116], [97, 47, 46, 99, 102, 109, 116], [97, 47, 98, 47, 120, 46, 99]]) ∧ Below W.heap.size W w' :=
  (Under_any A c Tr.fewL [] W h (by decide) few_bd (by decide)).mono fun e w' ⟨v, h1, h2, h3⟩ => by
    obtain ⟨A', c', rfl, r⟩ := sl_form h2 (n := 3) (by rw [tu3_r]; rfl)
    exact ⟨A', c', by rw [h1, tu3_e], by rw [← tu3_r]; exact r, h3⟩
theorem tf1_r : frRes Tr.fewL [] = .tuple #[.agg (St.stv (fv 0)).toArray, .string ⟨#[]⟩, .int .i64 220] := by unfold frRes Tr.frV Tr.frE Tr.nsN; rfl
theorem tf1 (W : World) (A : Option Addr) (c : Nat) (h : Rd W 2 A 3 (fls Tr.fewL)) : Calls Tryd.prog 26 #[.slice A 3 c, .string ⟨#[]⟩] W fun e w' => e = .returned (.tuple #[.agg (St.stv (fv 0)).toArray, .string ⟨#[]⟩, .int .i64 220]) ∧ Below W.heap.size W w' :=
  (For_any A c Tr.fewL [] W h (by decide) few_bd (by decide)).mono fun e w' q => ⟨q.1.trans (congrArg Ending.returned tf1_r), q.2⟩
def wfL : List (Tr.T × Tr.T) := [([98, 47, 46, 99, 102, 109, 116], [110, 111]), ([97, 47, 46, 99, 102, 109, 116], [110, 111]), ([46, 99, 102, 109, 116], []), ([120, 46, 99], [110, 111])]
theorem tw_r : Tr.und (Tr.nms wfL) (Tr.wrq wfL) = [[97, 47, 46, 99, 102, 109, 116], [98, 47, 46, 99, 102, 109, 116]] := by kernel_rfl
theorem tw (W : World) : Calls Tryd.prog 32 #[.slice (some ⟨W.heap.size, 0, none⟩) 4 4] (W.alloc (.cells #[.string ⟨#[98, 47, 46, 99, 102, 109, 116]⟩, .string ⟨#[110, 111]⟩, .string ⟨#[97, 47, 46, 99, 102, 109, 116]⟩, .string ⟨#[110, 111]⟩, .string ⟨#[46, 99, 102, 109, 116]⟩, .string ⟨#[]⟩, .string ⟨#[120, 46, 99]⟩, .string ⟨#[110, 111]⟩] 43)) fun e w' => ∃ A' c', e = .returned (.slice A' 2 c') ∧ Rd w' 1 A' 2 (sts [[97, 47, 46, 99, 102, 109, 116], [98, 47, 46, 99, 102, 109, 116]]) ∧ Below W.heap.size W w' := by
  have hrd : Rd (W.alloc (.cells #[.string ⟨#[98, 47, 46, 99, 102, 109, 116]⟩, .string ⟨#[110, 111]⟩, .string ⟨#[97, 47, 46, 99, 102, 109, 116]⟩, .string ⟨#[110, 111]⟩, .string ⟨#[46, 99, 102, 109, 116]⟩, .string ⟨#[]⟩, .string ⟨#[120, 46, 99]⟩, .string ⟨#[110, 111]⟩] 43)) 2 (some ⟨W.heap.size, 0, none⟩) 4 (fls wfL) := by
    refine ⟨rfl, fun _ => ⟨W.heap.size, 0, rfl, by simp, fun j u hu => ?_⟩⟩
    rw [Nat.zero_add]
    refine (Lib.cell_of_heap (heap_alloc_new W _) j).trans ?_
    rw [← hu]
    simp [fls, wfL, bs]
  refine (Wrong_any (some ⟨W.heap.size, 0, none⟩) 4 wfL _ hrd (by decide) (by decide)).mono fun e w' ⟨v, h1, h2, h3⟩ => ?_
  obtain ⟨A', c', rfl, r⟩ := sl_form h2 (n := 2) (by rw [tw_r]; rfl)
  have hb := (Below.refl W.heap.size W).alloc (Nat.le_refl _) (.cells #[.string ⟨#[98, 47, 46, 99, 102, 109, 116]⟩, .string ⟨#[110, 111]⟩, .string ⟨#[97, 47, 46, 99, 102, 109, 116]⟩, .string ⟨#[110, 111]⟩, .string ⟨#[46, 99, 102, 109, 116]⟩, .string ⟨#[]⟩, .string ⟨#[120, 46, 99]⟩, .string ⟨#[110, 111]⟩] 43)
  exact ⟨A', c', h1, by rw [← tw_r]; exact r, hb.trans (h3.mono hb.size)⟩
noncomputable def tfV : Nat → Int := Tr.frV [([46, 99, 102, 109, 116], [110, 111])] [120, 47, 121]
theorem tf2_r : frRes [([46, 99, 102, 109, 116], [110, 111])] [120, 47, 121] = .tuple #[.agg (St.stv tfV).toArray, .string ⟨#[46, 99, 102, 109, 116]⟩, .int .i64 90] := by
  have e1 : Tr.frE [([46, 99, 102, 109, 116], [110, 111])] [120, 47, 121] = 90 := by kernel_rfl
  have e2 : Tr.nsN (Tr.nms [(([46, 99, 102, 109, 116] : Tr.T), ([110, 111] : Tr.T))]) [120, 47, 121] = [46, 99, 102, 109, 116] := by kernel_rfl
  unfold frRes tfV; rw [e1, e2]; rfl
theorem tf2 (W : World) : Calls Tryd.prog 26 #[.slice (some ⟨W.heap.size, 0, none⟩) 1 1, .string ⟨#[120, 47, 121]⟩] (W.alloc (.cells #[.string ⟨#[46, 99, 102, 109, 116]⟩, .string ⟨#[110, 111]⟩] 43)) fun e w' => e = .returned (.tuple #[.agg (St.stv tfV).toArray, .string ⟨#[46, 99, 102, 109, 116]⟩, .int .i64 90]) ∧ Below W.heap.size W w' := by
  have hrd : Rd (W.alloc (.cells #[.string ⟨#[46, 99, 102, 109, 116]⟩, .string ⟨#[110, 111]⟩] 43)) 2 (some ⟨W.heap.size, 0, none⟩) 1 (fls [([46, 99, 102, 109, 116], [110, 111])]) := by
    refine ⟨rfl, fun _ => ⟨W.heap.size, 0, rfl, by simp, fun j u hu => ?_⟩⟩
    rw [Nat.zero_add]
    refine (Lib.cell_of_heap (heap_alloc_new W _) j).trans ?_
    rw [← hu]
    simp [fls, bs]
  have hb := (Below.refl W.heap.size W).alloc (Nat.le_refl _) (.cells #[.string ⟨#[46, 99, 102, 109, 116]⟩, .string ⟨#[110, 111]⟩] 43)
  exact (For_any (some ⟨W.heap.size, 0, none⟩) 1 [([46, 99, 102, 109, 116], [110, 111])] [120, 47, 121] _ hrd (by decide) (by decide) (by decide)).mono fun e w' q => ⟨q.1.trans (congrArg Ending.returned tf2_r), hb.trans (q.2.mono hb.size)⟩
theorem tp0 (W : World) : Calls Tryd.prog 25 #[.string ⟨#[97, 47, 98]⟩] W fun e w' => e = .returned (.bool true) ∧ Below W.heap.size W w' :=
  (Path_any ⟨#[97, 47, 98]⟩ W (by decide)).mono fun e w' q => ⟨q.1.trans (congrArg (fun b => Ending.returned (.bool b)) (show Tr.isPath [97, 47, 98] = true by kernel_rfl)), q.2⟩
theorem tp1 (W : World) : Calls Tryd.prog 25 #[.string ⟨#[97, 47, 47, 98]⟩] W fun e w' => e = .returned (.bool false) ∧ Below W.heap.size W w' :=
  (Path_any ⟨#[97, 47, 47, 98]⟩ W (by decide)).mono fun e w' q => ⟨q.1.trans (congrArg (fun b => Ending.returned (.bool b)) (show Tr.isPath [97, 47, 47, 98] = false by kernel_rfl)), q.2⟩
theorem tp2 (W : World) : Calls Tryd.prog 25 #[.string ⟨#[46, 46]⟩] W fun e w' => e = .returned (.bool false) ∧ Below W.heap.size W w' :=
  (Path_any ⟨#[46, 46]⟩ W (by decide)).mono fun e w' q => ⟨q.1.trans (congrArg (fun b => Ending.returned (.bool b)) (show Tr.isPath [46, 46] = false by kernel_rfl)), q.2⟩
theorem tp3 (W : World) : Calls Tryd.prog 25 #[.string ⟨#[97, 32, 98]⟩] W fun e w' => e = .returned (.bool false) ∧ Below W.heap.size W w' :=
  (Path_any ⟨#[97, 32, 98]⟩ W (by decide)).mono fun e w' q => ⟨q.1.trans (congrArg (fun b => Ending.returned (.bool b)) (show Tr.isPath [97, 32, 98] = false by kernel_rfl)), q.2⟩
theorem tp4 (W : World) : Calls Tryd.prog 25 #[.string ⟨#[46, 97]⟩] W fun e w' => e = .returned (.bool true) ∧ Below W.heap.size W w' :=
  (Path_any ⟨#[46, 97]⟩ W (by decide)).mono fun e w' q => ⟨q.1.trans (congrArg (fun b => Ending.returned (.bool b)) (show Tr.isPath [46, 97] = true by kernel_rfl)), q.2⟩

set_option maxRecDepth 100000 in
set_option maxHeartbeats 16000000 in
theorem TreeNames_any (w : World) :
    Calls Tryd.prog 12 #[] w fun e w' => e = .returned (.bool true) ∧ Below w.heap.size w w' := by
  have Ktn1 := Lib.hid tn1
  have Ktn2 := Lib.hid tn2
  have Ktn3 := Lib.hid tn3
  have Ktu1 := Lib.hid tu1
  have Ktu2 := Lib.hid tu2
  have Ktu3 := Lib.hid tu3
  have Ktf1 := Lib.hid tf1
  have Ktw := Lib.hid tw
  have Ktf2 := Lib.hid tf2
  have Ktp0 := Lib.hid tp0
  have Ktp1 := Lib.hid tp1
  have Ktp2 := Lib.hid tp2
  have Ktp3 := Lib.hid tp3
  have Ktp4 := Lib.hid tp4
  have FW := Lib.hid (fun W => few_any W)
  have AL := Lib.hid (fun W => treeAlive_any W)
  have B0 := Lib.hid (Below.refl w.heap.size w)
  go_enter Tryd.func12, Tryd.ntmps12
  go_wp2_with (first
    | (go_at_call 36; refine (FW.out w).mono ?_; rintro e w1 ⟨A1, c1, rfl, r1, b1⟩; have B1 := Lib.hid (B0.out.trans (b1.mono B0.out.size)))
    | (go_at_call 24; (with_reducible refine (Ktn1.out _ _ _ r1).mono ?_); rintro e w2 ⟨rfl, b2⟩; have B2 := Lib.hid (B1.out.trans (b2.mono B1.out.size)))
    | (go_at_call 36; refine (FW.out w2).mono ?_; rintro e w3 ⟨A3, c3, rfl, r3, b3⟩; have B3 := Lib.hid (B2.out.trans (b3.mono B2.out.size)))
    | (go_at_call 27; (with_reducible refine (Ktu1.out _ _ _ r3).mono ?_); rintro e w4 ⟨AU1, cU1, rfl, rU1, b4⟩; have B4 := Lib.hid (B3.out.trans (b4.mono B3.out.size)); have RU1_4 := Lib.hid rU1)
    | (go_at_call 24; (with_reducible refine (Ktn2.out w4).mono ?_); rintro e w5 ⟨rfl, b5⟩; have B5 := Lib.hid (B4.out.trans (b5.mono B4.out.size)); have RU1_5 := Lib.hid (RU1_4.out.later b5))
    | (go_at_call 36; refine (FW.out w5).mono ?_; rintro e w6 ⟨A6, c6, rfl, r6, b6⟩; have B6 := Lib.hid (B5.out.trans (b6.mono B5.out.size)); have RU1_6 := Lib.hid (RU1_5.out.later b6))
    | (go_at_call 24; (with_reducible refine (Ktn3.out _ _ _ r6).mono ?_); rintro e w7 ⟨rfl, b7⟩; have B7 := Lib.hid (B6.out.trans (b7.mono B6.out.size)); have RU1_7 := Lib.hid (RU1_6.out.later b7))
    | (go_at_call 36; refine (FW.out w7).mono ?_; rintro e w8 ⟨A8, c8, rfl, r8, b8⟩; have B8 := Lib.hid (B7.out.trans (b8.mono B7.out.size)); have RU1_8 := Lib.hid (RU1_7.out.later b8))
    | (go_at_call 26; (with_reducible refine (Ktf1.out _ _ _ r8).mono ?_); rintro e w9 ⟨rfl, b9⟩; have B9 := Lib.hid (B8.out.trans (b9.mono B8.out.size)); have RU1_9 := Lib.hid (RU1_8.out.later b9))
    | (refine wpList_store_mid rfl _ _ _ rfl _ _ (St.stv (fv 0)).toArray rfl rfl (st_there w9 (fv 0)) (sty_info (fv 0)) (sty_one (fv 0)) ?_; refine gen_world2 (Q := fun W => wpList _ _ _ _ _ W) (fun W => Sty W w9.heap.size (fv 0) ∧ Below w9.heap.size w9 W ∧ W.heap.size = w9.heap.size + 1) (st_first w9 (fv 0)) ?_; rintro w10 ⟨_, b10, -⟩; have B10 := Lib.hid (B9.out.trans (b10.mono B9.out.size)); have RU1_10 := Lib.hid (RU1_9.out.later b10); (try dsimp only); simp only [Act.put, List.setIfInBounds_toArray, List.set_cons_zero, List.set_cons_succ])
    | (go_at_call 36; refine (FW.out w10).mono ?_; rintro e w11 ⟨A11, c11, rfl, r11, b11⟩; have B11 := Lib.hid (B10.out.trans (b11.mono B10.out.size)); have RU1_11 := Lib.hid (RU1_10.out.later b11))
    | (go_at_call 27; (with_reducible refine (Ktu2.out _ _ _ r11).mono ?_); rintro e w12 ⟨AU2, cU2, rfl, rU2, b12⟩; have B12 := Lib.hid (B11.out.trans (b12.mono B11.out.size)); have RU1_12 := Lib.hid (RU1_11.out.later b12))
    | (go_at_call 36; refine (FW.out w12).mono ?_; rintro e w13 ⟨A13, c13, rfl, r13, b13⟩; have B13 := Lib.hid (B12.out.trans (b13.mono B12.out.size)); have RU1_13 := Lib.hid (RU1_12.out.later b13))
    | (go_at_call 27; (with_reducible refine (Ktu3.out _ _ _ r13).mono ?_); rintro e w14 ⟨AU3, cU3, rfl, rU3, b14⟩; have B14 := Lib.hid (B13.out.trans (b14.mono B13.out.size)); have RU1_14 := Lib.hid (RU1_13.out.later b14); have RU3_14 := Lib.hid rU3)
    | (go_at_call 32; (with_reducible refine (Ktw.out w14).mono ?_); rintro e w15 ⟨AW, cW, rfl, rW, b15⟩; have B15 := Lib.hid (B14.out.trans (b15.mono B14.out.size)); have RU1_15 := Lib.hid (RU1_14.out.later b15); have RU3_15 := Lib.hid (RU3_14.out.later b15); have RW_15 := Lib.hid rW)
    | (go_at_call 26; (with_reducible refine (Ktf2.out w15).mono ?_); rintro e w16 ⟨rfl, b16⟩; have B16 := Lib.hid (B15.out.trans (b16.mono B15.out.size)); have RU1_16 := Lib.hid (RU1_15.out.later b16); have RU3_16 := Lib.hid (RU3_15.out.later b16); have RW_16 := Lib.hid (RW_15.out.later b16))
    | (refine wpList_store_mid rfl _ _ _ rfl _ _ (St.stv tfV).toArray rfl rfl (st_there w16 tfV) (sty_info tfV) (sty_one tfV) ?_; refine gen_world2 (Q := fun W => wpList _ _ _ _ _ W) (fun W => Sty W w16.heap.size tfV ∧ Below w16.heap.size w16 W ∧ W.heap.size = w16.heap.size + 1) (st_first w16 tfV) ?_; rintro w17 ⟨_, b17, -⟩; have B17 := Lib.hid (B16.out.trans (b17.mono B16.out.size)); have RU1_17 := Lib.hid (RU1_16.out.later b17); have RU3_17 := Lib.hid (RU3_16.out.later b17); have RW_17 := Lib.hid (RW_16.out.later b17); obtain ⟨ga, oa, rfl, _, pa⟩ := RU1_17.out.st (k := 0) (e := [97, 47, 46, 99, 102, 109, 116]) rfl; obtain ⟨ga', oa', ea, _, pa'⟩ := RU1_17.out.st (k := 1) (e := [97, 47, 98, 47, 120, 46, 99]) rfl; cases ea; obtain ⟨gc, oc, rfl, _, pc⟩ := RU3_17.out.st (k := 0) (e := [46, 99, 102, 109, 116]) rfl; have qa : w17.cell? ⟨ga, oa, none⟩ = some (.string ⟨#[97, 47, 46, 99, 102, 109, 116]⟩) := pa; have qa' : w17.cell? ⟨ga, oa + 1, none⟩ = some (.string ⟨#[97, 47, 98, 47, 120, 46, 99]⟩) := pa'; have qc : w17.cell? ⟨gc, oc, none⟩ = some (.string ⟨#[46, 99, 102, 109, 116]⟩) := pc; clear pa pa' pc; (try dsimp only); simp only [Act.put, List.setIfInBounds_toArray, List.set_cons_zero, List.set_cons_succ])
    | (go_at_call 22; (with_reducible refine (AL.out w17).mono ?_); rintro e w18 ⟨rfl, b18⟩; have B18 := Lib.hid (B17.out.trans (b18.mono B17.out.size)); have RW_18 := Lib.hid (RW_17.out.later b18); obtain ⟨gw, ow, rfl, _, pw⟩ := RW_18.out.st (k := 0) (e := [97, 47, 46, 99, 102, 109, 116]) rfl; have qw : w18.cell? ⟨gw, ow, none⟩ = some (.string ⟨#[97, 47, 46, 99, 102, 109, 116]⟩) := pw; clear pw)
    | (go_at_call 25; (with_reducible refine (Ktp0.out w18).mono ?_); rintro e w19 ⟨rfl, b19⟩; have B19 := Lib.hid (B18.out.trans (b19.mono B18.out.size)))
    | (go_at_call 25; (with_reducible refine (Ktp1.out w19).mono ?_); rintro e w20 ⟨rfl, b20⟩; have B20 := Lib.hid (B19.out.trans (b20.mono B19.out.size)))
    | (go_at_call 25; (with_reducible refine (Ktp2.out w20).mono ?_); rintro e w21 ⟨rfl, b21⟩; have B21 := Lib.hid (B20.out.trans (b21.mono B20.out.size)))
    | (go_at_call 25; (with_reducible refine (Ktp3.out w21).mono ?_); rintro e w22 ⟨rfl, b22⟩; have B22 := Lib.hid (B21.out.trans (b22.mono B21.out.size)))
    | (go_at_call 25; (with_reducible refine (Ktp4.out w22).mono ?_); rintro e w23 ⟨rfl, b23⟩; have B23 := Lib.hid (B22.out.trans (b23.mono B22.out.size))))
  go_ret
  exact ⟨rfl, B23.out⟩

end Go.Proofs.YtliabgcpciekpaaDoor
