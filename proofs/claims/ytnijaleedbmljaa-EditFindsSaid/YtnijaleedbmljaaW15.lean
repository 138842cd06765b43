/- Walks: what makes one text of another one (the program's). -/
import Derived.Deep.RegionHeld3
import Derived.Test.YtnijaleedbmljaaPlH
set_option linter.unusedVariables false
set_option linter.unusedSimpArgs false
namespace Go.Proofs.Ytnijaleedbmljaa
open Go Go.RowKit

/-- Where the walk between the pairs stands: the pairs that are left, and the last one behind both lists. -/
def Left (x y : List Pl.T) (i j : Nat) (ps : List (Nat × Nat)) : Prop := ps = [] ∨ ∃ q, ps = q ++ [(x.length, y.length)] ∧ Pl.Aligned x y i j q ∧ i ≤ x.length ∧ j ≤ y.length

theorem Left.start (x y : List Pl.T) : Left x y 0 0 (Pl.pairs 0 0 x y ++ [(x.length, y.length)]) :=
  .inr ⟨_, rfl, Pl.pairs_aligned x y _ 0 0 x y (Nat.le_refl _) rfl rfl, Nat.zero_le _, Nat.zero_le _⟩

theorem Left.step {x y : List Pl.T} {i j : Nat} {p : Nat × Nat} {r : List (Nat × Nat)} (h : Left x y i j (p :: r)) : i ≤ p.1 ∧ p.1 ≤ x.length ∧ j ≤ p.2 ∧ p.2 ≤ y.length ∧ Left x y (p.1 + 1) (p.2 + 1) r := by
  rcases h with h | ⟨q, e, ha, hi, hj⟩
  · cases h
  · cases q with
    | nil =>
      simp only [List.nil_append, List.cons.injEq] at e
      obtain ⟨rfl, rfl⟩ := e
      exact ⟨hi, Nat.le_refl _, hj, Nat.le_refl _, .inl rfl⟩
    | cons p' q =>
      simp only [List.cons_append, List.cons.injEq] at e
      obtain ⟨rfl, rfl⟩ := e
      obtain ⟨h1, h2⟩ := Pl.aligned_lt ha
      obtain ⟨h3, h4, h5, h6⟩ := ha
      exact ⟨h3, by omega, h4, by omega, .inr ⟨q, rfl, h6, by omega, by omega⟩⟩

theorem quo_cast (a : Nat) : ((1048576 : Nat) : Int) / (a : Int) = ((1048576 / a : Nat) : Int) := (Int.natCast_ediv 1048576 a).symm
theorem big_quo {la lb : Nat} (g : 1048576 / la < lb) : decide ((1048576 : Int) / (la : Int) < (lb : Int)) = true := by
  rw [decide_eq_true_eq]
  have h := quo_cast la
  have h2 := Int.ofNat_lt.2 g
  rw [← h] at h2
  exact h2
theorem small_quo {la lb : Nat} (g : ¬ 1048576 / la < lb) : decide ((1048576 : Int) / (la : Int) < (lb : Int)) = false := by
  rw [decide_eq_false_iff_not]
  intro h2
  apply g
  apply Int.ofNat_lt.1
  rw [← quo_cast la]
  exact h2

/-- A part of a slice of strings, at whatever address the slice expression gives it. -/
theorem rd_cut {w : World} {Y Z : Option Addr} {cy n j k : Nat} {y : List Pl.T} (h : Rd w 1 Y n (strs y)) (hn : y.length = n) (hjk : j ≤ k) (hk : k ≤ n) (hc : n ≤ cy) (hZ : (if cy = j then Y else Option.map (fun x => x.add j) Y) = Z) : Rd w 1 Z (k - j) (strs (Pl.cut y j k)) := by
  have hl := Pl.cut_length (x := y) hjk (by omega)
  refine ⟨by rw [strs_length, hl, Nat.mul_one], fun h0 => ?_⟩
  obtain ⟨b, o, e, hb, hx⟩ := h.2 (by omega)
  rw [if_neg (by omega), e] at hZ
  refine ⟨b, o + j, by rw [← hZ]; by_cases hj0 : j = 0 <;> simp [Addr.add, hj0], hb, fun q u hu => ?_⟩
  rw [Nat.add_assoc]
  apply hx
  rw [← hu]
  unfold strs Pl.cut
  simp only [List.getElem?_map, List.getElem?_take, List.getElem?_drop]
  have hq : q < k - j := by
    have := (List.getElem?_eq_some_iff.1 hu).1
    rw [strs_length, hl] at this; exact this
  rw [if_pos hq]

/-- strings.Join with nothing between, of a slice that reads as some strings. -/
theorem joins_rd (Z : Option Addr) (n c : Nat) (xs : List Pl.T) (w : World) (h : Rd w 1 Z n (strs xs)) (hN : n ≤ 1000000000) (hcap : n ≤ c) (hlen : xs.flatten.length ≤ 1000000000) :
    Calls Try.prog 53 #[.slice Z n c, .string ⟨#[]⟩] w fun e w' => e = .returned (.string (bs xs.flatten)) ∧ Below w.heap.size w w' := by
  have hxn : xs.length = n := by have := h.1; rw [strs_length] at this; omega
  rcases Nat.eq_zero_or_pos n with h0 | h0
  · subst h0
    have e := List.eq_nil_of_length_eq_zero hxn
    subst e
    exact joins_none Z c w
  · obtain ⟨b, o, rfl, hb, hx⟩ := h.2 h0
    exact joins_any b o c n xs w (fun j x hj => hx j _ (strs_at hj)) hb hxn hN hcap hlen

set_option maxRecDepth 100000 in
set_option maxHeartbeats 8000000 in
theorem Between_any (s t : ByteArray) (w : World) (hs : s.size ≤ 4000000) (ht : t.size ≤ 4000000) :
    Calls Try.prog 34 #[.string s, .string t] w (BetPost (Pl.lines s.data.toList) (Pl.lines t.data.toList) w) := by
  obtain ⟨hxn, hxT, hxf⟩ := ref_setup hs
  obtain ⟨hyn, hyT, hyf⟩ := ref_setup ht
  obtain ⟨i0, hi, hz0, hz1, hz2⟩ := info_parts prInfo
  obtain ⟨j0, hj, hj0, hj1, hj2⟩ := info_parts edInfo
  have hxT' : ∀ z ∈ Pl.lines s.data.toList, z.length ≤ 4000000 := fun z hz => by have := Pl.mem_le hz; rw [← Lib.size_eq] at this; omega
  have hyT' : ∀ z ∈ Pl.lines t.data.toList, z.length ≤ 4000000 := fun z hz => by have := Pl.mem_le hz; rw [← Lib.size_eq] at this; omega
  have CS := fun w => count_any s w (by omega)
  have CT := fun w => count_any t w (by omega)
  rw [← Pl.lines_length] at CS CT
  have LS := Lib.hid (fun w => Lines_got s w (by omega))
  have LT := Lib.hid (fun w => Lines_got t w (by omega))
  generalize Pl.lines s.data.toList = x at *
  generalize Pl.lines t.data.toList = y at *
  obtain ⟨la, hla⟩ : ∃ n, n = x.length := ⟨_, rfl⟩
  obtain ⟨lb, hlb⟩ : ∃ n, n = y.length := ⟨_, rfl⟩
  rw [← hla] at CS hxn
  rw [← hlb] at CT hyn
  have CS := Lib.hid CS
  have CT := Lib.hid CT
  cases hbig : betBig x y
  · have HN := Lib.hid (fun w' B cb hr hb => BetPost.yes (w := w) (w' := w') hbig (B := B) (cb := cb) hr hb)
    have htab := table_small hbig (by omega) (by omega)
    have d1 : (la ≤ 0 ∧ decide ((0 : Int) < (la : Int)) = false) ∨ (0 < la ∧ decide ((0 : Int) < (la : Int)) = true ∧ decide ((1048576 : Int) / (la : Int) < (lb : Int)) = false) := by
      rcases Nat.eq_zero_or_pos la with h0 | h0
      · exact .inl ⟨by omega, by simp; omega⟩
      · refine .inr ⟨h0, by simp; omega, small_quo (fun g => ?_)⟩
        unfold betBig at hbig
        rw [← hla, ← hlb] at hbig
        simp [h0, g] at hbig
    have PN := Lib.hid (fun A B c d w h g => numbered_any A B c d x y w h g (by omega) (by omega) hxT' hyT')
    have hxl : (x.map (keysOf x y).idxOf).length = la := by simp [hla]
    have hyl : (y.map (keysOf x y).idxOf).length = lb := by simp [hlb]
    have PP := Lib.hid (fun A B c d w h g => pairs_any A B c d (x.map (keysOf x y).idxOf) (y.map (keysOf x y).idxOf) w h g (by rw [hxl]; omega) (by rw [hyl]; omega) (by rw [hxl, hyl, hla, hlb]; exact htab))
    rw [pairs_ids, hxl, hyl] at PP
    rw [← hla] at PN LS
    rw [← hlb] at PN LT
    obtain ⟨n, hn⟩ : ∃ n, n = (Pl.pairs 0 0 x y).length := ⟨_, rfl⟩
    have hnl : n ≤ 4000000 := by
      rw [hn, Pl.pairs_length _ 0 0 x y (Nat.le_refl _)]
      have := Pl.lcs_le_left x y; omega
    rw [← hn] at PP
    have HL := Lib.hid (Left.start x y)
    rw [← hla, ← hlb] at HL
    have hbet : Pl.between x y = Pl.bet y 0 0 (Pl.pairs 0 0 x y ++ [(la, lb)]) := by rw [hla, hlb]; rfl
    have HBET := Lib.hid hbet; clear hbet
    have HSN := Lib.hid (prs_snoc (Pl.pairs 0 0 x y) la lb)
    have HNN := Lib.hid hn; clear hn
    have hx2 : x.length ≤ 4000000 := by omega
    have hy2 : y.length ≤ lb := by omega
    have HYL := Lib.hid hlb
    clear hla hlb hbig htab hxl hyl
    rcases d1 with ⟨h0, d1⟩ | ⟨h0, d1, d2⟩
    all_goals
      go_enter Try.func34, Try.ntmps34
      go_wp2_with (first
        | (go_at_call 52; with_reducible refine (CS.out _).mono ?_; rintro e w' ⟨rfl, rfl⟩)
        | (go_at_call 52; with_reducible refine (CT.out _).mono ?_; rintro e w' ⟨rfl, rfl⟩)
        | (go_at_call 32; with_reducible refine (LS.out _).mono ?_; rintro e w1 ⟨X, cx, rfl, hcx, hX, hb1⟩) | (go_at_call 32; with_reducible refine (LT.out _).mono ?_; rintro e w2 ⟨Y, cy, rfl, hcy, hY, hb2⟩)
        | (go_at_call 55; refine (PN.out _ _ _ _ _ (hX.later hb2) hY).mono ?_; rintro e w3 ⟨U, V, rfl, hU, hV, hb3⟩)
        | (go_at_call 56; refine (PP.out _ _ _ _ _ hU hV).mono ?_; rintro e w4 ⟨v, rfl, hown, hb4⟩)
        | (at_builtin; refine wpList_append_own _ rfl _ _ 103 rfl w3.heap.size 106 i0 _ 2 16 Try.underlying103 hi hz0 hz1 hz2 rfl (by decide) _ _ _ rfl (hown.alloc _) ⟨w4.heap.size, 0, none⟩ 1 1 [.int .i64 la, .int .i64 lb] rfl rfl (two_new _ _ _ _) (by simp [Value.oneCell']) (by unfold maxLen; omega) (by omega) (by have := hb4.size; simp; omega) ?_; intro v' w5 hown5 hgrow _; obtain ⟨PB, pc, rfl⟩ := ownsRow_succ hown5))
      have hb12 := hb1.trans (hb2.mono hb1.size)
      have hb123 := hb12.trans (hb3.mono hb12.size)
      have hb1234 := hb123.trans (hb4.mono hb123.size)
      have hb5 := (hb1234.alloc hb1234.size (.cells #[.int .i64 la, .int .i64 lb] 106)).grown hgrow (by have := hb1234.size; simp; omega) (fun j hj => Nat.le_trans hb123.size (hown.lt j hj).1)
      have hY5 : Rd w5 1 Y lb (strs y) := by
        have h25 : Below w2.heap.size w2 w5 := by
          have h24 := hb3.trans (hb4.mono hb3.size)
          exact (h24.alloc h24.size (.cells #[.int .i64 la, .int .i64 lb] 106)).grown hgrow (by have := h24.size; simp; omega) (fun j hj => Nat.le_trans hb3.size (hown.lt j hj).1)
        exact hY.later h25
      rw [HSN.out] at hown5
      have HP5 := Rd.of_own hown5
      obtain ⟨ps, hps⟩ : ∃ ps, ps = Pl.pairs 0 0 x y ++ [(la, lb)] := ⟨_, rfl⟩
      have hpl : ps.length = n + 1 := by rw [hps, List.length_append, HNN.out]; rfl
      rw [← hps] at HP5
      have HL2 : Hid (Left x y 0 0 ps) := Lib.hid (by rw [hps]; exact HL.out)
      have HB2 : Hid (Pl.between x y = Pl.bet y 0 0 ps) := Lib.hid (by rw [hps]; exact HBET.out)
      clear hown hown5 hps hgrow
      go_loopw [12, 13, 14, 48] (fun v iv jv kv wr => ∃ (k i j : Nat) (out : List Pl.Ed), k ≤ n + 1 ∧ kv = .int .i64 k ∧ iv = .int .i64 i ∧ jv = .int .i64 j ∧ i ≤ 4000001 ∧ j ≤ 4000001 ∧ out.length ≤ k ∧ wr.ownsRow w5.heap.size 41 3 v out.length (edcs out) ∧ Below w5.heap.size w5 wr ∧ Hid (out ++ Pl.bet y i j (ps.drop k) = Pl.bet y 0 0 ps) ∧ Hid (Left x y i j (ps.drop k))) (fun _ _ _ kv _ => n + 1 - (intOf kv).toNat)
      case atStart => exact ⟨0, 0, 0, [], Nat.zero_le _, rfl, rfl, rfl, by omega, by omega, by simp, World.ownsRow_nil _ _ _ _, Below.refl _ _, Lib.hid (by simp), Lib.hid (by simpa using HL2.out)⟩
      case round =>
        obtain ⟨k, i, j, out, hk, rfl, rfl, rfl, hi6, hj6, hol, hown, hbw, H1, H2⟩ := hrel
        by_cases hlt : k < n + 1
        · have hkl : k < ps.length := by omega
          have hpk : (prI ps)[k]? = some ((ps[k].1 : Int), (ps[k].2 : Int)) := by simp [prI, hkl]
          obtain ⟨b1, o1, e1, hb1k, c1, c2⟩ := (HP5.later hbw).rg hpk
          simp only [Option.some.injEq, Addr.mk.injEq, and_true] at e1
          obtain ⟨rfl, rfl⟩ := e1
          simp only [Nat.zero_add] at c1 c2
          have hd := List.drop_eq_getElem_cons hkl
          have H2' := H2.out
          rw [hd] at H1 H2'
          obtain ⟨g1, g2, g3, g4, g5⟩ := H2'.step
          generalize ps[k] = p at c1 c2 H1 g1 g2 g3 g4 g5
          obtain ⟨pi, pj⟩ := p
          simp only at c1 c2 g1 g2 g3 g4 g5
          have HG := Lib.hid g5
          have g2' : pi ≤ 4000000 := Nat.le_trans g2 hx2
          have g4' : pj ≤ lb := Nat.le_trans g4 hy2
          clear hd H2' g5 g2 g4 hpk
          have hc : (i < pi ∧ decide ((i : Int) < (pi : Int)) = true) ∨ (¬ i < pi ∧ decide ((i : Int) < (pi : Int)) = false) := by
            by_cases hh : i < pi
            · exact .inl ⟨hh, by simp; omega⟩
            · exact .inr ⟨hh, by simp; omega⟩
          have hc2 : (j < pj ∧ decide ((j : Int) < (pj : Int)) = true) ∨ (¬ j < pj ∧ decide ((j : Int) < (pj : Int)) = false) := by
            by_cases hh : j < pj
            · exact .inl ⟨hh, by simp; omega⟩
            · exact .inr ⟨hh, by simp; omega⟩
          obtain ⟨wo, rfl⟩ : ∃ wo : World, wo = wr := ⟨_, rfl⟩
          by_cases hcc : i < pi ∨ j < pj
          · have H3 : Hid ((out ++ [⟨i, pi, (Pl.cut y j pj).flatten⟩]) ++ Pl.bet y (pi + 1) (pj + 1) (ps.drop (k + 1)) = Pl.bet y 0 0 ps) := Lib.hid (by rw [← H1.out]; simp only [Pl.bet, if_pos hcc]; simp)
            clear H1
            have HN3 := Lib.hid (edcs_snoc out ⟨i, pi, (Pl.cut y j pj).flatten⟩)
            simp only at HN3
            have hY6 := hY5.later hbw
            have hcs : Hid ((Pl.cut y j pj).flatten.length ≤ 4000000) := Lib.hid (cut_small hyf j pj)
            have hbx0 : (wo.alloc (.cells #[.int .i64 pi, .int .i64 pj] 106)).heap[wo.heap.size]? = some (.cells #[.int .i64 pi, .int .i64 pj] 106 (0, 0)) := heap_alloc_new wo _
            have hbwA := hbw.alloc hbw.size (.cells #[.int .i64 pi, .int .i64 pj] 106)
            have hownA := hown.alloc (.cells #[.int .i64 pi, .int .i64 pj] 106)
            obtain ⟨Z, hZ⟩ : ∃ Z : Option Addr, (if cy = j then Y else Option.map (fun x => x.add j) Y) = Z := ⟨_, rfl⟩
            have hRZ := rd_cut hY6 HYL.out.symm (show j ≤ pj by omega) (show pj ≤ lb by omega) hcy hZ
            have JC : Hid (∀ wq : World, Below wo.heap.size wo wq → Calls Try.prog 53 #[.slice Z (pj - j) (cy - j), .string ⟨#[]⟩] wq fun e w' => e = .returned (.string (bs (Pl.cut y j pj).flatten)) ∧ Below wq.heap.size wq w') := Lib.hid (fun wq hq => joins_rd Z (pj - j) (cy - j) _ wq (hRZ.later hq) (by omega) (by omega) (by have := hcs.out; omega))
            generalize (Pl.cut y j pj).flatten = z at *
            have f0 : (0 : Int) ≤ (j : Int) := by omega
            have f1 : (j : Int) ≤ (pj : Int) := by omega
            have f2 : (pj : Int) ≤ (cy : Int) := by omega
            have f3 : j ≤ pj := by omega
            have f4 : pj ≤ cy := by omega
            have hd3 : (i < pi ∧ decide ((i : Int) < (pi : Int)) = true) ∨ (¬ i < pi ∧ j < pj ∧ decide ((i : Int) < (pi : Int)) = false ∧ decide ((j : Int) < (pj : Int)) = true) := by
              rcases hc with hc | ⟨h1, hc⟩
              · exact .inl hc
              · rcases hc2 with ⟨h2, hc2⟩ | ⟨h2, _⟩
                · exact .inr ⟨h1, h2, hc, hc2⟩
                · omega
            clear hc hc2 hcc hRZ
            rcases hd3 with ⟨hcl, hc⟩ | ⟨hcl, hcl2, hc, hc2⟩
            all_goals
              go_wp2
              go_region_law (first
                | (refine step_append_lies _ (by rfl) _ _ _ (by rfl) w5.heap.size 41 j0 _ 3 32 Try.underlying22 hj hj0 hj1 hj2 rfl (by decide) _ _ _ (by rfl) (hown3.alloc _) ⟨w3'.heap.size, 0, none⟩ 1 1 [.int .i64 i, .int .i64 pi, .string (bs z)] (by rfl) (by rfl) (World.news_of_block (cs := #[.int .i64 i, .int .i64 pi, .string (bs z)]) (t := 41) (fr := (0, 0)) (heap_alloc_new w3' _)) (by simp [Value.oneCell']) (by omega) (by unfold maxLen; omega) (by omega) (by have := hbw3.size; simp; omega) (w3'.heap.size + 1) (by simp) ?_; intro gg cap w4' hown4 hgrow hat hlt')
                | (go_simp; go_at_call 53; refine (JC.out _ (below_drewN ((Below.refl wo.heap.size wo).alloc (Nat.le_refl _) _) 1)).mono ?_; rintro e w3' ⟨rfl, hb3'⟩; have hown3 := own_later hownA.drew hb3'; have hbx3 := (hb3'.block wo.heap.size (by simp [World.drew])).trans hbx0; have hbw3 := (below_drewN hbwA 1).trans (hb3'.mono hbwA.size); have x0 := Lib.cell_of_heap hbx3 0; have x1 := Lib.cell_of_heap hbx3 1; simp only [List.getElem?_toArray, List.getElem?_cons_zero, List.getElem?_cons_succ] at x0 x1))
              all_goals
                have hvb := own_ne_size hown
                have hbx4 := box_grown hown3 hbx3 hvb hgrow
                have hbw4 := (hbw3.alloc hbw3.size (.cells #[.int .i64 i, .int .i64 pi, .string (bs z)] 41)).grown hgrow (by have := hbw3.size; simp; omega) (fun q hq' => (hown.lt q hq').1)
                have k1 : IntKind.i64.wrap ((pi : Int) + 1) = (pi : Int) + 1 := IntWalk.i64_in _ (by omega)
                have k2 : IntKind.i64.wrap ((pj : Int) + 1) = (pj : Int) + 1 := IntWalk.i64_in _ (by omega)
                have y0 := Lib.cell_of_heap hbx4 0
                have y1 := Lib.cell_of_heap hbx4 1
                simp only [List.getElem?_toArray, List.getElem?_cons_zero, List.getElem?_cons_succ] at y0 y1
                go_wp2
                go_quiet (fail)
                go_wp2
                go_roundw
                case rel =>
                  exact ⟨k + 1, pi + 1, pj + 1, _, by omega, by go_num, by go_num, by go_num, by omega, by omega, by rw [List.length_append]; simp; omega, by rw [List.length_append]; rw [HN3.out] at hown4; exact own_later hown4 (below_drewN (Below.refl _ _) _), below_drewN hbw4 _, H3, HG⟩
                case measure => simp [intOf]; omega
          · obtain ⟨h1, h2⟩ : ¬ i < pi ∧ ¬ j < pj := ⟨fun e => hcc (.inl e), fun e => hcc (.inr e)⟩
            have H3 : Hid (out ++ Pl.bet y (pi + 1) (pj + 1) (ps.drop (k + 1)) = Pl.bet y 0 0 ps) := Lib.hid (by rw [← H1.out]; simp only [Pl.bet, if_neg hcc])
            rcases hc with ⟨hc, _⟩ | ⟨_, hc⟩
            · exact absurd hc h1
            rcases hc2 with ⟨hc2, _⟩ | ⟨_, hc2⟩
            · exact absurd hc2 h2
            clear hcc H1
            go_wp2
            go_quiet (fail)
            go_wp2
            go_roundw
            case rel => exact ⟨k + 1, pi + 1, pj + 1, out, by omega, by go_num, by go_num, by go_num, by omega, by omega, by omega, own_later (hown.alloc _) (below_drewN (Below.refl _ _) _), below_drewN (hbw.alloc hbw.size _) _, H3, HG⟩
            case measure => simp [intOf]; omega
        · have hke : ps.drop k = [] := List.drop_of_length_le (by omega)
          have HE := Lib.hid (show out = Pl.between x y by rw [HB2.out, ← H1.out, hke]; simp [Pl.bet])
          clear hke H1
          obtain ⟨B, cb, rfl, _, hRd⟩ := own_form hown
          go_wp2
          go_ret2
          rw [HE.out] at hRd ⊢
          exact HN.out _ _ _ hRd (hb5.trans (hbw.mono hb5.size))
  · have HN := Lib.hid (fun w' hb => BetPost.no (w := w) (w' := w') hbig hb)
    unfold betBig at hbig
    simp only [Bool.and_eq_true, decide_eq_true_eq] at hbig
    rw [← hla, ← hlb] at hbig
    obtain ⟨g1, g2⟩ := hbig
    have d1 : decide ((0 : Int) < (la : Int)) = true := by simp; omega
    have d2 := big_quo g2
    clear hla hlb
    go_enter Try.func34, Try.ntmps34
    go_wp2_with (first | (go_at_call 52; with_reducible refine (CS.out _).mono ?_; rintro e w' ⟨rfl, rfl⟩) | (go_at_call 52; with_reducible refine (CT.out _).mono ?_; rintro e w' ⟨rfl, rfl⟩))
    go_ret2
    exact HN.out _ (Below.refl _ _)

end Go.Proofs.Ytnijaleedbmljaa
