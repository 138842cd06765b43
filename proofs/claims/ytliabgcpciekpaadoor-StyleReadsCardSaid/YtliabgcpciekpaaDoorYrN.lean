/- Walks: the style of a text (the document's). -/
import Derived.Test.YtliabgcpciekpaaDoorYrM
import Derived.Test.YtliabgcpciekpaaDoorYrJ
set_option linter.unusedVariables false
set_option linter.unusedSimpArgs false
namespace Go.Proofs.YtliabgcpciekpaaDoor
open Go Go.RowKit

namespace St
theorem lns_step {t : T} {a j : Nat} (ha : a < t.length) (hj : a + j ≤ t.length) (hn : 10 ∉ (t.drop a).take j) (he : a + j = t.length ∨ t[a + j]? = some 10) :
    lns a (t.drop a) = (a, (t.drop a).take j) :: lns (a + j + 1) (t.drop (a + j + 1)) := by
  rcases he with he | he
  · have e1 : (t.drop a).take j = t.drop a := List.take_of_length_le (by simp; omega)
    rw [e1] at hn ⊢
    rw [lns_no hn (by intro e; have := congrArg List.length e; simp at this; omega), List.drop_eq_nil_of_le (by omega : t.length ≤ a + j + 1)]
    rfl
  · have h1 : a + j < t.length := (List.getElem?_eq_some_iff.1 he).1
    have := lns_at (t := t.drop a) (a := a) (j := j) (by simp; omega) hn (by rw [List.getElem?_drop]; exact he)
    rw [this, List.drop_drop, show a + (j + 1) = a + j + 1 by omega]
end St
def flg (h : Nat → Bool) : List Value := (List.range 18).map fun i => .bool (h i)
theorem flg_len (h : Nat → Bool) : (flg h).length = 18 := by simp [flg]
theorem flg_at (h : Nat → Bool) {i : Nat} (hi : i < 18) : (flg h)[i]? = some (.bool (h i)) := by simp [flg, hi]
theorem flg_set (h : Nat → Bool) {i : Nat} (hi : i < 18) : (flg h).set i (.bool true) = flg (St.had h i) := by
  apply List.ext_getElem?
  intro j
  rw [List.getElem?_set, flg_len]
  by_cases hj : j < 18
  · rw [flg_at _ hj, flg_at _ hj]
    unfold St.had
    by_cases e : i = j
    · subst e; simp [hi]
    · rw [if_neg e, if_neg (fun e' => e e'.symm)]
  · have : ¬ i = j := by omega
    rw [if_neg this, List.getElem?_eq_none (by rw [flg_len]; omega), List.getElem?_eq_none (by rw [flg_len]; omega)]
theorem vals_set (v : Nat → Int) {i : Nat} (hi : i < 18) (x : Int) : (vals v).set i (.int .i64 x) = vals (St.sput v i x) := by
  apply List.ext_getElem?
  intro j
  rw [List.getElem?_set, vals_len]
  by_cases hj : j < 18
  · rw [vals_at _ hj, vals_at _ hj]
    unfold St.sput
    by_cases e : i = j
    · subst e; simp [hi]
    · rw [if_neg e, if_neg (fun e' => e e'.symm)]
  · have : ¬ i = j := by omega
    rw [if_neg this, List.getElem?_eq_none (by rw [vals_len]; omega), List.getElem?_eq_none (by rw [vals_len]; omega)]
theorem made_flg : (madeCells (Value.bool false).cells (18 * 1)).toList = flg (fun _ => false) := by
  rw [Nat.mul_one, show (Value.bool false).cells = #[.bool false] from rfl, toList_madeCells_one]
  rfl
theorem boolInfo : (Tryd.prog.info? 4).map (fun i => (i.zero, i.size, i.bytes)) = some (some (.bool false), 1, 1) := by kernel_rfl

/-- What holds between the lines. -/
structure PrI (w : World) (g k : Nat) (v : Nat → Int) (h : Nat → Bool) (W : World) : Prop where
  r0 : Sty W w.heap.size (fv 0)
  nb : W.heap[g]? = some (.cells (vals v).toArray 3 (0, 0))
  hb : W.ownsRow w.heap.size 4 1 (.slice (some ⟨k, 0, none⟩) 18 18) 18 (flg h)
  og : w.heap.size < g
  ok : g < k
  bel : Below w.heap.size w W
section
variable {w W W' : World} {g k : Nat} {v : Nat → Int} {h : Nat → Bool}
theorem blk_set {W : World} {b i : Nat} {cs : List Value} {T : TypeId} (h : W.heap[b]? = some (.cells cs.toArray T (0, 0))) (u : Value) : (W.setCell ⟨b, i, none⟩ u).heap[b]? = some (.cells (cs.set i u).toArray T (0, 0)) := by
  simp [World.setCell, Array.getElem?_modify, h]
theorem blk_cell {W : World} {b i : Nat} {cs : List Value} {T : TypeId} (h : W.heap[b]? = some (.cells cs.toArray T (0, 0))) : W.cell? ⟨b, i, none⟩ = cs[i]? := by simp [World.cell?, h]
theorem blk_frozen {W : World} {b i : Nat} {cs : List Value} {T : TypeId} (h : W.heap[b]? = some (.cells cs.toArray T (0, 0))) : W.frozen? ⟨b, i, none⟩ = false := by simp [World.frozen?, h]
theorem grownBy_setI (w : World) (b i : Nat) (u : Value) : w.grownBy (w.setCell ⟨b, i, none⟩ u) (some b) :=
  ⟨rfl, rfl, rfl, by simp [World.setCell], fun k _ hk => Below.heap_setCell _ _ _ _ (fun e => hk (by rw [e]))⟩
theorem PrI.later (p : PrI w g k v h W) (hb : Below W.heap.size W W') : PrI w g k v h W' :=
  ⟨p.r0.later hb, (hb.block _ (Array.getElem?_eq_some_iff.1 p.nb).1).trans p.nb, own_later p.hb hb, p.og, p.ok, p.bel.trans (hb.mono p.bel.size)⟩
theorem PrI.put (p : PrI w g k v h W) {i : Nat} (hi : i < 18) (x : Int) : PrI w g k (St.sput v i x) (St.had h i) ((W.setCell ⟨k, i, none⟩ (.bool true)).setCell ⟨g, i, none⟩ (.int .i64 x)) := by
  have := p.og; have := p.ok
  refine ⟨(Below.heap_setCell _ _ _ _ (by simp; omega)).trans ((Below.heap_setCell _ _ _ _ (by simp; omega)).trans p.r0), ?_, ?_, p.og, p.ok, (p.bel.setCell (p := ⟨k, i, none⟩) (by simp; omega) _).setCell (p := ⟨g, i, none⟩) (by simp; omega) _⟩
  · have h1 : (W.setCell ⟨k, i, none⟩ (.bool true)).heap[g]? = some (.cells (vals v).toArray 3 (0, 0)) := (Below.heap_setCell _ _ _ _ (by simp; omega)).trans p.nb
    have h2 := blk_set (i := i) h1 (.int .i64 x)
    rw [vals_set v hi] at h2
    exact h2
  · have h2 := (p.hb.stored i (.bool true)).1
    rw [flg_set h hi] at h2
    exact h2.kept (grownBy_setI _ g i _ ) (.inr (by simp [Value.ownBlock]; omega))
end
theorem pr_results {w W : World} {v : Nat → Int} {p e : Int} {tmps : Array Value} (g : W.rangeAt w.heap.size 0 (St.stv v)) (h2 : tmps.getD 2 undef = .pointer (some ⟨w.heap.size, 0, none⟩)) (h3 : tmps.getD 3 undef = .int .i64 p) (h4 : tmps.getD 4 undef = .int .i64 e) :
    (results Tryd.f18 tmps).run Tryd.prog W = .ok (.tuple #[.agg (St.stv v).toArray, .int .i64 p, .int .i64 e]) W := by
  have h2' : tmps[2]?.getD undef = .pointer (some ⟨w.heap.size, 0, none⟩) := by simpa using h2
  have h3' : tmps[3]?.getD undef = .int .i64 p := by simpa using h3
  have h4' : tmps[4]?.getD undef = .int .i64 e := by simpa using h4
  have hinfo : (Tryd.prog.info? 23).map (·.size) = some (St.stv v).length := by rw [St.stv_len]; kernel_rfl
  have e0 := run_loadVar_mid (P := Tryd.prog) W w.heap.size 0 23 (St.stv v) _ g Tryd.underlying23 rfl hinfo
  simp [results, Tryd.results18, h2', h3', h4', asAddr, e0]

theorem pr_wipe {w W : World} {v : Nat → Int} (h : Sty W w.heap.size v) (hb : Below w.heap.size w W) (u : Nat → Int) : W.there w.heap.size 0 (St.stv u).toArray.size ∧ (W.setCells w.heap.size 0 (St.stv u).toArray.toList).rangeAt w.heap.size 0 (St.stv u) ∧ Below w.heap.size w (W.setCells w.heap.size 0 (St.stv u).toArray.toList) := by
  rw [List.toList_toArray]
  exact ⟨sty_there h u, (h.store u).range, below_setCells (Nat.le_refl _) _ _ _ hb⟩
theorem pr_wipe0 {w W : World} {v : Nat → Int} (h : Sty W w.heap.size v) (hb : Below w.heap.size w W) : W.there w.heap.size 0 (#[.int .i64 0, .int .i64 0, .int .i64 0, .int .i64 0, .bool false, .bool false, .bool false, .int .i64 0, .int .i64 0, .int .i64 0, .int .i64 0, .int .i64 0, .int .i64 0, .int .i64 0, .int .i64 0, .int .i64 0, .int .i64 0, .int .i64 0] : Array Value).size ∧ (W.setCells w.heap.size 0 (#[.int .i64 0, .int .i64 0, .int .i64 0, .int .i64 0, .bool false, .bool false, .bool false, .int .i64 0, .int .i64 0, .int .i64 0, .int .i64 0, .int .i64 0, .int .i64 0, .int .i64 0, .int .i64 0, .int .i64 0, .int .i64 0, .int .i64 0] : Array Value).toList).rangeAt w.heap.size 0 (St.stv (fv 0)) ∧ Below w.heap.size w (W.setCells w.heap.size 0 (#[.int .i64 0, .int .i64 0, .int .i64 0, .int .i64 0, .bool false, .bool false, .bool false, .int .i64 0, .int .i64 0, .int .i64 0, .int .i64 0, .int .i64 0, .int .i64 0, .int .i64 0, .int .i64 0, .int .i64 0, .int .i64 0, .int .i64 0] : Array Value).toList) := by
  have := pr_wipe h hb (fv 0)
  rwa [zeroSt] at this
set_option maxRecDepth 100000 in
set_option maxHeartbeats 4000000 in
theorem refParse_any (s : ByteArray) (w : World) :
    Calls Tryd.prog 18 #[.string s] w fun e w' => e = .returned (psRes s.data.toList) ∧ Below w.heap.size w w' := by
  have HSZ := Lib.hid (Lib.size_eq s)
  obtain ⟨j0, hj, hy0, hy1, hy2⟩ := info_parts boolInfo
  have hb0 : Below w.heap.size w (w.alloc (.cells #[.int .i64 0, .int .i64 0, .int .i64 0, .int .i64 0, .bool false, .bool false, .bool false, .int .i64 0, .int .i64 0, .int .i64 0, .int .i64 0, .int .i64 0, .int .i64 0, .int .i64 0, .int .i64 0, .int .i64 0, .int .i64 0, .int .i64 0] 23)) := (Below.refl _ _).alloc (Nat.le_refl _) _
  by_cases hlong : 65536 < s.size
  · obtain ⟨q1, q2, q3⟩ := St.ps_long (t := s.data.toList) (by rw [← HSZ.out]; exact hlong)
    have HR := Lib.hid (show psRes s.data.toList = .tuple #[.agg (St.stv (fv 0)).toArray, .int .i64 0, .int .i64 3] by unfold psRes; rw [q1, q2, q3])
    clear q1 q2 q3
    obtain ⟨zt, ze⟩ := pr_wipe0 (sty_zero w) hb0
    have ZE := Lib.hid ze
    clear ze
    have hgo : (65536 : Int) < (s.size : Int) := by omega
    go_enter Tryd.func18, Tryd.ntmps18
    go_wp2_with (refine wpList_store_mid rfl _ _ _ rfl _ _ (#[.int .i64 0, .int .i64 0, .int .i64 0, .int .i64 0, .bool false, .bool false, .bool false, .int .i64 0, .int .i64 0, .int .i64 0, .int .i64 0, .int .i64 0, .int .i64 0, .int .i64 0, .int .i64 0, .int .i64 0, .int .i64 0, .int .i64 0] : Array Value) rfl rfl zt zlit_info zlit_one ?_; refine gen_world2 (Q := fun W => wpList _ _ _ _ _ W) (fun W4 => W4.rangeAt w.heap.size 0 (St.stv (fv 0)) ∧ Below w.heap.size w W4) ZE.out ?_; rintro w4 ⟨E4, B4⟩; (try dsimp only); simp only [Act.put, List.setIfInBounds_toArray, List.set_cons_zero, List.set_cons_succ])
    exact bodyPost_ret (pr_results E4 rfl rfl rfl) rfl ⟨by rw [HR.out], B4⟩
  · have hgo : ¬ (65536 : Int) < (s.size : Int) := by omega
    have hgo2 : decide ((65536 : Int) < (s.size : Int)) = false := decide_eq_false hgo
    obtain ⟨v0, hv0⟩ : ∃ v0, v0 = fv 18 := ⟨_, rfl⟩
    have FA := fun W => refFirst_any W
    have NB := fun W => numbers_blk (fv 18) (fv_fl 18) W
    rw [← hv0] at FA NB
    have FA := Lib.hid FA
    have NB := Lib.hid NB
    have HV0 := Lib.hid hv0
    clear hv0
    have Z0 := Lib.hid (sty_zero w)
    have HB0 := Lib.hid hb0
    go_enter Tryd.func18, Tryd.ntmps18
    go_wp2_with (first
      | (go_at_call 20; (with_reducible refine (FA.out _).mono ?_); rintro e w2 ⟨rfl, b2⟩)
      | (go_at_call 43; (with_reducible refine (NB.out _).mono ?_); rintro e w3 ⟨rfl, n3, b3⟩)
      | (at_make; refine wpList_make_full _ rfl _ _ 99 rfl w3.heap.size 4 j0 _ 1 Tryd.underlying99 hj hy0 hy1 .i64 .i64 18 18 18 rfl rfl rfl rfl (by rw [hy2]; omega) (by unfold maxLen; omega) (Nat.le_refl _) ?_; intro w4 hown4 hgrow4; rw [made_flg] at hown4))
    have P0 : PrI w (w2.heap.size + 1) w3.heap.size v0 (fun _ => false) w4 := by
      have h3 := (Array.getElem?_eq_some_iff.1 n3).1
      have hs2 := b2.size
      simp only [World.size_alloc] at hs2
      have b4 : Below w3.heap.size w3 w4 := (Below.refl _ w3).grown hgrow4 (Nat.le_refl _) (fun k e => by cases e)
      exact ⟨((Z0.out.later b2).below b3 (by omega)).later b4, (b4.block _ h3).trans n3, own_base hown4 (by omega), by omega, h3, ((HB0.out.trans (b2.mono (by simp))).trans (b3.mono (by omega))).trans (b4.mono (by omega))⟩
    generalize w2.heap.size + 1 = g at *
    generalize w3.heap.size = k at *
    clear hown4 hgrow4 n3 b3 b2 FA NB hj hy0 hy1 hy2 hb0 HB0 Z0
    have P0 := Lib.hid P0
    go_loopw [7, 8] (fun p _ wr => ∃ (a : Nat) (pre : List (Nat × St.T)) (st : St.S), a ≤ s.size + 1 ∧ p = .int .i64 a ∧ Hid (pre ++ St.lns a (s.data.toList.drop a) = St.lns 0 s.data.toList) ∧ Hid (St.run St.s0 pre = .ok st) ∧ Hid (PrI w g k st.1 st.2 wr)) (fun p _ _ => s.size + 1 - (intOf p).toNat)
    case atStart => exact ⟨0, [], (v0, fun _ => false), by omega, rfl, Lib.hid (by simp), Lib.hid (by rw [HV0.out]; rfl), P0⟩
    case round =>
      obtain ⟨a, pre, st, ha, rfl, HPRE, HRUN, HI⟩ := hrel
      obtain ⟨wo, rfl⟩ : ∃ wo : World, wo = wr := ⟨_, rfl⟩
      by_cases hlt : a < s.size
      · go_wp2
        go_loop [8] (fun e => ∃ j : Nat, a + j ≤ s.size ∧ e = .int .i64 ((a + j : Nat) : Int) ∧ Hid (10 ∉ (s.data.toList.drop a).take j)) (fun e => s.size - (intOf e).toNat)
        case atStart => exact ⟨0, by omega, by simp, Lib.hid (by simp)⟩
        case round =>
          obtain ⟨j, hj, rfl, HJ⟩ := hrel
          by_cases hin : ∃ h : a + j < s.size, s[a + j] ≠ 10
          · obtain ⟨h1, h2⟩ := hin
            have hcN : ¬ (s[a + j]).toNat = 10 := fun e => h2 (UInt8.toNat_inj.1 (by rw [e]; rfl))
            have hcI : ¬ ((s[a + j]).toNat : Int) = 10 := by omega
            have HJ2 := Lib.hid (show 10 ∉ (s.data.toList.drop a).take (j + 1) by
              have hg := ba_get s (a + j) h1
              have h3 : (s.data.toList.drop a)[j]? = some s[a + j] := by rw [List.getElem?_drop]; exact hg
              rw [List.take_add_one, h3, List.mem_append, not_or]
              exact ⟨HJ.out, by simpa using fun e => h2 e.symm⟩)
            clear h2
            go_wp2
            go_round
            case rel => exact ⟨j + 1, by omega, by go_num, HJ2⟩
            case measure => simp [intOf]; omega
          · have hex : a + j = s.size ∨ ∃ h : a + j < s.size, s[a + j] = 10 := by
              by_cases h : a + j < s.size
              · right
                refine ⟨h, ?_⟩
                by_cases hc : s[a + j] = 10
                · exact hc
                · exact absurd ⟨h, hc⟩ hin
              · left; omega
            have hls := St.lns_step (t := s.data.toList) (a := a) (j := j) (by rw [← HSZ.out]; exact hlt) (by rw [← HSZ.out]; exact hj) HJ.out (by
              rcases hex with h | ⟨h, hc⟩
              · left; rw [← HSZ.out]; exact h
              · right; rw [ba_get s (a + j) h, hc])
            have hx : s.extract a (a + j) = bs ((s.data.toList.drop a).take j) := ba_mid s a j
            have hrl : ((s.data.toList.drop a).take j).length = j := by rw [List.length_take, List.length_drop, ← HSZ.out]; omega
            have TRM := trim_any (s.extract a (a + j)) wo (by rw [hx, bs_size, hrl]; omega)
            rw [show (s.extract a (a + j)).data.toList = (s.data.toList.drop a).take j by rw [hx, bs_data]] at TRM
            rw [show ((s.extract a (a + j)).size : Int) = (j : Int) by rw [hx, bs_size, hrl]] at TRM
            generalize (s.data.toList.drop a).take j = raw at *
            rw [show St.trimR (St.trimL raw) = St.line raw from rfl] at TRM
            have hL := St.trimL_len raw
            have hN := St.line_len raw
            rw [hrl] at hL hN
            obtain ⟨ah, hah⟩ : ∃ ah : Nat, (j : Int) - ((St.trimL raw).length : Int) = (ah : Int) := ⟨j - (St.trimL raw).length, by omega⟩
            rw [hah] at TRM
            have hpl : St.place (a, raw) = a + (raw.length - (St.trimL raw).length) := rfl
            have HPI := Lib.hid (show (a : Int) + (ah : Int) = ((St.place (a, raw) : Nat) : Int) by rw [hpl, hrl]; omega)
            have hahj : ah ≤ j := by omega
            have HPRE2 := Lib.hid (show (pre ++ [(a, raw)]) ++ St.lns (a + j + 1) (s.data.toList.drop (a + j + 1)) = St.lns 0 s.data.toList by rw [← HPRE.out, hls]; simp)
            have HSTEP := Lib.hid (fun st' (h : St.step st (a, raw) = .ok st') => (St.run_snoc HRUN.out).trans h)
            have HSTOP := Lib.hid (fun q (h : St.step st (a, raw) = .error q) => show psRes s.data.toList = .tuple #[.agg (St.stv (fv 0)).toArray, .int .i64 (q : Int), .int .i64 90] by
              have hr : St.run St.s0 (St.lns 0 s.data.toList) = .error q := by rw [← HPRE2.out]; exact St.run_stop ((St.run_snoc HRUN.out).trans h)
              obtain ⟨q1, q2, q3⟩ := St.ps_bad (t := s.data.toList) (by rw [← HSZ.out]; exact hlong) hr
              unfold psRes; rw [q1, q2, q3])
            clear hls hx hpl hin HPRE HRUN hah HJ hL
            have HTST := True.intro
            rcases hex with hex | ⟨hex, hxc⟩
            · have hexn : ¬ a + j < s.size := by omega
              have hexI : ¬ (a : Int) + (j : Int) < (s.size : Int) := by omega
              clear HTST hex
              cases hl : St.line raw with
              | nil =>
                have HD := Lib.hid (HSTEP.out _ (St.step_dull (s := st) (x := (a, raw)) (show St.dull raw = true by unfold St.dull; rw [hl])))
                rw [hl] at TRM
                have TRM := Lib.hid TRM
                have t1 : (bs []).size = 0 := rfl
                clear hl hN HSTOP
                generalize bs [] = NB at *
                go_wp2_with (first
                  | (go_at_call 50; (with_reducible refine TRM.out.mono ?_); rintro e w5 ⟨rfl, rfl⟩))
                go_roundw
                case rel => exact ⟨a + j + 1, _, st, by omega, by go_num, HPRE2, HD, HI⟩
                case measure => simp [intOf]; omega
              | cons c r =>
                have h0 : 0 < (bs (c :: r)).size := by rw [bs_size]; simp
                have h0I : (0 : Int) < ((bs (c :: r)).size : Int) := by omega
                have hc0 := ba_first h0
                have hdl : St.dull raw = decide (c = 35) := by unfold St.dull; rw [hl]
                rw [hl] at TRM hN
                have TRM := Lib.hid TRM
                have hcs : (bs (c :: r)).size ≤ 65536 := by rw [bs_size]; omega
                have SD := fun W => said_any (bs (c :: r)) W (by omega)
                simp only [bs_data] at SD
                have hstep : ∀ o, St.sd (c :: r) = o → St.sd (St.line raw) = o := fun o h => by rw [hl]; exact h
                clear hl
                generalize hNB : bs (c :: r) = NB at *
                clear hNB
                by_cases hc : c = 35
                · have HD := Lib.hid (HSTEP.out _ (St.step_dull (s := st) (x := (a, raw)) (by rw [hdl, hc]; rfl)))
                  have hcN : (NB[0]).toNat = 35 := by rw [hc0, hc]; rfl
                  have hcI : ((NB[0]).toNat : Int) = 35 := by omega
                  clear hc0 hdl hc SD HSTOP hN
                  go_wp2_with (first
                    | (go_at_call 50; (with_reducible refine TRM.out.mono ?_); rintro e w5 ⟨rfl, rfl⟩))
                  go_roundw
                  case rel => exact ⟨a + j + 1, _, st, by omega, by go_num, HPRE2, HD, HI⟩
                  case measure => simp [intOf]; omega
                · have hdf : St.dull raw = false := by rw [hdl, decide_eq_false hc]
                  have hcN : ¬ (NB[0]).toNat = 35 := by rw [hc0]; exact fun e => hc (UInt8.toNat_inj.1 (by rw [e]; rfl))
                  have hcI : ¬ ((NB[0]).toNat : Int) = 35 := by omega
                  clear hc0 hdl hc
                  cases hs : St.sd (c :: r) with
                  | none =>
                    have HE := Lib.hid (HSTOP.out _ (St.step_none (s := st) (x := (a, raw)) hdf (hstep _ hs)))
                    rw [hs] at SD
                    simp only [sdV] at SD
                    have SD := Lib.hid SD
                    clear hs hstep hdf HSTEP hN
                    go_wp2_with (first
                      | (go_at_call 50; (with_reducible refine TRM.out.mono ?_); rintro e w5 ⟨rfl, rfl⟩)
                      | (go_at_call 51; (with_reducible refine (SD.out _).mono ?_); rintro e w6 ⟨rfl, b6⟩; have I6 := HI.out.later b6; obtain ⟨r0, nb, hb, og, ogk, bel⟩ := I6; obtain ⟨zt, ze⟩ := pr_wipe0 r0 bel; have ZE := Lib.hid ze; clear ze)
                      | (refine wpList_store_mid rfl _ _ _ rfl _ _ (#[.int .i64 0, .int .i64 0, .int .i64 0, .int .i64 0, .bool false, .bool false, .bool false, .int .i64 0, .int .i64 0, .int .i64 0, .int .i64 0, .int .i64 0, .int .i64 0, .int .i64 0, .int .i64 0, .int .i64 0, .int .i64 0, .int .i64 0] : Array Value) rfl rfl zt zlit_info zlit_one ?_; refine gen_world2 (Q := fun W => wpList _ _ _ _ _ W) (fun W4 => W4.rangeAt w.heap.size 0 (St.stv (fv 0)) ∧ Below w.heap.size w W4) ZE.out ?_; rintro w7 ⟨E4, B4⟩; (try dsimp only); simp only [Act.put, List.setIfInBounds_toArray, List.set_cons_zero, List.set_cons_succ]))
                    exact bodyPost_ret (pr_results E4 rfl rfl rfl) rfl ⟨by rw [HE.out, ← HPI.out], B4⟩
                  | some q =>
                    obtain ⟨i, x⟩ := q
                    rw [hs] at SD
                    simp only [sdV] at SD
                    have SD := Lib.hid SD
                    have hi := (St.sd_spec hs).1
                    have hiI : (i : Int) < 18 := by omega
                    have hiN : ¬ (i : Int) < 0 := by omega
                    have hhad : st.2 i = true ∨ st.2 i = false := by cases st.2 i <;> simp
                    rcases hhad with hh | hh
                    · have HE := Lib.hid (HSTOP.out _ (St.step_twice (s := st) (x := (a, raw)) hdf (hstep _ hs) hh))
                      clear hs hstep hdf HSTEP hN
                      go_wp2_with (first
                        | (go_at_call 50; (with_reducible refine TRM.out.mono ?_); rintro e w5 ⟨rfl, rfl⟩)
                        | (go_at_call 51; (with_reducible refine (SD.out _).mono ?_); rintro e w6 ⟨rfl, b6⟩; have I6 := HI.out.later b6; obtain ⟨r0, nb, hb, og, ogk, bel⟩ := I6; have ck := hb.cellAt i (by omega); rw [flg_at _ hi, hh] at ck; have fk := hb.frozenAt i; obtain ⟨zt, ze⟩ := pr_wipe0 r0 bel; have ZE := Lib.hid ze; clear ze)
                        | (refine wpList_store_mid rfl _ _ _ rfl _ _ (#[.int .i64 0, .int .i64 0, .int .i64 0, .int .i64 0, .bool false, .bool false, .bool false, .int .i64 0, .int .i64 0, .int .i64 0, .int .i64 0, .int .i64 0, .int .i64 0, .int .i64 0, .int .i64 0, .int .i64 0, .int .i64 0, .int .i64 0] : Array Value) rfl rfl zt zlit_info zlit_one ?_; refine gen_world2 (Q := fun W => wpList _ _ _ _ _ W) (fun W4 => W4.rangeAt w.heap.size 0 (St.stv (fv 0)) ∧ Below w.heap.size w W4) ZE.out ?_; rintro w7 ⟨E4, B4⟩; (try dsimp only); simp only [Act.put, List.setIfInBounds_toArray, List.set_cons_zero, List.set_cons_succ]))
                      exact bodyPost_ret (pr_results E4 rfl rfl rfl) rfl ⟨by rw [HE.out, ← HPI.out], B4⟩
                    · have HD := Lib.hid (HSTEP.out _ (St.step_set (s := st) (x := (a, raw)) hdf (hstep _ hs) hh))
                      clear hs hstep hdf HSTOP hN
                      go_wp2_with (first
                        | (go_at_call 50; (with_reducible refine TRM.out.mono ?_); rintro e w5 ⟨rfl, rfl⟩)
                        | (go_at_call 51; (with_reducible refine (SD.out _).mono ?_); go_loud (rintro e w6 ⟨rfl, b6⟩; have I6 := HI.out.later b6; obtain ⟨r0, nb, hb, og, ogk, bel⟩ := I6; have ck := hb.cellAt i (by omega); rw [flg_at _ hi, hh] at ck; have fk := hb.frozenAt i; have cn := (blk_cell (i := i) nb).trans (vals_at _ hi); have fn := blk_frozen (i := i) nb; have hgk : ¬ g = k := (by omega); have hkg : ¬ k = g := (by omega); have I7 := Lib.hid (HI.out.later b6))))
                      go_roundw
                      case rel => exact ⟨a + j + 1, _, _, by omega, by go_num, HPRE2, HD, Lib.hid (I7.out.put hi x)⟩
                      case measure => simp [intOf]; omega
            · have hxN : (s[a + j]).toNat = 10 := by rw [hxc]; rfl
              have hxI : ((s[a + j]).toNat : Int) = 10 := by omega
              clear hxc HTST
              cases hl : St.line raw with
              | nil =>
                have HD := Lib.hid (HSTEP.out _ (St.step_dull (s := st) (x := (a, raw)) (show St.dull raw = true by unfold St.dull; rw [hl])))
                rw [hl] at TRM
                have TRM := Lib.hid TRM
                have t1 : (bs []).size = 0 := rfl
                clear hl hN HSTOP
                generalize bs [] = NB at *
                go_wp2_with (first
                  | (go_at_call 50; (with_reducible refine TRM.out.mono ?_); rintro e w5 ⟨rfl, rfl⟩))
                go_roundw
                case rel => exact ⟨a + j + 1, _, st, by omega, by go_num, HPRE2, HD, HI⟩
                case measure => simp [intOf]; omega
              | cons c r =>
                have h0 : 0 < (bs (c :: r)).size := by rw [bs_size]; simp
                have h0I : (0 : Int) < ((bs (c :: r)).size : Int) := by omega
                have hc0 := ba_first h0
                have hdl : St.dull raw = decide (c = 35) := by unfold St.dull; rw [hl]
                rw [hl] at TRM hN
                have TRM := Lib.hid TRM
                have hcs : (bs (c :: r)).size ≤ 65536 := by rw [bs_size]; omega
                have SD := fun W => said_any (bs (c :: r)) W (by omega)
                simp only [bs_data] at SD
                have hstep : ∀ o, St.sd (c :: r) = o → St.sd (St.line raw) = o := fun o h => by rw [hl]; exact h
                clear hl
                generalize hNB : bs (c :: r) = NB at *
                clear hNB
                by_cases hc : c = 35
                · have HD := Lib.hid (HSTEP.out _ (St.step_dull (s := st) (x := (a, raw)) (by rw [hdl, hc]; rfl)))
                  have hcN : (NB[0]).toNat = 35 := by rw [hc0, hc]; rfl
                  have hcI : ((NB[0]).toNat : Int) = 35 := by omega
                  clear hc0 hdl hc SD HSTOP hN
                  go_wp2_with (first
                    | (go_at_call 50; (with_reducible refine TRM.out.mono ?_); rintro e w5 ⟨rfl, rfl⟩))
                  go_roundw
                  case rel => exact ⟨a + j + 1, _, st, by omega, by go_num, HPRE2, HD, HI⟩
                  case measure => simp [intOf]; omega
                · have hdf : St.dull raw = false := by rw [hdl, decide_eq_false hc]
                  have hcN : ¬ (NB[0]).toNat = 35 := by rw [hc0]; exact fun e => hc (UInt8.toNat_inj.1 (by rw [e]; rfl))
                  have hcI : ¬ ((NB[0]).toNat : Int) = 35 := by omega
                  clear hc0 hdl hc
                  cases hs : St.sd (c :: r) with
                  | none =>
                    have HE := Lib.hid (HSTOP.out _ (St.step_none (s := st) (x := (a, raw)) hdf (hstep _ hs)))
                    rw [hs] at SD
                    simp only [sdV] at SD
                    have SD := Lib.hid SD
                    clear hs hstep hdf HSTEP hN
                    go_wp2_with (first
                      | (go_at_call 50; (with_reducible refine TRM.out.mono ?_); rintro e w5 ⟨rfl, rfl⟩)
                      | (go_at_call 51; (with_reducible refine (SD.out _).mono ?_); rintro e w6 ⟨rfl, b6⟩; have I6 := HI.out.later b6; obtain ⟨r0, nb, hb, og, ogk, bel⟩ := I6; obtain ⟨zt, ze⟩ := pr_wipe0 r0 bel; have ZE := Lib.hid ze; clear ze)
                      | (refine wpList_store_mid rfl _ _ _ rfl _ _ (#[.int .i64 0, .int .i64 0, .int .i64 0, .int .i64 0, .bool false, .bool false, .bool false, .int .i64 0, .int .i64 0, .int .i64 0, .int .i64 0, .int .i64 0, .int .i64 0, .int .i64 0, .int .i64 0, .int .i64 0, .int .i64 0, .int .i64 0] : Array Value) rfl rfl zt zlit_info zlit_one ?_; refine gen_world2 (Q := fun W => wpList _ _ _ _ _ W) (fun W4 => W4.rangeAt w.heap.size 0 (St.stv (fv 0)) ∧ Below w.heap.size w W4) ZE.out ?_; rintro w7 ⟨E4, B4⟩; (try dsimp only); simp only [Act.put, List.setIfInBounds_toArray, List.set_cons_zero, List.set_cons_succ]))
                    exact bodyPost_ret (pr_results E4 rfl rfl rfl) rfl ⟨by rw [HE.out, ← HPI.out], B4⟩
                  | some q =>
                    obtain ⟨i, x⟩ := q
                    rw [hs] at SD
                    simp only [sdV] at SD
                    have SD := Lib.hid SD
                    have hi := (St.sd_spec hs).1
                    have hiI : (i : Int) < 18 := by omega
                    have hiN : ¬ (i : Int) < 0 := by omega
                    have hhad : st.2 i = true ∨ st.2 i = false := by cases st.2 i <;> simp
                    rcases hhad with hh | hh
                    · have HE := Lib.hid (HSTOP.out _ (St.step_twice (s := st) (x := (a, raw)) hdf (hstep _ hs) hh))
                      clear hs hstep hdf HSTEP hN
                      go_wp2_with (first
                        | (go_at_call 50; (with_reducible refine TRM.out.mono ?_); rintro e w5 ⟨rfl, rfl⟩)
                        | (go_at_call 51; (with_reducible refine (SD.out _).mono ?_); rintro e w6 ⟨rfl, b6⟩; have I6 := HI.out.later b6; obtain ⟨r0, nb, hb, og, ogk, bel⟩ := I6; have ck := hb.cellAt i (by omega); rw [flg_at _ hi, hh] at ck; have fk := hb.frozenAt i; obtain ⟨zt, ze⟩ := pr_wipe0 r0 bel; have ZE := Lib.hid ze; clear ze)
                        | (refine wpList_store_mid rfl _ _ _ rfl _ _ (#[.int .i64 0, .int .i64 0, .int .i64 0, .int .i64 0, .bool false, .bool false, .bool false, .int .i64 0, .int .i64 0, .int .i64 0, .int .i64 0, .int .i64 0, .int .i64 0, .int .i64 0, .int .i64 0, .int .i64 0, .int .i64 0, .int .i64 0] : Array Value) rfl rfl zt zlit_info zlit_one ?_; refine gen_world2 (Q := fun W => wpList _ _ _ _ _ W) (fun W4 => W4.rangeAt w.heap.size 0 (St.stv (fv 0)) ∧ Below w.heap.size w W4) ZE.out ?_; rintro w7 ⟨E4, B4⟩; (try dsimp only); simp only [Act.put, List.setIfInBounds_toArray, List.set_cons_zero, List.set_cons_succ]))
                      exact bodyPost_ret (pr_results E4 rfl rfl rfl) rfl ⟨by rw [HE.out, ← HPI.out], B4⟩
                    · have HD := Lib.hid (HSTEP.out _ (St.step_set (s := st) (x := (a, raw)) hdf (hstep _ hs) hh))
                      clear hs hstep hdf HSTOP hN
                      go_wp2_with (first
                        | (go_at_call 50; (with_reducible refine TRM.out.mono ?_); rintro e w5 ⟨rfl, rfl⟩)
                        | (go_at_call 51; (with_reducible refine (SD.out _).mono ?_); go_loud (rintro e w6 ⟨rfl, b6⟩; have I6 := HI.out.later b6; obtain ⟨r0, nb, hb, og, ogk, bel⟩ := I6; have ck := hb.cellAt i (by omega); rw [flg_at _ hi, hh] at ck; have fk := hb.frozenAt i; have cn := (blk_cell (i := i) nb).trans (vals_at _ hi); have fn := blk_frozen (i := i) nb; have hgk : ¬ g = k := (by omega); have hkg : ¬ k = g := (by omega); have I7 := Lib.hid (HI.out.later b6))))
                      go_roundw
                      case rel => exact ⟨a + j + 1, _, _, by omega, by go_num, HPRE2, HD, Lib.hid (I7.out.put hi x)⟩
                      case measure => simp [intOf]; omega
      · have hdr : s.data.toList.drop a = [] := List.drop_eq_nil_of_le (by rw [← HSZ.out]; omega)
        have hrun := HRUN.out
        have hpre := HPRE.out
        rw [hdr, St.lns, List.append_nil] at hpre
        rw [hpre] at hrun
        obtain ⟨q1, q2, q3⟩ := St.ps_good (t := s.data.toList) (by rw [← HSZ.out]; exact hlong) hrun
        have HR := Lib.hid (show psRes s.data.toList = .tuple #[.agg (St.stv st.1).toArray, .int .i64 0, .int .i64 0] by unfold psRes; rw [q1, q2, q3])
        have OF := Lib.hid (of_any st.1 g 18 wo (rd_block HI.out.nb (by simp) (by rw [vals_len])))
        clear q1 q2 q3 hrun hpre hdr HPRE HRUN
        have hAf : ∀ W, Below wo.heap.size wo W → W.there w.heap.size 0 (St.stv st.1).toArray.size ∧ (W.setCells w.heap.size 0 (St.stv st.1).toArray.toList).rangeAt w.heap.size 0 (St.stv st.1) ∧ Below w.heap.size w (W.setCells w.heap.size 0 (St.stv st.1).toArray.toList) := fun W hb =>
          pr_wipe (HI.out.later hb).r0 (HI.out.later hb).bel st.1
        have HAF := Lib.hid hAf
        clear hAf
        go_wp2_with (first
          | (go_at_call 52; (with_reducible refine OF.out.mono ?_); rintro e w5 ⟨rfl, b5⟩; obtain ⟨zt, ze⟩ := HAF.out _ b5; have ZE := Lib.hid ze; clear ze)
          | (refine wpList_store_mid rfl _ _ _ rfl _ _ (St.stv st.1).toArray rfl rfl zt (sty_info _) (sty_one _) ?_; refine gen_world2 (Q := fun W => wpList _ _ _ _ _ W) (fun W4 => W4.rangeAt w.heap.size 0 (St.stv st.1) ∧ Below w.heap.size w W4) ZE.out ?_; rintro w7 ⟨E4, B4⟩; (try dsimp only); simp only [Act.put, List.setIfInBounds_toArray, List.set_cons_zero, List.set_cons_succ]))
        exact bodyPost_ret (pr_results E4 rfl rfl rfl) rfl ⟨by rw [HR.out], B4⟩

end Go.Proofs.YtliabgcpciekpaaDoor
