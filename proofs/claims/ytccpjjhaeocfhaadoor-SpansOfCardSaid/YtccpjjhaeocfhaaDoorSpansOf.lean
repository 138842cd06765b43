/- The law SpansOf, walked. -/
import Derived.Test.YtccpjjhaeocfhaaDoorSpG
import Derived.Maps.Own
import Derived.Maps.OwnSet
import Derived.Deep.DeepCutAuto
import Derived.Deep.Cut
import Derived.Deep.CutRange
import Derived.Deep.CutBlock
import Derived.Deep.AppendLies
import Derived.Deep.RegionHeldLaw
set_option linter.unusedVariables false
set_option linter.unusedSimpArgs false
namespace Go.Proofs.YtccpjjhaeocfhaaDoor
open Go Go.RowKit

theorem any_succ {l : List Int} {k : Nat} {x n : Int} (h : k < l.length) (e : l[k] = x) : (l.take (k + 1)).any (fun y => y == n) = ((l.take k).any (fun y => y == n) || (x == n)) := by
  rw [List.take_succ_eq_append_getElem h, List.any_append, e]
  simp
theorem ins_two (l : List Int) (y : Int) : ins l ++ [.int .i64 y, .int .i64 y] = ins (l ++ [y, y]) := by simp [ins]

set_option maxRecDepth 100000 in
set_option maxHeartbeats 4000000 in
theorem SpansOf_any (A : Option Addr) (c : Nat) (l : List Int) (n : Int) (w : World) (hA : Rd w 1 A l.length (ins l)) (hl : l.length ≤ maxLen) (hlw : ∀ e ∈ l, (Lit.int .i64 e).wf = true) (hn : (Lit.int .i64 n).wf = true) :
    Calls Tryd.prog 4 #[.slice A l.length c, .int .i64 n] w fun e w' => e = .returned (.bool true) ∧ Below w.heap.size w w' := by
  unfold maxLen at hl
  obtain ⟨i0, hi, hz0, hz1, hz2⟩ := info_parts inInfo
  have AL := Lib.hid (alive_any w)
  by_cases ga : 50 < l.length
  · go_enter Tryd.func4, Tryd.ntmps4
    go_wp2_with (go_at_call 14; (with_reducible refine AL.out.mono ?_); rintro e w1 ⟨rfl, b1⟩)
    go_ret
    exact ⟨rfl, b1⟩
  have RA := Lib.hid (fun w1 hb => hA.later (w' := w1) hb)
  have K1 := Lib.hid (fun w1 hb => Of_any A c l w1 (RA.out w1 hb) (by omega))
  have HLW := Lib.hid hlw
  have hnn := wf64 hn
  clear hlw hn
  go_enter Tryd.func4, Tryd.ntmps4
  go_wp2_with (first
    | (go_at_call 14; (with_reducible refine AL.out.mono ?_); rintro e w1 ⟨rfl, b1⟩)
    | (go_at_call 15; (with_reducible refine (K1.out _ b1).mono ?_); rintro e w2 ⟨v2, rfl, q2⟩; obtain ⟨A2, c2, rfl, r2, k2⟩ := q2.get; have b2 := b1.trans (k2.mono b1.size)))
  generalize hE : ofE l = er at *
  generalize hL : ofL l = L at *
  have HL := Lib.hid hL
  have HE := Lib.hid hE
  clear hL hE
  go_loopw [8, 9, 10, 34] (fun bk rt inn i wr => ∃ k : Nat, k ≤ l.length ∧ i = .int .i64 k ∧ rt = .bool (lineOk (l.take k)) ∧ inn = .bool ((l.take k).any (fun y => y == n)) ∧ wr.ownsRow w2.heap.size 3 1 bk (2 * k) (ins (twice l k)) ∧ Below w2.heap.size w2 wr) (fun _ _ _ i _ => l.length - (intOf i).toNat)
  case atStart => exact ⟨0, Nat.zero_le _, rfl, rfl, rfl, World.ownsRow_nil _ _ _ _, Below.refl _ _⟩
  case round =>
    obtain ⟨k, hk, rfl, rfl, rfl, hown, hbw⟩ := hrel
    obtain ⟨wo, rfl⟩ : ∃ wo : World, wo = wr := ⟨_, rfl⟩
    by_cases hlt : k < l.length
    · have hbW := b2.trans (hbw.mono b2.size)
      obtain ⟨d1, o1, rfl, _, cx⟩ := (RA.out _ hbW).nu (k := k) (List.getElem?_eq_getElem hlt)
      obtain ⟨d2, o2, e2, _, cy⟩ := (RA.out _ hbW).nu (k := l.length - 1 - k) (List.getElem?_eq_getElem (by omega))
      cases e2
      have HTW := Lib.hid (twice_succ l hlt)
      obtain ⟨x, hxx⟩ : ∃ x, l[k] = x := ⟨_, rfl⟩
      have hx64 := wf64 (HLW.out l[k] (List.getElem_mem hlt))
      have HR := Lib.hid (lineOk_succ hlt hxx)
      have HI := Lib.hid (any_succ (n := n) hlt hxx)
      rw [hxx] at cx hx64
      generalize l[l.length - 1 - k] = y at cy HTW
      obtain ⟨p, hp⟩ : ∃ p : Nat, p = l.length - 1 - k := ⟨_, rfl⟩
      rw [← hp] at cy
      have hpi : ((l.length : Int) - 1 - (k : Int)) = (p : Int) := by omega
      obtain ⟨rt2, hrt2⟩ : ∃ z, lineOk (l.take (k + 1)) = z := ⟨_, rfl⟩
      obtain ⟨in2, hin2⟩ : ∃ z, (l.take (k + 1)).any (fun y => y == n) = z := ⟨_, rfl⟩
      rw [hrt2] at HR
      rw [hin2] at HI
      have HR2 := Lib.hid hrt2
      have HI2 := Lib.hid hin2
      generalize lineOk (l.take k) = rt at *
      generalize (l.take k).any (fun y => y == n) = inn at *
      clear hrt2 hin2 hxx
      go_upto_region 10 with fail
      go_cut [9] (fun s wc => s = .bool rt2 ∧ wc = wo)
      case first =>
        have CASES : (rt = true ∧ 0 ≤ x ∧ x < 65536) ∨ (rt = true ∧ x < 0) ∨ (rt = true ∧ 0 ≤ x ∧ 65536 ≤ x) ∨ rt = false := by
          cases rt
          · exact .inr (.inr (.inr rfl))
          · by_cases h1 : x < 0
            · exact .inr (.inl ⟨rfl, h1⟩)
            · by_cases h2 : x < 65536
              · exact .inl ⟨rfl, by omega, h2⟩
              · exact .inr (.inr (.inl ⟨rfl, by omega, by omega⟩))
        rcases CASES with ⟨rfl, p1, p2⟩ | ⟨rfl, p1⟩ | ⟨rfl, p1, p2⟩ | rfl
        · have hz : rt2 = true := by rw [HR.out, decide_eq_true p1, decide_eq_true p2]; rfl
          subst hz
          have z1 : decide (x < 65536) = true := decide_eq_true p2
          go_wp2_with fail
          go_meet
          exact ⟨rfl, rfl⟩
        · have hz : rt2 = false := by rw [HR.out, decide_eq_false (by omega : ¬ 0 ≤ x)]; rfl
          subst hz
          go_wp2_with fail
          go_meet
          exact ⟨rfl, rfl⟩
        · have hz : rt2 = false := by rw [HR.out, decide_eq_false (by omega : ¬ x < 65536)]; simp
          subst hz
          have z1 : decide (x < 65536) = false := decide_eq_false (by omega)
          go_wp2_with fail
          go_meet
          exact ⟨rfl, rfl⟩
        · have hz : rt2 = false := by rw [HR.out]; rfl
          subst hz
          go_wp2_with fail
          go_meet
          exact ⟨rfl, rfl⟩
      case rest =>
       obtain ⟨rfl, rfl⟩ := hcut
       obtain ⟨wo, rfl⟩ : ∃ wo : World, wo = wc := ⟨_, rfl⟩
       go_upto_region 11 with fail
       go_cut [10] (fun s wc => s = .bool in2 ∧ wc = wo)
       case first =>
        cases inn
        · by_cases hxn : x = n
          · have hz : in2 = true := by rw [HI.out]; simp [hxn]
            subst hz
            have hxn2 : (x == n) = true := by simpa using hxn
            go_wp2_with fail
            go_meet
            exact ⟨by simp [hxn], rfl⟩
          · have hz : in2 = false := by rw [HI.out]; simp [hxn]
            subst hz
            have hxn2 : (x == n) = false := by simpa using hxn
            go_wp2_with fail
            go_meet
            exact ⟨by simp [hxn], rfl⟩
        · have hz : in2 = true := by rw [HI.out]; rfl
          subst hz
          go_wp2_with fail
          go_meet
          exact ⟨rfl, rfl⟩
       case rest =>
        obtain ⟨rfl, rfl⟩ := hcut
        obtain ⟨wo, rfl⟩ : ∃ wo : World, wo = wc := ⟨_, rfl⟩
        have hw1 : IntKind.i64.wrap ((l.length : Int) - 1) = (l.length : Int) - 1 := IntWalk.i64_in _ (by omega)
        have hw2 : IntKind.i64.wrap ((l.length : Int) - 1 - (k : Int)) = (p : Int) := by rw [hpi]; exact IntWalk.i64_in _ (by omega)
        have hp1 : p < l.length := by omega
        have hp2 : (p : Int) < (l.length : Int) := by omega
        have hown2 := (hown.drew).alloc (.cells #[.int .i64 y, .int .i64 y] 3)
        clear hp hpi
        go_wp2
        go_region_law (refine step_append_lies _ (by rfl) _ _ _ (by rfl) w2.heap.size 3 i0 _ 1 8 Tryd.underlying34 hi hz0 hz1 hz2 rfl (by decide) _ _ _ (by rfl) hown2 ⟨wo.heap.size, 0, none⟩ 2 2 [.int .i64 y, .int .i64 y] (by rfl) (by rfl) (World.news_of_block (cs := #[.int .i64 y, .int .i64 y]) (t := 3) (fr := (0, 0)) (heap_alloc_new wo.drew _)) (by simp [Value.oneCell']) (by omega) (by unfold maxLen; omega) (by omega) (by have := hbw.size; simp [World.drew]; omega) (wo.heap.size + 1) (by simp [World.drew]) ?_; intro gg cap w4 hown4 hgrow hat hlt4)
        all_goals
          have hbw4 := (hbw.alloc hbw.size (.cells #[.int .i64 y, .int .i64 y] 3)).drew.grown hgrow (by have := hbw.size; simp [World.drew]; omega) (fun j hj => (hown.lt j hj).1)
          go_wp2
          refine ⟨⟨k + 1, by omega, by go_num, by rw [HR2.out], by rw [HI2.out], ?_, hbw4⟩, by simp [intOf]; omega⟩
          rw [show 2 * (k + 1) = 2 * k + 2 by omega, HTW.out, ← ins_two]
          exact hown4
    · have hkl : k = l.length := by omega
      subst hkl
      have hbW := b2.trans (hbw.mono b2.size)
      have lT := twice_len l (Nat.le_refl _)
      have eT := ofL_congr (twice_all l)
      rw [List.take_length] at *
      obtain ⟨B0, cb, rfl, _, hB⟩ := own_form hown
      have K2 := Of_any B0 cb (twice l l.length) wo (by rw [lT]; exact hB) (by rw [lT]; omega)
      rw [lT, eT.1, eT.2, HL.out, HE.out] at K2
      have K2 := Lib.hid K2
      have lL : L.length ≤ 65536 := by rw [← HL.out]; exact ofL_len l
      clear lT eT hown hB
      cases hrt : lineOk l
      · have hL0 : L = [] := by rw [← HL.out]; unfold ofL; rw [hrt]; rfl
        have hE0 : er = 2 := by rw [← HE.out]; unfold ofE; rw [hrt]; rfl
        subst hL0 hE0
        go_wp2_with (go_at_call 15; (with_reducible refine K2.out.mono ?_); rintro e w5 ⟨v5, rfl, q5⟩; obtain ⟨A5, c5, rfl, r5, k5⟩ := q5.get)
        go_ret
        exact ⟨rfl, hbW.trans (k5.mono hbW.size)⟩
      · have hE0 : er = 0 := by rw [← HE.out]; unfold ofE; rw [hrt]; rfl
        subst hE0
        have HMP := Lib.hid (show ∀ j, j ≤ L.length → 0 ≤ span (L.take j) ∧ span (L.take j) ≤ 65536 * (j : Int) by
          have hok : Sp.ok L = true := by rw [← HL.out]; unfold ofL; rw [if_pos hrt]; exact Sp.setOf_ok _ (Nat.le_refl _)
          intro j
          induction j with
          | zero => intro _; simp [span]
          | succ j ih =>
            intro hj
            have h1 := ih (by omega)
            have h2 := Sp.okFrom_mem hok L[j] (List.getElem_mem (by omega))
            rw [List.take_succ_eq_append_getElem (by omega), span_snoc]
            omega)
        have HRG := Lib.hid (show ∀ j (h : j < L.length), 0 ≤ L[j].1 ∧ L[j].1 ≤ 65536 ∧ 0 ≤ L[j].2 ∧ L[j].2 ≤ 65536 by
          have hok : Sp.ok L = true := by rw [← HL.out]; unfold ofL; rw [if_pos hrt]; exact Sp.setOf_ok _ (Nat.le_refl _)
          intro j h
          have h2 := Sp.okFrom_mem hok L[j] (List.getElem_mem h)
          omega)
        go_wp2_with (go_at_call 15; (with_reducible refine K2.out.mono ?_); rintro e w5 ⟨v5, rfl, q5⟩; obtain ⟨A5, c5, rfl, r5, k5⟩ := q5.get)
        have b5 := hbW.trans (k5.mono hbW.size)
        have s2 := r2.later (hbw.trans (k5.mono hbw.size))
        go_loopw [14, 107] (fun mv i wr => ∃ j : Nat, j ≤ L.length ∧ i = .int .i64 j ∧ mv = .int .i64 (span (L.take j)) ∧ Below w5.heap.size w5 wr) (fun _ i _ => L.length - (intOf i).toNat)
        case atStart => exact ⟨0, Nat.zero_le _, rfl, rfl, Below.refl _ _⟩
        case round =>
          obtain ⟨j, hj, rfl, rfl, hb6⟩ := hrel
          obtain ⟨wo2, rfl⟩ : ∃ wo2 : World, wo2 = wr := ⟨_, rfl⟩
          by_cases hjl : j < L.length
          · have s3 := s2.later hb6
            obtain ⟨g1, o3, rfl, _, c1, c3⟩ := s3.rg (k := j) (List.getElem?_eq_getElem hjl)
            have m1 := HMP.out j (by omega)
            have m2 := HMP.out (j + 1) (by omega)
            have m3 := HRG.out j hjl
            have HS := Lib.hid (show span (L.take (j + 1)) = span (L.take j) + L[j].2 - L[j].1 by rw [List.take_succ_eq_append_getElem hjl, span_snoc])
            rw [HS.out] at m2
            generalize span (L.take j) = q at *
            generalize L[j] = r at c1 c3 m2 m3 HS
            obtain ⟨f, t⟩ := r
            simp only at c1 c3 m2 m3 HS
            have u1 : IntKind.i64.wrap (q + t) = q + t := IntWalk.i64_in _ (by omega)
            have u2 : IntKind.i64.wrap (q + t - f) = q + t - f := IntWalk.i64_in _ (by omega)
            go_wp2
            go_quiet (fail)
            go_wp2
            go_roundw
            case rel => exact ⟨j + 1, by omega, by go_num, by rw [HS.out], below_drewN hb6 _⟩
            case measure => simp [intOf]; omega
          · have hje : j = L.length := by omega
            have hspan : span (L.take j) = ((met l).length : Int) := by rw [hje, List.take_length, ← HL.out]; exact span_ofL hrt
            rw [hspan]
            subst hje
            have b6 := b5.trans (hb6.mono b5.size)
            have hmm := @run_makeMap Tryd.prog
            go_wp2
            go_loopw [127] (fun i wr => ∃ (k : Nat) (D : DataW Unit), k ≤ l.length ∧ i = .int .i64 k ∧ wr.ownsMap Tryd.prog 3 (plainElem (H := Unit) Tryd.prog 3) wo2.heap.size k D ∧ Hid (Cnts (l.take k) D) ∧ Below wo2.heap.size wo2 wr) (fun i _ => l.length - (intOf i).toNat)
            case atStart => exact ⟨0, _, Nat.zero_le _, rfl, World.ownsMap_made _ _ _ _, Lib.hid Cnts.nil, (Below.refl _ _).alloc (Nat.le_refl _) _⟩
            case round =>
              obtain ⟨k, D, hk, rfl, hown, HC, hb7⟩ := hrel
              obtain ⟨wo3, rfl⟩ : ∃ wo3 : World, wo3 = wr := ⟨_, rfl⟩
              have b7 := b6.trans (hb7.mono b6.size)
              by_cases hlt : k < l.length
              · obtain ⟨d1, o1, rfl, _, cx⟩ := (RA.out _ b7).nu (k := k) (List.getElem?_eq_getElem hlt)
                have hxm := List.getElem_mem hlt
                have HT := Lib.hid (List.take_succ_eq_append_getElem hlt)
                obtain ⟨x, hxx⟩ : ∃ x, l[k] = x := ⟨_, rfl⟩
                have hwx := HLW.out l[k] hxm
                have KH := Has_any A2 c2 L x wo3 (s2.later (hb6.trans (hb7.mono hb6.size))) (by omega)
                have hh : hasB L x = true := by
                  rw [← HL.out, hasB_ofL hrt, List.any_eq_true]
                  exact ⟨x, hxx ▸ hxm, by simp⟩
                rw [hh] at KH
                have KH := Lib.hid KH
                have CT := Lib.hid (show Cnts (l.take k ++ [x]) (D.put (.int .i64 x) (.lit (.int .i64 0))) ∨ True from .inr trivial)
                rw [hxx] at cx hwx
                have HT2 := Lib.hid (show l.take (k + 1) = l.take k ++ [x] by rw [HT.out, hxx])
                have hkey : keyOf Tryd.prog 3 (.int .i64 x) = some (.int .i64 x) := Go.Maps.keyOf_int_mk Tryd.underlying3 hwx
                have HX := Lib.hid hxx
                clear hh HT CT hxx hxm hwx
                go_wp2_with (first
                  | (go_at_call 16; (with_reducible refine KH.out.mono ?_); rintro e w8 ⟨rfl, k8⟩; have b8 := b7.trans (k8.mono b7.size); have hown8 := ownsMap_below hown k8 hown.lt; obtain ⟨d3, o3, e3, _, cx8⟩ := (RA.out _ b8).nu (k := k) (List.getElem?_eq_getElem hlt); cases e3; rw [HX.out] at cx8)
                  | (at_lookup; refine wpList_lookup_own_int _ rfl _ _ 39 rfl 3 3 .i64 (Go.Maps.int_keyed Tryd.underlying3) Tryd.underlying39 Tryd.underlying3 (by kernel_rfl) wo2.heap.size k _ rfl hown8 _ _ rfl hkey ?_; intro c hat hwc)
                  | (at_mapUpdate; refine wpList_mapUpdate_own _ rfl _ _ _ 39 rfl 3 3 (Go.Maps.int_keyed Tryd.underlying3) Tryd.underlying39 _ wo2.heap.size k _ rfl hown8 (by unfold maxLen; omega) _ _ _ rfl rfl hkey _ [] (plainElem_int Tryd.underlying3 (wrap64_wf _)) ?_; intro w9 hown9 hgrow9)
                  | go_in)
                go_roundw
                case rel => exact ⟨k + 1, _, by omega, by go_num, hown9, Lib.hid (by rw [HT2.out]; exact Cnts.put HC.out x _), ((hb7.trans (k8.mono hb7.size)).grown hgrow9 (by have := k8.size; have := hb7.size; omega) (fun j hj => by cases hj; exact Nat.le_refl _))⟩
                case measure => simp [intOf]; omega
              · have hke : k = l.length := by omega
                have HC2 := HC.out.2.1
                rw [hke, List.take_length] at HC2
                subst hke
                have hmet : ((met l).length : Int) = (Maps.size D : Int) := by rw [HC2]
                have K9 := Lib.hid (same_eq A2 A5 c2 c5 L wo3 (s2.later (hb6.trans (hb7.mono hb6.size))) ((r5.later hb6).later hb7) (by omega))
                have KHn := Lib.hid (fun w9 (hb : Below w5.heap.size w5 w9) => Has_any A2 c2 L n w9 (s2.later hb) (by omega))
                have hhn : hasB L n = l.any (fun y => y == n) := by rw [← HL.out]; exact hasB_ofL hrt n
                have b76 := hb6.trans (hb7.mono hb6.size)
                try rw [List.take_length]
                go_wp2_with (first
                  | (go_at_call 13; (with_reducible refine K9.out.mono ?_); rintro e w9 ⟨rfl, k9⟩; have b9 := b7.trans (k9.mono b7.size); have hown9 := ownsMap_below hown k9 hown.lt; have hlen := hown9.len (e := 3) Tryd.underlying39 3; have hs9 := b76.trans (k9.mono b76.size))
                  | (go_at_call 16; (with_reducible refine (KHn.out _ hs9).mono ?_); rintro e w10 ⟨rfl, k10⟩; have b10 := b9.trans (k10.mono b9.size))
                  | go_in)
                go_ret
                exact ⟨by simp, b10⟩

end Go.Proofs.YtccpjjhaeocfhaaDoor
