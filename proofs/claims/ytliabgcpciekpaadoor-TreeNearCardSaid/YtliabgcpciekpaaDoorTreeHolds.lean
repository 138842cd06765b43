/- The law TreeHolds, walked. -/
import Derived.Test.YtliabgcpciekpaaDoorTreeUnder
set_option linter.unusedVariables false
set_option linter.unusedSimpArgs false
namespace Go.Proofs.YtliabgcpciekpaaDoor
open Go Go.RowKit Go.Maps

namespace Tr
theorem dotB_short {x : T} (h : x.length < 5) : dotB x = false := by
  have : ¬ dotB x = true := fun e => by
    rcases (dotB_iff x).1 e with e | ⟨q, e⟩
    · rw [e] at h; exact absurd h (by decide)
    · rw [e] at h; simp [dot] at h; omega
  simpa using this
theorem dotB_suf {x : T} {m : Nat} (hl : x.length = m + 5) (h : ¬ x.drop m = dot) : dotB x = false := by
  have : ¬ dotB x = true := fun e => h (by
    rcases (dotB_iff x).1 e with e | ⟨q, e⟩
    · have : m = 0 := by rw [e] at hl; simp [dot] at hl; omega
      subst this; rw [e]; rfl
    · have : m = (q ++ [47]).length := by rw [e] at hl; simp [dot] at hl ⊢; omega
      rw [e, this, show q ++ 47 :: dot = (q ++ [47]) ++ dot by simp, List.drop_left' rfl])
  simpa using this
theorem dotB_five {x : T} (h : x.drop 0 = dot) : dotB x = true := (dotB_iff x).2 (.inl (by simpa using h))
theorem dotB_no {x : T} {q : Nat} {c : UInt8} (hl : x.length = q + 6) (hc : x[q]? = some c) (h : c ≠ 47) : dotB x = false := by
  have : ¬ dotB x = true := fun e => by
    unfold dotB at e
    rw [Bool.and_eq_true, Bool.or_eq_true, decide_eq_true_eq, decide_eq_true_eq] at e
    rcases e.2 with e | e
    · omega
    · rw [show x.length - 6 = q by omega, hc] at e
      exact h (by injection e)
  simpa using this
theorem dotB_yes {x : T} {q : Nat} (hl : x.length = q + 6) (hd : x.drop (q + 1) = dot) (hc : x[q]? = some 47) : dotB x = true := by
  refine (dotB_iff x).2 (.inr ⟨x.take q, ?_⟩)
  have h1 := List.take_append_drop q x
  have h2 : q < x.length := by omega
  rw [List.drop_eq_getElem_cons h2, hd] at h1
  rw [List.getElem?_eq_getElem h2] at hc
  injection hc with hc
  rw [hc] at h1
  exact h1.symm
theorem cand_dot {p x : T} (h : dotB x = false) : cand p x = false := by unfold cand; rw [h]; rfl
theorem pre_iff {p x : T} {m : Nat} (hl : x.length = m + 5) : (x.take (x.length - 5)).isPrefixOf p = true ↔ m ≤ p.length ∧ p.take m = x.take m := by
  rw [List.isPrefixOf_iff_prefix, show x.length - 5 = m by omega]
  have hxl : (x.take m).length = m := by simp; omega
  constructor
  · rintro ⟨r, e⟩
    refine ⟨by rw [← e, List.length_append, hxl]; omega, ?_⟩
    rw [← e, List.take_append_of_le_length (by omega), List.take_take, Nat.min_self]
  · rintro ⟨_, e⟩
    exact ⟨p.drop m, by rw [← e, List.take_append_drop]⟩
theorem cand_long {p x : T} {m : Nat} (hl : x.length = m + 5) (h : p.length < m) : cand p x = false := by
  unfold cand
  have : (x.take (x.length - 5)).isPrefixOf p = false := by
    cases hh : (x.take (x.length - 5)).isPrefixOf p
    · rfl
    · have := ((pre_iff hl).1 hh).1; omega
  rw [this, Bool.and_false]
theorem cand_diff {p x : T} {m : Nat} (hl : x.length = m + 5) (h : ¬ p.take m = x.take m) : cand p x = false := by
  unfold cand
  have : (x.take (x.length - 5)).isPrefixOf p = false := by
    cases hh : (x.take (x.length - 5)).isPrefixOf p
    · rfl
    · exact absurd ((pre_iff hl).1 hh).2 h
  rw [this, Bool.and_false]
theorem cand_yes {p x : T} {m : Nat} (hd : dotB x = true) (hl : x.length = m + 5) (hm : m ≤ p.length) (h : p.take m = x.take m) : cand p x = true := by
  unfold cand; rw [hd, (pre_iff hl).2 ⟨hm, h⟩]; rfl
theorem bstT {p : T} {L : List T} {i : Nat} {x : T} (h : L[i]? = some x) : bst p (L.take (i + 1)) = bstS p (bst p (L.take i)) x := by
  rw [List.take_add_one, h]; exact bst_snoc _ _ _
theorem bstS_no {p x : T} {s : T × Bool} (h : cand p x = false) : bstS p s x = s := by unfold bstS; rw [h]; simp
theorem bstS_first {p x : T} {b : T} (h : cand p x = true) : bstS p (b, false) x = (x, true) := by unfold bstS; rw [h]; simp
theorem bstS_longer {p x : T} {b : T} (h : cand p x = true) (hl : b.length < x.length) : bstS p (b, true) x = (x, true) := by unfold bstS; rw [h]; simp [hl]
theorem bstS_not {p x : T} {b : T} (h : cand p x = true) (hl : ¬ b.length < x.length) : bstS p (b, true) x = (b, true) := by unfold bstS; rw [h]; simp [hl]
end Tr
theorem bs_cut (x : Tr.T) (a b : Nat) (h : x.length ≤ b) : (bs x).extract a b = bs (x.drop a) := by
  rw [Lib.extract_eq, bs_data]
  rw [List.take_of_length_le (by simp; omega)]
  rfl

set_option maxRecDepth 100000 in
set_option maxHeartbeats 8000000 in
theorem TreeHolds_any (A : Option Addr) (cap : Nat) (fs : List (Tr.T × Tr.T)) (p : Tr.T) (w : World) (hrd : Rd w 2 A fs.length (fls fs)) (hn : fs.length ≤ 4398046511104) (hz : ∀ f ∈ fs, f.1.length ≤ 140737488355328) (hpl : p.length ≤ 140737488355328) :
    Calls Tryd.prog 8 #[.slice A fs.length cap, .string (bs p)] w fun e w' => e = .returned (.bool true) ∧ Below w.heap.size w w' := by
  have AL := Lib.hid (treeAlive_any w)
  have GR := Lib.hid (fun W (hb : Below w.heap.size w W) => great_any A cap fs W (by omega) (hrd.later hb))
  generalize decide (3000 < Tr.grI fs) = gr at *
  have hps : (bs p).size = p.length := bs_size p
  cases gr
  rotate_left
  · go_enter Tryd.func8, Tryd.ntmps8
    go_wp2_with (first
      | (go_at_call 22; (with_reducible refine AL.out.mono ?_); rintro e w1 ⟨rfl, b1⟩)
      | (go_at_call 23; refine (GR.out _ b1).mono ?_; rintro e w2 ⟨rfl, b2⟩))
    go_ret
    exact ⟨rfl, b1.trans (b2.mono b1.size)⟩
  by_cases hbig : 1000 < p.length
  · go_enter Tryd.func8, Tryd.ntmps8
    go_wp2_with (first
      | (go_at_call 22; (with_reducible refine AL.out.mono ?_); rintro e w1 ⟨rfl, b1⟩)
      | (go_at_call 23; refine (GR.out _ b1).mono ?_; rintro e w2 ⟨rfl, b2⟩))
    go_ret
    exact ⟨rfl, b1.trans (b2.mono b1.size)⟩
  have UA := fun W (hb : Below w.heap.size w W) => Under_any A cap fs [] W (hrd.later hb) hn hz (by decide)
  have NA := fun W (hb : Below w.heap.size w W) => Nearest_any A cap fs p W (hrd.later hb) (by omega) hz hpl
  have PA := fun W => Path_any (bs p) W (by rw [hps]; exact hpl)
  simp only [bs_data] at PA
  have eb0 : bs [] = ⟨#[]⟩ := rfl
  simp only [Tr.unL_nil, Tr.unE_nil, eb0] at UA
  clear eb0
  unfold nsRes at NA
  cases hp : Tr.isPath p
  · have e1 : Tr.nsN (Tr.nms fs) p = [] := by unfold Tr.nsN; rw [hp]; rfl
    have e2 : Tr.nsH (Tr.nms fs) p = false := by unfold Tr.nsH; rw [hp]; rfl
    have e3 : Tr.nsE p = 220 := by unfold Tr.nsE; rw [hp]; rfl
    simp only [e1, e2, e3] at NA
    simp only [hp] at PA
    have t1 : (bs []).toList = [] := bs_toList []
    have t2 : (bs []).toList.isEmpty = true := by rw [t1]; rfl
    have NA := Lib.hid NA
    have UA := Lib.hid UA
    have PA := Lib.hid PA
    clear e1 e2 e3 hp hrd hz
    go_enter Tryd.func8, Tryd.ntmps8
    go_wp2_with (first
      | (go_at_call 22; (with_reducible refine AL.out.mono ?_); rintro e w1 ⟨rfl, b1⟩)
      | (go_at_call 23; refine (GR.out _ b1).mono ?_; rintro e w2 ⟨rfl, b2⟩; have B2 := Lib.hid (b1.trans (b2.mono b1.size)))
      | (go_at_call 24; refine (NA.out w2 B2.out).mono ?_; rintro e w3 ⟨rfl, b3⟩; have B3 := Lib.hid (B2.out.trans (b3.mono B2.out.size)))
      | (go_at_call 27; (with_reducible refine (UA.out w3 B3.out).mono ?_); rintro e w4 ⟨v4, rfl, o4, b4⟩; have B4 := Lib.hid (B3.out.trans (b4.mono B3.out.size)))
      | (go_at_call 25; refine (PA.out _).mono ?_; rintro e w5 ⟨rfl, b5⟩; have B5 := Lib.hid (B4.out.trans (b5.mono B4.out.size))))
    go_ret
    exact ⟨rfl, B5.out⟩
  have e1 : Tr.nsN (Tr.nms fs) p = Tr.near (Tr.nms fs) p := by unfold Tr.nsN; rw [hp]; rfl
  have e2 : Tr.nsH (Tr.nms fs) p = Tr.has (Tr.nms fs) p := by unfold Tr.nsH; rw [hp]; rfl
  have e3 : Tr.nsE p = 0 := by unfold Tr.nsE; rw [hp]; rfl
  simp only [e1, e2, e3] at NA
  have HBST := Lib.hid (Tr.bst_near (ms := Tr.nms fs) hp)
  have HPTH := Lib.hid (fun (x : Tr.T) h => Tr.path_len (Tr.und_path (ms := Tr.nms fs) (q := fun _ => true) (x := x) h))
  have hLl := Tr.und_length (Tr.nms fs) (fun _ => true)
  rw [Tr.nms_length] at hLl
  generalize (Tr.und (Tr.nms fs) fun _ => true) = L at *
  generalize Tr.near (Tr.nms fs) p = NR at *
  generalize Tr.has (Tr.nms fs) p = hs at *
  have NA := Lib.hid NA
  have UA := Lib.hid UA
  clear e1 e2 e3 hp hrd hz PA
  go_enter Tryd.func8, Tryd.ntmps8
  go_wp2_with (first
    | (go_at_call 22; (with_reducible refine AL.out.mono ?_); rintro e w1 ⟨rfl, b1⟩)
    | (go_at_call 23; refine (GR.out _ b1).mono ?_; rintro e w2 ⟨rfl, b2⟩; have B2 := Lib.hid (b1.trans (b2.mono b1.size)))
    | (go_at_call 24; refine (NA.out w2 B2.out).mono ?_; rintro e w3 ⟨rfl, b3⟩; have B3 := Lib.hid (B2.out.trans (b3.mono B2.out.size)))
    | (go_at_call 27; (with_reducible refine (UA.out w3 B3.out).mono ?_); rintro e w4 ⟨v4, rfl, o4, b4⟩; have B4 := Lib.hid (B3.out.trans (b4.mono B3.out.size)); obtain ⟨A4, c4, rfl, hc4, R4⟩ := own_form o4; have R4 := Lib.hid R4; clear o4))
  go_loop [11, 12, 61] (fun bv hv iv => ∃ (i : Nat) (B : Tr.T) (h : Bool), i ≤ L.length ∧ iv = .int .i64 i ∧ bv = .string (bs B) ∧ hv = .bool h ∧ B.length ≤ 1000 ∧ Hid (Tr.bst p (L.take i) = (B, h))) (fun _ _ iv => L.length - (intOf iv).toNat)
  case atStart => exact ⟨0, [], false, Nat.zero_le _, rfl, rfl, rfl, by simp, Lib.hid rfl⟩
  case round =>
    obtain ⟨i, B, h, hi, rfl, rfl, rfl, hBl, HB⟩ := hrel
    by_cases hlt : i < L.length
    · have hx := List.getElem?_eq_getElem hlt
      have hxl := HPTH.out _ (List.getElem_mem hlt)
      obtain ⟨g, o, rfl, hg, hc0⟩ := R4.out.st hx
      have HX := Lib.hid (Tr.bstT (p := p) hx)
      rw [HB.out] at HX
      generalize L[i] = x at *
      have hxs : (bs x).size = x.length := bs_size x
      have hBs : (bs B).size = B.length := bs_size B
      have hLI : (i : Int) < (L.length : Int) := by omega
      clear hx
      by_cases h5 : x.length < 5
      · have hcd := Tr.cand_dot (p := p) (Tr.dotB_short h5)
        have h5I : (x.length : Int) < 5 := by omega
        have HE := Lib.hid (HX.out.trans (Tr.bstS_no hcd))
        clear HX hcd
        go_wp2
        go_round
        case rel => exact ⟨i + 1, _, _, by omega, by go_num, rfl, rfl, by omega, HE⟩
        case measure => simp [intOf]; omega
      obtain ⟨m, hm⟩ : ∃ m, x.length = m + 5 := ⟨x.length - 5, by omega⟩
      rw [hm] at hxs
      have hcut : (bs x).extract m (m + 5) = bs (x.drop m) := bs_cut x _ _ (by omega)
      have hdt : (bs (x.drop m)).toList = x.drop m := bs_toList _
      have htk : (bs x).extract 0 m = bs (x.take m) := bs_extract x m
      have hmw : IntKind.i64.wrap (m : Int) = (m : Int) := IntWalk.i64_in _ (by omega)
      have hm5 : (5 : Int) ≤ (m : Int) + 5 := by omega
      have hm6 : ¬ (m : Int) + 5 < 5 := by omega
      have hm7 : (m : Int) ≤ (m : Int) + 5 := by omega
      by_cases hsf : x.drop m = Tr.dot
      rotate_left
      · have hcd := Tr.cand_dot (p := p) (Tr.dotB_suf hm hsf)
        have hsf' : ¬ x.drop m = [46, 99, 102, 109, 116] := hsf
        have hsfB : (x.drop m == [46, 99, 102, 109, 116]) = false := beq_eq_false_iff_ne.2 hsf'
        have HE := Lib.hid (HX.out.trans (Tr.bstS_no hcd))
        clear HX hcd
        go_wp2
        go_round
        case rel => exact ⟨i + 1, _, _, by omega, by go_num, rfl, rfl, by omega, HE⟩
        case measure => simp [intOf]; omega
      have hsf' : x.drop m = [46, 99, 102, 109, 116] := hsf
      have htd : (bs Tr.dot).toList = [46, 99, 102, 109, 116] := by rw [bs_toList]; rfl
      have HSF := Lib.hid hsf
      rcases Nat.eq_zero_or_pos m with h00 | h00
      · subst h00
        have hdb := Tr.dotB_five hsf
        have hxz : (bs (x.take 0)).size = 0 := by rw [bs_size, List.length_take]; omega
        have hlg : ¬ p.length < 0 := by omega
        have hlgI : ¬ (p.length : Int) < 0 := by omega
        have hlgK : 0 ≤ p.length := by omega
        have hpc : (bs p).extract 0 0 = bs (p.take 0) := bs_extract p _
        have hpt : (bs (p.take (0))).toList = p.take (0) := bs_toList _
        have hxt : (bs (x.take (0))).toList = x.take (0) := bs_toList _
        have hcd := Tr.cand_yes hdb hm hlgK (by simp)
        cases h
        · have HE := Lib.hid (HX.out.trans (Tr.bstS_first hcd))
          clear HX hcd
          go_wp2
          go_round
          case rel => exact ⟨i + 1, _, _, by omega, by go_num, rfl, rfl, by omega, HE⟩
          case measure => simp [intOf]; omega
        · by_cases hlo : B.length < x.length
          · have hloI : (B.length : Int) < (x.length : Int) := by omega
            have HE := Lib.hid (HX.out.trans (Tr.bstS_longer hcd hlo))
            clear HX hcd
            go_wp2
            go_round
            case rel => exact ⟨i + 1, _, _, by omega, by go_num, rfl, rfl, by omega, HE⟩
            case measure => simp [intOf]; omega
          · have hloI : ¬ (B.length : Int) < (x.length : Int) := by omega
            have HE := Lib.hid (HX.out.trans (Tr.bstS_not hcd hlo))
            clear HX hcd
            go_wp2
            go_round
            case rel => exact ⟨i + 1, _, _, by omega, by go_num, rfl, rfl, by omega, HE⟩
            case measure => simp [intOf]; omega
      · obtain ⟨q, rfl⟩ : ∃ q, m = q + 1 := ⟨m - 1, by omega⟩
        have hqs : q < (bs x).size := by omega
        have hqg := ba_get (bs x) q hqs
        rw [bs_data] at hqg
        have hq5 : (5 : Int) < (q : Int) + 1 + 5 := by omega
        have hqw : IntKind.i64.wrap (q : Int) = (q : Int) := IntWalk.i64_in _ (by omega)
        by_cases hc47 : ((bs x)[q]).toNat = 47
        · have hdb := Tr.dotB_yes (q := q) (by omega) hsf (by rw [hqg]; exact congrArg some (UInt8.toNat_inj.1 (by rw [hc47]; rfl)))
          have hcI : (((bs x)[q]).toNat : Int) = 47 := by omega
          clear hqg
          have hxz : (bs (x.take (q + 1))).size = q + 1 := by rw [bs_size, List.length_take]; omega
          by_cases hlg : p.length < q + 1
          · have hcd := Tr.cand_long (p := p) hm hlg
            have hlgI : (p.length : Int) < (q + 1 : Int) := by omega
            have HE := Lib.hid (HX.out.trans (Tr.bstS_no hcd))
            clear HX hcd
            go_wp2
            go_round
            case rel => exact ⟨i + 1, _, _, by omega, by go_num, rfl, rfl, by omega, HE⟩
            case measure => simp [intOf]; omega
          · have hlgI : ¬ (p.length : Int) < (q + 1 : Int) := by omega
            have hlgJ : (q + 1 : Int) ≤ (p.length : Int) := by omega
            have hlgK : q + 1 ≤ p.length := by omega
            have hpc : (bs p).extract 0 (q + 1) = bs (p.take (q + 1)) := bs_extract p _
            have hpt : (bs (p.take (q + 1))).toList = p.take (q + 1) := bs_toList _
            have hxt : (bs (x.take (q + 1))).toList = x.take (q + 1) := bs_toList _
            by_cases hdf : p.take (q + 1) = x.take (q + 1)
            · have hcd := Tr.cand_yes hdb hm hlgK hdf
              cases h
              · have HE := Lib.hid (HX.out.trans (Tr.bstS_first hcd))
                clear HX hcd
                go_wp2
                go_round
                case rel => exact ⟨i + 1, _, _, by omega, by go_num, rfl, rfl, by omega, HE⟩
                case measure => simp [intOf]; omega
              · by_cases hlo : B.length < x.length
                · have hloI : (B.length : Int) < (x.length : Int) := by omega
                  have HE := Lib.hid (HX.out.trans (Tr.bstS_longer hcd hlo))
                  clear HX hcd
                  go_wp2
                  go_round
                  case rel => exact ⟨i + 1, _, _, by omega, by go_num, rfl, rfl, by omega, HE⟩
                  case measure => simp [intOf]; omega
                · have hloI : ¬ (B.length : Int) < (x.length : Int) := by omega
                  have HE := Lib.hid (HX.out.trans (Tr.bstS_not hcd hlo))
                  clear HX hcd
                  go_wp2
                  go_round
                  case rel => exact ⟨i + 1, _, _, by omega, by go_num, rfl, rfl, by omega, HE⟩
                  case measure => simp [intOf]; omega
            · have hdfB : (p.take (q + 1) == x.take (q + 1)) = false := beq_eq_false_iff_ne.2 hdf
              have hcd := Tr.cand_diff hm hdf
              have HE := Lib.hid (HX.out.trans (Tr.bstS_no hcd))
              clear HX hcd
              go_wp2
              go_round
              case rel => exact ⟨i + 1, _, _, by omega, by go_num, rfl, rfl, by omega, HE⟩
              case measure => simp [intOf]; omega
        · have hcd := Tr.cand_dot (p := p) (Tr.dotB_no (q := q) (by omega) hqg (fun e => hc47 (by rw [e]; rfl)))
          have hcI : ¬ (((bs x)[q]).toNat : Int) = 47 := by omega
          have hcB : ((((bs x)[q]).toNat : Int) == 47) = false := beq_eq_false_iff_ne.2 hcI
          have hcN : ((((bs x)[q]).toNat : Int) != 47) = true := by simp [hcI]
          clear hqg
          have HE := Lib.hid (HX.out.trans (Tr.bstS_no hcd))
          clear HX hcd
          go_wp2
          go_round
          case rel => exact ⟨i + 1, _, _, by omega, by go_num, rfl, rfl, by omega, HE⟩
          case measure => simp [intOf]; omega
    · obtain rfl : i = L.length := by omega
      have hb := HB.out
      rw [List.take_length, HBST.out] at hb
      injection hb with hb1 hb2
      subst hb1 hb2
      have hLI : ¬ (L.length : Int) < (L.length : Int) := by omega
      clear HB
      go_wp2
      go_ret
      exact ⟨by simp, B4.out⟩

end Go.Proofs.YtliabgcpciekpaaDoor

