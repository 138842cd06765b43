/- Several texts in one: Walks: where the scanner's punctuators and headers end; Walks: a text's parts: partAt, end. -/
import Derived.Test.YtffjblamfbmoeaaGreatDoorUc
import Derived.Test.YtffjblamfbmoeaaGreatDoorUb
import Derived.Deep.DeepCutAuto
import Derived.Deep.CutRange
/-! Walks: where the scanner's punctuators and headers end. -/
set_option linter.unusedVariables false
set_option linter.unusedSimpArgs false
namespace Go.Proofs.YtffjblamfbmoeaaGreatDoor
open Go Go.RowKit

namespace Tp
theorem puLen_le (l : T) (a n : Nat) : puLen l a n ≤ n := by
  induction n with
  | zero => simp [puLen]
  | succ n ih => rw [puLen]; split <;> omega
/-- Where it ends, from n on. -/
def puE (l : T) (a n : Nat) : Nat := match puLen l a n with | 0 => 0 | m + 1 => a + (m + 1)
theorem puE_yes {l : T} {a n : Nat} (h : punct ((l.drop a).take (n + 1)) = true) : puE l a (n + 1) = a + (n + 1) := by unfold puE; rw [puLen, h]; rfl
theorem puE_no {l : T} {a n : Nat} (h : punct ((l.drop a).take (n + 1)) = false) : puE l a (n + 1) = puE l a n := by unfold puE; rw [puLen, h]; rfl
/-- A header's end, from k on. -/
def hdE (q : UInt8) (l : T) (k : Nat) : Nat := match hdLen q (l.drop k) with | 0 => 0 | n + 1 => k + (n + 1)
theorem hdE_end {q : UInt8} {l : T} {k : Nat} (h : l.length ≤ k) : hdE q l k = 0 := by unfold hdE; rw [List.drop_eq_nil_of_le h]; rfl
theorem hdE_nl {q x : UInt8} {l : T} {k : Nat} (h : l[k]? = some x) (hx : x = 10) : hdE q l k = 0 := by
  have hl := (List.getElem?_eq_some_iff.1 h).1
  unfold hdE
  rw [List.drop_eq_getElem_cons hl, (List.getElem?_eq_some_iff.1 h).2, hdLen, if_pos hx]
theorem hdE_q {q x : UInt8} {l : T} {k : Nat} (h : l[k]? = some x) (hn : x ≠ 10) (hx : x = q) : hdE q l k = k + 1 := by
  have hl := (List.getElem?_eq_some_iff.1 h).1
  unfold hdE
  rw [List.drop_eq_getElem_cons hl, (List.getElem?_eq_some_iff.1 h).2, hdLen, if_neg hn, if_pos hx]
theorem hdE_go {q x : UInt8} {l : T} {k : Nat} (h : l[k]? = some x) (hn : x ≠ 10) (hx : x ≠ q) : hdE q l k = hdE q l (k + 1) := by
  have hl := (List.getElem?_eq_some_iff.1 h).1
  unfold hdE
  rw [List.drop_eq_getElem_cons hl, (List.getElem?_eq_some_iff.1 h).2, hdLen, if_neg hn, if_neg hx]
  cases hdLen q (l.drop (k + 1)) with
  | zero => rfl
  | succ n => simp only; omega
end Tp

theorem bs_sub (t : Tp.T) (a b : Nat) : (bs t).extract a (a + b) = bs ((t.drop a).take b) := by
  rw [Lib.extract_eq, bs_data, Nat.add_sub_cancel_left]; rfl

set_option maxRecDepth 100000 in
set_option maxHeartbeats 2000000 in
theorem punctEnd_any (t : Tp.T) (a : Nat) (w : World) (ha : a < t.length) (hl : t.length ≤ 1000000) :
    Calls Tryz.prog 100 #[.string (bs t), .int .i64 a] w fun e w' => e = .returned (.int .i64 (Tp.punctEnd t a : Nat)) ∧ w' = w := by
  have hts : (bs t).size = t.length := bs_size t
  obtain ⟨m, hm⟩ : ∃ m, m = min 4 (t.length - a) := ⟨_, rfl⟩
  have HV := Lib.hid (show Tp.punctEnd t a = Tp.puE t a m by rw [hm]; unfold Tp.punctEnd Tp.puE; cases Tp.puLen t a (min 4 (t.length - a)) <;> rfl)
  have hsub : ∃ d, t.length = a + d ∧ 0 < d := ⟨t.length - a, by omega, by omega⟩
  obtain ⟨d, hd, hd0⟩ := hsub
  have hmd : m = min 4 d := by rw [hm, hd]; congr 1; omega
  clear hm
  have PU := Lib.hid punct_any
  have hdI : ((t.length : Int) - (a : Int)) = (d : Int) := by omega
  rcases (by omega : (4 ≤ d ∧ m = 4) ∨ (d < 4 ∧ m = d)) with ⟨h4, hm4⟩ | ⟨h4, hm4⟩
  · have h4I : (4 : Int) ≤ (d : Int) := by omega
    have HM := Lib.hid hm4
    have HD := Lib.hid hd
    have hmle : m ≤ d := by omega
    have hmle2 : a + m ≤ t.length := by omega
    clear hmd hm4 hd
    go_enter Tryz.func100, Tryz.ntmps100
    go_wp2
    go_loop [5] (fun i => ∃ n : Nat, n ≤ m ∧ i = .int .i64 n ∧ Hid (Tp.puE t a m = Tp.puE t a n)) (fun i => (intOf i).toNat)
    case atStart => exact ⟨m, Nat.le_refl _, by congr 1; have := HM.out; omega, Lib.hid rfl⟩
    case round =>
      obtain ⟨n, hn, rfl, HE⟩ := hrel
      cases n with
      | zero =>
        have HR := Lib.hid (show Tp.punctEnd t a = 0 by rw [HV.out, HE.out]; rfl)
        go_wp2
        go_ret
        exact ⟨by rw [HR.out]; rfl, rfl⟩
      | succ n =>
        have hcut := bs_sub t a (n + 1)
        have hb1 : a + (n + 1) ≤ t.length := by omega
        have hb1I : (a : Int) + ((n : Int) + 1) ≤ (t.length : Int) := by omega
        have PUx := fun W => punct_any ((t.drop a).take (n + 1)) W
        cases hp : Tp.punct ((t.drop a).take (n + 1))
        · rw [hp] at PUx
          have HE2 := Lib.hid (HE.out.trans (Tp.puE_no hp))
          have PUx := Lib.hid PUx
          clear hp
          go_wp2_with (first
            | (go_at_call 115; (with_reducible refine (PUx.out _).mono ?_); rintro e w1 ⟨rfl, rfl⟩))
          go_round
          case rel => exact ⟨n, by omega, by go_num, HE2⟩
          case measure => simp [intOf] <;> omega
        · rw [hp] at PUx
          have HR := Lib.hid (show Tp.punctEnd t a = a + (n + 1) by rw [HV.out, HE.out, Tp.puE_yes hp])
          have PUx := Lib.hid PUx
          clear hp
          go_wp2_with (first
            | (go_at_call 115; (with_reducible refine (PUx.out _).mono ?_); rintro e w1 ⟨rfl, rfl⟩))
          go_ret
          exact ⟨by rw [HR.out]; simp, rfl⟩
  · have h4I : ¬ (4 : Int) ≤ (d : Int) := by omega
    have HM := Lib.hid hm4
    have HD := Lib.hid hd
    have hmle2 : a + m ≤ t.length := by omega
    clear hmd hm4 hd
    go_enter Tryz.func100, Tryz.ntmps100
    go_wp2
    go_loop [5] (fun i => ∃ n : Nat, n ≤ m ∧ i = .int .i64 n ∧ Hid (Tp.puE t a m = Tp.puE t a n)) (fun i => (intOf i).toNat)
    case atStart => exact ⟨m, Nat.le_refl _, by congr 1; have := HM.out; omega, Lib.hid rfl⟩
    case round =>
      obtain ⟨n, hn, rfl, HE⟩ := hrel
      cases n with
      | zero =>
        have HR := Lib.hid (show Tp.punctEnd t a = 0 by rw [HV.out, HE.out]; rfl)
        go_wp2
        go_ret
        exact ⟨by rw [HR.out]; rfl, rfl⟩
      | succ n =>
        have hcut := bs_sub t a (n + 1)
        have hb1 : a + (n + 1) ≤ t.length := by omega
        have hb1I : (a : Int) + ((n : Int) + 1) ≤ (t.length : Int) := by omega
        have PUx := fun W => punct_any ((t.drop a).take (n + 1)) W
        cases hp : Tp.punct ((t.drop a).take (n + 1))
        · rw [hp] at PUx
          have HE2 := Lib.hid (HE.out.trans (Tp.puE_no hp))
          have PUx := Lib.hid PUx
          clear hp
          go_wp2_with (first
            | (go_at_call 115; (with_reducible refine (PUx.out _).mono ?_); rintro e w1 ⟨rfl, rfl⟩))
          go_round
          case rel => exact ⟨n, by omega, by go_num, HE2⟩
          case measure => simp [intOf] <;> omega
        · rw [hp] at PUx
          have HR := Lib.hid (show Tp.punctEnd t a = a + (n + 1) by rw [HV.out, HE.out, Tp.puE_yes hp])
          have PUx := Lib.hid PUx
          clear hp
          go_wp2_with (first
            | (go_at_call 115; (with_reducible refine (PUx.out _).mono ?_); rintro e w1 ⟨rfl, rfl⟩))
          go_ret
          exact ⟨by rw [HR.out]; simp, rfl⟩

set_option maxRecDepth 100000 in
set_option maxHeartbeats 2000000 in
theorem headerEnd_any (t : Tp.T) (a : Nat) (w : World) (ha : a < t.length) (hl : t.length ≤ 1000000) :
    Calls Tryz.prog 76 #[.string (bs t), .int .i64 a] w fun e w' => e = .returned (.int .i64 (Tp.headerEnd t a : Nat)) ∧ w' = w := by
  have hts : (bs t).size = t.length := bs_size t
  have has : a < (bs t).size := by omega
  have hg := ba_getT (bs t) a has
  rw [bs_data] at hg
  have hg2 : Tp.g t a = (bs t)[a] := by unfold Tp.g; rw [List.getD_eq_getElem?_getD, hg]; rfl
  generalize hc : (bs t)[a] = c at *
  have run : ∀ q : UInt8, ((c = 60 ∧ q = 62) ∨ (c = 34 ∧ q = 34)) → Tp.headerEnd t a = Tp.hdE q t (a + 1) := by
    intro q h
    unfold Tp.headerEnd Tp.hdE
    rw [hg2]
    rcases h with ⟨rfl, rfl⟩ | ⟨rfl, rfl⟩
    · simp only [if_true]; cases Tp.hdLen 62 (t.drop (a + 1)) <;> rfl
    · rw [if_neg (by decide)]; simp only [if_true]; cases Tp.hdLen 34 (t.drop (a + 1)) <;> rfl
  by_cases h1 : c = 60 ∨ c = 34
  · rcases h1 with rfl | rfl
    · have HV := Lib.hid (run 62 (by decide))
      clear hg hg2 run
      go_enter Tryz.func76, Tryz.ntmps76
      go_wp2
      go_loop [6] (fun i => ∃ k : Nat, a + 1 ≤ k ∧ k ≤ t.length ∧ i = .int .i64 k ∧ Hid (Tp.hdE 62 t (a + 1) = Tp.hdE 62 t k)) (fun i => t.length - (intOf i).toNat)
      case atStart => exact ⟨a + 1, Nat.le_refl _, ha, by go_num, Lib.hid rfl⟩
      case round =>
        obtain ⟨k, hk1, hk2, rfl, HE⟩ := hrel
        by_cases hkl : k < t.length
        · have hks : k < (bs t).size := by omega
          have hgk := ba_getT (bs t) k hks
          rw [bs_data] at hgk
          by_cases e1 : (bs t)[k] = 10
          · have HR := Lib.hid (show Tp.headerEnd t a = 0 by rw [HV.out, HE.out, Tp.hdE_nl hgk e1])
            have k1 : (bs t)[k].toNat = 10 := (u8_eq (by decide)).1 e1
            have k1I : ((bs t)[k].toNat : Int) = 10 := by omega
            clear hgk e1
            go_wp2
            go_ret
            exact ⟨by rw [HR.out]; rfl, rfl⟩
          have k1 : ¬ (bs t)[k].toNat = 10 := fun e => e1 ((u8_eq (by decide)).2 e)
          have k1I : ¬ ((bs t)[k].toNat : Int) = 10 := by omega
          have k1B : (((bs t)[k].toNat : Int) == 10) = false := beq_eq_false_iff_ne.2 k1I
          have k1C : ((bs t)[k].toNat == 10) = false := beq_eq_false_iff_ne.2 k1
          by_cases e2 : (bs t)[k] = 62
          · have HR := Lib.hid (show Tp.headerEnd t a = k + 1 by rw [HV.out, HE.out, Tp.hdE_q hgk e1 e2])
            have k2 : (bs t)[k].toNat = 62 := (u8_eq (by decide)).1 e2
            have k2I : ((bs t)[k].toNat : Int) = 62 := by omega
            clear hgk e1 e2 k1 k1I k1B k1C
            go_wp2
            go_ret
            exact ⟨by rw [HR.out]; rfl, rfl⟩
          have HE2 := Lib.hid (HE.out.trans (Tp.hdE_go hgk e1 e2))
          have k2 : ¬ (bs t)[k].toNat = 62 := fun e => e2 ((u8_eq (by decide)).2 e)
          have k2I : ¬ ((bs t)[k].toNat : Int) = 62 := by omega
          clear hgk e1 e2
          go_wp2
          go_round
          case rel => exact ⟨k + 1, by omega, by omega, by go_num, HE2⟩
          case measure => simp [intOf]; omega
        · obtain rfl : k = t.length := by omega
          have HR := Lib.hid (show Tp.headerEnd t a = 0 by rw [HV.out, HE.out, Tp.hdE_end (Nat.le_refl _)])
          go_wp2
          go_ret
          exact ⟨by rw [HR.out]; rfl, rfl⟩
    · have HV := Lib.hid (run 34 (by decide))
      clear hg hg2 run
      go_enter Tryz.func76, Tryz.ntmps76
      go_wp2
      go_loop [6] (fun i => ∃ k : Nat, a + 1 ≤ k ∧ k ≤ t.length ∧ i = .int .i64 k ∧ Hid (Tp.hdE 34 t (a + 1) = Tp.hdE 34 t k)) (fun i => t.length - (intOf i).toNat)
      case atStart => exact ⟨a + 1, Nat.le_refl _, ha, by go_num, Lib.hid rfl⟩
      case round =>
        obtain ⟨k, hk1, hk2, rfl, HE⟩ := hrel
        by_cases hkl : k < t.length
        · have hks : k < (bs t).size := by omega
          have hgk := ba_getT (bs t) k hks
          rw [bs_data] at hgk
          by_cases e1 : (bs t)[k] = 10
          · have HR := Lib.hid (show Tp.headerEnd t a = 0 by rw [HV.out, HE.out, Tp.hdE_nl hgk e1])
            have k1 : (bs t)[k].toNat = 10 := (u8_eq (by decide)).1 e1
            have k1I : ((bs t)[k].toNat : Int) = 10 := by omega
            clear hgk e1
            go_wp2
            go_ret
            exact ⟨by rw [HR.out]; rfl, rfl⟩
          have k1 : ¬ (bs t)[k].toNat = 10 := fun e => e1 ((u8_eq (by decide)).2 e)
          have k1I : ¬ ((bs t)[k].toNat : Int) = 10 := by omega
          have k1B : (((bs t)[k].toNat : Int) == 10) = false := beq_eq_false_iff_ne.2 k1I
          have k1C : ((bs t)[k].toNat == 10) = false := beq_eq_false_iff_ne.2 k1
          by_cases e2 : (bs t)[k] = 34
          · have HR := Lib.hid (show Tp.headerEnd t a = k + 1 by rw [HV.out, HE.out, Tp.hdE_q hgk e1 e2])
            have k2 : (bs t)[k].toNat = 34 := (u8_eq (by decide)).1 e2
            have k2I : ((bs t)[k].toNat : Int) = 34 := by omega
            clear hgk e1 e2 k1 k1I k1B k1C
            go_wp2
            go_ret
            exact ⟨by rw [HR.out]; rfl, rfl⟩
          have HE2 := Lib.hid (HE.out.trans (Tp.hdE_go hgk e1 e2))
          have k2 : ¬ (bs t)[k].toNat = 34 := fun e => e2 ((u8_eq (by decide)).2 e)
          have k2I : ¬ ((bs t)[k].toNat : Int) = 34 := by omega
          clear hgk e1 e2
          go_wp2
          go_round
          case rel => exact ⟨k + 1, by omega, by omega, by go_num, HE2⟩
          case measure => simp [intOf]; omega
        · obtain rfl : k = t.length := by omega
          have HR := Lib.hid (show Tp.headerEnd t a = 0 by rw [HV.out, HE.out, Tp.hdE_end (Nat.le_refl _)])
          go_wp2
          go_ret
          exact ⟨by rw [HR.out]; rfl, rfl⟩
  · simp only [not_or] at h1
    have k1 : ¬ c.toNat = 60 := fun e => h1.1 ((u8_eq (by decide)).2 e)
    have k2 : ¬ c.toNat = 34 := fun e => h1.2 ((u8_eq (by decide)).2 e)
    have i1 : ¬ (c.toNat : Int) = 60 := by omega
    have i2 : ¬ (c.toNat : Int) = 34 := by omega
    have HR := Lib.hid (show Tp.headerEnd t a = 0 by unfold Tp.headerEnd; rw [hg2, if_neg h1.1, if_neg h1.2])
    clear hg hg2 h1 run
    go_enter Tryz.func76, Tryz.ntmps76
    go_wp2
    go_ret
    exact ⟨by rw [HR.out]; rfl, rfl⟩

end Go.Proofs.YtffjblamfbmoeaaGreatDoor

/-! Walks: a text's parts: partAt, end. -/
set_option linter.unusedVariables false
set_option linter.unusedSimpArgs false
namespace Go.Proofs.YtffjblamfbmoeaaGreatDoor
open Go Go.RowKit

/-- A part as a value. -/
def ptV (p : Tp.Part) : Value := .agg #[.int .u8 p.b.toNat, .int .i64 p.at_, .int .i64 p.len, .bool p.sp]
namespace Tp
theorem tri_yes {t : T} {a : Nat} {c : UInt8} (h1 : a + 2 < t.length) (h2 : g t a = 63) (h3 : g t (a + 1) = 63) (h4 : third (g t (a + 2)) = some c) : tri t a = (c, 3) := by
  unfold tri; rw [if_pos ⟨h1, h2, h3⟩, h4]
theorem tri_no {t : T} {a : Nat} (h : ¬ (a + 2 < t.length ∧ g t a = 63 ∧ g t (a + 1) = 63)) : tri t a = (g t a, 1) := by
  unfold tri; rw [if_neg h]
theorem tri_none {t : T} {a : Nat} (h4 : third (g t (a + 2)) = none) : tri t a = (g t a, 1) := by
  unfold tri; rw [h4]; split <;> rfl
theorem tri_le {t : T} {a : Nat} (h : a < t.length) : a + (tri t a).2 ≤ t.length := by
  unfold tri; split
  · split <;> simp <;> omega
  · simp; omega
end Tp
theorem g_at {t : Tp.T} {k : Nat} (h : k < (bs t).size) : Tp.g t k = (bs t)[k] := by
  have hg := ba_getT (bs t) k h
  rw [bs_data] at hg
  unfold Tp.g; rw [List.getD_eq_getElem?_getD, hg]; rfl
theorem u8K (c : UInt8) (n : Nat) (hn : n < 256) : (c = UInt8.ofNat n) = ((c.toNat : Int) = (n : Int)) := propext ((u8_eq hn).trans ⟨fun h => by omega, fun h => by omega⟩)
theorem c10 (c : UInt8) : (c = 10) = ((c.toNat : Int) = 10) := u8K c 10 (by decide)
theorem c34 (c : UInt8) : (c = 34) = ((c.toNat : Int) = 34) := u8K c 34 (by decide)
theorem c39 (c : UInt8) : (c = 39) = ((c.toNat : Int) = 39) := u8K c 39 (by decide)
theorem c42 (c : UInt8) : (c = 42) = ((c.toNat : Int) = 42) := u8K c 42 (by decide)
theorem c47 (c : UInt8) : (c = 47) = ((c.toNat : Int) = 47) := u8K c 47 (by decide)
theorem c56 (c : UInt8) : (c = 56) = ((c.toNat : Int) = 56) := u8K c 56 (by decide)
theorem c60 (c : UInt8) : (c = 60) = ((c.toNat : Int) = 60) := u8K c 60 (by decide)
theorem c62 (c : UInt8) : (c = 62) = ((c.toNat : Int) = 62) := u8K c 62 (by decide)
theorem c63 (c : UInt8) : (c = 63) = ((c.toNat : Int) = 63) := u8K c 63 (by decide)
theorem c76 (c : UInt8) : (c = 76) = ((c.toNat : Int) = 76) := u8K c 76 (by decide)
theorem c85 (c : UInt8) : (c = 85) = ((c.toNat : Int) = 85) := u8K c 85 (by decide)
theorem c92 (c : UInt8) : (c = 92) = ((c.toNat : Int) = 92) := u8K c 92 (by decide)
theorem c117 (c : UInt8) : (c = 117) = ((c.toNat : Int) = 117) := u8K c 117 (by decide)
theorem u8N {c : UInt8} {n : Nat} (hn : n < 256) (h : (c.toNat : Int) = (n : Int)) : c = UInt8.ofNat n := (u8_eq hn).2 (by omega)
theorem u8NN {c d : UInt8} (h : (c.toNat : Int) = (d.toNat : Int)) : c = d := UInt8.toNat_inj.1 (by omega)

set_option maxRecDepth 100000 in
set_option maxHeartbeats 4000000 in
theorem partAt_any (t : Tp.T) (a : Nat) (w : World) (ha : a < t.length) (hl : t.length ≤ 1000000) :
    Calls Tryz.prog 60 #[.string (bs t), .int .i64 a] w fun e w' => e = .returned (ptV (Tp.part t a)) ∧ Below w.heap.size w w' := by
  have hts : (bs t).size = t.length := bs_size t
  have has : a < (bs t).size := by omega
  have G0 := Lib.hid (g_at has)
  obtain ⟨b, n, HT⟩ : ∃ b n, Hid (Tp.tri t a = (b, n)) := ⟨_, _, Lib.hid rfl⟩
  have hn1 : 1 ≤ n ∧ n ≤ 3 := by have := Tp.tri_pos t a; rw [HT.out] at this; exact this
  have hn2 : a + n ≤ t.length := by have := Tp.tri_le ha; rw [HT.out] at this; exact this
  obtain ⟨hn1, hn3⟩ := hn1
  go_enter Tryz.func60, Tryz.ntmps60
  obtain ⟨W0, HW0⟩ : ∃ W0, W0 = w.alloc (.cells #[.int .u8 0, .int .i64 0, .int .i64 0, .bool false] 100) := ⟨_, rfl⟩
  replace HW0 := Lib.hid HW0
  obtain ⟨q, HQ⟩ : ∃ q : Bool, Hid (q = decide (a + 2 < t.length ∧ Tp.g t a = 63 ∧ Tp.g t (a + 1) = 63)) := ⟨_, Lib.hid rfl⟩
  go_upto_region 2 with fail
  go_cut [5, 6, 27] (fun c5 c6 s wc => c5 = .int .u8 (Tp.g t a).toNat ∧ c6 = .int .i64 1 ∧ s = .bool q ∧ W0 = wc)
  case first =>
    by_cases h2 : a + 2 < t.length
    · have has1 : a + 1 < (bs t).size := by omega
      have G1 := Lib.hid (g_at has1)
      go_wp2_with fail
      all_goals
        go_meet
        rw [HQ.out, HW0.out]
        refine ⟨by first | (rw [G0.out]; done) | (rw [G0.out]; congr 1; omega), rfl, congrArg Value.bool ?_, rfl⟩
        refine Bool.eq_iff_iff.2 ?_
        rw [G0.out, G1.out]
        simp only [c63, Bool.or_eq_true, Bool.and_eq_true, decide_eq_true_eq, beq_iff_eq, Bool.false_eq_true, eq_self_iff_true, true_iff, false_iff]
        omega
    · have HF := Lib.hid (show q = false by rw [HQ.out]; simp [h2])
      go_wp2_with fail
      all_goals
        go_meet
        rw [HF.out, HW0.out]
        exact ⟨by first | (rw [G0.out]; done) | (rw [G0.out]; congr 1; omega), rfl, rfl, rfl⟩
  case rest =>
    obtain ⟨rfl, rfl, rfl, rfl⟩ := hcut
    go_upto_if 27 with fail
    go_cut [5, 6] (fun c5 c6 wc => c5 = .int .u8 b.toNat ∧ c6 = .int .i64 n ∧ W0 = wc)
    case first =>
      cases q
      · have HT2 := Lib.hid (show b = Tp.g t a ∧ n = 1 by
          have h := Tp.tri_no (t := t) (a := a) (of_decide_eq_false HQ.out.symm)
          rw [HT.out] at h; simpa using h)
        go_wp2_with fail
        go_meet
        exact ⟨by rw [HT2.out.1], by rw [HT2.out.2]; rfl, rfl⟩
      · obtain ⟨h1, h2, h3⟩ := of_decide_eq_true HQ.out.symm
        have has2 : a + 2 < (bs t).size := by omega
        have G2 := g_at has2
        have TH := fun W => Third_any (bs t)[a + 2] W
        unfold thV at TH
        rw [← G2] at TH
        cases h4 : Tp.third (Tp.g t (a + 2)) with
        | none =>
          rw [h4] at TH
          have HT2 := Lib.hid (show b = Tp.g t a ∧ n = 1 by
            have h := Tp.tri_none (t := t) (a := a) h4
            rw [HT.out] at h; simpa using h)
          rw [G2] at TH
          replace TH := Lib.hid TH
          clear h2 h3 h4 G2
          go_wp2_with (first
            | (go_at_call 62; (with_reducible refine (TH.out _).mono ?_); rintro e w1 ⟨rfl, rfl⟩))
          go_meet
          exact ⟨by rw [HT2.out.1], by rw [HT2.out.2]; rfl, rfl⟩
        | some c =>
          rw [h4] at TH
          have HT2 := Lib.hid (show b = c ∧ n = 3 by
            have h := Tp.tri_yes h1 h2 h3 h4
            rw [HT.out] at h; simpa using h)
          rw [G2] at TH
          replace TH := Lib.hid TH
          clear h2 h3 h4 G2
          go_wp2_with (first
            | (go_at_call 62; (with_reducible refine (TH.out _).mono ?_); rintro e w1 ⟨rfl, rfl⟩))
          go_meet
          exact ⟨by rw [HT2.out.1], by rw [HT2.out.2]; rfl, rfl⟩
    case rest =>
      obtain ⟨rfl, rfl, rfl⟩ := hcut
      have HP : Tp.part t a = if b = 92 ∧ a + n < t.length ∧ Tp.g t (a + n) = 10 then ⟨0, a, n + 1, true⟩ else ⟨b, a, n, false⟩ := by unfold Tp.part; rw [HT.out]
      obtain ⟨r, HR⟩ : ∃ r : Bool, Hid (r = decide (b = 92 ∧ a + n < t.length ∧ Tp.g t (a + n) = 10)) := ⟨_, Lib.hid rfl⟩
      go_upto_region 6 with fail
      go_cut [5, 55] (fun c5 s wc => c5 = .int .u8 b.toNat ∧ s = .bool r ∧ W0 = wc)
      case first =>
        by_cases h2 : a + n < t.length
        · have has1 : a + n < (bs t).size := by omega
          have G1 := Lib.hid (g_at has1)
          go_wp2_with fail
          all_goals
            go_meet
            rw [HR.out]
            refine ⟨by first | rfl | (congr 1; omega), congrArg Value.bool ?_, rfl⟩
            refine Bool.eq_iff_iff.2 ?_
            rw [G1.out]
            simp only [c92, c10, Bool.or_eq_true, Bool.and_eq_true, decide_eq_true_eq, beq_iff_eq, Bool.false_eq_true, eq_self_iff_true, true_iff, false_iff]
            omega
        · have HF := Lib.hid (show r = false by rw [HR.out]; simp [h2])
          go_wp2_with fail
          all_goals
            go_meet
            rw [HF.out]
            exact ⟨by first | rfl | (congr 1; omega), rfl, rfl⟩
      case rest =>
        obtain ⟨rfl, rfl, rfl⟩ := hcut
        have hw0 := HW0.out
        subst hw0
        clear HW0
        cases r
        · rw [if_neg (of_decide_eq_false HR.out.symm)] at HP
          replace HP := Lib.hid HP
          go_wp2
          rw [HP.out]
          refine bodyPost_ret (v := ptV _) ?_ rfl ⟨rfl, (Below.refl _ w).alloc (Nat.le_refl _) _⟩
          simp [results, Tryz.results60, go_sem, ptV]
        · rw [if_pos (of_decide_eq_true HR.out.symm)] at HP
          replace HP := Lib.hid HP
          go_wp2
          rw [HP.out]
          refine bodyPost_ret (v := ptV _) ?_ rfl ⟨rfl, (Below.refl _ w).alloc (Nat.le_refl _) _⟩
          simp [results, Tryz.results60, go_sem, ptV]

end Go.Proofs.YtffjblamfbmoeaaGreatDoor
