/- The law PlaceKept: what is kept rises, and is together all but the lines that are taken out; with the Texts it is as long as the text behind the edits. -/
import Derived.Test.YtnijaleedbmljaaPlaceMoves
import Derived.Test.YtnijaleedbmljaaPlN
import Derived.Deep.QuietTactic
import Derived.BigQuiet
import Derived.Test.YtnijaleedbmljaaEditMakes
set_option linter.unusedVariables false
set_option linter.unusedSimpArgs false
namespace Go.Proofs.Ytnijaleedbmljaa
open Go Go.RowKit

set_option maxRecDepth 100000 in
set_option maxHeartbeats 4000000 in
theorem PlaceKept_any (s : ByteArray) (A : Option Addr) (c : Nat) (l : List Pl.Ed) (w : World) (hs : s.size ≤ maxLen) (hsb : s.size ≤ 1048576) (hl : l.length ≤ maxLen) (hlb : l.length ≤ 1048576) (hx : ∀ e ∈ l, e.x.length ≤ 1048576) (h : Rd w 3 A l.length (edcs l)) :
    Calls Try.prog 10 #[.string s, .slice A l.length c] w fun e w' => e = .returned (.bool true) ∧ Below w.heap.size w w' := by
  clear hl hs
  have KG := Lib.hid (fun w h => great_any s A c l w (by omega) hlb hx h _ rfl)
  by_cases hg : 2000 < grt s.size l
  · have hd : decide (2000 < grt s.size l) = true := by simpa using hg
    rw [hd] at KG
    clear hg hd hx
    go_enter Try.func10, Try.ntmps10
    go_wp2_with (first | (go_at_call 36; refine (alive20_any _).mono ?_; rintro e w0 ⟨rfl, hb0⟩) | (go_at_call 17; refine (KG.out _ (h.later hb0)).mono ?_; rintro e w' ⟨rfl, rfl⟩))
    go_ret
    exact ⟨rfl, hb0⟩
  have hd : decide (2000 < grt s.size l) = false := by simpa using hg
  rw [hd] at KG
  obtain ⟨h1, hsm, h3, h4⟩ := small_of (show grt s.size l ≤ 2000 by omega)
  have hap := small_app (show grt s.size l ≤ 2000 by omega)
  by_cases hs1 : 1000 < s.size
  · have hd1 : decide ((1000 : Int) < (s.size : Int)) = true := by simp; omega
    clear hg hd hx
    go_enter Try.func10, Try.ntmps10
    go_wp2_with (first | (go_at_call 36; refine (alive20_any _).mono ?_; rintro e w0 ⟨rfl, hb0⟩) | (go_at_call 17; refine (KG.out _ (h.later hb0)).mono ?_; rintro e w' ⟨rfl, rfl⟩))
    go_ret
    exact ⟨rfl, hb0⟩
  have hd1 : decide ((1000 : Int) < (s.size : Int)) = false := by simp; omega
  have C1 := fun w h => Apply_any s A c l w (by omega) h hsm (fun _ => by omega)
  have C3 := fun w h => Kept_all s A c l w (by omega) h hsm
  cases hf : fitS s.data.toList l
  · rw [apply_not hf] at C1
    unfold KeptPost kpOut kpErr at C3
    rw [if_neg (by rw [hf]; simp), if_neg (by rw [hf]; simp)] at C3
    simp only [List.length_nil] at C3
    have K1 := Lib.hid C1; clear C1
    have K3 := Lib.hid C3; clear C3
    clear hf hg hd hx h4
    go_enter Try.func10, Try.ntmps10
    go_wp2_with (first
      | (go_at_call 36; refine (alive20_any _).mono ?_; rintro e w0 ⟨rfl, B0⟩; have H0 := h.later B0)
      | (go_at_call 17; refine (KG.out _ H0).mono ?_; rintro e w' ⟨rfl, rfl⟩)
      | (go_at_call 22; refine (K3.out _ H0).mono ?_; rintro e w1 ⟨Y, cy, rfl, _, b⟩; have B1 := B0.trans (b.mono B0.size); have H1 := H0.later b; clear b)
      | (go_at_call 25; refine (K1.out _ H1).mono ?_; rintro e w2 ⟨rfl, b⟩; have B2 := B1.trans (b.mono B1.size); clear b))
    go_ret
    exact ⟨rfl, B2⟩
  · rw [apply_fit hf] at C1
    have hke : kpErr s.data.toList l = 0 := by unfold kpErr; rw [if_pos hf]
    rw [hke] at C3
    have hkl : (kpOut s.data.toList l).length ≤ 1000 := Nat.le_trans kpOut_len (by omega)
    unfold KeptPost at C3
    have lfs : (Pl.lines s.data.toList).flatten.length ≤ 2000 := by rw [Pl.lines_flat, ← Lib.size_eq]; omega
    have hF := (fitS_iff _ _).1 hf
    have hln := Pl.lines_le s.data.toList
    rw [← Lib.size_eq] at hln
    obtain ⟨t, ht⟩ : ∃ t : ByteArray, t = bs (Pl.app (Pl.lines s.data.toList) 0 l) := ⟨_, rfl⟩
    have htd : t.data.toList = Pl.app (Pl.lines s.data.toList) 0 l := by rw [ht, bs_data]
    have hts : t.size ≤ 1000000 := by rw [Lib.size_eq, htd]; omega
    rw [← ht] at C1
    obtain ⟨y1, y2, y3⟩ := kept_sums hf
    rw [← htd, ← Lib.size_eq] at y2
    rw [← Lib.size_eq] at y1 y3
    have KL := Lib.hid (fun w => Lines_got s w (by omega))
    have HFT := Lib.hid hF
    have HG := Lib.hid (fun l' => gone_bd lfs l')
    have HY3 := Lib.hid y3
    have hmb := many_bd y3 (by omega) (by omega)
    generalize kpOut s.data.toList l = ko at *
    generalize Pl.lines s.data.toList = L at *
    have K1 := Lib.hid C1; clear C1
    have K3 := Lib.hid C3; clear C3
    have HY1 := Lib.hid y1
    have HY2 := Lib.hid y2
    have HX4 := Lib.hid h4
    clear hf hg hd hx h4 hke ht htd hap hF y1 y2 y3
    go_enter Try.func10, Try.ntmps10
    go_wp2_with (first
      | (go_at_call 36; refine (alive20_any _).mono ?_; rintro e w0 ⟨rfl, B0⟩; have H0 := h.later B0)
      | (go_at_call 17; refine (KG.out _ H0).mono ?_; rintro e w' ⟨rfl, rfl⟩)
      | (go_at_call 22; refine (K3.out _ H0).mono ?_; rintro e w1 ⟨Y, cy, rfl, rY, b⟩; have B1 := B0.trans (b.mono B0.size); have H1 := H0.later b; clear b)
      | (go_at_call 25; refine (K1.out _ H1).mono ?_; rintro e w2 ⟨rfl, b⟩; have B2 := B1.trans (b.mono B1.size); have H2 := H1.later b; have rY2 := rY.later b; clear b)
      | (go_at_call 32; refine (KL.out _).mono ?_; rintro e w3 ⟨X, cx, rfl, hcx, rX, b⟩; have B3 := B2.trans (b.mono B2.size); have H3 := H2.later b; have rY3 := rY2.later b; clear b))
    go_loop [11, 12, 13, 14, 65] (fun g p _ _ iv => ∃ k a b : Nat, k ≤ l.length ∧ iv = .int .i64 k ∧ g = .int .i64 a ∧ p = .int .i64 b ∧ a ≤ k * 2000 ∧ b ≤ k * 2000 ∧ Hid (a = goneS L (l.take k)) ∧ Hid (b = putS (l.take k))) (fun _ _ _ _ iv => l.length - (intOf iv).toNat)
    case atStart => exact ⟨0, 0, 0, Nat.zero_le _, rfl, rfl, rfl, by omega, by omega, Lib.hid (by simp [goneS]), Lib.hid (by simp [putS])⟩
    case round =>
      obtain ⟨k, a, b, hk, rfl, rfl, rfl, ha, hb, HA, HBB⟩ := hrel
      by_cases hlt : k < l.length
      · have hek := List.getElem?_eq_getElem hlt
        have q1 := Fits_mem HFT.out l[k] (List.getElem_mem hlt)
        have q2 := HX4.out l[k] (List.getElem_mem hlt)
        have htk : l.take (k + 1) = l.take k ++ [l[k]] := List.take_succ_eq_append_getElem hlt
        generalize l[k] = e at hek q1 q2 htk
        obtain ⟨ef, et, ex⟩ := e
        simp only at q1 q2
        obtain ⟨f2, f3, f4⟩ := q1
        obtain ⟨f, rfl⟩ := Int.eq_ofNat_of_zero_le f2
        obtain ⟨t', rfl⟩ := Int.eq_ofNat_of_zero_le (show 0 ≤ et by omega)
        have HA2 : Hid (a + (Pl.cut L f t').flatten.length = goneS L (l.take (k + 1))) := Lib.hid (by rw [htk, goneS_snoc, ← HA.out]; simp)
        have HB2 : Hid (b + ex.length = putS (l.take (k + 1))) := Lib.hid (by rw [htk, putS_snoc, ← HBB.out])
        have HCS := Lib.hid (fun n => cut_small lfs f n)
        obtain ⟨b1, o1, rfl, hbk1, c1, c2, c3⟩ := H3.ed hek
        simp only at c1 c2 c3
        have hzs : (bs ex).size = ex.length := bs_size ex
        have hft : f ≤ t' := by omega
        have htl : t' ≤ L.length := by omega
        clear hek htk f2 f3 f4 HA HBB
        go_wp2
        go_loop [11, 14] (fun g nv => ∃ n m : Nat, f ≤ n ∧ n ≤ t' ∧ nv = .int .i64 n ∧ g = .int .i64 m ∧ m ≤ a + 2000 ∧ Hid (m = a + (Pl.cut L f n).flatten.length)) (fun _ nv => t' - (intOf nv).toNat)
        case atStart => exact ⟨f, a, Nat.le_refl _, hft, rfl, rfl, by omega, Lib.hid (by rw [Pl.cut_self]; rfl)⟩
        case round =>
          obtain ⟨n, m, hn1, hn2, rfl, rfl, hm, HM⟩ := hrel
          by_cases hnt : n < t'
          · have hnl : n < L.length := by omega
            have hLn := List.getElem?_eq_getElem hnl
            generalize L[n] = z at hLn
            obtain ⟨bx, ox, rfl, hbx, cz⟩ := rX.st hLn
            have H2' : Hid (m + z.length = a + (Pl.cut L f (n + 1)).flatten.length) := Lib.hid (by rw [cut_snoc hn1 hLn, List.length_append, HM.out]; omega)
            have hmz : m + z.length ≤ a + 2000 := by have := HCS.out (n + 1); have := H2'.out; omega
            have hzz : (bs z).size = z.length := bs_size z
            generalize z.length = zl at *
            clear hLn
            go_wp2
            refine ⟨⟨n + 1, m + zl, by omega, by omega, by go_num, by go_num, hmz, H2'⟩, by simp [intOf]; omega⟩
          · obtain rfl : n = t' := by omega
            have hma : m ≤ a + 2000 := hm
            generalize ex.length = xl at *
            go_wp2
            refine ⟨⟨k + 1, m, b + xl, by omega, by go_num, rfl, by go_num, by omega, by omega, Lib.hid (by rw [HM.out]; exact HA2.out), HB2⟩, by simp [intOf]; omega⟩
      · obtain rfl : k = l.length := by omega
        rw [List.take_length] at HA HBB
        have E1 : Hid (Pl.many ko = (s.size : Int) - a) := Lib.hid (by rw [HY1.out, HA.out])
        have E2 : Hid ((t.size : Int) = Pl.many ko + b) := Lib.hid (by rw [HY2.out, HBB.out])
        clear HA HBB
        go_wp2
        go_loopw [15, 16, 17, 100] (fun mv lv _ iv wr => ∃ (i : Nat) (m la : Int), i ≤ ko.length ∧ iv = .int .i64 i ∧ mv = .int .i64 m ∧ lv = .int .i64 la ∧ -1 ≤ la ∧ la ≤ 1000 ∧ 0 ≤ m ∧ m + Pl.many (ko.drop i) = Pl.many ko ∧ Hid (Pl.Rises la s.size (ko.drop i)) ∧ Below w3.heap.size w3 wr) (fun _ _ _ iv _ => ko.length - (intOf iv).toNat)
        case atStart => exact ⟨0, 0, -1, Nat.zero_le _, rfl, rfl, rfl, by omega, by omega, by omega, by simp, Lib.hid (by simpa using HY3.out), Below.refl _ _⟩
        case round =>
          obtain ⟨i, m, la, hi, rfl, rfl, rfl, hla, hla2, hm0, hmm, HRi, hbw⟩ := hrel
          by_cases hlt2 : i < ko.length
          · have hki := List.getElem?_eq_getElem hlt2
            have hdr := List.drop_eq_getElem_cons hlt2
            obtain ⟨b1, o1, rfl, hbk1, c1, c2⟩ := (rY3.later hbw).rg hki
            rw [hdr] at HRi hmm
            generalize ko[i] = q at c1 c2 HRi hmm
            obtain ⟨q1, q2⟩ := q
            obtain ⟨r1, r2, r3, r4⟩ := HRi.out
            simp only [Pl.many] at hmm
            simp only at c1 c2 r1 r2 r3 r4
            have hb2 := many_bd r4 (by omega) r3
            have HR2 := Lib.hid r4
            have p1 : decide (q1 ≤ la) = false := by simp; omega
            have p2 : decide (q2 ≤ q1) = false := by simp; omega
            have p3 : decide ((s.size : Int) < q2) = false := by simp; omega
            have HMM : Hid (m + (q2 - q1) + Pl.many (ko.drop (i + 1)) = Pl.many ko) := Lib.hid (by omega)
            have hq1 : 0 ≤ q1 := by omega
            have hq2 : q2 ≤ 1000 := by omega
            have hmq : m ≤ 4000 := by omega
            clear hki hdr r4 hmm hb2 HRi
            obtain ⟨wo, rfl⟩ : ∃ wo : World, wo = wr := ⟨_, rfl⟩
            go_wp2
            go_quiet (fail)
            have hb' := below_drewN hbw nq
            replace c1 : (wo.drewN nq).cell? _ = _ := c1
            replace c2 : (wo.drewN nq).cell? _ = _ := c2
            generalize wo.drewN nq = wd at *
            have w1' : IntKind.i64.wrap (m + q2) = m + q2 := IntWalk.i64_in _ (by omega)
            have w2' : IntKind.i64.wrap (m + q2 - q1) = m + q2 - q1 := IntWalk.i64_in _ (by omega)
            go_wp2
            go_quiet (fail)
            clear w1' w2'
            go_wp2
            go_roundw
            case rel => exact ⟨i + 1, m + q2 - q1, q2, by omega, by go_num, by go_num, rfl, by omega, by omega, by omega, by have := HMM.out; omega, HR2, below_drewN hb' _⟩
            case measure => simp [intOf]; omega
          · have hdk : ko.drop i = [] := List.drop_of_length_le (by omega)
            rw [hdk] at hmm
            simp only [Pl.many, Int.add_zero] at hmm
            have F1 : (m == (s.size : Int) - a) = true := by rw [hmm, E1.out]; simp
            have F2 : ((t.size : Int) == m + b) = true := by rw [hmm, ← E2.out]; simp
            have hmq : m ≤ 1001 := by omega
            clear hdk hmm
            go_wp2
            go_ret
            exact ⟨rfl, B3.trans (hbw.mono B3.size)⟩

end Go.Proofs.Ytnijaleedbmljaa
