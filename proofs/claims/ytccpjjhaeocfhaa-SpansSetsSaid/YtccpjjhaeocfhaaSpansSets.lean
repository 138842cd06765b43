/- The law SpansSets, walked: it returns true and leaves what was there. -/
import Derived.Test.YtccpjjhaeocfhaaS11
import Derived.Deep.DeepCutAuto
import Derived.Deep.Cut
import Derived.Deep.CutRange
import Derived.Deep.CutBlock
set_option linter.unusedVariables false
set_option linter.unusedSimpArgs false
namespace Go.Proofs.Ytccpjjhaeocfhaa
open Go Go.RowKit

theorem wf64 {n : Int} (h : (Lit.int .i64 n).wf = true) : -9223372036854775808 ≤ n ∧ n ≤ 9223372036854775807 := by
  simpa [Lit.wf, IntKind.min, IntKind.max, IntKind.signed, IntKind.bits] using h

theorem same_eq (A B : Option Addr) (c d : Nat) (l : List Sp.R) (w : World) (h : Rd w 2 A l.length (rgcs l)) (g : Rd w 2 B l.length (rgcs l)) (hl : l.length ≤ 1000000000) :
    Calls Try.prog 9 #[.slice A l.length c, .slice B l.length d] w fun e w' => e = .returned (.bool true) ∧ Below w.heap.size w w' := by
  have := same19_any A B c d l l w h g hl hl
  simpa using this

theorem bothL_len (z : Bool) (a b : List Sp.R) : (bothL z a b).length ≤ 65536 := by
  unfold bothL; split
  · exact Sp.setOf_length _ _
  · simp
theorem notL_len (a : List Sp.R) (n : Int) : (notL a n).length ≤ 65536 := by
  unfold notL; split
  · rename_i h; have := Sp.setOf_length (fun i => !(Sp.has a (i : Int))) n.toNat; have := h.2; omega
  · simp
theorem ofL_len (l : List Int) : (ofL l).length ≤ 65536 := by
  unfold ofL; split
  · exact Sp.setOf_length _ _
  · simp

/-- A set meets the lines from n on, below n + j, just if it has one of them. -/
theorem meets_any (a : List Sp.R) (n : Int) (j : Nat) (h : j ≠ 0) : meetsB a n (n + j) = Sp.anyOf (hasB a) n j := by
  unfold meetsB
  rw [if_neg (by omega), Bool.eq_iff_iff, Bool.and_eq_true, Sp.anyOf_iff]
  constructor
  · rintro ⟨h1, h2⟩
    obtain ⟨v, a1, a2, a3⟩ := (Sp.meets_iff h1 _ _).1 h2
    exact ⟨v, a1, a2, by unfold hasB; rw [h1, a3]; rfl⟩
  · rintro ⟨v, a1, a2, a3⟩
    unfold hasB at a3
    rw [Bool.and_eq_true] at a3
    exact ⟨a3.1, (Sp.meets_iff a3.1 _ _).2 ⟨v, a1, a2, a3.2⟩⟩
theorem meets_none (a : List Sp.R) (n m : Int) (h : m < n) : meetsB a n m = false := by
  unfold meetsB
  rw [if_neg (by omega), Bool.and_eq_false_iff]
  by_cases hok : Sp.ok a = true
  · right
    rw [Bool.eq_false_iff]
    intro e
    obtain ⟨v, a1, a2, _⟩ := (Sp.meets_iff hok _ _).1 e
    omega
  · left; simpa using hok

theorem lineOk_succ {l : List Int} {k : Nat} {x : Int} (h : k < l.length) (e : l[k] = x) : lineOk (l.take (k + 1)) = (lineOk (l.take k) && (decide (0 ≤ x) && decide (x < 65536))) := by
  unfold lineOk
  rw [List.take_succ_eq_append_getElem h, List.all_append, e]
  simp
theorem meets_self (a : List Sp.R) (n : Int) : meetsB a n n = (hasB a n || (decide (0 < n) && hasB a (n - 1))) := by unfold meetsB; rw [if_pos rfl]

/-- What the law keeps between its calls: its row of flags, what was there, and what lay below the row. -/
def St (w w12 : World) (g N : Nat) (xs : List Value) (wq : World) : Prop := wq.ownsRow g 4 1 (.slice (some ⟨g, 0, none⟩) N N) N xs ∧ Below w.heap.size w wq ∧ Keep g w12 wq
theorem St.later {w w12 wq w' : World} {g N : Nat} {xs : List Value} (h : St w w12 g N xs wq) (b : Below wq.heap.size wq w') : St w w12 g N xs w' :=
  ⟨own_later h.1 b, h.2.1.trans (b.mono h.2.1.size), h.2.2.trans (Keep.below b (Nat.le_of_lt (h.1.lt g rfl).2))⟩

/-- What a call that hands back a list leaves, as the law keeps it. -/
theorem RgIs.get {L : List Sp.R} {w w' : World} {v : Value} (h : RgIs L w w' v) : ∃ A c, v = .slice A L.length c ∧ Rd w' 2 A L.length (rgcs L) ∧ Below w.heap.size w w' := by
  obtain ⟨A, c, e, _, hr, hb⟩ := h
  exact ⟨A, c, e, hr, hb⟩

set_option maxRecDepth 100000 in
set_option maxHeartbeats 16000000 in
theorem SpansSets_any (A B D : Option Addr) (c d e0 : Nat) (a b : List Sp.R) (l : List Int) (n : Int) (w : World) (hA : Rd w 2 A a.length (rgcs a)) (hB : Rd w 2 B b.length (rgcs b)) (hD : Rd w 1 D l.length (ins l))
    (hla : a.length ≤ maxLen) (hlb : b.length ≤ maxLen) (hll : l.length ≤ maxLen) (hlw : ∀ x ∈ l, (Lit.int .i64 x).wf = true) (hnw : (Lit.int .i64 n).wf = true) :
    Calls Try.prog 3 #[.slice A a.length c, .slice B b.length d, .slice D l.length e0, .int .i64 n] w fun e w' => e = .returned (.bool true) ∧ Below w.heap.size w w' := by
  unfold maxLen at hla hlb hll
  by_cases ga : 50 < a.length
  · go_enter Try.func3, Try.ntmps3
    go_wp2
    go_ret
    exact ⟨rfl, Below.refl _ _⟩
  by_cases gb : 50 < b.length
  · go_enter Try.func3, Try.ntmps3
    go_wp2
    go_ret
    exact ⟨rfl, Below.refl _ _⟩
  by_cases gl : 50 < l.length
  · go_enter Try.func3, Try.ntmps3
    go_wp2
    go_ret
    exact ⟨rfl, Below.refl _ _⟩
  have C1 := Lib.hid (fun w1 hb => Or_any A B c d a b w1 (hA.later hb) (hB.later hb) (by omega) (by omega))
  have C2 := Lib.hid (fun w1 z hb => Both_any A B c d a b z w1 (hA.later hb) (hB.later hb) (by omega) (by omega))
  have C3 := Lib.hid (fun w1 hb => And_any A B c d a b w1 (hA.later hb) (hB.later hb) (by omega) (by omega))
  have C5 := Lib.hid (fun w1 hb => Not_any A c a n w1 (hA.later hb) (by omega))
  have C6 := Lib.hid (fun w1 hb => refNot_any A c a n w1 (hA.later hb) (by omega))
  have C7 := Lib.hid (fun w1 hb => Has_any A c a n w1 (hA.later hb) (by omega))
  have C8 := Lib.hid (fun w1 i hb => refHas_any A c a i w1 (hA.later hb) (by omega))
  have C9 := Lib.hid (fun w1 hb => Of_any D e0 l w1 (hD.later hb) (by omega))
  have C10 := Lib.hid (fun w1 x hb => Meets_any A c a n x w1 (hA.later hb) (by omega) (wf64 hnw).1 (wf64 hnw).2)
  have lP := bothL_len false a b
  have lQ := bothL_len true a b
  have lR := notL_len a n
  have lO := ofL_len l
  have hn := wf64 hnw
  have HLW := Lib.hid hlw
  clear hlw hnw
  obtain ⟨P, hP⟩ : ∃ P, P = bothL false a b := ⟨_, rfl⟩
  obtain ⟨Q, hQ⟩ : ∃ Q, Q = bothL true a b := ⟨_, rfl⟩
  obtain ⟨R, hR⟩ : ∃ R, R = notL a n := ⟨_, rfl⟩
  obtain ⟨O, hO⟩ : ∃ O, O = ofL l := ⟨_, rfl⟩
  obtain ⟨Oe, hOe⟩ : ∃ O, O = ofE l := ⟨_, rfl⟩
  rw [← hP] at C1 lP
  rw [← hQ] at C3 lQ
  rw [← hR] at C5 C6 lR
  rw [← hO, ← hOe] at C9
  rw [← hO] at lO
  have C2F := Lib.hid (fun w1 hb => C2.out w1 false hb)
  have C2T := Lib.hid (fun w1 hb => C2.out w1 true hb)
  rw [← hP] at C2F
  rw [← hQ] at C2T
  have HO := Lib.hid hO
  have HOe := Lib.hid hOe
  clear C2 hP hQ hR hO hOe
  generalize bothE a b = E at *
  generalize notE a n = E2 at *
  have C8n := Lib.hid (fun w1 hb => C8.out w1 n hb)
  have C7b := C7
  generalize hHn : hasB a n = hn0 at C7 C8n
  have HHN := Lib.hid hHn; clear hHn C7b
  obtain ⟨i0, hi, hz0, hz1, hz2⟩ := info_parts blInfo
  obtain ⟨NN, hN⟩ : ∃ NN : Nat, NN = 65536 := ⟨_, rfl⟩
  have hN1 : NN ≤ 65536 := by omega
  have hN2 : 65536 ≤ NN := by omega
  have HN := Lib.hid hN; clear hN
  go_enter Try.func3, Try.ntmps3
  go_wp2_with (first
    | (go_at_call 4; (with_reducible refine (C1.out _ (Below.refl _ _)).mono ?_); rintro e w1 ⟨v1, rfl, q1⟩; obtain ⟨A1, c1, rfl, r1, b1⟩ := q1.get)
    | (go_at_call 5; (with_reducible refine (C2F.out _ b1).mono ?_); rintro e w2 ⟨v2, rfl, q2⟩; obtain ⟨A2, c2, rfl, r2, b2'⟩ := q2.get; have b2 := b1.trans (b2'.mono b1.size))
    | (go_at_call 6; (with_reducible refine (C3.out _ b2).mono ?_); rintro e w3 ⟨v3, rfl, q3⟩; obtain ⟨A3, c3, rfl, r3, b3'⟩ := q3.get; have b3 := b2.trans (b3'.mono b2.size))
    | (go_at_call 5; (with_reducible refine (C2T.out _ b3).mono ?_); rintro e w4 ⟨v4, rfl, q4⟩; obtain ⟨A4, c4, rfl, r4, b4'⟩ := q4.get; have b4 := b3.trans (b4'.mono b3.size))
    | (go_at_call 7; (with_reducible refine (C5.out _ b4).mono ?_); rintro e w5 ⟨v5, rfl, q5⟩; obtain ⟨A5, c5, rfl, r5, b5'⟩ := q5.get; have b5 := b4.trans (b5'.mono b4.size))
    | (go_at_call 8; (with_reducible refine (C6.out _ b5).mono ?_); rintro e w6 ⟨v6, rfl, q6⟩; obtain ⟨A6, c6, rfl, r6, b6'⟩ := q6.get; have b6 := b5.trans (b6'.mono b5.size);
        have k5 := b6'; have k4 := b5'.trans (k5.mono b5'.size); have k3 := b4'.trans (k4.mono b4'.size); have k2 := b3'.trans (k3.mono b3'.size); have k1 := b2'.trans (k2.mono b2'.size);
        have s1 := r1.later k1; have s2 := r2.later k2; have s3 := r3.later k3; have s4 := r4.later k4; have s5 := r5.later k5)
    | (go_at_call 9; (with_reducible refine (same_eq A1 A2 c1 c2 P _ s1 s2 (by omega)).mono ?_); rintro e w7 ⟨rfl, b7'⟩; have b7 := b6.trans (b7'.mono b6.size))
    | (go_at_call 9; (with_reducible refine (same_eq A3 A4 c3 c4 Q _ (s3.later b7') (s4.later b7') (by omega)).mono ?_); rintro e w8 ⟨rfl, b8'⟩; have b8 := b7.trans (b8'.mono b7.size); have k8 := b7'.trans (b8'.mono b7'.size))
    | (go_at_call 9; (with_reducible refine (same_eq A5 A6 c5 c6 R _ (s5.later k8) (r6.later k8) (by omega)).mono ?_); rintro e w9 ⟨rfl, b9'⟩; have b9 := b8.trans (b9'.mono b8.size))
    | (go_at_call 10; (with_reducible refine (C7.out _ b9).mono ?_); rintro e w10 ⟨rfl, b10'⟩; have b10 := b9.trans (b10'.mono b9.size))
    | (go_at_call 11; (with_reducible refine (C8n.out _ b10).mono ?_); rintro e w11 ⟨rfl, b11'⟩; have b11 := b10.trans (b11'.mono b10.size); clear s1 s2 s3 s4 s5 r1 r2 r3 r4 r5 r6 k1 k2 k3 k4 k5 k8 q1 q2 q3 q4 q5 q6)
    | (go_at_call 12; (with_reducible refine (C9.out _ b11).mono ?_); rintro e w12 ⟨v12, rfl, q12⟩; obtain ⟨A9, c9, rfl, r9, b12'⟩ := q12.get; have b12 := b11.trans (b12'.mono b11.size))
    | (at_make; refine wpList_make_full _ rfl _ _ 34 rfl w12.heap.size 4 i0 _ 1 Try.underlying34 hi hz0 hz1 .i64 .i64 65536 65536 NN rfl rfl (by rw [HN.out]; rfl) (by rw [HN.out]; rfl) (by rw [hz2]; omega) (by unfold maxLen; omega) (Nat.le_refl _) ?_; intro w13 hown1 hgrow1; rw [made_bls] at hown1))
  have b13' : Below w12.heap.size w12 w13 := (Below.refl _ w12).grown hgrow1 (Nat.le_refl _) (fun k e => by cases e)
  have b13 := b12.trans (b13'.mono b12.size)
  have k13 := Keep.below b13' (Nat.le_refl _)
  have R9 := Lib.hid r9
  have hsz := b12.size
  clear b13' r9 hgrow1 b12' b12 b11' b11 b10' b10 b9' b9 b8' b8 b7' b7 b6' b6 b5' b5 b4' b4 b3' b3 b2' b2 b1 q12 C1 C2F C2T C3 C5 C6 C7 C9
  generalize hG : w12.heap.size = g at *
  have HG := Lib.hid hG
  go_loopw [24, 25] (fun ri i wr => ∃ (k : Nat) (xs : List Value), k ≤ l.length ∧ i = .int .i64 k ∧ ri = .bool (lineOk (l.take k)) ∧ St w w12 g NN xs wr ∧ Hid (lineOk (l.take k) = true → xs = bls (fl (named (l.take k)) NN))) (fun _ i _ => l.length - (intOf i).toNat)
  case atStart => exact ⟨0, _, Nat.zero_le _, rfl, rfl, ⟨hown1, b13, k13⟩, Lib.hid (fun _ => rfl)⟩
  case round =>
    obtain ⟨k, xs, hk, rfl, rfl, HS0, HX⟩ := hrel
    obtain ⟨wo, rfl⟩ : ∃ wo : World, wo = wr := ⟨_, rfl⟩
    have hgl := (HS0.1.lt g rfl).2
    by_cases hlt : k < l.length
    · obtain ⟨d1, o1, rfl, _, cx⟩ := (hD.later HS0.2.1).nu (k := k) (List.getElem?_eq_getElem hlt)
      obtain ⟨x, hxx⟩ : ∃ x, l[k] = x := ⟨_, rfl⟩
      have hx64 := wf64 (HLW.out l[k] (List.getElem_mem hlt))
      rw [hxx] at cx hx64
      have HC : Hid (∀ wq, Below w.heap.size w wq → wq.cell? ⟨d1, o1 + k, none⟩ = some (.int .i64 x)) := Lib.hid (fun wq hq => by
        obtain ⟨d2, o2, e2, _, c2⟩ := (hD.later hq).nu (k := k) (List.getElem?_eq_getElem hlt)
        cases e2
        rw [c2, hxx])
      have HT := Lib.hid (lineOk_succ hlt hxx)
      have HNS := Lib.hid (fun (m : Nat) (hm : x = (m : Int)) => named_succ (n := NN) hlt (hxx.trans hm))
      have hgw : w.heap.size ≤ g := by have := HG.out; omega
      generalize hr0 : lineOk (l.take k) = rt at *
      obtain ⟨rt2, hrt2⟩ : ∃ z, lineOk (l.take (k + 1)) = z := ⟨_, rfl⟩
      have HR := Lib.hid hrt2
      rw [hrt2] at HT
      clear hr0 hxx hrt2
      go_upto_region 17 with fail
      go_cut [24] (fun s wc => s = .bool rt2 ∧ wc = wo)
      case first =>
        have CASES : (rt = true ∧ 0 ≤ x ∧ x < 65536) ∨ (rt = true ∧ x < 0) ∨ (rt = true ∧ 0 ≤ x ∧ 65536 ≤ x) ∨ rt = false := by
          cases rt
          · exact .inr (.inr (.inr rfl))
          · by_cases h1 : x < 0
            · exact .inr (.inl ⟨rfl, h1⟩)
            · by_cases h2 : x < 65536
              · exact .inl ⟨rfl, by omega, h2⟩
              · exact .inr (.inr (.inl ⟨rfl, by omega, by omega⟩))
        rcases CASES with ⟨rfl, p1, p2⟩ | ⟨rfl, p1⟩ | ⟨rfl, p1, p2⟩ | rfl
        · have hz : rt2 = true := by rw [HT.out, decide_eq_true p1, decide_eq_true p2]; rfl
          subst hz
          have z1 : decide (x < 65536) = true := decide_eq_true p2
          go_wp2_with fail
          go_meet
          exact ⟨rfl, rfl⟩
        · have hz : rt2 = false := by rw [HT.out, decide_eq_false (by omega : ¬ 0 ≤ x)]; rfl
          subst hz
          go_wp2_with fail
          go_meet
          exact ⟨rfl, rfl⟩
        · have hz : rt2 = false := by rw [HT.out, decide_eq_false (by omega : ¬ x < 65536)]; simp
          subst hz
          have z1 : decide (x < 65536) = false := decide_eq_false (by omega)
          go_wp2_with fail
          go_meet
          exact ⟨rfl, rfl⟩
        · have hz : rt2 = false := by rw [HT.out]; rfl
          subst hz
          go_wp2_with fail
          go_meet
          exact ⟨rfl, rfl⟩
      case rest =>
        obtain ⟨rfl, rfl⟩ := hcut
        obtain ⟨wo, rfl⟩ : ∃ wo : World, wo = wc := ⟨_, rfl⟩
        go_upto_if 144 with fail
        go_cut [24] (fun s wc => s = .bool rt2 ∧ ∃ xs, St w w12 g NN xs wc ∧ Hid (rt2 = true → xs = bls (fl (named (l.take (k + 1))) NN)))
        case first =>
          cases rt2
          · go_wp2_with fail
            go_meet
            exact ⟨rfl, xs, HS0, Lib.hid (fun h => by cases h)⟩
          · have q : rt = true ∧ 0 ≤ x ∧ x < 65536 := by
              have := HT.out
              simpa [and_assoc] using this.symm
            obtain ⟨rfl, p1, p2⟩ := q
            obtain ⟨m, rfl⟩ := Int.eq_ofNat_of_zero_le p1
            have hxs := HX.out rfl
            subst hxs
            have hm : m < NN := by omega
            have cj := HS0.1.cellAt m (by omega)
            rw [bls_fl_at _ hm] at cj
            have fj := HS0.1.frozenAt m
            have HX2 := HS0.1.stored m (.bool true)
            rw [bls_fl_set, HNS.out m rfl] at HX2
            have hS : St w w12 g NN (bls (fl (named (l.take (k + 1))) NN)) (wo.setCell ⟨g, m, none⟩ (.bool true)) := ⟨HX2.1, HS0.2.1.setCell (p := ⟨g, m, none⟩) (by simpa using hgw) (.bool true), HS0.2.2.trans ⟨by simp [World.setCell], fun j hj => heap_set_other _ (by simp; omega)⟩⟩
            have hS := Lib.hid hS
            clear HX HX2 HS0 HNS HT
            go_wp2_with fail
            go_meet
            exact ⟨rfl, _, hS.out, Lib.hid (fun _ => rfl)⟩
        case rest =>
          obtain ⟨rfl, xs2, hS, HX2⟩ := hcut
          clear HX HS0 HT HNS cx
          go_upto_block 2 with fail
          go_cut [26] (fun s wc => ∃ mv, s = .bool mv ∧ Hid (-1000 < n ∧ n < 70000 ∧ x < n + 1000 ∧ x ≠ n → mv = meetsB a n x) ∧ St w w12 g NN xs2 wc)
          case first =>
            go_wp2_with fail
            by_cases hbig : n ≤ 9223372036854774807
            · go_loopw [26, 27] (fun me v wq => ∃ j : Nat, v = .int .i64 (n + j) ∧ me = .bool (Sp.anyOf (hasB a) n j) ∧ (j = 0 ∨ n + j ≤ x) ∧ j ≤ 1000 ∧ St w w12 g NN xs2 wq) (fun _ v _ => (x - intOf v).toNat)
              case atStart => exact ⟨0, by simp, rfl, .inl rfl, by omega, hS⟩
              case round =>
                obtain ⟨j, rfl, rfl, hj, hj2, S0⟩ := hrel
                have T0 := S0.2.1
                have cx := HC.out _ T0
                have C8m := Lib.hid (C8.out _ (n + j) T0)
                by_cases hv : n + (j : Int) < x
                · by_cases hv2 : j < 1000
                  · cases hm : Sp.anyOf (hasB a) n j
                    · have HM := Lib.hid (show Sp.anyOf (hasB a) n (j + 1) = hasB a (n + j) by simp [Sp.anyOf, hm])
                      generalize hasB a (n + (j : Int)) = y at HM C8m
                      clear hm hS
                      go_wp2_with (go_at_call 11; (with_reducible refine C8m.out.mono ?_); rintro e w20 ⟨rfl, b20⟩)
                      go_roundw
                      case rel => exact ⟨j + 1, by go_num, by rw [HM.out], by omega, by omega, S0.later b20⟩
                      case measure => simp [intOf]; omega
                    · have HM := Lib.hid (show Sp.anyOf (hasB a) n (j + 1) = true by simp [Sp.anyOf, hm])
                      clear hm hS C8m
                      go_wp2_with fail
                      go_roundw
                      case rel => exact ⟨j + 1, by go_num, by rw [HM.out], by omega, by omega, S0⟩
                      case measure => simp [intOf]; omega
                  · obtain ⟨y, hy⟩ : ∃ y, Sp.anyOf (hasB a) n j = y := ⟨_, rfl⟩
                    rw [hy]
                    clear hS C8m hy
                    go_wp2_with fail
                    go_meet
                    exact ⟨y, rfl, Lib.hid (fun h => by omega), S0⟩
                · have HM : Hid (-1000 < n ∧ n < 70000 ∧ x < n + 1000 ∧ x ≠ n → Sp.anyOf (hasB a) n j = meetsB a n x) := Lib.hid (fun ⟨_, _, _, h4⟩ => by
                    rcases hj with hj | hj
                    · subst hj
                      rw [meets_none a n x (by omega)]; rfl
                    · have : x = n + j := by omega
                      subst this
                      exact (meets_any a n j (by omega)).symm)
                  generalize Sp.anyOf (hasB a) n j = y at HM
                  clear hS C8m
                  go_wp2_with fail
                  go_meet
                  exact ⟨y, rfl, HM, S0⟩
            · obtain ⟨T, hT⟩ : ∃ T, wrap64 (n + 1000) = T := ⟨_, rfl⟩
              have hTn : T < n := by rw [← hT]; unfold wrap64; omega
              go_loopw [26, 27] (fun me v wq => v = .int .i64 n ∧ me = .bool false ∧ St w w12 g NN xs2 wq) (fun _ v _ => 0)
              case atStart => exact ⟨rfl, rfl, hS⟩
              case round =>
                obtain ⟨rfl, rfl, S0⟩ := hrel
                have cx := HC.out _ S0.2.1
                have hnT : ¬ n < T := by omega
                clear hS
                by_cases hv : n < x
                all_goals
                  go_wp2_with fail
                  go_meet
                  exact ⟨false, rfl, Lib.hid (fun h => by omega), S0⟩
          case rest =>
            obtain ⟨mv, rfl, HMV, hS⟩ := hcut
            have T0 := hS.2.1
            have cx := HC.out _ T0
            go_upto_if 177 with fail
            go_cut [26] (fun s wc => ∃ mv, s = .bool mv ∧ Hid (-1000 < n ∧ n < 70000 ∧ x < n + 1000 → mv = meetsB a n x) ∧ St w w12 g NN xs2 wc)
            case first =>
              by_cases hxn : x = n
              · have C8m := Lib.hid (fun w1 hb => C8.out w1 (n - 1) hb)
                have HM := Lib.hid (meets_self a n)
                have HXN := Lib.hid hxn
                have hxe : (x == n) = true := by simp [hxn]
                clear hxn
                generalize hasB a (n - 1) = y at HM C8m
                rw [HHN.out] at HM
                cases hn0
                · by_cases h0 : 0 < n
                  · have HM2 := Lib.hid (show meetsB a n n = y by rw [HM.out, decide_eq_true h0]; simp)
                    go_wp2_with (first | (go_at_call 11; (with_reducible refine (C8n.out _ T0).mono ?_); rintro e w20 ⟨rfl, b20⟩; have S1 := hS.later b20; have T1 := S1.2.1) | (go_at_call 11; (with_reducible refine (C8m.out _ T1).mono ?_); rintro e w21 ⟨rfl, b21⟩; have S2 := S1.later b21))
                    go_meet
                    exact ⟨y, rfl, Lib.hid (fun _ => by rw [HXN.out, HM2.out]), S2⟩
                  · have HM2 := Lib.hid (show meetsB a n n = false by rw [HM.out, decide_eq_false h0]; simp)
                    go_wp2_with (go_at_call 11; (with_reducible refine (C8n.out _ T0).mono ?_); rintro e w20 ⟨rfl, b20⟩; have S1 := hS.later b20)
                    go_meet
                    exact ⟨false, rfl, Lib.hid (fun _ => by rw [HXN.out, HM2.out]), S1⟩
                · have HM2 := Lib.hid (show meetsB a n n = true by rw [HM.out]; simp)
                  go_wp2_with (go_at_call 11; (with_reducible refine (C8n.out _ T0).mono ?_); rintro e w20 ⟨rfl, b20⟩; have S1 := hS.later b20)
                  go_meet
                  exact ⟨true, rfl, Lib.hid (fun _ => by rw [HXN.out, HM2.out]), S1⟩
              · have hxe : (x == n) = false := by simp [hxn]
                have HXN := Lib.hid hxn
                clear hxn
                go_wp2_with fail
                go_meet
                exact ⟨mv, rfl, Lib.hid (fun ⟨h1, h2, h3⟩ => HMV.out ⟨h1, h2, h3, HXN.out⟩), hS⟩
            case rest =>
              clear hS T0 cx HMV
              obtain ⟨mv2, rfl, HMV, hS⟩ := hcut
              have T0 := hS.2.1
              have cx := HC.out _ T0
              by_cases h1 : -1000 < n
              · by_cases h2 : n < 70000
                · by_cases h3 : x < n + 1000
                  · have CM := Lib.hid (C10.out _ x T0)
                    rw [← HMV.out ⟨h1, h2, h3⟩] at CM
                    go_wp2_with (go_at_call 13; (with_reducible refine CM.out.mono ?_); rintro e w22 ⟨rfl, b22⟩; have S3 := hS.later b22)
                    go_roundw
                    case rel => exact ⟨k + 1, xs2, by omega, by go_num, by rw [HR.out], S3, Lib.hid (fun h => HX2.out (by rw [← HR.out]; exact h))⟩
                    case measure => simp [intOf]; omega
                  · go_wp2_with fail
                    go_roundw
                    case rel => exact ⟨k + 1, xs2, by omega, by go_num, by rw [HR.out], hS, Lib.hid (fun h => HX2.out (by rw [← HR.out]; exact h))⟩
                    case measure => simp [intOf]; omega
                · go_wp2_with fail
                  go_roundw
                  case rel => exact ⟨k + 1, xs2, by omega, by go_num, by rw [HR.out], hS, Lib.hid (fun h => HX2.out (by rw [← HR.out]; exact h))⟩
                  case measure => simp [intOf]; omega
              · go_wp2_with fail
                go_roundw
                case rel => exact ⟨k + 1, xs2, by omega, by go_num, by rw [HR.out], hS, Lib.hid (fun h => HX2.out (by rw [← HR.out]; exact h))⟩
                case measure => simp [intOf]; omega
    · have hk2 : l.take k = l := List.take_of_length_le (by omega)
      rw [hk2] at HX
      rw [hk2]
      have T0 := HS0.2.1
      cases hz : lineOk l
      · have hO : O = [] := by rw [HO.out]; unfold ofL; rw [hz]; rfl
        have hOe : Oe = 2 := by rw [HOe.out]; unfold ofE; rw [hz]; rfl
        clear HO HOe HX hz hk2
        subst hO hOe
        go_wp2
        go_ret
        exact ⟨rfl, T0⟩
      · have hOe : Oe = 0 := by rw [HOe.out]; unfold ofE; rw [hz]; rfl
        have hx := HX.out hz
        subst hx
        have hrd := Rd.of_own HS0.1
        have SC := Set_any (some ⟨g, 0, none⟩) NN NN (named l) wo hN1 hrd
        have hLO : Sp.setOf (named l) NN = O := by rw [HO.out]; unfold ofL; rw [if_pos hz, HN.out]
        rw [hLO] at SC
        have SC := Lib.hid SC
        have K9 : Hid (∀ w', Below wo.heap.size wo w' → Rd w' 2 A9 O.length (rgcs O)) := Lib.hid (fun w' hb' => R9.out.keep (by rw [hG]; exact HS0.2.2.trans (Keep.below hb' (Nat.le_of_lt hgl))))
        clear HO HOe HX hz hk2 hLO hrd HS0
        subst hOe
        go_wp2_with (first
          | (go_at_call 14; (with_reducible refine SC.out.mono ?_); rintro e w14 ⟨v14, rfl, q14⟩; obtain ⟨A14, c14, rfl, r14, b14⟩ := q14.get; have b14' := T0.trans (b14.mono T0.size))
          | (go_at_call 9; (with_reducible refine (same_eq A9 A14 c9 c14 O _ (K9.out _ b14) r14 (by omega)).mono ?_); rintro e w15 ⟨rfl, b15⟩))
        go_ret
        exact ⟨rfl, b14'.trans (b15.mono b14'.size)⟩

end Go.Proofs.Ytccpjjhaeocfhaa
