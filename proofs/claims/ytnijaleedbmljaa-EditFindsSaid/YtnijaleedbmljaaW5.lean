/- Walks: the document's lines; some lines together; where a line begins; whether there is more than statements go through. -/
import Derived.Test.YtnijaleedbmljaaW3
import Derived.Test.YtnijaleedbmljaaW4
set_option linter.unusedVariables false
set_option linter.unusedSimpArgs false
namespace Go.Proofs.Ytnijaleedbmljaa
open Go Go.RowKit

theorem own_form {W : World} {base : Nat} {e : TypeId} {sz n : Nat} {v : Value} {xs : List Value} (h : W.ownsRow base e sz v n xs) : ∃ A c, v = .slice A n c ∧ n ≤ c ∧ Rd W sz A n xs := by
  rcases h.2 with ⟨rfl, rfl⟩ | ⟨g, cap, cur, rfl, hg, hh, hnc, _⟩
  · exact ⟨none, 0, rfl, Nat.le_refl _, Rd.of_own h⟩
  · exact ⟨_, cap, rfl, hnc, Rd.of_own h⟩

theorem Lines_got (s : ByteArray) (w : World) (hs : s.size ≤ 1000000000) :
    Calls Try.prog 32 #[.string s] w fun e w' => ∃ A c, e = .returned (.slice A (Pl.lines s.data.toList).length c) ∧ (Pl.lines s.data.toList).length ≤ c ∧ Rd w' 1 A (Pl.lines s.data.toList).length (strs (Pl.lines s.data.toList)) ∧ Below w.heap.size w w' := by
  refine (Lines_any s w hs).mono ?_
  rintro e w' ⟨v, rfl, ho, hb⟩
  obtain ⟨A, c, rfl, hc, hr⟩ := own_form ho
  exact ⟨A, c, rfl, hc, hr, hb⟩

theorem take_drop_snoc {t : Pl.T} {f k : Nat} {c : UInt8} (hf : f ≤ k) (h : t[k]? = some c) : (t.drop f).take (k + 1 - f) = (t.drop f).take (k - f) ++ [c] := by
  have hl : k < t.length := (List.getElem?_eq_some_iff.1 h).1
  rw [show k + 1 - f = (k - f) + 1 by omega, List.take_succ_eq_append_getElem (by simp; omega)]
  congr 2
  rw [List.getElem_drop]
  have := (List.getElem?_eq_some_iff.1 h).2
  rw [← this]; congr 1; omega

set_option maxRecDepth 100000 in
set_option maxHeartbeats 2000000 in
theorem refLines_any (s : ByteArray) (w : World) (hs : s.size ≤ 1000000000) :
    Calls Try.prog 33 #[.string s] w fun e w' => ∃ v, e = .returned v ∧ SlOwn w w' 9 1 v (Pl.lines s.data.toList).length (strs (Pl.lines s.data.toList)) := by
  obtain ⟨i0, hi, hz0, hz1, hz2⟩ := info_parts infoStr
  have hlen : (Pl.lines s.data.toList).length ≤ 1000000000 := by
    have := Pl.lines_le s.data.toList
    rw [← Lib.size_eq] at this; omega
  have HLEN := Lib.hid hlen; clear hlen
  have hsz := Lib.size_eq s
  have HSZ := Lib.hid hsz; clear hsz
  go_enter Try.func33, Try.ntmps33
  go_wp2
  go_loopw [3, 4, 5] (fun v fr i wr => ∃ (k f : Nat) (out : List Pl.T), f ≤ k ∧ k ≤ s.size ∧ i = .int .i64 k ∧ fr = .int .i64 f ∧ wr.ownsRow w.heap.size 9 1 v out.length (strs out) ∧ Below w.heap.size w wr ∧ Hid (out ++ Pl.lines (s.data.toList.drop f) = Pl.lines s.data.toList) ∧ Hid ((10 : UInt8) ∉ (s.data.toList.drop f).take (k - f))) (fun _ _ i _ => s.size - (intOf i).toNat)
  case atStart => exact ⟨0, 0, [], Nat.le_refl _, Nat.zero_le _, rfl, rfl, World.ownsRow_nil _ _ _ _, Below.refl _ _, Lib.hid (by simp), Lib.hid (by simp)⟩
  case round =>
    obtain ⟨k, f, out, hfk, hk, rfl, rfl, hown, hb, H1, H2⟩ := hrel
    have hol : out.length ≤ 1000000000 := by
      have := congrArg List.length H1.out
      rw [List.length_append] at this
      have := HLEN.out; omega
    by_cases hlt : k < s.size
    · have hu := u8_10 (s[k]'hlt)
      have HG := Lib.hid (ba_get s k hlt)
      cases hd : decide (s[k]'hlt = 10)
      · rw [hd] at hu
        have HD := Lib.hid hd; clear hd
        go_wp2
        go_roundw
        case rel =>
          refine ⟨k + 1, f, out, by omega, by omega, by go_num, rfl, hown, hb, H1, Lib.hid ?_⟩
          rw [take_drop_snoc hfk HG.out]
          have h1 := HD.out
          simp only [decide_eq_false_iff_not] at h1
          simp only [List.mem_append, List.mem_singleton, not_or]
          exact ⟨H2.out, fun e => h1 e.symm⟩
        case measure => simp [intOf]; omega
      · rw [hd] at hu
        have h10 : s[k]'hlt = 10 := by simpa using hd
        have hat : Pl.lines (s.data.toList.drop f) = (s.data.toList.drop f).take (k - f + 1) :: Pl.lines ((s.data.toList.drop f).drop (k - f + 1)) :=
          Pl.lines_at H2.out (by rw [List.getElem?_drop, show f + (k - f) = k by omega, HG.out, h10])
        rw [List.drop_drop, show f + (k - f + 1) = k + 1 by omega, show k - f + 1 = k + 1 - f by omega] at hat
        have hx : s.extract f (k + 1) = bs ((s.data.toList.drop f).take (k + 1 - f)) := by rw [Lib.extract_eq]; rfl
        have HA := Lib.hid hat; clear hat hd h10
        have HX := Lib.hid hx; clear hx
        have hol2 : out.length + 1 ≤ 1000000000 := by
          have := congrArg List.length H1.out
          rw [HA.out, List.length_append, List.length_cons] at this
          have := HLEN.out; omega
        go_wp2_with (at_builtin; refine wpList_append_own _ rfl _ _ 55 rfl w.heap.size 9 i0 _ 1 16 Try.underlying55 hi hz0 hz1 hz2 rfl (by decide) _ _ _ rfl (hown.alloc _) ⟨wr.heap.size, 0, none⟩ 1 1 [.string (s.extract f (k + 1))] rfl rfl (cell_one_new _ _ _) (by simp [Value.oneCell']) (by unfold maxLen; omega) (by omega) (by have := hb.size; simp; omega) ?_; intro v' w1 hown' hgrow _)
        have hb1 := (hb.alloc hb.size (.cells #[.string (s.extract f (k + 1))] 9)).grown hgrow (by have := hb.size; simp; omega) (fun j hj => (hown.lt j hj).1)
        go_wp2
        go_roundw
        case rel =>
          refine ⟨k + 1, k + 1, out ++ [(s.data.toList.drop f).take (k + 1 - f)], by omega, by omega, by go_num, by go_num, ?_, hb1, Lib.hid ?_, Lib.hid (by simp)⟩
          · have := hown'
            rw [HX.out] at this
            simpa [strs] using this
          · rw [List.append_assoc, ← H1.out, HA.out]; rfl
        case measure => simp [intOf]; omega
    · have hks : k = s.size := by omega
      have HK := Lib.hid hks; clear hks
      have h2 : (10 : UInt8) ∉ s.data.toList.drop f := by
        have := H2.out
        rw [HK.out, HSZ.out, List.take_of_length_le (by simp)] at this
        exact this
      by_cases hfs : f < s.size
      · have hne : s.data.toList.drop f ≠ [] := by
          intro e
          have := congrArg List.length e
          rw [List.length_drop, ← HSZ.out] at this
          simp at this; omega
        have hat := Pl.lines_none' h2 hne
        have hx : s.extract f s.size = bs (s.data.toList.drop f) := by
          rw [Lib.extract_eq]
          unfold bs
          rw [List.take_of_length_le (by rw [List.length_drop, ← HSZ.out]; omega)]
        have HA := Lib.hid hat; clear hat h2 hne
        have HX := Lib.hid hx; clear hx
        have hol2 : out.length + 1 ≤ 1000000000 := by
          have := congrArg List.length H1.out
          rw [HA.out, List.length_append, List.length_cons] at this
          have := HLEN.out; omega
        go_wp2_with (at_builtin; refine wpList_append_own _ rfl _ _ 55 rfl w.heap.size 9 i0 _ 1 16 Try.underlying55 hi hz0 hz1 hz2 rfl (by decide) _ _ _ rfl (hown.alloc _) ⟨wr.heap.size, 0, none⟩ 1 1 [.string (s.extract f s.size)] rfl rfl (cell_one_new _ _ _) (by simp [Value.oneCell']) (by unfold maxLen; omega) (by omega) (by have := hb.size; simp; omega) ?_; intro v' w1 hown' hgrow _)
        have hb1 := (hb.alloc hb.size (.cells #[.string (s.extract f s.size)] 9)).grown hgrow (by have := hb.size; simp; omega) (fun j hj => (hown.lt j hj).1)
        go_wp2
        go_ret
        refine ⟨_, rfl, ?_, hb1⟩
        have := hown'
        rw [HX.out] at this
        have e : Pl.lines s.data.toList = out ++ [s.data.toList.drop f] := by rw [← H1.out, HA.out]
        rw [e]
        simpa [strs] using this
      · have hd : s.data.toList.drop f = [] := List.drop_of_length_le (by rw [← HSZ.out]; omega)
        have HD := Lib.hid hd; clear hd h2
        go_wp2
        go_ret
        refine ⟨_, rfl, ?_, hb⟩
        have e : Pl.lines s.data.toList = out := by rw [← H1.out, HD.out]; simp [Pl.lines]
        rw [e]; exact hown

theorem refLines_got (s : ByteArray) (w : World) (hs : s.size ≤ 1000000000) :
    Calls Try.prog 33 #[.string s] w fun e w' => ∃ A c, e = .returned (.slice A (Pl.lines s.data.toList).length c) ∧ (Pl.lines s.data.toList).length ≤ c ∧ Rd w' 1 A (Pl.lines s.data.toList).length (strs (Pl.lines s.data.toList)) ∧ Below w.heap.size w w' := by
  refine (refLines_any s w hs).mono ?_
  rintro e w' ⟨v, rfl, ho, hb⟩
  obtain ⟨A, c, rfl, hc, hr⟩ := own_form ho
  exact ⟨A, c, rfl, hc, hr, hb⟩

theorem bs_append (x y : List UInt8) : bs x ++ bs y = bs (x ++ y) := by
  apply ByteArray.ext
  simp [bs]

theorem cut_snoc {x : List Pl.T} {a k : Nat} {y : Pl.T} (ha : a ≤ k) (h : x[k]? = some y) : (Pl.cut x a (k + 1)).flatten = (Pl.cut x a k).flatten ++ y := by
  rw [← Pl.cut_cut ha (Nat.le_succ k), Pl.cut_succ h]; simp

theorem cut_small {x : List Pl.T} {N : Nat} (h : x.flatten.length ≤ N) (a b : Nat) : (Pl.cut x a b).flatten.length ≤ N := by
  have e : (x.take a).flatten ++ (Pl.cut x a b).flatten ++ ((x.drop a).drop (b - a)).flatten = x.flatten := by
    unfold Pl.cut
    rw [List.append_assoc, ← List.flatten_append, List.take_append_drop, ← List.flatten_append, List.take_append_drop]
  have := congrArg List.length e
  simp only [List.length_append] at this
  omega

set_option maxRecDepth 100000 in
set_option maxHeartbeats 1000000 in
theorem join_any (X : Option Addr) (c : Nat) (L : List Pl.T) (f t : Int) (w : World) (hf : 0 ≤ f) (ht : t ≤ L.length) (hL : L.length ≤ 1000000000) (hfl : L.flatten.length ≤ 1000000000) (g : Rd w 1 X L.length (strs L)) :
    Calls Try.prog 51 #[.slice X L.length c, .int .i64 f, .int .i64 t] w fun e w' => e = .returned (.string (bs (Pl.cut L f.toNat t.toNat).flatten)) ∧ w = w' := by
  obtain ⟨a, rfl⟩ := Int.eq_ofNat_of_zero_le hf
  simp only [Int.toNat_natCast]
  by_cases hat : (a : Int) ≤ t
  · obtain ⟨b, rfl⟩ := Int.eq_ofNat_of_zero_le (show 0 ≤ t by omega)
    simp only [Int.toNat_natCast]
    go_enter Try.func51, Try.ntmps51
    go_wp2
    go_loop [7, 8] (fun s i => ∃ k : Nat, a ≤ k ∧ k ≤ b ∧ i = .int .i64 k ∧ s = .string (bs (Pl.cut L a k).flatten)) (fun _ i => b - (intOf i).toNat)
    case atStart => exact ⟨a, Nat.le_refl _, by omega, rfl, by rw [Pl.cut_self]; rfl⟩
    case round =>
      obtain ⟨k, hak, hk, rfl, rfl⟩ := hrel
      by_cases hlt : k < b
      · have hkl : k < L.length := by omega
        obtain ⟨b1, o1, rfl, _, c1⟩ := g.st (k := k) (List.getElem?_eq_getElem hkl)
        have HS := Lib.hid (cut_snoc hak (List.getElem?_eq_getElem hkl))
        have hq1 : (bs (Pl.cut L a k).flatten).size ≤ 1000000000 := by rw [bs_size]; exact cut_small hfl _ _
        have hq2 : (bs L[k]).size ≤ 1000000000 := by
          have := cut_small hfl k (k + 1)
          rw [Pl.cut_succ (List.getElem?_eq_getElem hkl)] at this
          rw [bs_size]; simpa using this
        go_wp2
        go_round
        case rel => exact ⟨k + 1, by omega, by omega, by go_num, by rw [HS.out, bs_append]⟩
        case measure => simp [intOf]; omega
      · obtain rfl : k = b := by omega
        go_wp2
        go_ret
        exact ⟨rfl, rfl⟩
  · have e : Pl.cut L a t.toNat = [] := by unfold Pl.cut; rw [show t.toNat - a = 0 by omega]; simp
    have HE := Lib.hid e; clear e
    go_enter Try.func51, Try.ntmps51
    go_wp2
    refine wp_loop_rounds 1 ?_
    rw [rounds_succ]
    go_wp2
    go_ret
    exact ⟨by rw [HE.out]; rfl, rfl⟩

theorem qs {P : Program} {f : FuncId} {args : Array Value} {W : World} {v : Value} (h : Calls P f args W fun e w' => e = .returned v ∧ W = w') : Calls P f args W fun e w' => e = .returned v ∧ w' = W :=
  h.mono fun _ _ ⟨a, b⟩ => ⟨a, b.symm⟩

/-- Where a line begins. -/
def off (L : List Pl.T) (n : Nat) : Nat := (L.take n).flatten.length

theorem off_succ {L : List Pl.T} {n : Nat} {y : Pl.T} (h : L[n]? = some y) : off L (n + 1) = off L n + y.length := by
  unfold off
  have hl : n < L.length := (List.getElem?_eq_some_iff.1 h).1
  rw [List.take_succ_eq_append_getElem hl, (List.getElem?_eq_some_iff.1 h).2]; simp
theorem off_le (L : List Pl.T) (n : Nat) : off L n ≤ L.flatten.length := by
  unfold off
  conv => rhs; rw [← List.take_append_drop n L]
  rw [List.flatten_append, List.length_append]; omega

set_option maxHeartbeats 1000000 in
theorem begin_any (X : Option Addr) (c : Nat) (L : List Pl.T) (n : Int) (w : World) (hn : 0 ≤ n) (hnl : n ≤ L.length) (hL : L.length ≤ 1000000000) (hfl : L.flatten.length ≤ 1000000000) (g : Rd w 1 X L.length (strs L)) :
    Calls Try.prog 47 #[.slice X L.length c, .int .i64 n] w fun e w' => e = .returned (.int .i64 (off L n.toNat)) ∧ w = w' := by
  obtain ⟨m, rfl⟩ := Int.eq_ofNat_of_zero_le hn
  simp only [Int.toNat_natCast]
  go_enter Try.func47, Try.ntmps47
  go_wp2
  go_loop [5, 6] (fun s i => ∃ k : Nat, k ≤ m ∧ i = .int .i64 k ∧ s = .int .i64 (off L k)) (fun _ i => m - (intOf i).toNat)
  case atStart => exact ⟨0, Nat.zero_le _, rfl, rfl⟩
  case round =>
    obtain ⟨k, hk, rfl, rfl⟩ := hrel
    have hol := off_le L k
    by_cases hlt : k < m
    · have hkl : k < L.length := by omega
      obtain ⟨b1, o1, rfl, _, c1⟩ := g.st (k := k) (List.getElem?_eq_getElem hkl)
      have HS := Lib.hid (off_succ (List.getElem?_eq_getElem hkl))
      have hq2 : (bs L[k]).size ≤ 1000000000 := by
        have := cut_small hfl k (k + 1)
        rw [Pl.cut_succ (List.getElem?_eq_getElem hkl)] at this
        rw [bs_size]; simpa using this
      go_wp2
      go_round
      case rel => exact ⟨k + 1, by omega, by go_num, by rw [HS.out, bs_size]; go_num⟩
      case measure => simp [intOf]; omega
    · obtain rfl : k = m := by omega
      go_wp2
      go_ret
      exact ⟨rfl, rfl⟩

end Go.Proofs.Ytnijaleedbmljaa
