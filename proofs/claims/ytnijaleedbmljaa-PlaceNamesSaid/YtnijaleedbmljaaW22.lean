/- Walks: lines and columns of places (the program's), and places of lines and columns (both). -/
import Derived.Test.YtnijaleedbmljaaW4
import Derived.Test.YtnijaleedbmljaaPlJ
set_option linter.unusedVariables false
set_option linter.unusedSimpArgs false
namespace Go.Proofs.Ytnijaleedbmljaa
open Go Go.RowKit

set_option maxHeartbeats 400000 in
theorem ends_any (s : ByteArray) (b i : Nat) (w : World) (hb : Bx w b 9 (.string s)) (hi : i < s.size) (hs : s.size ≤ 1000000000) (d : Bool) (hd : decide (s[i]'hi = 10) = d) :
    Calls Try.prog 58 #[.int .i64 i, .pointer (some ⟨b, 0, none⟩)] w fun e w' => e = .returned (.bool d) ∧ w = w' := by
  have hc := hb.cell
  have hu := u8_10 (s[i]'hi)
  rw [hd] at hu
  clear hd
  have h0 : (0 : Int) ≤ (i : Int) := by omega
  have h1 : (i : Int) < (s.size : Int) := by omega
  go_enter Try.func58, Try.ntmps58
  go_wp2
  go_ret
  exact ⟨rfl, rfl⟩

set_option maxHeartbeats 1000000 in
theorem Of_any (s : ByteArray) (n : Int) (w : World) (hs : s.size ≤ 1000000000) :
    Calls Try.prog 37 #[.string s, .int .i64 n] w fun e w' => e = .returned (ofRes s.data.toList n) ∧ w.alloc (.cells #[.string s] 9) = w' := by
  have hbx := Bx.new w 9 (.string s)
  have hc := hbx.cell
  by_cases hn : n < 0 ∨ (s.size : Int) < n
  · have hf : ofRes s.data.toList n = .tuple #[.int .i64 0, .int .i64 0, .int .i64 2] := by
      unfold ofRes; rw [if_pos (by rw [← Lib.size_eq]; exact hn)]
    have HF := Lib.hid hf; clear hf
    rcases hn with hn | hn
    · go_enter Try.func37, Try.ntmps37
      go_wp2
      go_ret3
      exact ⟨by rw [HF.out]; rfl, rfl⟩
    · have hn0 : ¬ n < 0 := by omega
      go_enter Try.func37, Try.ntmps37
      go_wp2
      go_ret3
      exact ⟨by rw [HF.out]; rfl, rfl⟩
  · have hn0 : ¬ n < 0 := by omega
    have hn1 : ¬ (s.size : Int) < n := by omega
    obtain ⟨m, rfl⟩ : ∃ m : Nat, n = m := ⟨n.toNat, by omega⟩
    have hm : m ≤ s.size := by omega
    have hf : ofRes s.data.toList m = .tuple #[.int .i64 (Pl.lc (s.data.toList.take m)).1, .int .i64 (Pl.lc (s.data.toList.take m)).2, .int .i64 0] := by
      unfold ofRes; rw [if_neg (by rw [← Lib.size_eq]; exact hn)]; rfl
    have HF := Lib.hid hf; clear hf hn
    go_enter Try.func37, Try.ntmps37
    go_wp2
    go_loop [4, 5, 8, 19] (fun a b _ i => ∃ k : Nat, k ≤ m ∧ i = .int .i64 k ∧ a = .int .i64 (Pl.lc (s.data.toList.take k)).1 ∧ b = .int .i64 (Pl.lc (s.data.toList.take k)).2) (fun _ _ _ i => m - (intOf i).toNat)
    case atStart => exact ⟨0, Nat.zero_le _, rfl, by simp [Pl.lc], by simp [Pl.lc]⟩
    case round =>
      obtain ⟨k, hk, rfl, rfl, rfl⟩ := hrel
      have hle := lc_le (s.data.toList.take k)
      have hll : (s.data.toList.take k).length ≤ k := List.length_take_le _ _
      by_cases hlt : k < m
      · have hks : k < s.size := by omega
        have HS := Lib.hid (lc_succ s k hks)
        cases hd : decide (s[k]'hks = 10)
        all_goals
          have KE := Lib.hid (fun W h => ends_any s w.heap.size k W h hks hs _ hd)
          have HD := Lib.hid hd; clear hd
          go_wp2_with (go_at_call 58; refine (KE.out _ hbx).mono ?_; rintro e w' ⟨rfl, rfl⟩)
          refine ⟨⟨k + 1, by omega, by go_num, by rw [HS.out]; have := HD.out; simp at this; simp [Pl.lcStep, this], by rw [HS.out]; have := HD.out; simp at this; simp [Pl.lcStep, this]⟩, by simp [intOf]; omega⟩
      · obtain rfl : k = m := by omega
        go_wp2
        go_ret3
        exact ⟨by rw [HF.out]; rfl, rfl⟩

def atRes (s : Pl.T) (l c : Int) : Value :=
  if l < 0 ∨ c < 0 then .tuple #[.int .i64 0, .int .i64 2] else match Pl.atP s l.toNat c.toNat with
    | none => .tuple #[.int .i64 0, .int .i64 2]
    | some a => .tuple #[.int .i64 a, .int .i64 0]

theorem atP_none {t : Pl.T} {l c : Nat} (h : Lib.indexByte t 10 < 0) : Pl.atP t (l + 1) c = none := by unfold Pl.atP; rw [if_pos h]
theorem atP_some {t : Pl.T} {l c j : Nat} (h : Lib.indexByte t 10 = j) : Pl.atP t (l + 1) c = (Pl.atP (t.drop (j + 1)) l c).map (· + (j + 1)) := by
  conv => lhs; unfold Pl.atP
  rw [if_neg (by omega), h, Int.toNat_natCast]
theorem atP_zero {t : Pl.T} {c : Nat} : Pl.atP t 0 c = if (if Lib.indexByte t 10 < 0 then t.length else (Lib.indexByte t 10).toNat) < c then none else some c := by unfold Pl.atP; rfl

set_option maxRecDepth 100000 in
set_option maxHeartbeats 1000000 in
theorem At_any (s : ByteArray) (l c : Int) (w : World) (hs : s.size ≤ 1000000000) (hl1 : l ≤ 9223372036854775807) :
    Calls Try.prog 39 #[.string s, .int .i64 l, .int .i64 c] w fun e w' => e = .returned (atRes s.data.toList l c) ∧ w = w' := by
  by_cases hneg : l < 0 ∨ c < 0
  · have HR : Hid (atRes s.data.toList l c = .tuple #[.int .i64 0, .int .i64 2]) := Lib.hid (by unfold atRes; rw [if_pos hneg])
    have hd : decide (l < 0) = true ∨ (decide (l < 0) = false ∧ decide (c < 0) = true) := by
      by_cases hn : l < 0
      · exact .inl (by simp [hn])
      · exact .inr ⟨by simp [hn], by rcases hneg with hr | hr; exact absurd hr hn; simp [hr]⟩
    rcases hd with hd | ⟨hd, hd2⟩
    all_goals
      go_enter Try.func39, Try.ntmps39
      go_wp2
      go_ret2
      exact ⟨by rw [HR.out]; rfl, rfl⟩
  obtain ⟨l, rfl⟩ : ∃ m : Nat, l = m := ⟨l.toNat, by omega⟩
  obtain ⟨c, rfl⟩ : ∃ m : Nat, c = m := ⟨c.toNat, by omega⟩
  have hsz : s.size = s.data.toList.length := Lib.size_eq s
  have HN : Hid (Pl.atP s.data.toList l c = none → atRes s.data.toList l c = .tuple #[.int .i64 0, .int .i64 2]) := Lib.hid (fun e => by unfold atRes; rw [if_neg hneg, Int.toNat_natCast, Int.toNat_natCast, e])
  have HS : Hid (∀ a : Nat, Pl.atP s.data.toList l c = some a → atRes s.data.toList l c = .tuple #[.int .i64 a, .int .i64 0]) := Lib.hid (fun a e => by unfold atRes; rw [if_neg hneg, Int.toNat_natCast, Int.toNat_natCast, e])
  have HZ := Lib.hid hsz; clear hsz hneg
  have hl0 : decide ((l : Int) < 0) = false := by simp
  have hc0 : decide ((c : Int) < 0) = false := by simp
  go_enter Try.func39, Try.ntmps39
  go_wp2
  clear hl0 hc0
  go_loop [1, 8, 9] (fun ln b _ => ∃ k bb : Nat, bb ≤ s.size ∧ k ≤ l ∧ ln = .int .i64 k ∧ b = .int .i64 bb ∧ Hid ((Pl.atP (s.data.toList.drop bb) k c).map (· + bb) = Pl.atP s.data.toList l c)) (fun ln _ _ => (intOf ln).toNat)
  case atStart => exact ⟨l, 0, Nat.zero_le _, Nat.le_refl _, rfl, rfl, Lib.hid (by simp)⟩
  case round =>
    obtain ⟨k, bb, hbb, hkl, rfl, rfl, HK⟩ := hrel
    have hd : (s.extract bb s.size).data.toList = s.data.toList.drop bb := by rw [Lib.extract_data, Lib.size_eq]; exact List.take_of_length_le (by simp)
    have KI := Lib.hid (fun w => Try.strings_IndexByte (s.extract bb s.size) 10 w)
    rw [hd, show (Int.toNat 10).toUInt8 = 10 from rfl] at KI
    clear hd
    have hge := Lib.indexByte_ge (s.data.toList.drop bb) 10
    by_cases hi : Lib.indexByte (s.data.toList.drop bb) 10 < 0
    · have hi1 : Lib.indexByte (s.data.toList.drop bb) 10 = -1 := by omega
      cases k with
      | zero =>
        rw [atP_zero, if_pos hi, List.length_drop, ← HZ.out] at HK
        rw [hi1] at KI
        clear hi hi1 hge
        by_cases hcc : s.size - bb < c
        · rw [if_pos hcc] at HK
          have HR := Lib.hid (HN.out (by rw [← HK.out]; rfl))
          have hq : decide ((s.size : Int) - bb < (c : Int)) = true := by simp; omega
          go_wp2_with (go_at_call 59; refine (KI.out _).mono ?_; rintro e w' ⟨rfl, rfl⟩)
          go_ret2
          exact ⟨by rw [HR.out]; rfl, rfl⟩
        · rw [if_neg hcc] at HK
          have HR := Lib.hid (HS.out (c + bb) (by rw [← HK.out]; rfl))
          have hq : decide ((s.size : Int) - bb < (c : Int)) = false := by simp; omega
          have hcl : c ≤ s.size := by omega
          go_wp2_with (go_at_call 59; refine (KI.out _).mono ?_; rintro e w' ⟨rfl, rfl⟩)
          go_ret2
          exact ⟨by rw [HR.out, Int.add_comm]; rfl, rfl⟩
      | succ k =>
        rw [atP_none hi] at HK
        have HR := Lib.hid (HN.out (by rw [← HK.out]; rfl))
        rw [hi1] at KI
        clear hi hi1 hge
        have hk0 : decide ((0 : Int) < ((k + 1 : Nat) : Int)) = true := by rw [decide_eq_true_eq]; omega
        go_wp2_with (go_at_call 59; refine (KI.out _).mono ?_; rintro e w' ⟨rfl, rfl⟩)
        go_ret2
        exact ⟨by rw [HR.out]; rfl, rfl⟩
    · obtain ⟨j, hj⟩ : ∃ j : Nat, Lib.indexByte (s.data.toList.drop bb) 10 = j := ⟨(Lib.indexByte (s.data.toList.drop bb) 10).toNat, by omega⟩
      obtain ⟨hj1, _, _⟩ := Pl.idx_some hj
      rw [List.length_drop, ← HZ.out] at hj1
      cases k with
      | zero =>
        rw [atP_zero, if_neg hi, hj, Int.toNat_natCast] at HK
        rw [hj] at KI
        clear hi hj hge
        by_cases hcc : j < c
        · rw [if_pos hcc] at HK
          have HR := Lib.hid (HN.out (by rw [← HK.out]; rfl))
          have hq : decide ((j : Int) < (c : Int)) = true := by simp; omega
          go_wp2_with (go_at_call 59; refine (KI.out _).mono ?_; rintro e w' ⟨rfl, rfl⟩)
          go_ret2
          exact ⟨by rw [HR.out]; rfl, rfl⟩
        · rw [if_neg hcc] at HK
          have HR := Lib.hid (HS.out (c + bb) (by rw [← HK.out]; rfl))
          have hq : decide ((j : Int) < (c : Int)) = false := by simp; omega
          have hcl : c ≤ s.size := by omega
          go_wp2_with (go_at_call 59; refine (KI.out _).mono ?_; rintro e w' ⟨rfl, rfl⟩)
          go_ret2
          exact ⟨by rw [HR.out, Int.add_comm]; rfl, rfl⟩
      | succ k =>
        have H2 : Hid ((Pl.atP (s.data.toList.drop (bb + (j + 1))) k c).map (· + (bb + (j + 1))) = Pl.atP s.data.toList l c) := Lib.hid (by
          rw [← HK.out, atP_some hj, List.drop_drop, Option.map_map]
          congr 1
          funext x
          simp only [Function.comp_apply]; omega)
        rw [hj] at KI
        clear hi hj hge HK
        have hk0 : decide ((0 : Int) < ((k + 1 : Nat) : Int)) = true := by rw [decide_eq_true_eq]; omega
        have hj0 : decide ((j : Int) < 0) = false := by simp
        go_wp2_with (go_at_call 59; refine (KI.out _).mono ?_; rintro e w' ⟨rfl, rfl⟩)
        refine ⟨⟨k, bb + (j + 1), by omega, by omega, by go_num, by go_num, H2⟩, by simp [intOf]⟩

set_option maxRecDepth 100000 in
set_option maxHeartbeats 1000000 in
theorem refAt_any (s : ByteArray) (l c : Int) (w : World) (hs : s.size ≤ 1000000000) :
    Calls Try.prog 40 #[.string s, .int .i64 l, .int .i64 c] w fun e w' => e = .returned (atRes s.data.toList l c) ∧ w = w' := by
  have hsz : s.size = s.data.toList.length := Lib.size_eq s
  have HA : Hid (∀ a : Nat, a ≤ s.size → ((Pl.lc (s.data.toList.take a)).1 : Int) = l → ((Pl.lc (s.data.toList.take a)).2 : Int) = c → atRes s.data.toList l c = .tuple #[.int .i64 a, .int .i64 0]) := Lib.hid (fun a ha e1 e2 => by
    unfold atRes
    rw [if_neg (by omega), ← e1, ← e2, Int.toNat_natCast, Int.toNat_natCast, Pl.atP_of (by omega)])
  have HB : Hid ((∀ a : Nat, a ≤ s.size → ¬ (((Pl.lc (s.data.toList.take a)).1 : Int) = l ∧ ((Pl.lc (s.data.toList.take a)).2 : Int) = c)) → atRes s.data.toList l c = .tuple #[.int .i64 0, .int .i64 2]) := Lib.hid (fun h => by
    unfold atRes
    split
    · rfl
    · next hn =>
      cases hq : Pl.atP s.data.toList l.toNat c.toNat with
      | none => rfl
      | some a =>
        exfalso
        obtain ⟨h1, h2⟩ := (Pl.atP_iff _ _ _ _).1 hq
        refine h a (by omega) ?_
        rw [h2]; simp only; omega)
  clear hsz
  have KO := Lib.hid (fun (a : Nat) w => refOf_any s a w hs)
  go_enter Try.func40, Try.ntmps40
  go_wp2
  go_loop [8, 9, 10, 11] (fun i _ _ _ => ∃ k : Nat, k ≤ s.size + 1 ∧ i = .int .i64 k ∧ Hid (∀ a : Nat, a < k → ¬ (((Pl.lc (s.data.toList.take a)).1 : Int) = l ∧ ((Pl.lc (s.data.toList.take a)).2 : Int) = c))) (fun i _ _ _ => s.size + 1 - (intOf i).toNat)
  case atStart => exact ⟨0, Nat.zero_le _, rfl, Lib.hid (fun a ha => by omega)⟩
  case round =>
    obtain ⟨k, hk, rfl, HH⟩ := hrel
    by_cases hlt : k ≤ s.size
    · have KK := Lib.hid (fun w => KO.out k w)
      have hle : (k : Int) ≤ (s.size : Int) := by omega
      have hof : ofRes s.data.toList (k : Int) = .tuple #[.int .i64 (Pl.lc (s.data.toList.take k)).1, .int .i64 (Pl.lc (s.data.toList.take k)).2, .int .i64 0] := by
        unfold ofRes; rw [if_neg (by rw [← Lib.size_eq]; omega)]; rfl
      rw [hof] at KK
      clear hof
      obtain ⟨p, hp⟩ : ∃ p, p = Pl.lc (s.data.toList.take k) := ⟨_, rfl⟩
      rw [← hp] at KK
      have HP := Lib.hid hp; clear hp
      by_cases h1 : (p.1 : Int) = l ∧ (p.2 : Int) = c
      · have HR := Lib.hid (HA.out k hlt (by rw [← HP.out]; exact h1.1) (by rw [← HP.out]; exact h1.2))
        have d1 : ((p.1 : Int) == l) = true := by simp [h1.1]
        have d2 : ((p.2 : Int) == c) = true := by simp [h1.2]
        clear h1
        go_wp2_with (go_at_call 38; refine (KK.out _).mono ?_; rintro e w' ⟨rfl, rfl⟩)
        go_ret2
        exact ⟨by rw [HR.out]; rfl, rfl⟩
      · have H2 : Hid (∀ a : Nat, a < k + 1 → ¬ (((Pl.lc (s.data.toList.take a)).1 : Int) = l ∧ ((Pl.lc (s.data.toList.take a)).2 : Int) = c)) := Lib.hid (fun a ha => by
          by_cases e : a = k
          · rw [e, ← HP.out]; exact h1
          · exact HH.out a (by omega))
        have d : ((p.1 : Int) == l) = false ∨ (((p.1 : Int) == l) = true ∧ ((p.2 : Int) == c) = false) := by
          by_cases e : (p.1 : Int) = l
          · exact .inr ⟨by simp [e], by simp only [beq_eq_false_iff_ne]; exact fun e2 => h1 ⟨e, e2⟩⟩
          · exact .inl (by simp [e])
        clear h1
        rcases d with d | ⟨d, d2⟩
        all_goals
          go_wp2_with (go_at_call 38; refine (KK.out _).mono ?_; rintro e w' ⟨rfl, rfl⟩)
          refine ⟨⟨k + 1, by omega, by go_num, H2⟩, by simp [intOf]; omega⟩
    · have HR := Lib.hid (HB.out (fun a ha => HH.out a (by omega)))
      have hq : decide ((k : Int) ≤ (s.size : Int)) = false := by simp; omega
      go_wp2
      go_ret2
      exact ⟨by rw [HR.out]; rfl, rfl⟩

end Go.Proofs.Ytnijaleedbmljaa
