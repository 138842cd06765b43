/- The law EditApplies: what edits make of a text, what takes them back, how many lines go out and in. -/
import Derived.Test.YtnijaleedbmljaaW10
set_option linter.unusedVariables false
set_option linter.unusedSimpArgs false
namespace Go.Proofs.Ytnijaleedbmljaa
open Go Go.RowKit

theorem app_size (L : List Pl.T) (N M : Nat) (hfl : L.flatten.length ≤ N) : ∀ (l : List Pl.Ed) (a : Nat), (∀ e ∈ l, e.x.length ≤ M) → (Pl.app L a l).length ≤ N + l.length * (N + M) := by
  intro l
  induction l with
  | nil =>
    intro a _
    have : (L.take a).flatten ++ (L.drop a).flatten = L.flatten := by rw [← List.flatten_append, List.take_append_drop]
    have := congrArg List.length this
    simp only [List.length_append] at this
    simp only [Pl.app, List.length_nil, Nat.zero_mul]
    omega
  | cons e r ih =>
    intro a h
    have h1 := ih e.t.toNat (fun e' he => h e' (by simp [he]))
    have h2 := h e (by simp)
    have h3 := cut_small hfl a e.f.toNat
    simp only [Pl.app, List.length_append, List.length_cons]
    have : (r.length + 1) * (N + M) = r.length * (N + M) + (N + M) := by rw [Nat.add_mul, Nat.one_mul]
    omega

theorem all_snoc {l : List Pl.Ed} {e : Pl.Ed} {N : Nat} (h : ∀ e ∈ l, e.x.length ≤ N) (he : e.x.length ≤ N) : ∀ e' ∈ l ++ [e], e'.x.length ≤ N := by
  intro e' h'
  rw [List.mem_append] at h'
  rcases h' with h' | h'
  · exact h e' h'
  · simp at h'; subst h'; exact he

set_option maxRecDepth 100000 in
set_option maxHeartbeats 4000000 in
theorem EditApplies_any (s : ByteArray) (A : Option Addr) (c : Nat) (l : List Pl.Ed) (w : World) (hs : s.size ≤ maxLen) (hl : l.length ≤ maxLen) (hx : ∀ e ∈ l, e.x.length ≤ maxLen) (h : Rd w 3 A l.length (edcs l)) :
    Calls Try.prog 4 #[.string s, .slice A l.length c] w fun e w' => e = .returned (.bool true) ∧ Below w.heap.size w w' := by
  unfold maxLen at hs hl hx
  by_cases hbig : 2000 < s.size
  · have hg : decide ((2000 : Int) < (s.size : Int)) = true := by simp; omega
    go_enter Try.func4, Try.ntmps4
    go_wp2
    go_ret
    exact ⟨rfl, Below.refl _ _⟩
  by_cases hmany : 50 < l.length
  · have hg1 : decide ((2000 : Int) < (s.size : Int)) = false := by simp; omega
    have hg2 : decide ((50 : Int) < (l.length : Int)) = true := by simp; omega
    go_enter Try.func4, Try.ntmps4
    go_wp2
    go_ret
    exact ⟨rfl, Below.refl _ _⟩
  have hg1 : decide ((2000 : Int) < (s.size : Int)) = false := by simp; omega
  have hg2 : decide ((50 : Int) < (l.length : Int)) = false := by simp; omega
  have hln : (Pl.lines s.data.toList).flatten.length ≤ 2000 := by rw [Pl.lines_flat, ← Lib.size_eq]; omega
  have HS := Lib.hid hln; clear hln
  go_enter Try.func4, Try.ntmps4
  go_wp2
  clear hg1 hg2
  go_loopw [5] (fun i wr => ∃ k : Nat, k ≤ l.length ∧ i = .int .i64 k ∧ Below w.heap.size w wr ∧ Hid (∀ e ∈ l.take k, e.x.length ≤ 500)) (fun i _ => l.length - (intOf i).toNat)
  case atStart => exact ⟨0, Nat.zero_le _, rfl, Below.refl _ _, Lib.hid (by simp)⟩
  case round =>
    obtain ⟨k, hk, rfl, hbw, HT⟩ := hrel
    by_cases hlt : k < l.length
    · obtain ⟨b1, o1, rfl, hbk1, c1, c2, c3⟩ := (h.later hbw).ed (k := k) (List.getElem?_eq_getElem hlt)
      have hq := hx l[k] (List.getElem_mem hlt)
      have hd : l.take (k + 1) = l.take k ++ [l[k]] := List.take_succ_eq_append_getElem hlt
      have HD := Lib.hid hd; clear hd
      generalize l[k] = e at c1 c2 c3 hq HD
      have hz : (bs e.x).size = e.x.length := bs_size _
      by_cases hlong : 500 < e.x.length
      · have hg : decide ((500 : Int) < (((bs e.x).size : Nat) : Int)) = true := by rw [hz]; simp; omega
        have HZ := Lib.hid hz; clear hz
        go_wp2
        go_ret
        exact ⟨rfl, hbw⟩
      · have hg : decide ((500 : Int) < (((bs e.x).size : Nat) : Int)) = false := by rw [hz]; simp; omega
        have HZ := Lib.hid hz; clear hz
        go_wp2
        go_roundw
        case rel => exact ⟨k + 1, by omega, by go_num, hbw, Lib.hid (by rw [HD.out]; exact all_snoc HT.out (by omega))⟩
        case measure => simp [intOf]; omega
    · have hkl : k = l.length := by omega
      have hall : ∀ e ∈ l, e.x.length ≤ 500 := by have := HT.out; rw [hkl, List.take_length] at this; exact this
      have hsm : Sm l := ⟨by omega, fun e he => by have := hall e he; omega⟩
      have hap : (Pl.app (Pl.lines s.data.toList) 0 l).length ≤ 1000000000000 := by
        have h1 := app_size (Pl.lines s.data.toList) 2000 500 HS.out l 0 hall
        have h2 : l.length * (2000 + 500) ≤ 50 * 2500 := Nat.mul_le_mul (by omega) (by omega)
        omega
      have hol : (backOut s.data.toList l).length ≤ 1000000000 := by
        unfold backOut
        split
        · rw [backs_length]; omega
        · simp
      have HSM := Lib.hid hsm
      have HALL := Lib.hid hall
      clear hall hsm hkl hx
      have hs6 : s.size ≤ 1000000 := by omega
      have C1 := Lib.hid (fun W g => Apply_any s A c l W hs6 g HSM.out (fun _ => hap))
      have C2 := Lib.hid (fun W g => refApply_any s A c l W hs6 g HSM.out (fun _ => hap))
      have C3 := Lib.hid (fun W g => Back_any s A c l W hs6 g HSM.out)
      have C4 := Lib.hid (fun W g => refBack_any s A c l W hs6 g HSM.out)
      have C5 := Lib.hid (fun W g => Size_any s A c l W hs6 g HSM.out)
      have C6 := Lib.hid (fun W g => refSize_any s A c l W hs6 g HSM.out)
      have C7 := Lib.hid (fun X Y cx cy W g1 g2 => same18_any X Y cx cy (backOut s.data.toList l) (backOut s.data.toList l) W g1 g2 hol hol)
      simp only [decide_true] at C7
      obtain ⟨ax, ay, hra⟩ : ∃ x y, applyRes s.data.toList l = .tuple #[.string x, .int .i64 y] := by unfold applyRes; split <;> exact ⟨_, _, rfl⟩
      obtain ⟨sx, sy, sz, hrs⟩ : ∃ x y z, sizeRes s.data.toList l = .tuple #[.int .i64 x, .int .i64 y, .int .i64 z] := by unfold sizeRes; split <;> exact ⟨_, _, _, rfl⟩
      rw [hra] at C1 C2
      rw [hrs] at C5 C6
      clear hra hrs
      unfold BackPost at C3 C4
      generalize backOut s.data.toList l = bo at *
      generalize backErr s.data.toList l = be at *
      have HA := h.later hbw
      clear hap hol
      go_wp2_with (first
        | (go_at_call 25; refine (C1.out _ HA).mono ?_; rintro e1 w1 ⟨rfl, hb1⟩)
        | (go_at_call 26; refine (C2.out _ (HA.later hb1)).mono ?_; rintro e2 w2 ⟨rfl, hb2⟩; have hB2 := hb1.trans (hb2.mono hb1.size))
        | (go_at_call 27; refine (C3.out _ (HA.later hB2)).mono ?_; rintro e3 w3 ⟨B3, cb3, rfl, hr3, hb3⟩; have hB3 := hB2.trans (hb3.mono hB2.size))
        | (go_at_call 28; refine (C4.out _ (HA.later hB3)).mono ?_; rintro e4 w4 ⟨B4, cb4, rfl, hr4, hb4⟩; have hB4 := hB3.trans (hb4.mono hB3.size); have hr3' := hr3.later hb4)
        | (go_at_call 29; refine (C5.out _ (HA.later hB4)).mono ?_; rintro e5 w5 ⟨rfl, hb5⟩; have hB5 := hB4.trans (hb5.mono hB4.size); have hr3'' := hr3'.later hb5; have hr4' := hr4.later hb5)
        | (go_at_call 30; refine (C6.out _ (HA.later hB5)).mono ?_; rintro e6 w6 ⟨rfl, hb6⟩; have hB6 := hB5.trans (hb6.mono hB5.size); have hr3''' := hr3''.later hb6; have hr4'' := hr4'.later hb6)
        | (go_at_call 31; refine (C7.out _ _ _ _ _ hr3''' hr4'').mono ?_; rintro e7 w7 ⟨rfl, hb7⟩; have hB7 := hB6.trans (hb7.mono hB6.size)))
      go_ret
      exact ⟨rfl, hbw.trans (hB7.mono hbw.size)⟩

end Go.Proofs.Ytnijaleedbmljaa
