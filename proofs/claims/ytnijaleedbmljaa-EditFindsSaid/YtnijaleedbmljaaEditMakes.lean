/- The law EditMakes: what makes one text of another one fits, and makes it; no edits that do take and put fewer lines. -/
import Derived.Test.YtnijaleedbmljaaPlK
import Derived.Test.YtnijaleedbmljaaAl18
set_option linter.unusedVariables false
set_option linter.unusedSimpArgs false
namespace Go.Proofs.Ytnijaleedbmljaa
open Go Go.RowKit

theorem lines_size {a : ByteArray} {n : Nat} (h : a.size ≤ n) : (Pl.lines a.data.toList).length ≤ n ∧ (Pl.lines a.data.toList).flatten.length ≤ n := by
  have := Pl.lines_le a.data.toList
  rw [Pl.lines_flat, ← Lib.size_eq]
  rw [← Lib.size_eq] at this
  exact ⟨by omega, h⟩
/-- Between of two texts that are not great. -/
theorem Between_small (a b : ByteArray) (w : World) (ha : a.size ≤ 1000) (hb : b.size ≤ 1000) :
    Calls Try.prog 34 #[.string a, .string b] w fun e w' => ∃ B cb, e = .returned (.tuple #[.slice B (Pl.between (Pl.lines a.data.toList) (Pl.lines b.data.toList)).length cb, .int .i64 0]) ∧
      Rd w' 3 B (Pl.between (Pl.lines a.data.toList) (Pl.lines b.data.toList)).length (edcs (Pl.between (Pl.lines a.data.toList) (Pl.lines b.data.toList))) ∧ Below w.heap.size w w' := by
  have := Between_got a b w (by omega) (by omega)
  have hs := bet_small (lines_size ha).1 (lines_size hb).1
  unfold betOut betErr at this
  rw [hs] at this
  simpa using this

theorem ba_ne {a b : ByteArray} (h : a ≠ b) : ¬ a.toList = b.toList := fun e => h (by
  rw [Lib.toList_data, Lib.toList_data] at e
  rw [← bs_of a, ← bs_of b, e])
theorem size_fit {s : Pl.T} {l : List Pl.Ed} (h : fitS s l = true) : sizeRes s l = .tuple #[.int .i64 (Pl.outs l), .int .i64 (Pl.ins l), .int .i64 0] := by unfold sizeRes; rw [if_pos h]
theorem apply_fit {s : Pl.T} {l : List Pl.Ed} (h : fitS s l = true) : applyRes s l = .tuple #[.string (bs (Pl.app (Pl.lines s) 0 l)), .int .i64 0] := by unfold applyRes; rw [if_pos h]
theorem size_not {s : Pl.T} {l : List Pl.Ed} (h : fitS s l = false) : sizeRes s l = .tuple #[.int .i64 0, .int .i64 0, .int .i64 180] := by unfold sizeRes; rw [if_neg (by rw [h]; simp)]
theorem apply_not {s : Pl.T} {l : List Pl.Ed} (h : fitS s l = false) : applyRes s l = .tuple #[.string (bs []), .int .i64 180] := by unfold applyRes; rw [if_neg (by rw [h]; simp)]

/-- Back of edits that fit. -/
theorem Back_fit (s : ByteArray) (A : Option Addr) (c : Nat) (l : List Pl.Ed) (w : World) (hs : s.size ≤ 4000000) (h : Rd w 3 A l.length (edcs l)) (hsm : Sm l) (hf : fitS s.data.toList l = true) :
    Calls Try.prog 27 #[.string s, .slice A l.length c] w fun e w' => ∃ B cb, e = .returned (.tuple #[.slice B (Pl.backs (Pl.lines s.data.toList) 0 l).length cb, .int .i64 0]) ∧
      Rd w' 3 B (Pl.backs (Pl.lines s.data.toList) 0 l).length (edcs (Pl.backs (Pl.lines s.data.toList) 0 l)) ∧ Below w.heap.size w w' := by
  have := Back_any s A c l w hs h hsm
  unfold BackPost backOut backErr at this
  rw [if_pos hf, if_pos hf] at this
  exact this
theorem backs_sm {L : List Pl.T} {l : List Pl.Ed} {N : Nat} (h : L.flatten.length ≤ N) (hN : N ≤ 4000000) (hl : Sm l) : Sm (Pl.backs L 0 l) :=
  ⟨by rw [backs_length]; exact hl.len, fun e he => Nat.le_trans (backs_txt h l 0 e he) hN⟩
theorem outs_ge {n : Nat} {es : Prop} {l : List Pl.Ed} (h : Pl.Fits n es (-1) l) (hn : n ≤ 1000) (hl : l.length ≤ 4000) : 0 ≤ Pl.outs l ∧ Pl.outs l ≤ 4000000 := by
  have := outs_bd (n := n) (l := l) (fun e he => Fits_mem h e he)
  have h3 : (l.length : Int) * n ≤ 4000 * 1000 := Int.mul_le_mul (by omega) (by omega) (by omega) (by omega)
  omega
theorem ins_ge {l : List Pl.Ed} (h : Sm l) : 0 ≤ Pl.ins l ∧ Pl.ins l ≤ 100000000000000 := by
  have := ins_small h l.length
  rwa [List.take_length] at this
theorem outs_ge' {s : Pl.T} {l : List Pl.Ed} (h : fitS s l = true) (hs : (Pl.lines s).length ≤ 4000000) (hl : Sm l) : 0 ≤ Pl.outs l ∧ Pl.outs l ≤ 100000000000000 := by
  have := outs_small ((fitS_iff s l).1 h) hs hl.len l.length
  rwa [List.take_length] at this

set_option maxRecDepth 100000 in
set_option maxHeartbeats 4000000 in
theorem EditMakes_any (a b : ByteArray) (A : Option Addr) (c : Nat) (l : List Pl.Ed) (w : World) (ha : a.size ≤ maxLen) (hb : b.size ≤ maxLen) (hl : l.length ≤ maxLen) (hx : ∀ e ∈ l, e.x.length ≤ 1048576) (h : Rd w 3 A l.length (edcs l)) :
    Calls Try.prog 14 #[.string a, .string b, .slice A l.length c] w fun e w' => e = .returned (.bool true) ∧ Below w.heap.size w w' := by
  unfold maxLen at ha hb hl
  by_cases h1 : 1000 < a.size
  · have hg : decide ((1000 : Int) < (a.size : Int)) = true := by simp; omega
    go_enter Try.func14, Try.ntmps14
    go_wp2_with (go_at_call 42; refine (alive18_any _).mono ?_; rintro e w0 ⟨rfl, hb0⟩)
    go_ret
    exact ⟨rfl, hb0⟩
  by_cases h2 : 1000 < b.size
  · have hg1 : decide ((1000 : Int) < (a.size : Int)) = false := by simp; omega
    have hg : decide ((1000 : Int) < (b.size : Int)) = true := by simp; omega
    go_enter Try.func14, Try.ntmps14
    go_wp2_with (go_at_call 42; refine (alive18_any _).mono ?_; rintro e w0 ⟨rfl, hb0⟩)
    go_ret
    exact ⟨rfl, hb0⟩
  have hg1 : decide ((1000 : Int) < (a.size : Int)) = false := by simp; omega
  have hg2 : decide ((1000 : Int) < (b.size : Int)) = false := by simp; omega
  by_cases h3 : 50 < l.length
  · have hg : decide ((50 : Int) < (l.length : Int)) = true := by simp; omega
    go_enter Try.func14, Try.ntmps14
    go_wp2_with (go_at_call 42; refine (alive18_any _).mono ?_; rintro e w0 ⟨rfl, hb0⟩)
    go_ret
    exact ⟨rfl, hb0⟩
  have hg3 : decide ((50 : Int) < (l.length : Int)) = false := by simp; omega
  have ha1 : a.size ≤ 1000 := by omega
  have hb1 : b.size ≤ 1000 := by omega
  obtain ⟨la, lfa⟩ := lines_size ha1
  obtain ⟨lb, lfb⟩ := lines_size hb1
  have hsl : Sm l := ⟨by omega, fun e he => by have := hx e he; omega⟩
  have C1 := fun w => Between_small a b w ha1 hb1
  have hsb : Sm (Pl.between (Pl.lines a.data.toList) (Pl.lines b.data.toList)) := between_sm (by omega) (by omega)
  have hfb := fit_bet a.data.toList b.data.toList
  have hab := app_bet a.data.toList b.data.toList
  obtain ⟨o1, o2⟩ := Pl.between_outs (x := Pl.lines a.data.toList) (Pl.good_lines b.data.toList)
  have hself : a = b → (Pl.between (Pl.lines a.data.toList) (Pl.lines b.data.toList)).length = 0 := fun e => by rw [e, Pl.between_self]; rfl
  have hleast := fun h1 h2 => Pl.between_least (Pl.good_lines a.data.toList) (Pl.good_lines b.data.toList) (es := endB a.data.toList = true) endB_ended (l := l) h1 h2
  generalize Pl.between (Pl.lines a.data.toList) (Pl.lines b.data.toList) = bt at *
  obtain ⟨q1, q2, _⟩ := fit_back hfb
  rw [hab] at q1 q2
  have hsm : Sm (Pl.backs (Pl.lines a.data.toList) 0 bt) := backs_sm lfa (by omega) hsb
  have C2 := fun A c w h => Apply_any a A c bt w (by omega) h hsb (fun _ => by rw [hab, ← Lib.size_eq]; omega)
  rw [apply_fit hfb, hab, bs_of] at C2
  have C3 := fun A c w h => Back_fit a A c bt w (by omega) h hsb hfb
  have C4 := fun A c w h => Apply_any b A c (Pl.backs (Pl.lines a.data.toList) 0 bt) w (by omega) h hsm (fun _ => by rw [q2, ← Lib.size_eq]; omega)
  rw [apply_fit q1, q2, bs_of] at C4
  have C5 := fun A c w h => Size_any a A c bt w (by omega) h hsb
  rw [size_fit hfb] at C5
  have i1 := outs_ge' hfb (by omega) hsb
  have i2 := ins_ge hsb
  have hap := app_size (Pl.lines a.data.toList) 1000 1048576 lfa l 0 hx
  have hap2 : l.length * (1000 + 1048576) ≤ 50 * 1049576 := Nat.mul_le_mul (by omega) (by omega)
  have C6 := fun w h => Apply_any a A c l w (by omega) h hsl (fun _ => by omega)
  have C7 := fun w h => Size_any a A c l w (by omega) h hsl
  clear hap hap2
  have K1 := Lib.hid C1; clear C1
  have K2 := Lib.hid C2; clear C2
  have K3 := Lib.hid C3; clear C3
  have K4 := Lib.hid C4; clear C4
  have K5 := Lib.hid C5; clear C5
  generalize hn1 : bt.length = n1 at *
  generalize Pl.backs (Pl.lines a.data.toList) 0 bt = mt at *
  obtain ⟨oo, hoo⟩ : ∃ o, o = Pl.outs bt := ⟨_, rfl⟩
  obtain ⟨ii, hii⟩ : ∃ o, o = Pl.ins bt := ⟨_, rfl⟩
  rw [← hoo, ← hii] at K5
  rw [← hoo] at i1
  rw [← hii] at i2
  rw [← hoo, ← hii] at hleast
  have hne : (a = b ∧ n1 = 0) ∨ (a ≠ b) := by
    by_cases e : a = b
    · exact .inl ⟨e, hself e⟩
    · exact .inr e
  clear o1 o2 hself hoo hii hn1 hab q1 q2 hsm hsb
  have HX := Lib.hid hx; clear hx
  cases hfo : fitS a.data.toList l
  · rw [apply_not hfo] at C6
    rw [size_not hfo] at C7
    have K6 := Lib.hid C6; clear C6
    have K7 := Lib.hid C7; clear C7
    clear hfo hleast hfb
    rcases hne with ⟨rfl, rfl⟩ | hne
    rotate_left
    have hne2 := ba_ne hne
    clear hne
    all_goals
      go_enter Try.func14, Try.ntmps14
      go_wp2_with (first
        | (go_at_call 42; refine (alive18_any _).mono ?_; rintro e w0 ⟨rfl, hb0⟩)
        | (go_at_call 34; with_reducible refine (K1.out _).mono ?_; rintro e w1 ⟨B1, cb1, rfl, hr1, hb1⟩; have hB1 := hb0.trans (hb1.mono hb0.size))
        | (go_at_call 25; with_reducible refine (K2.out _ _ _ hr1).mono ?_; rintro e w2 ⟨rfl, hb2⟩; have hr2 := hr1.later hb2; have hB2 := hB1.trans (hb2.mono hB1.size))
        | (go_at_call 27; with_reducible refine (K3.out _ _ _ hr2).mono ?_; rintro e w3 ⟨B3, cb3, rfl, hm3, hb3⟩; have hr3 := hr2.later hb3; have hB3 := hB2.trans (hb3.mono hB2.size))
        | (go_at_call 25; with_reducible refine (K4.out _ _ _ hm3).mono ?_; rintro e w4 ⟨rfl, hb4⟩; have hr4 := hr3.later hb4; have hB4 := hB3.trans (hb4.mono hB3.size))
        | (go_at_call 29; with_reducible refine (K5.out _ _ _ hr4).mono ?_; rintro e w5 ⟨rfl, hb5⟩; have hB5 := hB4.trans (hb5.mono hB4.size); have hl5 := h.later hB5)
        | (go_at_call 25; with_reducible refine (K6.out _ hl5).mono ?_; rintro e w6 ⟨rfl, hb6⟩; have hl6 := hl5.later hb6; have hB6 := hB5.trans (hb6.mono hB5.size))
        | (go_at_call 29; with_reducible refine (K7.out _ hl6).mono ?_; rintro e w7 ⟨rfl, hb7⟩; have hB7 := hB6.trans (hb7.mono hB6.size)))
      go_ret
      exact ⟨rfl, hB7⟩
  · rw [apply_fit hfo] at C6
    rw [size_fit hfo] at C7
    have j1 := outs_ge' hfo (by omega) hsl
    have j2 := ins_ge hsl
    have hle : Pl.app (Pl.lines a.data.toList) 0 l = b.data.toList → oo + ii ≤ Pl.outs l + Pl.ins l := fun e => hleast ((fitS_iff _ _).1 hfo) (by rw [Pl.lines_flat]; exact e)
    obtain ⟨u, hu⟩ : ∃ u : ByteArray, u = bs (Pl.app (Pl.lines a.data.toList) 0 l) := ⟨_, rfl⟩
    rw [← hu] at C6
    have hle2 : u = b → oo + ii ≤ Pl.outs l + Pl.ins l := fun e => hle (by rw [← e, hu, bs_data])
    generalize Pl.outs l = pp at *
    generalize Pl.ins l = qq at *
    have K6 := Lib.hid C6; clear C6
    have K7 := Lib.hid C7; clear C7
    clear hfo hleast hfb hle hu
    have hc : (u = b ∧ oo + ii ≤ pp + qq) ∨ u ≠ b := by
      by_cases e : u = b
      · exact .inl ⟨e, hle2 e⟩
      · exact .inr e
    clear hle2
    rcases hne with ⟨rfl, rfl⟩ | hne <;> rcases hc with ⟨rfl, hc⟩ | hc
    rotate_left
    have hc2 := ba_ne hc
    clear hc
    rotate_left
    have hne2 := ba_ne hne
    clear hne
    rotate_left
    have hne2 := ba_ne hne
    have hc2 := ba_ne hc
    clear hne hc
    all_goals
      go_enter Try.func14, Try.ntmps14
      go_wp2_with (first
        | (go_at_call 42; refine (alive18_any _).mono ?_; rintro e w0 ⟨rfl, hb0⟩)
        | (go_at_call 34; with_reducible refine (K1.out _).mono ?_; rintro e w1 ⟨B1, cb1, rfl, hr1, hb1⟩; have hB1 := hb0.trans (hb1.mono hb0.size))
        | (go_at_call 25; with_reducible refine (K2.out _ _ _ hr1).mono ?_; rintro e w2 ⟨rfl, hb2⟩; have hr2 := hr1.later hb2; have hB2 := hB1.trans (hb2.mono hB1.size))
        | (go_at_call 27; with_reducible refine (K3.out _ _ _ hr2).mono ?_; rintro e w3 ⟨B3, cb3, rfl, hm3, hb3⟩; have hr3 := hr2.later hb3; have hB3 := hB2.trans (hb3.mono hB2.size))
        | (go_at_call 25; with_reducible refine (K4.out _ _ _ hm3).mono ?_; rintro e w4 ⟨rfl, hb4⟩; have hr4 := hr3.later hb4; have hB4 := hB3.trans (hb4.mono hB3.size))
        | (go_at_call 29; with_reducible refine (K5.out _ _ _ hr4).mono ?_; rintro e w5 ⟨rfl, hb5⟩; have hB5 := hB4.trans (hb5.mono hB4.size); have hl5 := h.later hB5)
        | (go_at_call 25; with_reducible refine (K6.out _ hl5).mono ?_; rintro e w6 ⟨rfl, hb6⟩; have hl6 := hl5.later hb6; have hB6 := hB5.trans (hb6.mono hB5.size))
        | (go_at_call 29; with_reducible refine (K7.out _ hl6).mono ?_; rintro e w7 ⟨rfl, hb7⟩; have hB7 := hB6.trans (hb7.mono hB6.size)))
      go_ret
      exact ⟨rfl, hB7⟩

end Go.Proofs.Ytnijaleedbmljaa
