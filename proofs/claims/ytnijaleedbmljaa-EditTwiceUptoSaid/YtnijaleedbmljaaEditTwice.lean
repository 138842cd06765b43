/- The law EditTwice: what takes edits back, taken back, are the edits. -/
import Derived.Test.YtnijaleedbmljaaEditMakes
import Derived.Test.YtnijaleedbmljaaOpnU
set_option linter.unusedVariables false
set_option linter.unusedSimpArgs false
namespace Go.Proofs.Ytnijaleedbmljaa
open Go Go.RowKit

theorem app_txts (L : List Pl.T) : ∀ (l : List Pl.Ed) (a : Nat) (last : Int) (es : Prop), Pl.Fits L.length es last l → (last = -1 ∧ a = 0 ∨ last = a) → (Pl.app L a l).length ≤ (L.drop a).flatten.length + txts l := by
  intro l
  induction l with
  | nil => intro a _ _ _ _; simp [Pl.app, txts]
  | cons e r ih =>
    intro a last es hf ha
    obtain ⟨h1, h2, h3, h4, _⟩ := id hf
    have h5 := ih e.t.toNat e.t es hf.tail (.inr (by omega))
    have h6 : (L.drop a).flatten = (Pl.cut L a e.f.toNat).flatten ++ ((Pl.cut L e.f.toNat e.t.toNat).flatten ++ (L.drop e.t.toNat).flatten) := by
      rw [← List.flatten_append, Pl.cut_drop (by omega), ← List.flatten_append, Pl.cut_drop (by omega)]
    have h7 := congrArg List.length h6
    simp only [List.length_append] at h7
    have h8 : txts (e :: r) = e.x.length + txts r := by simp [txts]
    simp only [Pl.app, List.length_append]
    omega

set_option maxRecDepth 100000 in
set_option maxHeartbeats 4000000 in
theorem EditTwice_any (s : ByteArray) (A : Option Addr) (c : Nat) (l : List Pl.Ed) (w : World) (hs : s.size ≤ maxLen) (hl : l.length ≤ maxLen) (hx : ∀ e ∈ l, e.x.length ≤ 1048576) (hxs : txts l ≤ 1048576) (h : Rd w 3 A l.length (edcs l)) :
    Calls Try.prog 15 #[.string s, .slice A l.length c] w fun e w' => e = .returned (.bool true) ∧ Below w.heap.size w w' := by
  unfold maxLen at hs hl
  by_cases h1 : 1000 < s.size
  · have hg : decide ((1000 : Int) < (s.size : Int)) = true := by simp; omega
    go_enter Try.func15, Try.ntmps15
    go_wp2_with (go_at_call 42; refine (alive18_any _).mono ?_; rintro e w0 ⟨rfl, hb0⟩)
    go_ret
    exact ⟨rfl, hb0⟩
  have hg1 : decide ((1000 : Int) < (s.size : Int)) = false := by simp; omega
  by_cases h3 : 50 < l.length
  · have hg : decide ((50 : Int) < (l.length : Int)) = true := by simp; omega
    go_enter Try.func15, Try.ntmps15
    go_wp2_with (go_at_call 42; refine (alive18_any _).mono ?_; rintro e w0 ⟨rfl, hb0⟩)
    go_ret
    exact ⟨rfl, hb0⟩
  have hg3 : decide ((50 : Int) < (l.length : Int)) = false := by simp; omega
  have hs1 : s.size ≤ 1000 := by omega
  obtain ⟨ls, lfs⟩ := lines_size hs1
  have hsl : Sm l := ⟨by omega, fun e he => by have := hx e he; omega⟩
  have hap := app_size (Pl.lines s.data.toList) 1000 1048576 lfs l 0 hx
  have hap2 : l.length * (1000 + 1048576) ≤ 50 * 1049576 := Nat.mul_le_mul (by omega) (by omega)
  have C1 := fun w h => Apply_any s A c l w (by omega) h hsl (fun _ => by omega)
  cases hf : fitS s.data.toList l
  · rw [apply_not hf] at C1
    have C2 := fun w h => Back_any s A c l w (by omega) h hsl
    unfold BackPost backOut backErr at C2
    rw [if_neg (by rw [hf]; simp), if_neg (by rw [hf]; simp)] at C2
    have K1 := Lib.hid C1; clear C1
    have K2 := Lib.hid C2; clear C2
    clear hf hx hap hap2
    go_enter Try.func15, Try.ntmps15
    go_wp2_with (first
      | (go_at_call 42; refine (alive18_any _).mono ?_; rintro e w0 ⟨rfl, hb0⟩; have hl0 := h.later hb0)
      | (go_at_call 25; with_reducible refine (K1.out _ hl0).mono ?_; rintro e w1 ⟨rfl, hb1⟩; have hl1 := hl0.later hb1; have hB1 := hb0.trans (hb1.mono hb0.size))
      | (go_at_call 27; with_reducible refine (K2.out _ hl1).mono ?_; rintro e w2 ⟨B2, cb2, rfl, hr2, hb2⟩; have hB2 := hB1.trans (hb2.mono hB1.size)))
    go_ret
    exact ⟨rfl, hB2⟩
  · rw [apply_fit hf] at C1
    have C2 := fun w h => Back_fit s A c l w (by omega) h hsl hf
    obtain ⟨q1, q2, q3⟩ := fit_back hf
    have hsm : Sm (Pl.backs (Pl.lines s.data.toList) 0 l) := backs_sm lfs (by omega) hsl
    have z1 := Pl.outs_backs (x := Pl.lines s.data.toList) l 0
    have z2 := Pl.ins_backs (Pl.good_lines s.data.toList) l (-1) 0 ((fitS_iff _ _).1 hf)
    have C5 := fun w h => Size_any s A c l w (by omega) h hsl
    rw [size_fit hf] at C5
    have i1 := outs_ge' hf (by omega) hsl
    have hax := app_txts (Pl.lines s.data.toList) l 0 (-1) _ ((fitS_iff _ _).1 hf) (.inl ⟨rfl, rfl⟩)
    rw [List.drop_zero] at hax
    have i2 := ins_ge hsl
    obtain ⟨t, ht⟩ : ∃ t : ByteArray, t = bs (Pl.app (Pl.lines s.data.toList) 0 l) := ⟨_, rfl⟩
    have htd : Pl.app (Pl.lines s.data.toList) 0 l = t.data.toList := by rw [ht, bs_data]
    rw [← ht] at C1
    have hts : t.size ≤ 4000000 := by rw [Lib.size_eq, ← htd]; omega
    rw [htd] at q1 q2 q3
    have C3 := fun A c w h => Back_fit t A c (Pl.backs (Pl.lines s.data.toList) 0 l) w hts h hsm q1
    rw [q3] at C3
    have C4 := fun A c w h => Apply_any t A c (Pl.backs (Pl.lines s.data.toList) 0 l) w hts h hsm (fun _ => by rw [q2, ← Lib.size_eq]; omega)
    rw [apply_fit q1, q2, bs_of] at C4
    have C6 := fun A c w h => Size_any t A c (Pl.backs (Pl.lines s.data.toList) 0 l) w hts h hsm
    rw [size_fit q1, z1, z2] at C6
    have C7 := fun X Y cx cy W g1 g2 => same18_any X Y cx cy l l W g1 g2 (by omega) (by omega)
    simp only [decide_true] at C7
    generalize Pl.backs (Pl.lines s.data.toList) 0 l = mt at *
    generalize Pl.outs l = oo at *
    generalize Pl.ins l = ii at *
    have K1 := Lib.hid C1; clear C1
    have K2 := Lib.hid C2; clear C2
    have K3 := Lib.hid C3; clear C3
    have K4 := Lib.hid C4; clear C4
    have K5 := Lib.hid C5; clear C5
    have K6 := Lib.hid C6; clear C6
    have K7 := Lib.hid C7; clear C7
    clear hf hx hxs hap hap2 hax ht htd q1 q2 q3 z1 z2 hsm
    go_enter Try.func15, Try.ntmps15
    go_wp2_with (first
      | (go_at_call 42; refine (alive18_any _).mono ?_; rintro e w0 ⟨rfl, hb0⟩; have hl0 := h.later hb0)
      | (go_at_call 25; with_reducible refine (K1.out _ hl0).mono ?_; rintro e w1 ⟨rfl, hb1⟩; have hl1 := hl0.later hb1; have hB1 := hb0.trans (hb1.mono hb0.size))
      | (go_at_call 27; with_reducible refine (K2.out _ hl1).mono ?_; rintro e w2 ⟨B2, cb2, rfl, hr2, hb2⟩; have hl2 := hl1.later hb2; have hB2 := hB1.trans (hb2.mono hB1.size))
      | (go_at_call 27; with_reducible refine (K3.out _ _ _ hr2).mono ?_; rintro e w3 ⟨B3, cb3, rfl, hm3, hb3⟩; have hr3 := hr2.later hb3; have hl3 := hl2.later hb3; have hB3 := hB2.trans (hb3.mono hB2.size))
      | (go_at_call 25; with_reducible refine (K4.out _ _ _ hr3).mono ?_; rintro e w4 ⟨rfl, hb4⟩; have hr4 := hr3.later hb4; have hm4 := hm3.later hb4; have hl4 := hl3.later hb4; have hB4 := hB3.trans (hb4.mono hB3.size))
      | (go_at_call 29; with_reducible refine (K5.out _ hl4).mono ?_; rintro e w5 ⟨rfl, hb5⟩; have hr5 := hr4.later hb5; have hm5 := hm4.later hb5; have hl5 := hl4.later hb5; have hB5 := hB4.trans (hb5.mono hB4.size))
      | (go_at_call 29; with_reducible refine (K6.out _ _ _ hr5).mono ?_; rintro e w6 ⟨rfl, hb6⟩; have hm6 := hm5.later hb6; have hl6 := hl5.later hb6; have hB6 := hB5.trans (hb6.mono hB5.size))
      | (go_at_call 31; with_reducible refine (K7.out _ _ _ _ _ hm6 hl6).mono ?_; rintro e w7 ⟨rfl, hb7⟩; have hB7 := hB6.trans (hb7.mono hB6.size)))
    go_ret
    exact ⟨rfl, hB7⟩

end Go.Proofs.Ytnijaleedbmljaa
