/- Walks: where a place stands behind edits, and where one came from (the document's). -/
import Derived.Test.YtnijaleedbmljaaW20
set_option linter.unusedVariables false
set_option linter.unusedSimpArgs false
namespace Go.Proofs.Ytnijaleedbmljaa
open Go Go.RowKit

theorem spots_at {x : List Pl.T} : ∀ {l : List Pl.Ed} {m : Int} {k : Nat} {e : Pl.Ed}, l[k]? = some e → ∃ to : Int, (Pl.spots x m l)[k]? = some ⟨Pl.beg x e.f.toNat, Pl.beg x e.t.toNat, to, e.x⟩ := by
  intro l
  induction l with
  | nil => intro m k e h; simp at h
  | cons a r ih =>
    intro m k e h
    cases k with
    | zero =>
      simp only [List.getElem?_cons_zero, Option.some.injEq] at h
      subst h
      exact ⟨_, rfl⟩
    | succ k =>
      simp only [List.getElem?_cons_succ] at h
      exact ih h
theorem drop_at {α : Type} {l : List α} {k : Nat} {e : α} (h : l[k]? = some e) : l.drop k = e :: l.drop (k + 1) := by
  have hk := (List.getElem?_eq_some_iff.1 h).1
  rw [List.drop_eq_getElem_cons hk, (List.getElem?_eq_some_iff.1 h).2]
theorem spots_ord {s : Pl.T} {l : List Pl.Ed} (hf : fitS s l = true) : Pl.Ord 0 (spS s l) ∧ Pl.Lnk 0 (spS s l) ∧ ∀ p ∈ spS s l, p.e ≤ (s.length : Int) := by
  have hF := (fitS_iff _ _).1 hf
  unfold spS
  rw [Pl.spots_segs hF]
  refine ⟨Pl.sp_ord _ 0 0 0 (Nat.le_refl _), by simpa using Pl.sp_lnk (Pl.segs (Pl.lines s) 0 l) 0 0, fun p hp => ?_⟩
  have := Pl.sp_end (Pl.segs (Pl.lines s) 0 l) (Pl.rest (Pl.lines s) 0 l) 0 0 p hp
  rw [Pl.old_all l 0 (-1) hF (.inl ⟨rfl, rfl⟩), List.drop_zero, Pl.lines_flat] at this
  simpa using this
theorem rmv_skip {n o : Int} {p : Pl.Spot} {r : List Pl.Spot} (h : n < p.b) : Pl.rmv n o (p :: r) = Pl.rmv n o r := by simp only [Pl.rmv]; rw [if_pos h]
theorem rmv_in {n o : Int} {p : Pl.Spot} {r : List Pl.Spot} (h : ¬ n < p.b) (h2 : n < p.e) : Pl.rmv n o (p :: r) = Pl.rmv n (o - (n - p.b) + min (n - p.b) p.x.length) r := by simp only [Pl.rmv]; rw [if_neg h, if_pos h2]
theorem rmv_on {n o : Int} {p : Pl.Spot} {r : List Pl.Spot} (h : ¬ n < p.b) (h2 : ¬ n < p.e) : Pl.rmv n o (p :: r) = Pl.rmv n (o + p.x.length - (p.e - p.b)) r := by simp only [Pl.rmv]; rw [if_neg h, if_neg h2]

theorem begin_got (X : Option Addr) (c : Nat) (L : List Pl.T) (n : Nat) (w : World) (hnl : n ≤ L.length) (hL : L.length ≤ 1000000000) (hfl : L.flatten.length ≤ 1000000000) (g : Rd w 1 X L.length (strs L)) :
    Calls Try.prog 47 #[.slice X L.length c, .int .i64 n] w fun e w' => e = .returned (.int .i64 (Pl.beg L n)) ∧ w = w' := by
  have := begin_any X c L n w (by omega) (by omega) hL hfl g
  rw [Int.toNat_natCast] at this
  exact this

set_option maxRecDepth 100000 in
set_option maxHeartbeats 4000000 in
theorem refMove_all (s : ByteArray) (A : Option Addr) (c : Nat) (l : List Pl.Ed) (n : Int) (w : World) (hs : s.size ≤ 4000000) (h : Rd w 3 A l.length (edcs l)) (hsm : Sm l) :
    Calls Try.prog 19 #[.string s, .slice A l.length c, .int .i64 n] w fun e w' => e = .returned (mvRes s.data.toList l n) ∧ Below w.heap.size w w' := by
  have hszl : (s.data.toList.length : Int) = s.size := by rw [← Lib.size_eq]
  obtain ⟨hln, hsT, hfl⟩ := ref_setup hs
  have hlen := hsm.len
  have fc := fun X cx w g h => refFit_any X A cx c (Pl.lines s.data.toList) l w (by omega) g h (by omega) hsT hsm.smalls
  rw [fitS_ref] at fc
  have LC := Lib.hid (fun w => refLines_got s w (by omega))
  cases hf : fitS s.data.toList l
  · rw [hf] at fc
    have FC := Lib.hid fc; clear fc
    have HR : Hid (mvRes s.data.toList l n = .tuple #[.int .i64 0, .int .i64 180]) := Lib.hid (by unfold mvRes; rw [if_neg (by rw [hf]; simp)])
    clear hf hszl
    go_enter Try.func19, Try.ntmps19
    go_wp2_with (first | (go_at_call 33; refine (LC.out _).mono ?_; rintro e w1 ⟨X, cx, rfl, hcx, hX, hb1⟩) | (go_at_call 46; refine (FC.out _ _ _ hX (h.later hb1)).mono ?_; rintro e w2 ⟨rfl, hb2⟩))
    go_ret2
    exact ⟨by rw [HR.out]; rfl, hb1.trans (hb2.mono hb1.size)⟩
  · rw [hf] at fc
    have FC := Lib.hid fc; clear fc
    by_cases hr : n < 0 ∨ (s.size : Int) < n
    · have HR : Hid (mvRes s.data.toList l n = .tuple #[.int .i64 0, .int .i64 2]) := Lib.hid (by unfold mvRes; rw [if_pos hf, if_pos (by rw [hszl]; exact hr)])
      clear hf hszl
      have hd : decide (n < 0) = true ∨ (decide (n < 0) = false ∧ decide ((s.size : Int) < n) = true) := by
        by_cases hn : n < 0
        · exact .inl (by simp [hn])
        · exact .inr ⟨by simp [hn], by rcases hr with hr | hr; exact absurd hr hn; simp [hr]⟩
      rcases hd with hd | ⟨hd, hd2⟩
      all_goals
        go_enter Try.func19, Try.ntmps19
        go_wp2_with (first | (go_at_call 33; refine (LC.out _).mono ?_; rintro e w1 ⟨X, cx, rfl, hcx, hX, hb1⟩) | (go_at_call 46; refine (FC.out _ _ _ hX (h.later hb1)).mono ?_; rintro e w2 ⟨rfl, hb2⟩))
        go_ret2
        exact ⟨by rw [HR.out]; rfl, hb1.trans (hb2.mono hb1.size)⟩
    · obtain ⟨hSm, hSl⟩ := spots_ok hs hsm hf
      obtain ⟨ho, hl, _⟩ := spots_ord hf
      have hF := (fitS_iff _ _).1 hf
      have HAT := Lib.hid (fun (k : Nat) (e : Pl.Ed) h => @spots_at (Pl.lines s.data.toList) l 0 k e h)
      have HR : Hid (mvRes s.data.toList l n = .tuple #[.int .i64 (Pl.rmv n n (spS s.data.toList l)), .int .i64 0]) := Lib.hid (by
        unfold mvRes
        rw [if_pos hf, if_neg (by rw [hszl]; exact hr), ← Pl.rmv_mv _ 0 0 ho hl, Int.add_zero])
      unfold spS at HR
      have HFT := Lib.hid hF; clear hF
      have KB := Lib.hid (fun X c n w h1 g => begin_got X c (Pl.lines s.data.toList) n w h1 (by omega) (by omega) g)
      generalize Pl.spots (Pl.lines s.data.toList) 0 l = Sp at *
      generalize Pl.lines s.data.toList = L at *
      have hd1 : decide (n < 0) = false := by simp; omega
      have hd2 : decide ((s.size : Int) < n) = false := by simp; omega
      have hn0 : 0 ≤ n := by omega
      have hn1 : n ≤ 4000000 := by omega
      clear ho hl hf hr hszl
      go_enter Try.func19, Try.ntmps19
      go_wp2_with (first | (go_at_call 33; refine (LC.out _).mono ?_; rintro e w1 ⟨X, cx, rfl, hcx, hX, hb1⟩) | (go_at_call 46; refine (FC.out _ _ _ hX (h.later hb1)).mono ?_; rintro e w2 ⟨rfl, hb2⟩))
      have hb12 := hb1.trans (hb2.mono hb1.size)
      have hX2 := hX.later hb2
      have hA2 := h.later hb12
      clear hd1 hd2
      go_loop [10, 11, 12, 13, 14] (fun o i _ _ _ => ∃ (k : Nat) (m : Int), k ≤ l.length ∧ i = .int .i64 k ∧ o = .int .i64 m ∧ -((k : Int) * 8000000) ≤ m ∧ m ≤ 4000000 + (k : Int) * 8000000 ∧ Hid (Pl.rmv n m (Sp.drop k) = Pl.rmv n n Sp)) (fun _ i _ _ _ => l.length - (intOf i).toNat)
      case atStart => exact ⟨0, n, Nat.zero_le _, rfl, rfl, by omega, by omega, Lib.hid (by simp)⟩
      case round =>
        obtain ⟨k, m, hk, rfl, rfl, hm1, hm2, HH⟩ := hrel
        by_cases hlt : k < l.length
        · have hek := List.getElem?_eq_getElem hlt
          have q1 := Fits_mem HFT.out l[k] (List.getElem_mem hlt)
          generalize l[k] = e at hek q1
          obtain ⟨to, hsp⟩ := HAT.out k e hek
          have hx := hSm _ (List.mem_of_getElem? hsp)
          rw [drop_at hsp] at HH
          obtain ⟨ef, et, ex⟩ := e
          simp only at q1 hsp hx HH
          obtain ⟨f2, f3, f4⟩ := q1
          obtain ⟨f, rfl⟩ := Int.eq_ofNat_of_zero_le f2
          obtain ⟨t, rfl⟩ := Int.eq_ofNat_of_zero_le (show 0 ≤ et by omega)
          simp only [Int.toNat_natCast] at hx HH
          obtain ⟨b1, o1, rfl, hbk1, c1, c2, c3⟩ := hA2.ed hek
          simp only at c1 c2 c3
          have KF := Lib.hid (KB.out X cx f w2 (by omega) hX2)
          have KT := Lib.hid (KB.out X cx t w2 (by omega) hX2)
          obtain ⟨y1, y2, y3, y4, _, _⟩ := hx
          simp only at y1 y2 y3 y4
          generalize hbf : Pl.beg L f = bf at *
          generalize hbt : Pl.beg L t = bt at *
          have hzs : (bs ex).size = ex.length := bs_size ex
          have HFT1 : Hid (bf = Pl.beg L f) := Lib.hid hbf.symm
          clear hbf hbt hek hsp f2 f3 f4
          by_cases h1 : n < (bf : Int)
          · rw [rmv_skip h1] at HH
            generalize ex.length = xl at *
            go_wp2_with (first | (go_at_call 47; with_reducible refine KF.out.mono ?_; rintro e w' ⟨rfl, rfl⟩) | (go_at_call 47; with_reducible refine KT.out.mono ?_; rintro e w' ⟨rfl, rfl⟩))
            refine ⟨⟨k + 1, m, by omega, by go_num, rfl, by omega, by omega, HH⟩, by simp [intOf]; omega⟩
          · by_cases h2 : n < (bt : Int)
            · rw [rmv_in h1 h2] at HH
              simp only at HH
              generalize ex.length = xl at *
              go_wp2_with (first | (go_at_call 47; with_reducible refine KF.out.mono ?_; rintro e w' ⟨rfl, rfl⟩) | (go_at_call 47; with_reducible refine KT.out.mono ?_; rintro e w' ⟨rfl, rfl⟩))
              refine ⟨⟨k + 1, _, by omega, by go_num, rfl, by omega, by omega, HH⟩, by simp [intOf]; omega⟩
            · rw [rmv_on h1 h2] at HH
              simp only at HH
              generalize ex.length = xl at *
              go_wp2_with (first | (go_at_call 47; with_reducible refine KF.out.mono ?_; rintro e w' ⟨rfl, rfl⟩) | (go_at_call 47; with_reducible refine KT.out.mono ?_; rintro e w' ⟨rfl, rfl⟩))
              refine ⟨⟨k + 1, _, by omega, by go_num, rfl, by omega, by omega, HH⟩, by simp [intOf]; omega⟩
        · have hdk : Sp.drop k = [] := List.drop_of_length_le (by omega)
          have HE : Hid (m = Pl.rmv n n Sp) := Lib.hid (by have := HH.out; rw [hdk] at this; exact this)
          clear hdk
          go_wp2
          go_ret2
          exact ⟨by rw [HR.out, ← HE.out]; rfl, hb12⟩

end Go.Proofs.Ytnijaleedbmljaa
