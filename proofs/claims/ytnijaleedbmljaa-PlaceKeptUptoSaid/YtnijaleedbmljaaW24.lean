/- Walks: where a place came from (the document's). -/
import Derived.Test.YtnijaleedbmljaaW23
import Derived.Test.YtnijaleedbmljaaW8
set_option linter.unusedVariables false
set_option linter.unusedSimpArgs false
namespace Go.Proofs.Ytnijaleedbmljaa
open Go Go.RowKit

theorem app_grow {s : Pl.T} {l : List Pl.Ed} (hf : fitS s l = true) : ((Pl.app (Pl.lines s) 0 l).length : Int) = s.length + Pl.grow (spS s l) := by
  have hF := (fitS_iff _ _).1 hf
  unfold spS
  rw [Pl.spots_segs hF, Pl.grow_sp _ (Pl.rest (Pl.lines s) 0 l), Pl.new_app, Pl.old_all l 0 (-1) hF (.inl ⟨rfl, rfl⟩), List.drop_zero, Pl.lines_flat]
  omega

set_option maxRecDepth 100000 in
set_option maxHeartbeats 4000000 in
theorem refFrom_all (s : ByteArray) (A : Option Addr) (c : Nat) (l : List Pl.Ed) (n : Int) (w : World) (hs : s.size ≤ 4000000) (h : Rd w 3 A l.length (edcs l)) (hsm : Sm l) (hap : fitS s.data.toList l = true → (Pl.app (Pl.lines s.data.toList) 0 l).length ≤ 1000000000000) :
    Calls Try.prog 21 #[.string s, .slice A l.length c, .int .i64 n] w fun e w' => e = .returned (frRes s.data.toList l n) ∧ Below w.heap.size w w' := by
  have hszl : (s.data.toList.length : Int) = s.size := by rw [← Lib.size_eq]
  obtain ⟨hln, hsT, hfl⟩ := ref_setup hs
  have hlen := hsm.len
  have AC := fun w h => refApply_any s A c l w hs h hsm hap
  have LC := Lib.hid (fun w => refLines_got s w (by omega))
  cases hf : fitS s.data.toList l
  · have e1 : applyRes s.data.toList l = .tuple #[.string (bs []), .int .i64 180] := by unfold applyRes; rw [if_neg (by rw [hf]; simp)]
    rw [e1] at AC
    have AC := Lib.hid AC
    have HR : Hid (frRes s.data.toList l n = .tuple #[.int .i64 0, .bool false, .int .i64 180]) := Lib.hid (by unfold frRes; rw [if_neg (by rw [hf]; simp)])
    clear hf hszl e1
    go_enter Try.func21, Try.ntmps21
    go_wp2_with (go_at_call 26; refine (AC.out _ h).mono ?_; rintro e w1 ⟨rfl, hb1⟩)
    go_ret3
    exact ⟨by rw [HR.out]; rfl, hb1⟩
  · have e1 : applyRes s.data.toList l = .tuple #[.string (bs (Pl.app (Pl.lines s.data.toList) 0 l)), .int .i64 0] := by unfold applyRes; rw [if_pos hf]
    rw [e1] at AC
    have hgr := app_grow hf
    have hap' := hap hf
    obtain ⟨t, ht⟩ : ∃ t : ByteArray, t = bs (Pl.app (Pl.lines s.data.toList) 0 l) := ⟨_, rfl⟩
    have hts : (t.size : Int) = s.size + Pl.grow (spS s.data.toList l) := by rw [ht, bs_size, hgr, hszl]
    have htb : t.size ≤ 1000000000000 := by rw [ht, bs_size]; exact hap'
    rw [← ht] at AC
    have AC := Lib.hid AC
    clear ht e1 hgr hap'
    by_cases hr : n < 0 ∨ (t.size : Int) < n
    · have HR : Hid (frRes s.data.toList l n = .tuple #[.int .i64 0, .bool false, .int .i64 2]) := Lib.hid (by unfold frRes; rw [if_pos hf, if_pos (by rw [hszl, ← hts]; exact hr)])
      clear hf hszl hts
      have hd : decide (n < 0) = true ∨ (decide (n < 0) = false ∧ decide ((t.size : Int) < n) = true) := by
        by_cases hn : n < 0
        · exact .inl (by simp [hn])
        · exact .inr ⟨by simp [hn], by rcases hr with hr | hr; exact absurd hr hn; simp [hr]⟩
      rcases hd with hd | ⟨hd, hd2⟩
      all_goals
        go_enter Try.func21, Try.ntmps21
        go_wp2_with (go_at_call 26; refine (AC.out _ h).mono ?_; rintro e w1 ⟨rfl, hb1⟩)
        go_ret3
        exact ⟨by rw [HR.out]; rfl, hb1⟩
    · obtain ⟨hSm, hSl⟩ := spots_ok hs hsm hf
      obtain ⟨ho, hl, _⟩ := spots_ord hf
      have hF := (fitS_iff _ _).1 hf
      have HAT := Lib.hid (fun (k : Nat) (e : Pl.Ed) h => @spots_at (Pl.lines s.data.toList) l 0 k e h)
      have HR : Hid (frRes s.data.toList l n = .tuple #[.int .i64 (Pl.fm n 0 (spS s.data.toList l)).1, .bool (Pl.fm n 0 (spS s.data.toList l)).2, .int .i64 0]) := Lib.hid (by
        unfold frRes
        rw [if_pos hf, if_neg (by rw [hszl, ← hts]; exact hr)])
      unfold spS at HR hl
      clear hts
      have HFT := Lib.hid hF; clear hF
      have KB := Lib.hid (fun X c n w h1 g => begin_got X c (Pl.lines s.data.toList) n w h1 (by omega) (by omega) g)
      generalize Pl.spots (Pl.lines s.data.toList) 0 l = Sp at *
      generalize Pl.lines s.data.toList = L at *
      have hd1 : decide (n < 0) = false := by simp; omega
      have hd2 : decide ((t.size : Int) < n) = false := by simp; omega
      have hn0 : 0 ≤ n := by omega
      have hn1 : n ≤ 1000000000000 := by omega
      clear ho hf hr hszl
      go_enter Try.func21, Try.ntmps21
      go_wp2_with (first | (go_at_call 26; refine (AC.out _ h).mono ?_; rintro e w1 ⟨rfl, hb1⟩) | (go_at_call 33; refine (LC.out _).mono ?_; rintro e w2 ⟨X, cx, rfl, hcx, hX2, hb2⟩))
      have hb12 := hb1.trans (hb2.mono hb1.size)
      have hA2 := h.later hb12
      clear hd1 hd2
      go_loop [12, 13, 14, 15, 16] (fun o i _ _ _ => ∃ (k : Nat) (m : Int), k ≤ l.length ∧ i = .int .i64 k ∧ o = .int .i64 m ∧ -((k : Int) * 8000000) ≤ m ∧ m ≤ (k : Int) * 8000000 ∧ Hid (Pl.fm n m (Sp.drop k) = Pl.fm n 0 Sp) ∧ Hid (Pl.Lnk m (Sp.drop k))) (fun _ i _ _ _ => l.length - (intOf i).toNat)
      case atStart => exact ⟨0, 0, Nat.zero_le _, rfl, rfl, by omega, by omega, Lib.hid (by simp), Lib.hid (by simpa using hl)⟩
      case round =>
        obtain ⟨k, m, hk, rfl, rfl, hm1, hm2, HH, HL⟩ := hrel
        by_cases hlt : k < l.length
        · have hek := List.getElem?_eq_getElem hlt
          have q1 := Fits_mem HFT.out l[k] (List.getElem_mem hlt)
          generalize l[k] = e at hek q1
          obtain ⟨to, hsp⟩ := HAT.out k e hek
          have hx := hSm _ (List.mem_of_getElem? hsp)
          rw [drop_at hsp] at HH HL
          obtain ⟨ef, et, ex⟩ := e
          simp only at q1 hsp hx HH HL
          obtain ⟨f2, f3, f4⟩ := q1
          obtain ⟨f, rfl⟩ := Int.eq_ofNat_of_zero_le f2
          obtain ⟨t', rfl⟩ := Int.eq_ofNat_of_zero_le (show 0 ≤ et by omega)
          simp only [Int.toNat_natCast] at hx HH HL
          obtain ⟨b1, o1, rfl, hbk1, c1, c2, c3⟩ := hA2.ed hek
          simp only at c1 c2 c3
          have KF := Lib.hid (KB.out X cx f w2 (by omega) hX2)
          have KT := Lib.hid (KB.out X cx t' w2 (by omega) hX2)
          obtain ⟨y1, y2, y3, y4, _, _⟩ := hx
          simp only at y1 y2 y3 y4
          generalize hbf : Pl.beg L f = bf at *
          generalize hbt : Pl.beg L t' = bt at *
          have hzs : (bs ex).size = ex.length := bs_size ex
          obtain ⟨hto, hl2⟩ := HL.out
          simp only at hto hl2
          have HL2 := Lib.hid hl2
          subst hto
          clear hbf hbt hek hsp f2 f3 f4 hl2 HL
          by_cases h1 : n < (bf : Int) + m
          · rw [Pl.fm_far h1] at HH
            have HE : Hid (Pl.fm n 0 Sp = (n - m, true)) := Lib.hid HH.out.symm
            generalize ex.length = xl at *
            clear HH HL2
            go_wp2_with (first | (go_at_call 47; with_reducible refine KF.out.mono ?_; rintro e w' ⟨rfl, rfl⟩) | (go_at_call 47; with_reducible refine KT.out.mono ?_; rintro e w' ⟨rfl, rfl⟩))
            go_ret3
            exact ⟨by rw [HR.out, HE.out]; rfl, hb12⟩
          · by_cases h2 : n < (bf : Int) + m + ex.length
            · rw [Pl.fm_in h1 h2] at HH
              have HE : Hid (Pl.fm n 0 Sp = ((bf : Int), false)) := Lib.hid HH.out.symm
              generalize ex.length = xl at *
              clear HH HL2
              go_wp2_with (first | (go_at_call 47; with_reducible refine KF.out.mono ?_; rintro e w' ⟨rfl, rfl⟩) | (go_at_call 47; with_reducible refine KT.out.mono ?_; rintro e w' ⟨rfl, rfl⟩))
              go_ret3
              exact ⟨by rw [HR.out, HE.out]; rfl, hb12⟩
            · rw [Pl.fm_on h1 h2] at HH
              simp only at HH
              generalize ex.length = xl at *
              have h1' : (bf : Int) + m ≤ n := by omega
              have h2' : (bf : Int) + m + xl ≤ n := by omega
              go_wp2_with (first | (go_at_call 47; with_reducible refine KF.out.mono ?_; rintro e w' ⟨rfl, rfl⟩) | (go_at_call 47; with_reducible refine KT.out.mono ?_; rintro e w' ⟨rfl, rfl⟩))
              refine ⟨⟨k + 1, m + ((xl : Int) - ((bt : Int) - bf)), by omega, by go_num, by go_num, by omega, by omega, HH, HL2⟩, by simp [intOf]; omega⟩
        · have hdk : Sp.drop k = [] := List.drop_of_length_le (by omega)
          have HE : Hid (Pl.fm n 0 Sp = (n - m, true)) := Lib.hid (by have := HH.out; rw [hdk] at this; exact this.symm)
          clear hdk
          go_wp2
          go_ret3
          exact ⟨by rw [HR.out, HE.out]; rfl, hb12⟩

end Go.Proofs.Ytnijaleedbmljaa
