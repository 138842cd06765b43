/- Walks: what takes edits back (the program's). -/
import Derived.Test.YtnijaleedbmljaaW8
set_option linter.unusedVariables false
set_option linter.unusedSimpArgs false
namespace Go.Proofs.Ytnijaleedbmljaa
open Go Go.RowKit

def backOut (s : Pl.T) (l : List Pl.Ed) : List Pl.Ed := if fitS s l = true then Pl.backs (Pl.lines s) 0 l else []
def backErr (s : Pl.T) (l : List Pl.Ed) : Int := if fitS s l = true then 0 else 180

/-- What a call of either Back leaves. -/
def BackPost (s : Pl.T) (l : List Pl.Ed) (w : World) (e : Ending) (w' : World) : Prop :=
  ∃ B cb, e = .returned (.tuple #[.slice B (backOut s l).length cb, .int .i64 (backErr s l)]) ∧ Rd w' 3 B (backOut s l).length (edcs (backOut s l)) ∧ Below w.heap.size w w'

theorem BackPost.no {s : Pl.T} {l : List Pl.Ed} {w w' : World} (h : fitS s l = false) (hb : Below w.heap.size w w') : BackPost s l w (.returned (.tuple #[.slice none 0 0, .int .i64 180])) w' := by
  unfold BackPost backOut backErr
  rw [h]
  exact ⟨none, 0, rfl, Rd.nil _ _ _, hb⟩

theorem edInfo : (Try.prog.info? 41).map (fun i => (i.zero, i.size, i.bytes)) = some (some (.agg #[.int .i64 0, .int .i64 0, .string ⟨#[]⟩]), 3, 32) := by kernel_rfl

theorem cell_three_new (w : World) (x y z : Value) (t : TypeId) : ∀ j u, [x, y, z][j]? = some u → (w.alloc (.cells #[x, y, z] t)).cell? ((⟨w.heap.size, 0, none⟩ : Addr).add j) = some u := by
  intro j u hj
  match j, hj with
  | 0, hj => simp at hj; subst hj; simp [Addr.add]
  | 1, hj => simp at hj; subst hj; simp [Addr.add]
  | 2, hj => simp at hj; subst hj; simp [Addr.add]

theorem own_later {W W' : World} {base : Nat} {e : TypeId} {sz n : Nat} {v : Value} {xs : List Value} (h : W.ownsRow base e sz v n xs) (hb : Below W.heap.size W W') : W'.ownsRow base e sz v n xs := by
  refine h.kept (row := none) ⟨hb.os, hb.tape, hb.output, hb.size, fun k hk _ => hb.block k hk⟩ ?_
  rcases h.2 with ⟨rfl, _⟩ | ⟨g, cap, cur, rfl, _⟩
  · exact .inl rfl
  · exact .inr (by simp [Value.ownBlock])

theorem own_ne_size {W : World} {base : Nat} {e : TypeId} {sz n : Nat} {v : Value} {xs : List Value} (h : W.ownsRow base e sz v n xs) : v.ownBlock ≠ some W.heap.size := fun e => by
  have := (h.lt _ e).2
  omega

theorem join_flat (xs : List (List UInt8)) : Lib.join xs [] = xs.flatten := by
  cases xs with
  | nil => rfl
  | cons x r => rw [Lib.join_cons]; simp [Lib.joinTail]

theorem bs_map (xs : List Pl.T) : (xs.map bs).map (·.data.toList) = xs := by
  rw [List.map_map]
  have : ((fun x : ByteArray => x.data.toList) ∘ bs) = id := by funext x; exact bs_data x
  rw [this, List.map_id]

/-- strings.Join of some strings in a row, with nothing between. -/
theorem joins_any (bk o c n : Nat) (xs : List Pl.T) (w : World) (hcells : ∀ (j : Nat) x, xs[j]? = some x → w.cell? ⟨bk, o + j, none⟩ = some (.string (bs x))) (hbk : bk < w.heap.size) (hn : xs.length = n) (hN : n ≤ 1000000000) (hcap : n ≤ c) (hlen : xs.flatten.length ≤ 1000000000) :
    Calls Try.prog 53 #[.slice (some ⟨bk, o, none⟩) n c, .string ⟨#[]⟩] w fun e w' => e = .returned (.string (bs xs.flatten)) ∧ Below w.heap.size w w' := by
  subst hn
  have := Try.strings_Join bk o c (xs.map bs) ⟨#[]⟩ w (fun j x hx => by
    rw [List.getElem?_map] at hx
    cases hy : xs[j]? with
    | none => rw [hy] at hx; simp at hx
    | some y => rw [hy] at hx; simp at hx; rw [← hx]; exact hcells j y hy) hbk (by simp; omega) (by simpa using hcap) (by rw [bs_map, show (⟨#[]⟩ : ByteArray).data.toList = [] from rfl, join_flat]; omega)
  rw [bs_map, show (⟨#[]⟩ : ByteArray).data.toList = [] from rfl, join_flat, List.length_map] at this
  exact this

theorem joins_none (a : Option Addr) (c : Nat) (w : World) : Calls Try.prog 53 #[.slice a 0 c, .string ⟨#[]⟩] w fun e w' => e = .returned (.string (bs [])) ∧ Below w.heap.size w w' :=
  (Try.strings_Join_none a c ⟨#[]⟩ w).mono fun e w' ⟨h1, h2⟩ => ⟨h1, by rw [h2]; exact Below.refl _ _⟩

theorem backs_length (L : List Pl.T) : ∀ (l : List Pl.Ed) (m : Int), (Pl.backs L m l).length = l.length := by
  intro l
  induction l with
  | nil => intro _; rfl
  | cons e r ih => intro m; simp [Pl.backs, ih]

theorem backs_step (L : List Pl.T) (m : Int) (e : Pl.Ed) (r : List Pl.Ed) : Pl.backs L m (e :: r) = ⟨e.f + m, e.f + m + (Pl.lines e.x).length, (Pl.cut L e.f.toNat e.t.toNat).flatten⟩ :: Pl.backs L (m + ((Pl.lines e.x).length - (e.t - e.f))) r := rfl

theorem edcs_snoc (l : List Pl.Ed) (e : Pl.Ed) : edcs l ++ [.int .i64 e.f, .int .i64 e.t, .string (bs e.x)] = edcs (l ++ [e]) := by
  simp [edcs, edc, List.flatMap_append]

/-- A block that a growing row is not stays. -/
theorem box_grown {W w1 : World} {b base : Nat} {e : TypeId} {sz n : Nat} {v : Value} {xs : List Value} {o : Obj} {ob : Obj} (hrow : W.ownsRow base e sz v n xs) (hb : W.heap[b]? = some ob)
    (hne : v.ownBlock ≠ some b) (hgrow : (W.alloc o).grownBy w1 v.ownBlock) : w1.heap[b]? = some ob := by
  have hlt := (Array.getElem?_eq_some_iff.1 hb).1
  have h1 : (W.alloc o).heap[b]? = some ob := (Below.heap_alloc W o b hlt).trans hb
  exact (hgrow.block b (by simp; omega) (fun e => hne e.symm)).trans h1

set_option maxRecDepth 100000 in
set_option maxHeartbeats 4000000 in
theorem Back_any (s : ByteArray) (A : Option Addr) (c : Nat) (l : List Pl.Ed) (w : World) (hs : s.size ≤ 4000000) (h : Rd w 3 A l.length (edcs l)) (hsm : Sm l) :
    Calls Try.prog 27 #[.string s, .slice A l.length c] w (BackPost s.data.toList l w) := by
  obtain ⟨hln, hsT, hfl⟩ := ref_setup hs
  obtain ⟨i0, hi, hz0, hz1, hz2⟩ := info_parts edInfo
  have hlen := hsm.len
  have fc := fun w h => fit_any s (Pl.lines s.data.toList).length A c l w (by omega) (by omega) h (by omega) hsm.smalls
  rw [show fitB (Pl.lines s.data.toList).length (endB s.data.toList) (-1) l = fitS s.data.toList l from rfl] at fc
  have LC := Lib.hid (fun w => Lines_got s w (by omega))
  cases hb : fitS s.data.toList l
  · rw [hb] at fc
    have FC := Lib.hid fc; clear fc
    have HR := Lib.hid (fun w' hbb => BackPost.no (w := w) (w' := w') hb hbb); clear hb
    go_enter Try.func27, Try.ntmps27
    go_wp2_with (first | (go_at_call 32; refine (LC.out _).mono ?_; rintro e w1 ⟨X, cx, rfl, hcx, hX, hb1⟩) | (go_at_call 48; refine (FC.out _ (h.later hb1)).mono ?_; rintro e w2 ⟨rfl, hb2⟩))
    go_ret2
    exact HR.out _ (hb1.trans (hb2.mono hb1.size))
  · rw [hb] at fc
    have FC := Lib.hid fc; clear fc
    have HFIT := Lib.hid ((fitS_iff _ _).1 hb)
    have HR : Hid (∀ (w' : World) B cb, Rd w' 3 B (Pl.backs (Pl.lines s.data.toList) 0 l).length (edcs (Pl.backs (Pl.lines s.data.toList) 0 l)) → Below w.heap.size w w' → BackPost s.data.toList l w (.returned (.tuple #[.slice B (Pl.backs (Pl.lines s.data.toList) 0 l).length cb, .int .i64 0])) w') := Lib.hid (fun w' B cb hr hbb => by
      unfold BackPost backOut backErr
      rw [if_pos hb, if_pos hb]
      exact ⟨B, cb, rfl, hr, hbb⟩)
    clear hb
    generalize Pl.lines s.data.toList = L at *
    generalize BackPost s.data.toList l w = PP at HR ⊢
    go_enter Try.func27, Try.ntmps27
    go_wp2_with (first | (go_at_call 32; refine (LC.out _).mono ?_; rintro e w1 ⟨X, cx, rfl, hcx, hX, hb1⟩) | (go_at_call 48; refine (FC.out _ (h.later hb1)).mono ?_; rintro e w2 ⟨rfl, hb2⟩))
    have hb12 := hb1.trans (hb2.mono hb1.size)
    have hX2 := hX.later hb2
    have hbl : ∀ {wx : World}, Below w2.heap.size w2 wx → Below w.heap.size w wx := fun h => hb12.trans (h.mono hb12.size)
    go_loopw [7, 8, 23] (fun v mo i wr => ∃ (k : Nat) (out : List Pl.Ed), k ≤ l.length ∧ i = .int .i64 k ∧ mo = .int .i64 (Pl.ins (l.take k) - Pl.outs (l.take k)) ∧ wr.ownsRow w2.heap.size 41 3 v out.length (edcs out) ∧ Below w2.heap.size w2 wr ∧ Hid (out ++ Pl.backs L (Pl.ins (l.take k) - Pl.outs (l.take k)) (l.drop k) = Pl.backs L 0 l)) (fun _ _ i _ => l.length - (intOf i).toNat)
    case atStart => exact ⟨0, [], Nat.zero_le _, rfl, rfl, World.ownsRow_nil _ _ _ _, Below.refl _ _, Lib.hid (by simp [Pl.ins, Pl.outs])⟩
    case round =>
      obtain ⟨k, out, hk, rfl, rfl, hown, hbw, H1⟩ := hrel
      have o1 := outs_small HFIT.out hln hlen k
      have o2 := ins_small hsm k
      by_cases hlt : k < l.length
      · have S1 := outs_succ (List.getElem?_eq_getElem hlt)
        have S2 := ins_succ (List.getElem?_eq_getElem hlt)
        obtain ⟨mo, hmo⟩ : ∃ m : Int, m = Pl.ins (l.take k) - Pl.outs (l.take k) := ⟨_, rfl⟩
        rw [← hmo] at H1 ⊢
        have hmb : -100000000000000 ≤ mo ∧ mo ≤ 100000000000000 := by omega
        have hol : out.length + 1 ≤ 4000000 := by
          have := congrArg List.length H1.out
          rw [List.length_append, backs_length, backs_length, List.length_drop] at this
          omega
        obtain ⟨b1, o1', rfl, hbk1, c1, c2, c3⟩ := ((h.later hb12).later hbw).ed (k := k) (List.getElem?_eq_getElem hlt)
        have hd := List.drop_eq_getElem_cons hlt
        have q1 := Fits_mem HFIT.out l[k] (List.getElem_mem hlt)
        have q2 := hsm.txt l[k] (List.getElem_mem hlt)
        have q3 := Pl.lines_le l[k].x
        generalize l[k] = e at c1 c2 c3 hd q1 q2 q3 S1 S2
        rw [hd, backs_step] at H1
        clear hd
        obtain ⟨ef, et, ex⟩ := e
        simp only at c1 c2 c3 q1 q2 q3 S1 S2 H1
        obtain ⟨f2, f3, f4⟩ := q1
        obtain ⟨f, rfl⟩ := Int.eq_ofNat_of_zero_le f2
        obtain ⟨t, rfl⟩ := Int.eq_ofNat_of_zero_le (show 0 ≤ et by omega)
        simp only [Int.toNat_natCast] at H1
        have hft : f ≤ t := by omega
        have htl : t ≤ L.length := by omega
        have CE := Lib.hid (show ∀ w, Calls Try.prog 52 #[.string (bs ex)] w fun e' w' => e' = .returned (.int .i64 (Pl.lines ex).length) ∧ w = w' from fun w => by
          have := count_any (bs ex) w (by rw [bs_size]; omega)
          rwa [bs_data, ← Pl.lines_length] at this)
        obtain ⟨n, hn⟩ : ∃ n : Nat, n = (Pl.lines ex).length := ⟨_, rfl⟩
        rw [← hn] at CE S2 H1 q3
        have HM : Hid (mo + ((n : Int) - ((t : Int) - f)) = Pl.ins (l.take (k + 1)) - Pl.outs (l.take (k + 1))) := Lib.hid (by rw [S1, S2]; omega)
        clear S1 S2 hmo hn o1 o2
        have HC := Lib.hid (cut_small hfl f t)
        obtain ⟨y, hy⟩ : ∃ y : Pl.T, y = (Pl.cut L f t).flatten := ⟨_, rfl⟩
        have hnew : ∀ x : Pl.Ed, x = ⟨f + mo, f + mo + n, y⟩ → edcs out ++ [.int .i64 (f + mo), .int .i64 (f + mo + n), .string (bs y)] = edcs (out ++ [x]) := fun x hx => by rw [hx]; exact edcs_snoc out ⟨f + mo, f + mo + n, y⟩
        have HN := Lib.hid (hnew _ rfl); clear hnew
        obtain ⟨wo, rfl⟩ : ∃ wo : World, wo = wr := ⟨_, rfl⟩
        have hbx0 : (wo.alloc (.cells #[.int .i64 f, .int .i64 t, .string (bs ex)] 41)).heap[wo.heap.size]? = some (.cells #[.int .i64 f, .int .i64 t, .string (bs ex)] 41 (0, 0)) := heap_alloc_new wo _
        have hown1 := hown.alloc (.cells #[.int .i64 f, .int .i64 t, .string (bs ex)] 41)
        have hvb := own_ne_size hown
        have hbw1 := hbw.alloc hbw.size (.cells #[.int .i64 f, .int .i64 t, .string (bs ex)] 41)
        by_cases hftl : f < t
        · obtain ⟨bk, ox, rfl, hbk, hcs⟩ := hX2.st_cut hftl htl
          have hca : ¬ cx = f := by omega
          have JC := Lib.hid (joins_any bk (ox + f) (cx - f) (t - f) (Pl.cut L f t) (wo.alloc (.cells #[.int .i64 f, .int .i64 t, .string (bs ex)] 41)) (fun j x hx => (hbw1.cell (p := ⟨bk, ox + f + j, none⟩) hbk).trans (hcs _ _ hx)) (Nat.lt_of_lt_of_le hbk hbw1.size) (Pl.cut_length hft htl) (by omega) (by omega) (by have := HC.out; omega))
          rw [← hy] at JC
          clear hcs
          rw [← hy] at H1
          clear hy HC
          go_wp2_with (first | (go_at_call 52; refine (CE.out _).mono ?_; rintro e w' ⟨rfl, rfl⟩) | (go_at_call 53; refine JC.out.mono ?_; rintro e w3 ⟨rfl, hb3⟩; have hown3 := own_later hown1 hb3; have hbx3 := (hb3.block wo.heap.size (by simp)).trans hbx0; have hbw3 := hbw1.trans (hb3.mono hbw1.size)) | (at_builtin; refine wpList_append_own _ rfl _ _ 22 rfl w2.heap.size 41 i0 _ 3 32 Try.underlying22 hi hz0 hz1 hz2 rfl (by decide) _ _ _ rfl (hown3.alloc _) ⟨w3.heap.size, 0, none⟩ 1 1 [.int .i64 (f + mo), .int .i64 (f + mo + n), .string (bs y)] rfl rfl (cell_three_new _ _ _ _ _) (by simp [Value.oneCell']) (by unfold maxLen; omega) (by omega) (by have := hbw3.size; simp; omega) ?_; intro v' w4 hown' hgrow _; have hbx4 := box_grown hown3 hbx3 hvb hgrow; have d0 := Lib.cell_of_heap hbx4 0; have d1 := Lib.cell_of_heap hbx4 1; simp only [List.getElem?_toArray, List.getElem?_cons_zero, List.getElem?_cons_succ] at d0 d1))
          have hbw4 := (hbw3.alloc hbw3.size (.cells #[.int .i64 (f + mo), .int .i64 (f + mo + n), .string (bs y)] 41)).grown hgrow (by have := hbw3.size; simp; omega) (fun j hj => (hown.lt j hj).1)
          go_roundw
          case rel => exact ⟨k + 1, _, by omega, by go_num, by rw [← HM.out], by rw [List.length_append]; rw [HN.out] at hown'; exact hown', hbw4, Lib.hid (by rw [← HM.out, List.append_assoc]; exact H1.out)⟩
          case measure => simp [intOf]; omega
        · obtain rfl : f = t := by omega
          have JC := Lib.hid (fun a c w => joins_none a c w)
          have hye : y = [] := by rw [hy, Pl.cut_self]; rfl
          rw [← hy] at H1
          subst hye
          clear hy HC
          obtain ⟨X', hX'⟩ : ∃ X' : Option Addr, (if cx = f then X else Option.map (fun x => x.add f) X) = X' := ⟨_, rfl⟩
          go_wp2_with (first | (go_at_call 52; refine (CE.out _).mono ?_; rintro e w' ⟨rfl, rfl⟩) | (go_at_call 53; refine (JC.out _ _ _).mono ?_; rintro e w3 ⟨rfl, hb3⟩; have hown3 := own_later hown1 hb3; have hbx3 := (hb3.block wo.heap.size (by simp)).trans hbx0; have hbw3 := hbw1.trans (hb3.mono hbw1.size)) | (at_builtin; refine wpList_append_own _ rfl _ _ 22 rfl w2.heap.size 41 i0 _ 3 32 Try.underlying22 hi hz0 hz1 hz2 rfl (by decide) _ _ _ rfl (hown3.alloc _) ⟨w3.heap.size, 0, none⟩ 1 1 [.int .i64 (f + mo), .int .i64 (f + mo + n), .string (bs [])] rfl rfl (cell_three_new _ _ _ _ _) (by simp [Value.oneCell']) (by unfold maxLen; omega) (by omega) (by have := hbw3.size; simp; omega) ?_; intro v' w4 hown' hgrow _; have hbx4 := box_grown hown3 hbx3 hvb hgrow; have d0 := Lib.cell_of_heap hbx4 0; have d1 := Lib.cell_of_heap hbx4 1; simp only [List.getElem?_toArray, List.getElem?_cons_zero, List.getElem?_cons_succ] at d0 d1))
          have hbw4 := (hbw3.alloc hbw3.size (.cells #[.int .i64 (f + mo), .int .i64 (f + mo + n), .string (bs [])] 41)).grown hgrow (by have := hbw3.size; simp; omega) (fun j hj => (hown.lt j hj).1)
          go_roundw
          case rel => exact ⟨k + 1, _, by omega, by go_num, by rw [← HM.out]; simp, by rw [List.length_append]; rw [HN.out] at hown'; exact hown', hbw4, Lib.hid (by rw [← HM.out, List.append_assoc]; exact H1.out)⟩
          case measure => simp [intOf]; omega
      · have hkl : k = l.length := by omega
        have HE := Lib.hid (show out = Pl.backs L 0 l by rw [← H1.out, hkl]; simp [Pl.backs])
        clear H1 hkl o1 o2
        obtain ⟨B, cb, rfl, _, hRd⟩ := own_form hown
        go_wp2
        show PP (.returned (.tuple #[.slice B out.length cb, .int .i64 0])) wr
        rw [HE.out] at hRd ⊢
        exact HR.out _ _ _ hRd (hbl hbw)

end Go.Proofs.Ytnijaleedbmljaa
