/- Several texts in one: Walks: With: a list whose macros are replaced (no macros, or X -> 1 and its example); Walks: a runner: expand, plain; Walks: a runner: define at X, the directive's and the groups' steps at a #define; Walks: a text as it is run: read. -/
import Derived.Test.YtffjblamfbmoeaaGreatDoorUk
import Derived.Test.YtffjblamfbmoeaaGreatDoorUg
import Derived.Test.YtffjblamfbmoeaaGreatDoorUh
/-! Walks: With: a list whose macros are replaced (no macros, or X -> 1 and its example). -/
set_option linter.unusedVariables false
set_option linter.unusedSimpArgs false
namespace Go.Proofs.YtffjblamfbmoeaaGreatDoor
open Go Go.RowKit
attribute [local go_sem] Oper.semAt_some

/-- The tokens that have been filled in, ahead of zeros. -/
def z5 : List Value := [.int .i64 0, .string ⟨#[]⟩, .bool false, .slice none 0 0, .pointer none]
def fillH (L : List HTok) (k : Nat) : List Value := txhs (L.take k) ++ (List.replicate (L.length - k) z5).flatten
theorem fillH_open {L : List HTok} {k : Nat} (h : k < L.length) : fillH L k = txhs (L.take k) ++ (z5 ++ (List.replicate (L.length - (k + 1)) z5).flatten) := by
  unfold fillH
  obtain ⟨m, hm⟩ : ∃ m, L.length - k = m + 1 := ⟨L.length - k - 1, by omega⟩
  rw [hm, show L.length - (k + 1) = m by omega, List.replicate_succ, List.flatten_cons]
theorem set5 (P R : List Value) (k : Nat) (hk : P.length = k) (z0 z1 z2 z3 z4 a b c d : Value) : ((((P ++ ([z0, z1, z2, z3, z4] ++ R)).set k a).set (k + 1) b).set (k + 2) c).set (k + 3) d = P ++ ([a, b, c, d, z4] ++ R) := by
  subst hk
  simp [List.set_append]
theorem fillH_set {L : List HTok} {k : Nat} {p : Tp.PTok} (h : L[k]? = some (p, none)) : ((((fillH L k).set (k * 5) (.int .i64 p.k)).set (k * 5 + 1) (.string (bs p.x))).set (k * 5 + 2) (.bool p.s)).set (k * 5 + 3) (.slice none 0 0) = fillH L (k + 1) := by
  have hl : k < L.length := (List.getElem?_eq_some_iff.1 h).1
  rw [fillH_open hl]
  unfold z5
  rw [set5 _ _ _ (by rw [txhs_length, List.length_take, Nat.min_eq_left (by omega)])]
  unfold fillH
  rw [List.take_add_one, h, Option.toList_some, txhs_snoc, List.append_assoc]
  rfl
theorem fillH_at {L : List HTok} {k : Nat} (h : k < L.length) : (fillH L k)[k * 5]? = some (.int .i64 0) ∧ (fillH L k)[k * 5 + 1]? = some (.string ⟨#[]⟩) ∧ (fillH L k)[k * 5 + 2]? = some (.bool false) ∧ (fillH L k)[k * 5 + 3]? = some (.slice none 0 0) := by
  rw [fillH_open h]
  have hp : (txhs (L.take k)).length = k * 5 := by rw [txhs_length, List.length_take, Nat.min_eq_left (by omega)]
  refine ⟨?_, ?_, ?_, ?_⟩
  · rw [List.getElem?_append_right (by omega), hp]; simp [z5]
  · rw [List.getElem?_append_right (by omega), hp, show k * 5 + 1 - k * 5 = 1 by omega]; rfl
  · rw [List.getElem?_append_right (by omega), hp, show k * 5 + 2 - k * 5 = 2 by omega]; rfl
  · rw [List.getElem?_append_right (by omega), hp, show k * 5 + 3 - k * 5 = 3 by omega]; rfl
theorem fillH_end (L : List HTok) : fillH L L.length = txhs L := by unfold fillH; rw [List.take_length, Nat.sub_self]; simp
theorem made_fillH (L : List HTok) : (madeCells (Value.agg #[.int .i64 0, .string ⟨#[]⟩, .bool false, .slice none 0 0, .pointer none]).cells (L.length * 5)).toList = fillH L 0 := by
  have := made_flat #[.int .i64 0, .string ⟨#[]⟩, .bool false, .slice none 0 0, .pointer none] (by decide) L.length
  rw [show (Value.agg #[.int .i64 0, .string ⟨#[]⟩, .bool false, .slice none 0 0, .pointer none]).cells = #[.int .i64 0, .string ⟨#[]⟩, .bool false, .slice none 0 0, .pointer none] from by simp [Value.cells]]
  unfold fillH
  simpa [txhs, z5] using this

/-- No macro is defined. -/
def MN (W : World) (Mm : Nat) : Prop := ∃ c1, W.heap[Mm]? = some (.map #[] c1)
/-- X -> 1 alone is defined. -/
def MO (W : World) (Mm : Nat) : Prop := ∃ A c b c1, 1 ≤ c ∧ W.heap[Mm]? = some (.map #[{ key := .string (bs [88]), val := mvX A c, born := b }] c1) ∧ Rd W 4 A 1 (ptcs [xM])
theorem MN.below {W W' : World} {Mm : Nat} (h : MN W Mm) (hb : Below W.heap.size W W') : MN W' Mm := by
  obtain ⟨c1, h1⟩ := h
  exact ⟨c1, (hb.block Mm (Array.getElem?_eq_some_iff.1 h1).1).trans h1⟩
theorem MO.below {W W' : World} {Mm : Nat} (h : MO W Mm) (hb : Below W.heap.size W W') : MO W' Mm := by
  obtain ⟨A, c, b, c1, h3, h4, h5⟩ := h
  exact ⟨A, c, b, c1, h3, (hb.block Mm (Array.getElem?_eq_some_iff.1 h4).1).trans h4, h5.later hb⟩
/-- What a list comes to: by no macros, or the example's list by X -> 1. -/
def WM (W : World) (Mm : Nat) (l tot : List Tp.PTok) : Prop :=
  (tot = l.map lnT ∧ MN W Mm) ∨ (MO W Mm ∧ ∃ s1 s2, l = [⟨1, [88], s1, []⟩, ⟨1, Tp.lineN, s2, []⟩] ∧ tot = [⟨2, [49], s1, []⟩, ⟨10, Tp.lineN, s2, []⟩])
theorem WM.below {W W' : World} {Mm : Nat} {l tot : List Tp.PTok} (h : WM W Mm l tot) (hb : Below W.heap.size W W') : WM W' Mm l tot := by
  rcases h with ⟨h1, h2⟩ | ⟨h1, h2⟩
  · exact .inl ⟨h1, h2.below hb⟩
  · exact .inr ⟨h1.below hb, h2⟩
theorem WM.lt {W : World} {Mm : Nat} {l tot : List Tp.PTok} (h : WM W Mm l tot) : Mm < W.heap.size := by
  rcases h with ⟨_, _, h⟩ | ⟨⟨_, _, _, _, _, h, _⟩, _⟩ <;> exact (Array.getElem?_eq_some_iff.1 h).1
theorem WM.len {W : World} {Mm : Nat} {l tot : List Tp.PTok} (h : WM W Mm l tot) : tot.length = l.length := by
  rcases h with ⟨h, _⟩ | ⟨_, _, _, h1, h2⟩
  · rw [h]; simp
  · rw [h1, h2]; rfl

set_option maxRecDepth 100000 in
set_option maxHeartbeats 8000000 in
theorem CloneStr_nil (w : World) : Calls Tryz.prog 104 #[.slice none 0 0] w fun e w' => e = .returned (.slice none 0 0) ∧ w' = w := by
  have qn : ∀ (w : World) (a : Option Addr) (n c n' c' : Nat), (binOp .eql 22 (.slice a n c) (.slice none n' c')).run Tryz.prog w = .ok (.bool a.isNone) w := fun w a n c n' c' => Lib.run_eql_slice_nil w _ _ a n c n' c' Tryz.underlying22
  go_enter Tryz.func104, Tryz.ntmps104
  go_wp2
  go_ret
  exact ⟨rfl, rfl⟩

set_option maxRecDepth 100000 in
set_option maxHeartbeats 8000000 in
theorem With_any (Mm n c : Nat) (A : Option Addr) (l tot : List Tp.PTok) (w : World) (hn : n ≤ c) (hl : l.length ≤ 1000000) (h : Rd w 4 A n (ptcs l)) (hm : WM w Mm l tot) :
    Calls Tryz.prog 87 #[.map (some Mm), .slice A n c, .int .i64 65536] w fun e w' =>
      ∃ G, e = .returned (.tuple #[.slice (some ⟨G, 0, none⟩) tot.length tot.length, .int .i64 0]) ∧ w'.ownsRow w.heap.size 49 4 (.slice (some ⟨G, 0, none⟩) tot.length tot.length) tot.length (ptcs tot) ∧ Below w.heap.size w w' := by
  obtain ⟨i0, hi, hz0, hz1, hz2⟩ := info_parts txInfo
  obtain ⟨j0, hj, hy0, hy1, hy2⟩ := info_parts ptInfo
  have hln := h.plen
  obtain ⟨L, hL⟩ : ∃ L : List HTok, L = l.map fun p => (p, none) := ⟨_, rfl⟩
  have hLl : L.length = n := by rw [hL, List.length_map, hln]
  have hmf := made_fillH L
  rw [hLl] at hmf
  have HMF := Lib.hid hmf
  have HLL := Lib.hid hLl
  have HL := Lib.hid hL
  have HWM := Lib.hid hm
  have HRD := Lib.hid (show ∀ W, Below w.heap.size w W → Rd W 4 A n (ptcs l) from fun W hb => h.later hb)
  clear hmf hL hLl hm h
  go_enter Tryz.func87, Tryz.ntmps87
  go_wp2_with (at_make; refine wpList_make_full _ rfl _ _ 177 rfl w.heap.size 184 i0 _ 5 Tryz.underlying177 hi hz0 hz1 .i64 .i64 n n n rfl rfl rfl rfl (by rw [hz2]; omega) (by unfold maxLen; omega) (Nat.le_refl _) ?_; intro w3 hown3 hgrow3; rw [HMF.out] at hown3)
  have hb3 : Below w.heap.size w w3 := (Below.refl _ w).grown hgrow3 (Nat.le_refl _) (fun k e => by cases e)
  obtain ⟨w4, hw4⟩ : ∃ w4, w3.alloc (.cells #[.slice (some ⟨w.heap.size, 0, none⟩) n n, .pointer none, .int .i64 0] 181) = w4 := ⟨_, rfl⟩
  rw [hw4]
  have hb4 : Below w3.heap.size w3 w4 := by rw [← hw4]; exact (Below.refl _ _).alloc (Nat.le_refl _) _
  have hC4 : CellAt w4 w3.heap.size (some ⟨w.heap.size, 0, none⟩) n n (.pointer none) 0 := by rw [← hw4]; exact heap_alloc_new w3 _
  have hGl := (hown3.lt w.heap.size rfl).2
  have hown4 := own_later hown3 hb4
  have hbw4 := hb3.trans (hb4.mono hb3.size)
  obtain ⟨C, hC⟩ : ∃ C, w3.heap.size = C := ⟨_, rfl⟩
  rw [hC] at hC4 hGl ⊢
  have HC3 := Lib.hid hC
  clear hw4 hgrow3 hown3 hb3 hb4 hC
  go_loopw [24] (fun z wr => ∃ k : Nat, k ≤ n ∧ z = .int .i64 k ∧ wr.ownsRow w.heap.size 184 5 (.slice (some ⟨w.heap.size, 0, none⟩) n n) n (fillH L k) ∧ CellAt wr C (some ⟨w.heap.size, 0, none⟩) n n (.pointer none) 0 ∧ Below w.heap.size w wr) (fun z _ => n - (intOf z).toNat)
  case atStart => exact ⟨0, Nat.zero_le _, rfl, hown4, hC4, hbw4⟩
  case round =>
    obtain ⟨k, hk, rfl, hrow, hCk, hb⟩ := hrel
    obtain ⟨wq, rfl⟩ : ∃ wq : World, wq = wr := ⟨_, rfl⟩
    by_cases hkn : k < n
    · obtain ⟨p, hp⟩ : ∃ p, l[k]? = some p := ⟨_, List.getElem?_eq_getElem (by rw [hln]; exact hkn)⟩
      have HF := Lib.hid (fillH_set (L := L) (k := k) (p := p) (by rw [HL.out, List.getElem?_map, hp]; rfl))
      obtain ⟨b, o, rfl, hbl, d0, d1, d2, d3⟩ := (HRD.out wq hb).pt hp
      obtain ⟨pk', px, ps, pp⟩ := p
      simp only at d0 d1 d2 d3
      obtain ⟨w5, hw5⟩ : ∃ w5, wq.alloc (.cells #[.int .i64 pk', .string (bs px), .bool ps, .slice none 0 0] 49) = w5 := ⟨_, rfl⟩
      have hb5 : Below wq.heap.size wq w5 := by rw [← hw5]; exact (Below.refl _ _).alloc (Nat.le_refl _) _
      have hq5 : w5.heap[wq.heap.size]? = some (.cells #[.int .i64 pk', .string (bs px), .bool ps, .slice none 0 0] 49) := by rw [← hw5]; exact heap_alloc_new wq _
      have hsq := hb.size
      have hrow5 := own_later hrow hb5
      have hC5 := hCk.below hb5
      have HW5 := Lib.hid hw5
      have HC5 := Lib.hid hC5
      have HB5 := Lib.hid (hb.trans (hb5.mono hsq))
      have HR5 := Lib.hid hrow5
      have HQ5 := Lib.hid hq5
      have hCl := hCk.lt
      have hGC := hGl
      clear hw5 hb5 hrow5 hrow hCk hC5 hq5 hp
      go_wp2
      rw [HW5.out]
      refine wp_region_still_tail 8 (by kernel_rfl) (by kernel_rfl) ?_
      obtain ⟨wd, hwd⟩ : ∃ wd, ({ w5 with drawn := w5.drawn + 1 } : World) = wd := ⟨_, rfl⟩
      rw [hwd]
      have bd : Below w5.heap.size w5 wd := by rw [← hwd]; exact (Below.refl _ _).drew
      clear hwd
      have hCd := HC5.out.below bd
      obtain ⟨g0, g1, g2⟩ := hCd.cells
      have hqd := (bd.block wq.heap.size (Array.getElem?_eq_some_iff.1 HQ5.out).1).trans HQ5.out
      have i0 := Lib.cell_of_heap hqd 0
      have i1 := Lib.cell_of_heap hqd 1
      have i2 := Lib.cell_of_heap hqd 2
      have i3 := Lib.cell_of_heap hqd 3
      simp only [List.getElem?_toArray, List.getElem?_cons_zero, List.getElem?_cons_succ] at i0 i1 i2 i3
      have hrd := own_later HR5.out bd
      obtain ⟨q0, q1, q2, q3⟩ := fillH_at (L := L) (k := k) (by rw [HLL.out]; exact hkn)
      have e0 := (hrd.cellAt (k * 5) (by omega)).trans q0
      have e1 := (hrd.cellAt (k * 5 + 1) (by omega)).trans q1
      have e2 := (hrd.cellAt (k * 5 + 2) (by omega)).trans q2
      have e3 := (hrd.cellAt (k * 5 + 3) (by omega)).trans q3
      have f0 := hrd.frozenAt (k * 5)
      have f1 := hrd.frozenAt (k * 5 + 1)
      have f2 := hrd.frozenAt (k * 5 + 2)
      have f3 := hrd.frozenAt (k * 5 + 3)
      have hlt := (hrd.lt w.heap.size rfl).2
      have HRD5 := Lib.hid hrd
      have HCD := Lib.hid hCd
      have HBD := Lib.hid (HB5.out.trans (bd.mono HB5.out.size))
      clear hCd hqd hrd q0 q1 q2 q3
      simp only [List.take_succ_cons, List.take_zero, List.drop_succ_cons, List.drop_zero]
      repeat still_step
      refine wpStill_nil ?_
      go_wp2
      have HO := ((((HRD5.out.stored (k * 5) (.int .i64 pk')).1.stored (k * 5 + 1) (.string (bs px))).1.stored (k * 5 + 2) (.bool ps)).1.stored (k * 5 + 3) (.slice none 0 0)).1
      rw [HF.out] at HO
      have hne : C ≠ w.heap.size := by omega
      refine ⟨⟨k + 1, by omega, by go_num, HO, ?_, (((HBD.out.setCell (p := ⟨_, _, none⟩) (Nat.le_refl _) _).setCell (p := ⟨_, _, none⟩) (Nat.le_refl _) _).setCell (p := ⟨_, _, none⟩) (Nat.le_refl _) _).setCell (p := ⟨_, _, none⟩) (Nat.le_refl _) _⟩, by simp [intOf]; omega⟩
      exact (Below.heap_setCell _ _ _ _ (by simpa using hne)).trans ((Below.heap_setCell _ _ _ _ (by simpa using hne)).trans ((Below.heap_setCell _ _ _ _ (by simpa using hne)).trans ((Below.heap_setCell _ _ _ _ (by simpa using hne)).trans HCD.out)))
    · obtain rfl : k = n := by omega
      rw [show fillH L k = txhs L by rw [← HLL.out, fillH_end]] at hrow
      have hpath : Path wq (pk k C 0) L := path_cell (by omega) hCk (Rd.of_own hrow) k 0 rfl (Nat.zero_le _)
      have hfrom : (pk k C 0).from wq (.pointer (some ⟨C, 0, none⟩)) 0 := by
        by_cases h0 : 0 < k
        · rw [pk_at h0]
          exact .inl ⟨rfl, rfl⟩
        · obtain rfl : k = 0 := by omega
          rw [pk_done]
          exact .inr ⟨C, _, 0, _, rfl, rfl, hCk, by simp [Pl.c]⟩
      have MM := fun (W : World) => map_make (P := Tryz.prog) Tryz.underlying185 W
      obtain ⟨w7, hw7⟩ : ∃ w7, (wq.alloc (.map #[] 0)).alloc (.cells #[.map (some Mm), .map (some wq.heap.size), .int .i64 65536] 187) = w7 := ⟨_, rfl⟩
      have hb7 : Below wq.heap.size wq w7 := by rw [← hw7]; exact ((Below.refl _ _).alloc (Nat.le_refl _) _).alloc (by simp) _
      have hs7 : w7.heap.size = wq.heap.size + 2 := by rw [← hw7]; simp
      have hP7 : w7.heap[wq.heap.size]? = some (.map #[] 0) := by rw [← hw7]; exact (Below.heap_alloc _ _ _ (by simp)).trans (heap_alloc_new wq _)
      have hX7 : Xp w7 (wq.heap.size + 1) Mm wq.heap.size 65536 := by
        rw [← hw7]
        have := heap_alloc_new (wq.alloc (.map #[] 0)) (.cells #[.map (some Mm), .map (some wq.heap.size), .int .i64 65536] 187)
        rwa [World.size_alloc] at this
      obtain ⟨pa, pi, hpp⟩ : ∃ a i, (pk k C 0).c = .pointer a ∧ (pk k C 0).i = i := by cases pk k C 0 <;> exact ⟨_, _, rfl, rfl⟩
      have hpv : plv (pk k C 0) = .agg #[.pointer pa, .int .i64 pi] := by unfold plv; rw [hpp.1, hpp.2]
      have ST := settled_any (.pointer (some ⟨C, 0, none⟩)) 0 (pk k C 0) w7 (hpath.ok.below hb7) (hfrom.below hb7)
      rw [hpv] at ST
      have ST := Lib.hid ST
      have LS := Lib.hid (show ∀ w8, Below w7.heap.size w7 w8 → Calls Tryz.prog 102 #[.pointer (some ⟨wq.heap.size + 1, 0, none⟩), .agg #[.pointer pa, .int .i64 pi, .pointer none, .int .i64 0]] w8 fun e w' =>
          ∃ v out, e = .returned (.tuple #[v, .int .i64 0]) ∧ out.map (·.1) = tot ∧ (∃ B, w8.heap.size ≤ B ∧ w'.ownsRow B 184 5 v out.length (txhs out)) ∧ Below wq.heap.size w8 w' from fun w8 hb8 => by
        have hX8 := hX7.below hb8
        have hP8 := (hb8.block wq.heap.size (by omega)).trans hP7
        have hwm8 := (HWM.out.below hb).below (hb7.trans (hb8.mono (by omega)))
        have hs8 := hb8.size
        have hll : tot.length ≤ 1000000 := by rw [HWM.out.len, hln]; omega
        have := list_any wq w8 wq.heap.size (wq.heap.size + 1) Mm wq.heap.size 65536 (pk k C 0) L tot hpath (hb7.trans (hb8.mono (by omega))) (Nat.le_refl _) (by omega) hll (by
          rcases hwm8 with ⟨h1, c1, h2⟩ | ⟨⟨A', c', b', c1, h3, h4, h5⟩, s1, s2, h6, h7⟩
          · refine .inl ⟨by rw [h1, HL.out, List.map_map]; rfl, fun t ht => .inr (.inr ⟨hX8, c1, 0, h2, hP8⟩)⟩
          · exact .inr ⟨by omega, Nat.le_refl _, by omega, rfl, ⟨hX8, ⟨0, hP8⟩, A', c', b', c1, h3, h4, h5⟩, s1, s2, by rw [HL.out, h6]; rfl, h7⟩)
        rw [hpp.1, hpp.2] at this
        exact this)
      have HW7 := Lib.hid hw7
      have HB7 := Lib.hid (hb.trans (hb7.mono hb.size))
      have hsq := hb.size
      clear hw7 hb7 hs7 hP7 hX7 hpp hpv hpath hfrom hrow hCk
      go_wp2_with (first
        | (go_at_call 103
           rw [HW7.out]
           (with_reducible refine ST.out.mono ?_)
           rintro e w8 ⟨rfl, hb8⟩
           have hs8 := hb8.size)
        | (go_at_call 102
           (with_reducible refine (LS.out w8 hb8).mono ?_)
           rintro e w9 ⟨v9, out, rfl, hout, ⟨B, hB, hown9⟩, hb9⟩
           have hol : out.length = k := by rw [← hln, ← HWM.out.len, ← hout, List.length_map]
           rw [hol] at hown9
           obtain ⟨A9, c9, rfl, hc9, hr9⟩ := own_form hown9
           have hmp := made_fillP tot
           rw [HWM.out.len, hln] at hmp
           have hmp := Lib.hid hmp
           have hout := Lib.hid hout
           have hol := Lib.hid hol
           have hb79 := (Lib.hid ((HB7.out.trans (hb8.mono HB7.out.size)).trans (hb9.mono hsq)))
           have hr9 := Lib.hid hr9
           clear hown9 hb8 hb9)
        | (at_make
           refine wpList_make_full _ rfl _ _ 23 rfl w9.heap.size 49 j0 _ 4 Tryz.underlying23 hj hy0 hy1 .i64 .i64 k k k rfl rfl rfl rfl (by rw [hy2]; omega) (by unfold maxLen; omega) (Nat.le_refl _) ?_
           intro w10 hown10 hgrow10
           rw [hmp.out] at hown10))
      have hb10 : Below w9.heap.size w9 w10 := (Below.refl _ w9).grown hgrow10 (Nat.le_refl _) (fun k e => by cases e)
      have hs79 := hb79.out.size
      have hlt10 := (hown10.lt w9.heap.size rfl).2
      obtain ⟨G, hG⟩ : ∃ G, w9.heap.size = G := ⟨_, rfl⟩
      have HB910 := Lib.hid hb10
      have RD9 := Lib.hid (show ∀ W, Below G w9 W → Rd W 5 A9 k (txhs out) from fun W hb => hr9.out.below (by omega) hb)
      have TOT := Lib.hid (show tot.length = k by rw [HWM.out.len, hln])
      have CS := Lib.hid CloneStr_nil
      rw [hG] at hown10 hb10 hs79 hlt10 ⊢
      have HG := Lib.hid hG
      clear hgrow10 hG hr9
      go_loopw [58] (fun z wr => ∃ j : Nat, j ≤ k ∧ z = .int .i64 j ∧ wr.ownsRow G 49 4 (.slice (some ⟨G, 0, none⟩) k k) k (fillP tot j) ∧ Below G w9 wr) (fun z _ => k - (intOf z).toNat)
      case atStart => exact ⟨0, Nat.zero_le _, rfl, hown10, hb10⟩
      case round =>
        obtain ⟨j, hj, rfl, hrow, hbq⟩ := hrel
        obtain ⟨wz, rfl⟩ : ∃ wz : World, wz = wr := ⟨_, rfl⟩
        by_cases hjk : j < k
        · obtain ⟨p, hp⟩ : ∃ p, out[j]? = some p := ⟨_, List.getElem?_eq_getElem (by rw [hol.out]; exact hjk)⟩
          have hpt : tot[j]? = some p.1 := by rw [← hout.out, List.getElem?_map, hp]; rfl
          have HF := Lib.hid (fillP_set hpt)
          obtain ⟨b, o, rfl, hbl, d0, d1, d2, d3, d4⟩ := (RD9.out wz hbq).txh hp
          obtain ⟨⟨pk', px, ps, pp⟩, hd⟩ := p
          simp only at d0 d1 d2 d3 d4
          obtain ⟨q0, q1, q2, q3⟩ := fillP_at (L := tot) (k := j) (by rw [TOT.out]; exact hjk)
          have e0 := (hrow.cellAt (j * 4) (by omega)).trans q0
          have e1 := (hrow.cellAt (j * 4 + 1) (by omega)).trans q1
          have e2 := (hrow.cellAt (j * 4 + 2) (by omega)).trans q2
          have e3 := (hrow.cellAt (j * 4 + 3) (by omega)).trans q3
          have f0 := hrow.frozenAt (j * 4)
          have f1 := hrow.frozenAt (j * 4 + 1)
          have f2 := hrow.frozenAt (j * 4 + 2)
          have f3 := hrow.frozenAt (j * 4 + 3)
          have hlt := (hrow.lt G rfl).2
          have HR := Lib.hid hrow
          have HBQ := Lib.hid hbq
          have hlb := hbq.size
          clear hp hpt hrow hbq q0 q1 q2 q3
          go_wp2_with (first
            | (go_at_call 104; (with_reducible refine (CS.out _).mono ?_); rintro e w11 ⟨rfl, rfl⟩))
          have HO := ((((HR.out.stored (j * 4) (.int .i64 pk')).1.stored (j * 4 + 1) (.string (bs px))).1.stored (j * 4 + 2) (.bool ps)).1.stored (j * 4 + 3) (.slice none 0 0)).1.alloc (.cells #[.int .i64 pk', .string (bs px), .bool ps, .slice none 0 0, .pointer hd] 184)
          rw [HF.out] at HO
          exact ⟨⟨j + 1, by omega, by go_num, HO, ((((HBQ.out.setCell (p := ⟨_, _, none⟩) (Nat.le_refl _) _).setCell (p := ⟨_, _, none⟩) (Nat.le_refl _) _).setCell (p := ⟨_, _, none⟩) (Nat.le_refl _) _).setCell (p := ⟨_, _, none⟩) (Nat.le_refl _) _).alloc (by simp [World.setCell]; omega) _⟩, by simp [intOf]; omega⟩
        · obtain rfl : j = k := by omega
          rw [show fillP tot j = ptcs tot by rw [← TOT.out, fillP_end]] at hrow
          go_wp2
          go_ret2
          refine ⟨G, by rw [TOT.out]; rfl, ?_, ?_⟩
          · rw [TOT.out]
            exact own_base hrow (by omega)
          · exact hb79.out.trans (hbq.mono (by omega))
end Go.Proofs.YtffjblamfbmoeaaGreatDoor

/-! Walks: a runner: expand, plain. -/
set_option linter.unusedVariables false
set_option linter.unusedSimpArgs false
namespace Go.Proofs.YtffjblamfbmoeaaGreatDoor
open Go Go.RowKit
attribute [local go_sem] Oper.semAt_some

theorem ptcs_one (l : List Tp.PTok) : ∀ u ∈ ptcs l, u.oneCell' = true := by
  intro u hu
  simp only [ptcs, List.mem_flatMap] at hu
  obtain ⟨p, _, hp⟩ := hu
  simp only [ptc, List.mem_cons, List.not_mem_nil, or_false] at hp
  rcases hp with rfl | rfl | rfl | rfl <;> rfl
/-- A runner without files, at a block; no macro is without a line. -/
def Rn (W : World) (RB Mm Ml : Nat) (fuel : Int) (tx out : Value) : Prop :=
  W.heap[RB]? = some (.cells #[.slice none 0 0, tx, .map (some Mm), .map (some Ml), .int .i64 fuel, .int .i64 0, out] 65 (0, 0)) ∧ ∃ c0, W.heap[Ml]? = some (.map #[] c0)
theorem Rn.below {W W' : World} {RB Mm Ml : Nat} {fuel : Int} {tx out : Value} (h : Rn W RB Mm Ml fuel tx out) (hb : Below W.heap.size W W') : Rn W' RB Mm Ml fuel tx out := by
  obtain ⟨h1, c0, h2⟩ := h
  exact ⟨(hb.block RB (Array.getElem?_eq_some_iff.1 h1).1).trans h1, c0, (hb.block Ml (Array.getElem?_eq_some_iff.1 h2).1).trans h2⟩
theorem Rn.cells {W : World} {RB Mm Ml : Nat} {fuel : Int} {tx out : Value} (h : Rn W RB Mm Ml fuel tx out) : W.cell? ⟨RB, 2, none⟩ = some (.map (some Mm)) ∧ W.cell? ⟨RB, 3, none⟩ = some (.map (some Ml)) ∧ W.cell? ⟨RB, 4, none⟩ = some (.int .i64 fuel) ∧ W.cell? ⟨RB, 6, none⟩ = some out ∧ W.frozen? ⟨RB, 4, none⟩ = false ∧ W.frozen? ⟨RB, 6, none⟩ = false ∧ RB < W.heap.size :=
  ⟨Lib.cell_of_heap h.1 2, Lib.cell_of_heap h.1 3, Lib.cell_of_heap h.1 4, Lib.cell_of_heap h.1 6, Lib.frozen_of_heap h.1 4, Lib.frozen_of_heap h.1 6, (Array.getElem?_eq_some_iff.1 h.1).1⟩

set_option maxRecDepth 100000 in
set_option maxHeartbeats 8000000 in
theorem expand_any (RB Mm Ml n c : Nat) (fuel : Int) (tx out : Value) (A : Option Addr) (l tot : List Tp.PTok) (w : World) (hR : Rn w RB Mm Ml fuel tx out) (hn : n ≤ c) (hl : l.length ≤ 1000000) (h : Rd w 4 A n (ptcs l)) (hm : WM w Mm l tot) :
    Calls Tryz.prog 68 #[.pointer (some ⟨RB, 0, none⟩), .slice A n c] w fun e w' =>
      ∃ G, e = .returned (.tuple #[.slice (some ⟨G, 0, none⟩) tot.length tot.length, .int .i64 0]) ∧ w'.ownsRow w.heap.size 49 4 (.slice (some ⟨G, 0, none⟩) tot.length tot.length) tot.length (ptcs tot) ∧ Below w.heap.size w w' := by
  have WX := Lib.hid (With_any Mm n c A l tot w hn hl h hm)
  obtain ⟨r2, r3, r4, r6, _, _, rl⟩ := hR.cells
  obtain ⟨_, c0, h0⟩ := hR
  have ML := map_len (P := Tryz.prog) Tryz.underlying63 3 h0
  clear h hm
  go_enter Tryz.func68, Tryz.ntmps68
  go_wp2_with (first
    | (go_at_call 87; (with_reducible refine WX.out.mono ?_); rintro e w2 ⟨G, rfl, ho, hb⟩))
  go_ret2
  exact ⟨G, rfl, ho, hb⟩

set_option maxRecDepth 100000 in
set_option maxHeartbeats 8000000 in
theorem plain_any (RB Mm Ml n c : Nat) (fuel : Int) (tx : Value) (A : Option Addr) (l : List Tp.Tok) (tot : List Tp.PTok) (w : World) (hR : Rn w RB Mm Ml fuel tx (.slice none 0 0)) (hn : n ≤ c) (hl : l.length ≤ 1000000) (h : Rd w 5 A n (tkcs l)) (hm : WM w Mm (Tp.of l) tot)
    (hq : ∀ p ∈ tot, p.k = 1 → p.x ≠ Tp.pragmaN) :
    Calls Tryz.prog 51 #[.pointer (some ⟨RB, 0, none⟩), .slice A n c] w fun e w' => e = .returned (.int .i64 0) ∧
      ∃ v', Rn w' RB Mm Ml fuel tx v' ∧ w'.ownsRow w.heap.size 49 4 v' tot.length (ptcs tot) ∧ KpB RB w.heap.size w w' ∧ ∀ m, m ≤ RB → m ≤ w.heap.size → Below m w w' := by
  obtain ⟨j0, hj, hy0, hy1, hy2⟩ := info_parts ptInfo
  have OX := Lib.hid (Of_any A n c l w hn hl h)
  have hln := h.tlen
  have hol : (Tp.of l).length = n := (of_len l).trans hln
  obtain ⟨N, hN⟩ : ∃ N, tot.length = N := ⟨_, rfl⟩
  have hNn : N = n := by rw [← hN, hm.len, hol]
  subst hNn
  have hNl : N ≤ 1000000 := by omega
  have EX := Lib.hid (show ∀ (w2 : World) (A2 : Option Addr) (c2 : Nat), Below w.heap.size w w2 → N ≤ c2 → Rd w2 4 A2 N (ptcs (Tp.of l)) → Calls Tryz.prog 68 #[.pointer (some ⟨RB, 0, none⟩), .slice A2 N c2] w2 fun e w' =>
      ∃ G, e = .returned (.tuple #[.slice (some ⟨G, 0, none⟩) N N, .int .i64 0]) ∧ w'.ownsRow w2.heap.size 49 4 (.slice (some ⟨G, 0, none⟩) N N) N (ptcs tot) ∧ Below w2.heap.size w2 w' from fun w2 A2 c2 hb h2 hr => by
    have := expand_any RB Mm Ml N c2 fuel tx (.slice none 0 0) A2 (Tp.of l) tot w2 (hR.below hb) h2 (by rw [hol]; omega) hr (hm.below hb)
    rw [hN] at this
    exact this)
  have HN := Lib.hid hN
  have HR := Lib.hid hR
  have HQ := Lib.hid hq
  clear hR hm h hN hq hol
  go_enter Tryz.func51, Tryz.ntmps51
  go_wp2_with (first
    | (go_at_call 13
       (with_reducible refine OX.out.mono ?_)
       rintro e w2 ⟨v2, rfl, ho2, hb2⟩
       obtain ⟨A2, c2, rfl, hc2, hr2⟩ := own_form ho2
       clear ho2)
    | (go_at_call 68
       (with_reducible refine (EX.out w2 A2 c2 hb2 hc2 hr2).mono ?_)
       rintro e w3 ⟨G, rfl, ho3, hb3⟩))
  have hb23 := hb2.trans (hb3.mono hb2.size)
  have hs2 := hb2.size
  have hs3 := hb3.size
  have HB := Lib.hid hb23
  have HO := Lib.hid ho3
  have hGl := ho3.lt G rfl
  clear hb2 hb3 hb23 ho3 hr2
  go_loopw [7] (fun z wr => (∃ i : Nat, z = .int .i64 i ∧ i ≤ N) ∧ wr = w3) (fun z _ => N - (intOf z).toNat)
  case atStart => exact ⟨⟨0, rfl, Nat.zero_le _⟩, rfl⟩
  case round =>
    obtain ⟨⟨i, rfl, hiN⟩, rfl⟩ := hrel
    have wr2 : IntKind.i64.wrap ((i : Int) + 2) = (i : Int) + 2 := IntWalk.i64_in _ (by omega)
    have wr1 : IntKind.i64.wrap ((i : Int) + 1) = (i : Int) + 1 := IntWalk.i64_in _ (by omega)
    by_cases hlt : i + 2 < N
    · have hdl : decide ((i : Int) + 2 < (N : Int)) = true := by simp; omega
      have hdI : (i : Int) + 2 < (N : Int) := by omega
      obtain ⟨p, hp⟩ : ∃ p, tot[i]? = some p := ⟨_, List.getElem?_eq_getElem (by rw [HN.out]; omega)⟩
      obtain ⟨a0, a1, a2, a3⟩ := ptcs_at hp
      have d0 := (HO.out.cellAt (i * 4) (by omega)).trans a0
      have d1 := (HO.out.cellAt (i * 4 + 1) (by omega)).trans a1
      have hpq := HQ.out p (List.mem_of_getElem? hp)
      obtain ⟨pk', px, ps, pp⟩ := p
      simp only at d0 d1 hpq
      have tl : (bs px).toList = px := bs_toList px
      have hi1 : i < N := by omega
      have hcs : ¬ pk' = 1 ∨ (pk' = 1 ∧ (px == [95, 80, 114, 97, 103, 109, 97]) = false) := by
        by_cases e : pk' = 1
        · exact .inr ⟨e, beq_eq_false_iff_ne.2 (hpq e)⟩
        · exact .inl e
      clear hp a0 a1 a2 a3 hpq
      rcases hcs with h1 | ⟨rfl, h1⟩
      · have h1I : ¬ (pk' : Int) = 1 := by omega
        go_wp2
        exact ⟨⟨⟨i + 1, by go_num, by omega⟩, trivial⟩, by simp [intOf]; omega⟩
      · go_wp2
        exact ⟨⟨⟨i + 1, by go_num, by omega⟩, trivial⟩, by simp [intOf]; omega⟩
    · have hdl : decide ((i : Int) + 2 < (N : Int)) = false := by simp; omega
      have hdI : ¬ (i : Int) + 2 < (N : Int) := by omega
      have hRq := HR.out.below HB.out
      obtain ⟨r2, r3, r4, r6, rf4, rf6, rl⟩ := hRq.cells
      have hrl := HR.out.cells.2.2.2.2.2.2
      have HRQ := Lib.hid hRq
      have hRd := Lib.hid (rd_add (Rd.of_own HO.out))
      have hpl : (ptcs tot).length = N * 4 := by rw [ptcs_length, HN.out]
      clear hRq
      go_wp2_with (first
        | (at_builtin
           refine wpList_append_own _ rfl _ _ 23 rfl w.heap.size 49 j0 _ 4 56 Tryz.underlying23 hj hy0 hy1 hy2 rfl (by decide) (.slice none 0 0) 0 [] rfl (World.ownsRow_nil _ _ _ _) ⟨G, 0, none⟩ N N (ptcs tot) rfl hpl hRd.out (ptcs_one tot) (by unfold maxLen; omega) (by omega) (by omega) ?_
           intro v' w5 hown hgrow hnil
           obtain ⟨A', c', rfl, _, _⟩ := own_form hown
           have h5 := Lib.hid ((hgrow.block RB (by omega) (by simp [Value.ownBlock])).trans HRQ.out.1)
           have y6 := Lib.cell_of_heap h5.out 6
           have yf6 := Lib.frozen_of_heap h5.out 6
           have yl := (Array.getElem?_eq_some_iff.1 h5.out).1
           simp only [List.getElem?_toArray, List.getElem?_cons_zero, List.getElem?_cons_succ] at y6
           have b5 := Lib.hid ((Below.refl wr.heap.size wr).grown hgrow (Nat.le_refl _) (fun z hz => by cases hz))
           have hown := Lib.hid hown
           have hnil := Lib.hid hnil
           clear hgrow))
      go_ret
      have hMl := HRQ.out.2
      obtain ⟨c0, hMl⟩ := hMl
      have hlM := (Array.getElem?_eq_some_iff.1 hMl).1
      have hne : Ml ≠ RB := by
        rintro rfl
        rw [HRQ.out.1] at hMl; cases hMl
      have hbs := b5.out.size
      have how := hown.out
      rw [Nat.zero_add, List.nil_append] at how
      refine ⟨rfl, .slice A' N c', ⟨by have := heap_setCell_same w5 _ 6 _ _ (.slice A' N c') h5.out; exact this, c0, (Below.heap_setCell _ _ _ _ (by simpa using hne)).trans ((b5.out.block Ml hlM).trans hMl)⟩, ?_, ⟨by simp [World.setCell]; omega, fun k h1 h2 => ?_⟩, fun m h1 h2 => ?_⟩
      · rw [HN.out]
        exact how.kept (grownBy_setR w5 RB 6 _) (.inr fun e => by have := (how.lt _ e).1; omega)
      · exact (Below.heap_setCell _ _ _ _ (by simpa using h2)).trans ((b5.out.block k (by omega)).trans (HB.out.block k h1))
      · exact (((HB.out.mono h2).trans (b5.out.mono (by omega))).setCell (p := ⟨RB, 6, none⟩) h1 _)
end Go.Proofs.YtffjblamfbmoeaaGreatDoor

/-! Walks: a runner: define at X, the directive's and the groups' steps at a #define. -/
set_option linter.unusedVariables false
set_option linter.unusedSimpArgs false
namespace Go.Proofs.YtffjblamfbmoeaaGreatDoor
open Go Go.RowKit
attribute [local go_sem] Oper.semAt_some

set_option maxRecDepth 100000 in
set_option maxHeartbeats 8000000 in
theorem live_nil (w : World) : Calls Tryz.prog 49 #[.slice none 0 0] w fun e w' => e = .returned (.bool true) ∧ w' = w := by
  go_enter Tryz.func49, Tryz.ntmps49
  go_wp2
  go_ret
  exact ⟨rfl, rfl⟩

set_option maxRecDepth 100000 in
set_option maxHeartbeats 8000000 in
theorem step_def (GB : Nat) (b : Bool) (fv : Value) (w : World) (h : w.cell? ⟨GB, 0, none⟩ = some (.slice none 0 0)) : Calls Tryz.prog 46 #[.pointer (some ⟨GB, 0, none⟩), .string (bs defT), .bool b, fv] w fun e w' => e = .returned (.tuple #[.bool false, .int .i64 0]) ∧ w' = w := by
  have tl : (bs defT).toList = defT := bs_toList defT
  have wr1 : IntKind.i64.wrap (0 - 1) = -1 := by decide
  have e1 : (defT == [105, 102]) = false := by decide
  have e2 : (defT == [105, 102, 100, 101, 102]) = false := by decide
  have e3 : (defT == [105, 102, 110, 100, 101, 102]) = false := by decide
  have e4 : (defT == [101, 108, 105, 102]) = false := by decide
  have e5 : (defT == [101, 108, 115, 101]) = false := by decide
  have e6 : (defT == [101, 110, 100, 105, 102]) = false := by decide
  go_enter Tryz.func46, Tryz.ntmps46
  go_wp2
  go_ret2
  exact ⟨rfl, rfl⟩

theorem MX.ne {w : World} (h : MX w) {z : Nat} {o : Obj} (hl : w.heap[z]? = some o) (ho : o.isCells = false) : z ≠ 0 := by
  rintro rfl
  obtain ⟨m, h⟩ := h
  unfold World.cell? at h
  simp only [hl] at h
  cases o <;> simp_all [Obj.isCells]

set_option maxRecDepth 100000 in
set_option maxHeartbeats 8000000 in
theorem define_X (RB Mm Ml c : Nat) (fuel : Int) (tx out : Value) (A : Option Addr) (t1 t2 : Tp.Tok) (w : World) (hR : Rn w RB Mm Ml fuel tx out) (hM : MN w Mm) (hmx : MX w) (hc : 2 ≤ c) (h : Rd w 5 A 2 (tkcs [t1, t2])) (h1 : t1.k = 1 ∧ t1.x = [88]) (h2 : t2.k = 2 ∧ t2.x = [49] ∧ t2.s = true) :
    Calls Tryz.prog 70 #[.pointer (some ⟨RB, 0, none⟩), .slice A 2 c] w fun e w' => e = .returned (.int .i64 0) ∧ MO w' Mm ∧ KpB Mm w.heap.size w w' ∧ ∀ m, m ≤ Mm → m ≤ w.heap.size → Below m w w' := by
  have DX := Define_X A c t1 t2 w hc h h1 h2
  unfold mvX at DX
  have DX := Lib.hid DX
  obtain ⟨c1, hM⟩ := hM
  have HR := Lib.hid hR
  have HM := Lib.hid hM
  have HMX := Lib.hid hmx
  have hml := (Array.getElem?_eq_some_iff.1 hM).1
  have hrl := hR.cells.2.2.2.2.2.2
  clear hR hM h hmx
  go_enter Tryz.func70, Tryz.ntmps70
  go_wp2_with (first
    | (go_at_call 19
       (with_reducible refine DX.out.mono ?_)
       rintro e w1 ⟨A', c', rfl, ho1, hb1⟩))
  have hs1 := hb1.size
  have hc1 : 1 ≤ c' := by obtain ⟨_, _, e, h1, _⟩ := own_form ho1; cases e; exact h1
  obtain ⟨w2, hw2⟩ : ∃ w2, w1.alloc (.cells #[.string (bs [88]), .bool false, .slice none 0 0, .bool false, .slice A' 1 c'] 25) = w2 := ⟨_, rfl⟩
  rw [hw2]
  have hb2 : Below w1.heap.size w1 w2 := by rw [← hw2]; exact (Below.refl _ _).alloc (Nat.le_refl _) _
  have q2 : w2.heap[w1.heap.size]? = some (.cells #[.string (bs [88]), .bool false, .slice none 0 0, .bool false, .slice A' 1 c'] 25) := by rw [← hw2]; exact heap_alloc_new w1 _
  have hbw2 := hb1.trans (hb2.mono hs1)
  have hrd2 := (Rd.of_own ho1).later hb2
  obtain ⟨M5, hM5⟩ : ∃ M5, w1.heap.size = M5 := ⟨_, rfl⟩
  rw [hM5] at q2 hs1 ⊢
  have HB2 := Lib.hid hbw2
  have HRD2 := Lib.hid hrd2
  have HQ2 := Lib.hid q2
  have l5 : M5 < w2.heap.size := (Array.getElem?_eq_some_iff.1 q2).1
  have s0 := Lib.cell_of_heap q2 0
  simp only [List.getElem?_toArray, List.getElem?_cons_zero, List.getElem?_cons_succ] at s0
  have r2 := (HR.out.below hbw2).cells.1
  have m2 := (hbw2.block Mm hml).trans HM.out
  have lr : RB < w2.heap.size := by omega
  have lm : Mm < w2.heap.size := by omega
  have LG := fun (W' : World) (h : W'.heap[Mm]? = some (.map #[] c1)) => map_none (P := Tryz.prog) (x := bs [88]) Tryz.underlying62 Tryz.underlying9 (zeroMac W') h
  have K2 := Lib.hid (show ∀ W, Below w2.heap.size w2 W → W.cell? ⟨RB, 2, none⟩ = some (.map (some Mm)) ∧ W.cell? ⟨M5, 0, none⟩ = some (.string (bs [88])) ∧ W.heap[Mm]? = some (.map #[] c1) from fun W hb => ⟨(hb.cell (p := ⟨RB, 2, none⟩) lr).trans r2, (hb.cell (p := ⟨M5, 0, none⟩) l5).trans s0, (hb.block Mm lm).trans m2⟩)
  clear hw2 hb1 hb2 hM5 hbw2 ho1 hrd2 q2
  go_wp2
  go_region_held3 (fun w' => w'.cell? ⟨RB, 2, none⟩ = some (.map (some Mm)) ∧ w'.cell? ⟨M5, 0, none⟩ = some (.string (bs [88])) ∧ w'.heap[Mm]? = some (.map #[] c1)) (first | ((try dsimp only); (refine K2.out _ ?_); (first | (exact (Below.refl _ _).drew) | (exact ((Below.refl _ _).drew.alloc (Nat.le_refl _) _)) | (exact ((Below.refl _ _).alloc (Nat.le_refl _) _).drew)))) (fail)
  all_goals
    clear LG
    obtain ⟨w3, hw3⟩ : ∃ w3, (w2.alloc (.cells #[.string ⟨#[]⟩, .bool false, .slice none 0 0, .bool false, .slice none 0 0] 25)).drew = w3 := ⟨_, rfl⟩
    rw [hw3]
    have hb3 : Below w2.heap.size w2 w3 := by rw [← hw3]; exact ((Below.refl _ _).alloc (Nat.le_refl _) _).drew
    clear hw3
    have hs3 := hb3.size
    have hs2 := HB2.out.size
    have HB3 := Lib.hid hb3
    clear hb3
    go_wp2
    refine wp_region_still_tail 7 (by kernel_rfl) (by kernel_rfl) ?_
    obtain ⟨wd, hwd⟩ : ∃ wd, ({ w3 with drawn := w3.drawn + 1 } : World) = wd := ⟨_, rfl⟩
    rw [hwd]
    have bd : Below w3.heap.size w3 wd := by rw [← hwd]; exact (Below.refl _ _).drew
    clear hwd
    have b2d := HB3.out.trans (bd.mono hs3)
    obtain ⟨y0, _, y2⟩ := K2.out wd b2d
    have qd := (b2d.block M5 l5).trans HQ2.out
    have z0 := Lib.cell_of_heap qd 0
    have z1 := Lib.cell_of_heap qd 1
    have z2 := Lib.cell_of_heap qd 2
    have z3 := Lib.cell_of_heap qd 3
    have z4 := Lib.cell_of_heap qd 4
    simp only [List.getElem?_toArray, List.getElem?_cons_zero, List.getElem?_cons_succ] at z0 z1 z2 z3 z4
    have BD := Lib.hid b2d
    have Y2 := Lib.hid y2
    have QD := Lib.hid qd
    have sd := b2d.size
    clear bd b2d y2 qd s0 r2
    simp only [List.take_succ_cons, List.take_zero, List.drop_succ_cons, List.drop_zero]
    repeat still_step
    refine wpStill_nil ?_
    refine wpList_mapUpdate_run wd _ rfl (.tmp 37) (.tmp 39) (.tmp 40) 62 rfl (.map (some Mm)) (.string (bs [88])) (mvX A' c') rfl rfl rfl (map_put Tryz.underlying62 Tryz.underlying9 Y2.out) ?_
    simp only [Act.put]
    obtain ⟨w6, hw6⟩ : ∃ w6, wd.putObj Mm (.map #[{ key := .string (bs [88]), val := mvX A' c', born := c1 }] (c1 + 1)) = w6 := ⟨_, rfl⟩
    have hM6 : w6.heap[Mm]? = some (.map #[{ key := .string (bs [88]), val := mvX A' c', born := c1 }] (c1 + 1)) := by rw [← hw6]; exact World.putObj_heap_same (by omega)
    have h6 : ∀ k, k ≠ Mm → w6.heap[k]? = wd.heap[k]? := fun k hk => by rw [← hw6]; exact World.putObj_heap_other hk
    have s6 : w6.heap.size = wd.heap.size := by rw [← hw6]; simp
    have bl6 : ∀ m, m ≤ Mm → Below m wd w6 := fun m hm => by rw [← hw6]; exact (Below.refl m wd).trans ⟨rfl, rfl, rfl, by simp, fun k hk => World.putObj_heap_other (by omega)⟩
    have r6 : Rd w6 4 A' 1 (ptcs [xM]) := by rw [← hw6]; exact (HRD2.out.later BD.out).put (by decide) _ Y2.out rfl
    have q6 := (h6 M5 (by omega)).trans QD.out
    have hmx6 : MX w6 := (HMX.out.later (HB2.out.trans (BD.out.mono hs2))).same (h6 0 (fun e => (HMX.out.ne HM.out rfl) e.symm))
    rw [hw6]
    clear hw6
    have TX := Text_X A' c' w6 hc1 hmx6 r6
    unfold mvX at TX
    have TX := Lib.hid TX
    have o0 := Lib.cell_of_heap q6 0
    have o1 := Lib.cell_of_heap q6 1
    have o2 := Lib.cell_of_heap q6 2
    have o3 := Lib.cell_of_heap q6 3
    have o4 := Lib.cell_of_heap q6 4
    simp only [List.getElem?_toArray, List.getElem?_cons_zero, List.getElem?_cons_succ] at o0 o1 o2 o3 o4
    have HM6 := Lib.hid hM6
    have H6 := Lib.hid h6
    have S6 := Lib.hid s6
    have BL6 := Lib.hid bl6
    have R6 := Lib.hid r6
    clear hM6 h6 s6 bl6 r6 q6 hmx6 y0 z0 z1 z2 z3 z4
    go_wp2_with (first
      | (go_at_call 8
         (with_reducible refine TX.out.mono ?_)
         rintro e w7 ⟨rfl, hb7⟩))
    go_ret
    have s6 := S6.out
    have s7 := hb7.size
    have hww := HB2.out.trans (BD.out.mono hs2)
    refine ⟨rfl, ⟨A', c', c1, c1 + 1, hc1, (hb7.block Mm (by omega)).trans HM6.out, R6.out.later hb7⟩, ⟨by omega, fun k hk1 hk2 => ?_⟩, fun m hm1 hm2 => ?_⟩
    · exact (hb7.block k (by omega)).trans ((H6.out k hk2).trans (hww.block k hk1))
    · exact ((hww.mono hm2).trans (BL6.out m hm1)).trans (hb7.mono (by omega))

set_option maxRecDepth 100000 in
set_option maxHeartbeats 8000000 in
theorem directive_X (RB Mm Ml c : Nat) (fuel : Int) (tx out : Value) (A : Option Addr) (t1 t2 : Tp.Tok) (w : World) (hR : Rn w RB Mm Ml fuel tx out) (hM : MN w Mm) (hmx : MX w) (hc : 2 ≤ c) (h : Rd w 5 A 2 (tkcs [t1, t2])) (h1 : t1.k = 1 ∧ t1.x = [88]) (h2 : t2.k = 2 ∧ t2.x = [49] ∧ t2.s = true) :
    Calls Tryz.prog 50 #[.pointer (some ⟨RB, 0, none⟩), .string (bs defT), .slice A 2 c] w fun e w' => e = .returned (.int .i64 0) ∧ MO w' Mm ∧ KpB Mm w.heap.size w w' ∧ ∀ m, m ≤ Mm → m ≤ w.heap.size → Below m w w' := by
  have DX := Lib.hid (define_X RB Mm Ml c fuel tx out A t1 t2 w hR hM hmx hc h h1 h2)
  have tl : (bs defT).toList = defT := bs_toList defT
  have e1 : (defT == [100, 101, 102, 105, 110, 101]) = true := by decide
  clear hR hM hmx h
  go_enter Tryz.func50, Tryz.ntmps50
  go_wp2_with (first
    | (go_at_call 70
       (with_reducible refine DX.out.mono ?_)
       rintro e w1 ⟨rfl, hd⟩))
  go_ret
  exact ⟨rfl, hd⟩
end Go.Proofs.YtffjblamfbmoeaaGreatDoor

/-! Walks: a text as it is run: read. -/
set_option linter.unusedVariables false
set_option linter.unusedSimpArgs false
namespace Go.Proofs.YtffjblamfbmoeaaGreatDoor
open Go Go.RowKit
attribute [local go_sem] Oper.semAt_some

/-- A text's rows and their contents, at a block; all lies from base on. -/
def TxAt (base : Nat) (W : World) (TB : Nat) (R : List Tp.Row) : Prop := base ≤ TB ∧ ∃ vr vs ps ss, W.heap[TB]? = some (.cells #[vr, vs, .int .i64 0] 119 (0, 0)) ∧
  W.ownsRow base 45 3 vr R.length (rwcs ps) ∧ ps.map (·.1) = R ∧ W.ownsRow base 39 1 vs R.length ss ∧
  (∀ (i : Nat) r v, R[i]? = some r → ss[i]? = some v → W.ownsRow base 85 5 v (Tp.says r).length (tkcs (Tp.says r))) ∧ ∀ p ∈ ps, ∃ A n c, p.2 = .slice A n c
theorem own_kp {W W' : World} {base : Nat} {e : TypeId} {sz n : Nat} {v : Value} {xs : List Value} (h : W.ownsRow base e sz v n xs) (hk : ∀ k, base ≤ k → k < W.heap.size → W'.heap[k]? = W.heap[k]?) : W'.ownsRow base e sz v n xs := by
  obtain ⟨h0, h⟩ := h
  refine ⟨h0, ?_⟩
  rcases h with h | ⟨g, cap, cur, h1, h2, h3, h4⟩
  · exact .inl h
  · exact .inr ⟨g, cap, cur, h1, h2, (hk g h2 (Array.getElem?_eq_some_iff.1 h3).1).trans h3, h4⟩
theorem own_kt {W W' : World} {base : Nat} {e : TypeId} {sz n : Nat} {v : Value} {xs : List Value} {Ts : List TypeId} (h : W.ownsRow base e sz v n xs) (hk : KpT Ts W W') (he : e ∈ Ts) : W'.ownsRow base e sz v n xs := by
  obtain ⟨h0, h⟩ := h
  refine ⟨h0, ?_⟩
  rcases h with h | ⟨g, cap, cur, h1, h2, h3, h4⟩
  · exact .inl h
  · exact .inr ⟨g, cap, cur, h1, h2, hk _ _ _ _ he h3, h4⟩
theorem TxAt.kp {base TB : Nat} {W W' : World} {R : List Tp.Row} (h : TxAt base W TB R) (hk : ∀ k, base ≤ k → k < W.heap.size → W'.heap[k]? = W.heap[k]?) : TxAt base W' TB R := by
  obtain ⟨h0, vr, vs, ps, ss, h1, h2, h3, h4, h5, h6⟩ := h
  exact ⟨h0, vr, vs, ps, ss, (hk TB h0 (Array.getElem?_eq_some_iff.1 h1).1).trans h1, own_kp h2 hk, h3, own_kp h4 hk, fun i r v hr hv => own_kp (h5 i r v hr hv) hk, h6⟩

/-- What a round starts from: the contents of i rows have come. -/
def RdI (w : World) (TB : Nat) (vr : Value) (ps : List (Tp.Row × Value)) (i : Nat) (W : World) : Prop :=
  Below w.heap.size w W ∧ w.heap.size ≤ TB ∧ W.ownsRow w.heap.size 45 3 vr ps.length (rwcs ps) ∧ RwO w.heap.size ps W ∧
    ∃ vs ss, W.heap[TB]? = some (.cells #[vr, vs, .int .i64 0] 119 (0, 0)) ∧ W.ownsRow w.heap.size 39 1 vs i ss ∧
      ∀ (j : Nat) p v, ps[j]? = some p → ss[j]? = some v → W.ownsRow w.heap.size 85 5 v (Tp.says p.1).length (tkcs (Tp.says p.1))
theorem stInfo : (Tryz.prog.info? 39).map (fun i => (i.zero, i.size, i.bytes)) = some (some (.slice none 0 0), 1, 24) := by kernel_rfl

set_option maxRecDepth 100000 in
set_option maxHeartbeats 8000000 in
theorem read_any (t : Tp.T) (w : World) (hl : t.length ≤ 1000000) (hmx : MX w) (hs : (Tp.scan t).2 = 0) (hq : ∀ r ∈ Tp.rows (Tp.scan t).1, r.d = false ∨ r.n = defT) (hrl : (Tp.rows (Tp.scan t).1).length ≤ 1000000) (hll : ∀ r ∈ Tp.rows (Tp.scan t).1, r.l.length ≤ 1000000) (htl : (Tp.scan t).1.length ≤ 1000000) :
    Calls Tryz.prog 23 #[.string (bs t)] w fun e w' => ∃ TB, e = .returned (.pointer (some ⟨TB, 0, none⟩)) ∧ TxAt w.heap.size w' TB (Tp.rows (Tp.scan t).1) ∧ Below w.heap.size w w' := by
  obtain ⟨i0, hi, hz0, hz1, hz2⟩ := info_parts stInfo
  have SC := Scan_any t w hl hmx
  unfold ScP at SC
  rw [hs] at SC
  have SC := Lib.hid SC
  obtain ⟨K, hK⟩ : ∃ K, (Tp.scan t).1 = K := ⟨_, rfl⟩
  rw [hK] at hq hrl hll htl SC ⊢
  obtain ⟨nk, hnk⟩ : ∃ nk, K.length = nk := ⟨_, rfl⟩
  rw [hnk] at SC htl
  have HNK := Lib.hid hnk
  have HQ := Lib.hid hq
  have HLL := Lib.hid hll
  clear hK hq hs hmx hll
  go_enter Tryz.func23, Tryz.ntmps23
  go_wp2_with (first
    | (go_at_call 11
       (with_reducible refine SC.out.mono ?_)
       rintro e w1 ⟨v1, rfl, ho1, hb1⟩
       obtain ⟨A1, c1, rfl, hc1, hr1⟩ := own_form ho1
       have hcm1 := own_cap ho1
       clear ho1)
    | (go_at_call 12
       (with_reducible refine (Rows_any A1 nk c1 K w1 hc1 hcm1 (by rw [HNK.out]; exact htl) hr1).mono ?_)
       rintro e w2 ⟨v2, ps, rfl, ho2, hps, hrwo, hb2⟩
       have hbw2 := hb1.trans (hb2.mono hb1.size)
       have ho2w := own_base ho2 hb1.size
       have hrwo2 : RwO w.heap.size ps w2 := fun p hp => own_base (hrwo p hp) hb1.size
       have hpl : ps.length = (Tp.rows K).length := by rw [← hps, List.length_map]
       obtain ⟨np, hnp⟩ : ∃ np, ps.length = np := ⟨_, rfl⟩
       rw [hnp] at ho2w hpl
       obtain ⟨A2, c2, rfl, hc2, hr2⟩ := own_form ho2w
       have HO2 := Lib.hid ho2w
       have HRW := Lib.hid hrwo2
       have HPS := Lib.hid hps
       have HNP := Lib.hid hnp
       have HPL := Lib.hid hpl
       have HB2 := Lib.hid hbw2
       clear ho2 hrwo hb2 hb1 hr1 ho2w hrwo2 hps hbw2 hnp hpl hr2)
    | (go_at_call 52
       have hq2 : ∀ p ∈ ps, (p.1.d = false ∨ p.1.n = defT) ∧ ∃ A2 n2 c2, p.2 = .slice A2 n2 c2 := fun p hp => ⟨HQ.out p.1 (by rw [← HPS.out]; exact List.mem_map_of_mem hp), by obtain ⟨A', c', e, _⟩ := own_form (HRW.out p hp); exact ⟨_, _, _, e⟩⟩
       have hr3 : Rd (w2.alloc (.cells #[.slice A2 np c2, .slice none 0 0, .int .i64 0] 119)) 3 A2 np (rwcs ps) := (Rd.of_own HO2.out).later ((Below.refl _ _).alloc (Nat.le_refl _) _)
       (with_reducible refine (Depths_ok A2 np c2 ps _ hc2 (by rw [HNP.out, HPL.out]; exact hrl) hr3 hq2).mono ?_)
       rintro e w4 ⟨v4, rfl, hb4⟩
       have hs4 := hb4.size
       simp only [World.size_alloc] at hs4
       have k4 := (hb4.block w2.heap.size (by simp)).trans (heap_alloc_new w2 _)
       have HB4 := Lib.hid (((Below.refl w2.heap.size w2).alloc (Nat.le_refl _) (.cells #[.slice A2 np c2, .slice none 0 0, .int .i64 0] 119)).trans (hb4.mono (by simp)))
       have z0 := Lib.cell_of_heap k4 0
       have z2 := Lib.cell_of_heap k4 2
       have zf2 := Lib.frozen_of_heap k4 2
       have zl := (Array.getElem?_eq_some_iff.1 k4).1
       simp only [List.getElem?_toArray, List.getElem?_cons_zero, List.getElem?_cons_succ] at z0 z2
       have K4 := Lib.hid k4
       clear hb4 k4 hr3 hq2))
  have hrow4 : w4.ownsRow w.heap.size 45 3 (.slice A2 np c2) np (rwcs ps) := own_later HO2.out HB4.out
  have hrwo4 : RwO w.heap.size ps w4 := HRW.out.later HB4.out
  obtain ⟨TB, hTB⟩ : ∃ TB, w2.heap.size = TB := ⟨_, rfl⟩
  have hwT : w.heap.size ≤ TB := by rw [← hTB]; exact HB2.out.size
  have hb4 : Below w.heap.size w w4 := HB2.out.trans (HB4.out.mono (by omega))
  have k4 := K4.out
  rw [hTB] at k4 ⊢
  have HTB := Lib.hid hTB
  obtain ⟨w5, hw5⟩ : ∃ w5, w4.setCell ⟨TB, 2, none⟩ (.int .i64 0) = w5 := ⟨_, rfl⟩
  rw [hw5]
  have k5 : w5.heap[TB]? = some (.cells #[.slice A2 np c2, .slice none 0 0, .int .i64 0] 119 (0, 0)) := by rw [← hw5]; exact heap_setCell_same _ _ 2 _ _ _ k4
  have nT : ∀ {e : TypeId} {sz n : Nat} {v : Value} {xs : List Value}, e ≠ 119 → w4.ownsRow w.heap.size e sz v n xs → v.ownBlock ≠ some TB := fun he h e' => by
    rcases h.2 with ⟨e1, _⟩ | ⟨g', _, _, e1, _, h', _⟩
    · rw [e1] at e'; simp [Value.ownBlock] at e'
    · rw [e1] at e'; simp only [Value.ownBlock, Option.some.injEq] at e'; subst e'; rw [h'] at k4; cases k4; exact he rfl
  have hI : RdI w TB (.slice A2 np c2) ps 0 w5 := by
    refine ⟨by rw [← hw5]; exact hb4.setCell (p := ⟨TB, 2, none⟩) hwT _, hwT, ?_, fun p hp => ?_, _, [], k5, World.ownsRow_nil _ _ _ _, fun j p v _ h => by simp at h⟩
    · rw [HNP.out, ← hw5]
      exact hrow4.kept (grownBy_setR w4 TB 2 _) (.inr (nT (by decide) hrow4))
    · rw [← hw5]
      exact (hrwo4 p hp).kept (grownBy_setR w4 TB 2 _) (.inr (nT (by decide) (hrwo4 p hp)))
  clear hw5 k5 nT k4 hb4 hrow4 hrwo4 hTB z0 z2 zf2 zl
  have hnpl : np ≤ 1000000 := by rw [HPL.out]; exact hrl
  go_loopw [44] (fun z wr => ∃ i : Nat, i ≤ np ∧ z = .int .i64 i ∧ RdI w TB (.slice A2 np c2) ps i wr) (fun z _ => np - (intOf z).toNat)
  case atStart => exact ⟨0, Nat.zero_le _, rfl, hI⟩
  case round =>
    obtain ⟨i, hin, rfl, hb, _, hrow, hrwo, vs, ss, hk, hvs, hss⟩ := hrel
    obtain ⟨wq, rfl⟩ : ∃ wq : World, wq = wr := ⟨_, rfl⟩
    by_cases hlt : i < np
    · obtain ⟨p, hp⟩ : ∃ p, ps[i]? = some p := ⟨_, List.getElem?_eq_getElem (by rw [HNP.out]; exact hlt)⟩
      rw [HNP.out] at hrow
      obtain ⟨b, o, rfl, hbl, d0, d1, d2⟩ := (Rd.of_own hrow).rw hp
      have hpm := List.mem_of_getElem? hp
      have hop := hrwo p hpm
      obtain ⟨A5, c5, e5, hc5, hr5⟩ := own_form hop
      rw [e5] at d2
      obtain ⟨n5, hn5⟩ : ∃ n5, p.1.l.length = n5 := ⟨_, rfl⟩
      rw [hn5] at d2 hc5 hr5
      obtain ⟨As, cs, rfl, hcs, _⟩ := own_form hvs
      have hsq := hb.size
      have hkl := (Array.getElem?_eq_some_iff.1 hk).1
      obtain ⟨w6, hw6⟩ : ∃ w6, wq.alloc (.cells #[.bool p.1.d, .string (bs p.1.n), .slice A5 n5 c5] 45) = w6 := ⟨_, rfl⟩
      have b6 : Below wq.heap.size wq w6 := by rw [← hw6]; exact (Below.refl _ _).alloc (Nat.le_refl _) _
      have k6 : w6.heap[wq.heap.size]? = some (.cells #[.bool p.1.d, .string (bs p.1.n), .slice A5 n5 c5] 45) := by rw [← hw6]; exact heap_alloc_new wq _
      have SY := Lib.hid (fun (W : World) (h : Rd W 5 A5 n5 (tkcs p.1.l)) => Says_any p.1.d p.1.n p.1.l A5 n5 c5 W hc5 (HLL.out p.1 (by rw [← HPS.out]; exact List.mem_map_of_mem hpm)) h)
      have HW6 := Lib.hid hw6
      have HB6 := Lib.hid b6
      have HK6 := Lib.hid k6
      have HK := Lib.hid hk
      have HVS := Lib.hid hvs
      have HSS := Lib.hid hss
      have HROW := Lib.hid hrow
      have HRWO := Lib.hid hrwo
      have HBQ := Lib.hid hb
      have HR5 := Lib.hid hr5
      have HP := Lib.hid hp
      have HN5 := Lib.hid hn5
      obtain ⟨qd, hqd⟩ : ∃ qd, p.1.d = qd := ⟨_, rfl⟩
      obtain ⟨qn, hqn⟩ : ∃ qn, p.1.n = qn := ⟨_, rfl⟩
      rw [hqd, hqn] at HW6 HK6 SY
      rw [hqd] at d0
      rw [hqn] at d1
      have HQD := Lib.hid hqd
      have HQN := Lib.hid hqn
      clear hw6 b6 k6 hk hvs hss hrow hrwo hb hr5 hp hn5 hop e5 hpm hqd hqn
      go_wp2
      rw [HW6.out]
      have k6 := HK6.out
      have bd : Below w6.heap.size w6 w6.drew := (Below.refl _ _).drew
      have KEEP := Lib.hid (show ∀ W, Below wq.heap.size w6 W → (w6.heap.size ≤ W.heap.size → True) → W.cell? ⟨TB, 1, none⟩ = some (.slice As i cs) from fun W hbW _ => by
        have := (hbW.block TB hkl).trans ((HB6.out.block TB hkl).trans HK.out)
        exact Lib.cell_of_heap this 1)
      obtain ⟨S, hS⟩ : ∃ S : World → Prop, S = (fun w' => w'.cell? ⟨TB, 1, none⟩ = some (.slice As i cs) ∧ w'.cell? ⟨wq.heap.size, 0, none⟩ = some (.bool qd) ∧ w'.cell? ⟨wq.heap.size, 1, none⟩ = some (.string (bs qn)) ∧ w'.cell? ⟨wq.heap.size, 2, none⟩ = some (.slice A5 n5 c5)) := ⟨_, rfl⟩
      have HS := Lib.hid hS
      have SB := Lib.hid (show ∀ W, Below w6.heap.size w6 W → S W from fun W hbW => by
        have h1 := (hbW.block TB (by have := HB6.out.size; omega)).trans ((HB6.out.block TB hkl).trans HK.out)
        have h2 := (hbW.block wq.heap.size (Array.getElem?_eq_some_iff.1 k6).1).trans k6
        rw [hS]
        exact ⟨Lib.cell_of_heap h1 1, Lib.cell_of_heap h2 0, Lib.cell_of_heap h2 1, Lib.cell_of_heap h2 2⟩)
      clear hS KEEP k6
      refine wp_region_G S 9 (by kernel_rfl) (SB.out _ bd) (fun hHeld => ?_)
      refine wpAnyG_take (i := 0) (v := ?_) rfl (by kernel_rfl) (by kernel_rfl) (by kernel_rfl) (by kernel_rfl) (by decide) (by kernel_rfl) (fun _ _ _ h => h) (Or.inl ⟨by rfl, ?_⟩) (by assumption) ?_
      rotate_left
      · intro w hSw
        rw [HS.out] at hSw
        (try dsimp only at hSw)
        go_simp
        all_goals (with_reducible rfl)
      try simp only [List.getElem_toArray, List.getElem_cons_succ, List.getElem_cons_zero, Act.put, List.setIfInBounds_toArray, List.set_cons_zero, List.set_cons_succ]
      refine wpAnyG_take (i := 1) (v := ?_) rfl (by kernel_rfl) (by kernel_rfl) (by kernel_rfl) (by kernel_rfl) (by decide) (by kernel_rfl) (fun _ _ _ h => h) (Or.inl ⟨by rfl, ?_⟩) (by assumption) ?_
      rotate_left
      · intro w hSw
        rw [HS.out] at hSw
        (try dsimp only at hSw)
        go_simp
        all_goals (with_reducible rfl)
      try simp only [List.getElem_toArray, List.getElem_cons_succ, List.getElem_cons_zero, Act.put, List.setIfInBounds_toArray, List.set_cons_zero, List.set_cons_succ]
      refine wpAnyG_take (i := 2) (v := ?_) rfl (by kernel_rfl) (by kernel_rfl) (by kernel_rfl) (by kernel_rfl) (by decide) (by kernel_rfl) (fun _ _ _ h => h) (Or.inl ⟨by rfl, ?_⟩) (by assumption) ?_
      rotate_left
      · intro w hSw
        rw [HS.out] at hSw
        (try dsimp only at hSw)
        go_simp
        all_goals (with_reducible rfl)
      try simp only [List.getElem_toArray, List.getElem_cons_succ, List.getElem_cons_zero, Act.put, List.setIfInBounds_toArray, List.set_cons_zero, List.set_cons_succ]
      refine wpAnyG_take (i := 3) (v := ?_) rfl (by kernel_rfl) (by kernel_rfl) (by kernel_rfl) (by kernel_rfl) (by decide) (by kernel_rfl) (fun _ _ _ h => h) (Or.inl ⟨by rfl, ?_⟩) (by assumption) ?_
      rotate_left
      · intro w hSw
        rw [HS.out] at hSw
        (try dsimp only at hSw)
        go_simp
        all_goals (with_reducible rfl)
      try simp only [List.getElem_toArray, List.getElem_cons_succ, List.getElem_cons_zero, Act.put, List.setIfInBounds_toArray, List.set_cons_zero, List.set_cons_succ]
      refine wpAnyG_take (i := 4) (v := ?_) rfl (by kernel_rfl) (by kernel_rfl) (by kernel_rfl) (by kernel_rfl) (by decide) (by kernel_rfl) (fun _ _ _ h => h) (Or.inl ⟨by rfl, ?_⟩) (by assumption) ?_
      rotate_left
      · intro w hSw
        rw [HS.out] at hSw
        (try dsimp only at hSw)
        go_simp
        all_goals (with_reducible rfl)
      try simp only [List.getElem_toArray, List.getElem_cons_succ, List.getElem_cons_zero, Act.put, List.setIfInBounds_toArray, List.set_cons_zero, List.set_cons_succ]
      refine wpAnyG_take (i := 5) (v := ?_) rfl (by kernel_rfl) (by kernel_rfl) (by kernel_rfl) (by kernel_rfl) (by decide) (by kernel_rfl) (fun _ _ _ h => h) (Or.inl ⟨by rfl, ?_⟩) (by assumption) ?_
      rotate_left
      · intro w hSw
        rw [HS.out] at hSw
        (try dsimp only at hSw)
        go_simp
        all_goals (with_reducible rfl)
      try simp only [List.getElem_toArray, List.getElem_cons_succ, List.getElem_cons_zero, Act.put, List.setIfInBounds_toArray, List.set_cons_zero, List.set_cons_succ]
      refine G_one (i := 6) rfl (by kernel_rfl) (by rfl) ?_
      try simp only [List.getElem_toArray, List.getElem_cons_succ, List.getElem_cons_zero]
      go_simp
      have b6d : Below w6.heap.size w6 w6.drew := (Below.refl _ _).drew
      (with_reducible refine (SY.out w6.drew (HR5.out.later (HB6.out.trans (b6d.mono HB6.out.size)))).mono ?_)
      rintro e w7 ⟨v7, rfl, ho7, hb7⟩
      obtain ⟨n7, hn7⟩ : ∃ n7, (Tp.says ⟨qd, qn, p.1.l⟩).length = n7 := ⟨_, rfl⟩
      rw [hn7] at ho7
      obtain ⟨A7, c7, rfl, hc7, _⟩ := own_form ho7
      have b67 : Below w6.heap.size w6 w7 := b6d.trans hb7
      have aT := (Below.refl w7.heap.size w7).alloc (Nat.le_refl _) (.cells #[.slice A7 n7 c7] 39)
      have b6T := b67.trans (aT.mono b67.size)
      have HN7 := Lib.hid hn7
      have HO7 := Lib.hid ho7
      clear ho7 hn7 hb7
      refine ⟨SB.out w7 b67, ?_⟩
      try simp only [List.getElem_toArray, List.getElem_cons_succ, List.getElem_cons_zero, Act.put, List.setIfInBounds_toArray, List.set_cons_zero, List.set_cons_succ]
      refine G_one (i := 7) rfl (by kernel_rfl) (by rfl) ?_
      try simp only [List.getElem_toArray, List.getElem_cons_succ, List.getElem_cons_zero]
      go_simp
      refine ⟨SB.out _ b6T, ?_⟩
      have oT : (w7.alloc (.cells #[.slice A7 n7 c7] 39)).ownsRow w.heap.size 39 1 (.slice As i cs) i ss := own_later (own_later HVS.out HB6.out) b6T
      refine G_one (i := 8) rfl (by kernel_rfl) (by rfl) ?_
      refine wp_append_own _ (.tmp 52) (.tmp 55) 117 rfl w.heap.size 39 i0 _ 1 24 Tryz.underlying117 hi hz0 hz1 hz2 rfl (by decide) (.slice As i cs) i _ rfl oT ⟨w7.heap.size, 0, none⟩ 1 1 [.slice A7 n7 c7] rfl rfl (cellsN_new w7 _ _) (by simp [Value.oneCell']) (by unfold maxLen; omega) (by omega) (by have h1 := b67.size; have h2 := HB6.out.size; simp; omega) ?_
      intro v8 w8 hown8 hgrow _
      obtain ⟨A8, c8, rfl, _, _⟩ := own_form hown8
      have K68 : KpT [45, 85, 119] w6 w8 := (KpT.below b6T).trans (KpT.own oT hgrow (by decide))
      have Kq8 := (KpT.below (Ts := [45, 85, 119]) HB6.out).trans K68
      have hT8 := Kq8 TB _ _ _ (by decide) HK.out
      have hR8 := K68 wq.heap.size _ _ _ (by decide) HK6.out
      have S8 : S w8 := by
        rw [HS.out]
        exact ⟨Lib.cell_of_heap hT8 1, Lib.cell_of_heap hR8 0, Lib.cell_of_heap hR8 1, Lib.cell_of_heap hR8 2⟩
      refine ⟨fun _ => S8, ?_⟩
      try simp only [List.getElem_toArray, List.getElem_cons_succ, List.getElem_cons_zero, Act.put, List.setIfInBounds_toArray, List.set_cons_zero, List.set_cons_succ]
      refine G_tail rfl (by kernel_rfl) (by kernel_rfl) ?_
      simp only [List.drop_succ_cons, List.drop_zero]
      have y1 := Lib.cell_of_heap hT8 1
      have yf := Lib.frozen_of_heap hT8 1
      have yl := (Array.getElem?_eq_some_iff.1 hT8).1
      simp only [List.getElem?_toArray, List.getElem?_cons_zero, List.getElem?_cons_succ] at y1
      go_wp2
      have hT9 := heap_setCell_same w8 TB 1 _ _ (.slice A8 (i + 1) c8) hT8
      have K89 : KpT [45, 85, 39] w8 (w8.setCell ⟨TB, 1, none⟩ (.slice A8 (i + 1) c8)) := KpT.set hT8 (by decide) _ _
      have Kq9 : KpT [45, 85] wq (w8.setCell ⟨TB, 1, none⟩ (.slice A8 (i + 1) c8)) := fun k c T f hT e => K89 k c T f (by simp only [List.mem_cons, List.not_mem_nil, or_false] at hT ⊢; rcases hT with h | h <;> simp [h]) (Kq8 k c T f (by simp only [List.mem_cons, List.not_mem_nil, or_false] at hT ⊢; rcases hT with h | h <;> simp [h]) e)
      have hsT := HB6.out.size
      have hs67 := b67.size
      have hB8 : Below w.heap.size w w8 := ((HBQ.out.trans (HB6.out.mono hsq)).trans (b6T.mono (by omega))).grown hgrow (by have := b6T.size; simp at this ⊢; omega) (fun z hz => (oT.lt z hz).1)
      have hlss : ss.length = i := by have := HVS.out.1; omega
      go_roundw
      case rel =>
        refine ⟨i + 1, by omega, by go_num, hB8.setCell (p := ⟨TB, 1, none⟩) hwT _, hwT, ?_, fun p' hp' => own_kt (HRWO.out p' hp') Kq9 (by decide), _, ss ++ [.slice A7 n7 c7], hT9, own_kt hown8 K89 (by decide), fun j p' v hp' hv => ?_⟩
        · rw [HNP.out]
          exact own_kt HROW.out Kq9 (by decide)
        · by_cases hji : j < i
          · rw [List.getElem?_append_left (by omega)] at hv
            exact own_kt (HSS.out j p' v hp' hv) Kq9 (by decide)
          · rw [List.getElem?_append_right (by omega)] at hv
            obtain rfl : j = i := by
              have := (List.getElem?_eq_some_iff.1 hv).1
              simp at this
              omega
            rw [hlss, Nat.sub_self] at hv
            simp only [List.getElem?_cons_zero, Option.some.injEq] at hv
            subst hv
            rw [HP.out] at hp'
            obtain rfl := Option.some.inj hp'
            have K78 : KpT [45, 85] w7 (w8.setCell ⟨TB, 1, none⟩ (.slice A8 (j + 1) c8)) := fun k c T f hT e => K89 k c T f (by simp only [List.mem_cons, List.not_mem_nil, or_false] at hT ⊢; rcases hT with h | h <;> simp [h]) (((KpT.below (Ts := [45, 85, 119]) aT).trans (KpT.own oT hgrow (by decide))) k c T f (by simp only [List.mem_cons, List.not_mem_nil, or_false] at hT ⊢; rcases hT with h | h <;> simp [h]) e)
            have h7 := own_kt HO7.out K78 (by decide)
            have hsy : Tp.says p.1 = Tp.says ⟨qd, qn, p.1.l⟩ := by rw [← HQD.out, ← HQN.out]
            rw [hsy, HN7.out]
            exact own_base h7 (by have : w6.drew.heap.size = w6.heap.size := rfl; omega)
      case measure => simp [intOf]; omega
    · obtain rfl : i = np := by omega
      go_wp2
      go_ret
      refine ⟨TB, rfl, ⟨hwT, .slice A2 i c2, vs, ps, ss, hk, ?_, HPS.out, ?_, fun j r v hr hv => ?_, fun p hp => by obtain ⟨A', c', e, _⟩ := own_form (hrwo p hp); exact ⟨_, _, _, e⟩⟩, hb⟩
      · rw [← HPL.out]
        rw [HNP.out] at hrow
        exact hrow
      · rw [← HPL.out]
        exact hvs
      · rw [← HPS.out, List.getElem?_map] at hr
        cases hp : ps[j]? with
        | none => rw [hp] at hr; cases hr
        | some p =>
          rw [hp] at hr
          obtain rfl := Option.some.inj hr
          exact hss j p v hp hv
end Go.Proofs.YtffjblamfbmoeaaGreatDoor
