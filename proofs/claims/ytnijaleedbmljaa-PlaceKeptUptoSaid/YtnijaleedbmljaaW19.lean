/- Walks: what is kept (the program's). -/
import Derived.Test.YtnijaleedbmljaaW18
set_option linter.unusedVariables false
set_option linter.unusedSimpArgs false
namespace Go.Proofs.Ytnijaleedbmljaa
open Go Go.RowKit Go.Shelf
attribute [local go_sem] Oper.semAt_some

theorem rgInfo : (Try.prog.info? 70).map (fun i => (i.zero, i.size, i.bytes)) = some (some (.agg #[.int .i64 0, .int .i64 0]), 2, 16) := by kernel_rfl

theorem two_at (w : World) (x y : Value) (t : TypeId) : ∀ j u, [x, y][j]? = some u → (w.alloc (.cells #[x, y] t)).cell? ((⟨w.heap.size, 0, none⟩ : Addr).add j) = some u := by
  intro j u hj
  match j, hj with
  | 0, hj => simp at hj; subst hj; simp [Addr.add]
  | 1, hj => simp at hj; subst hj; simp [Addr.add]
def kpTmps (s : ByteArray) (A : Option Addr) (ln c h1 : Nat) (v8 v16 : Value) : Array Value :=
  #[.string s, .slice A ln c, undef, undef, .slice none 0 0, .int .i64 0, .pointer (some ⟨h1, 0, none⟩), .pointer (some ⟨h1 + 1, 0, none⟩), v8, .string s, .slice A ln c, .bool true, .bool false, .string s, .slice A ln c, .func (.func 61) #[] #[.pointer (some ⟨h1 + 1 + 1, 0, none⟩), .pointer (some ⟨h1 + 1 + 1 + 1, 0, none⟩)], v16, undef, undef, undef, undef, undef, undef, undef, undef, undef, undef, undef, undef, undef, undef, undef, undef, undef, undef, undef, undef, undef, undef, undef, undef, undef, undef, undef, undef, undef, undef]

/-- What an append leaves of any block that is not of its row's kind. -/
theorem app_same {W w1 : World} {base e sz n : Nat} {v : Value} {xs : List Value} {o : Obj} (hrow : W.ownsRow base e sz v n xs) (hgrow : (W.alloc o).grownBy w1 v.ownBlock) {k : Nat} {ob : Obj} (hk : W.heap[k]? = some ob) (ht : ∀ c f, ob ≠ .cells c e f) : w1.heap[k]? = some ob := by
  have hlt := (Array.getElem?_eq_some_iff.1 hk).1
  refine (hgrow.block k (by simp; omega) (fun he => ?_)).trans ((Below.heap_alloc W o k hlt).trans hk)
  rcases hrow.2 with ⟨rfl, _⟩ | ⟨g, cap, cur, rfl, _, hh, _⟩
  · simp [Value.ownBlock] at he
  · simp only [Value.ownBlock, Option.some.injEq] at he
    subst he
    rw [hh] at hk
    exact ht cur _ (by simpa using hk.symm)
theorem bx_app {W w1 : World} {base e sz n b T : Nat} {v u : Value} {xs : List Value} {o : Obj} (hrow : W.ownsRow base e sz v n xs) (hgrow : (W.alloc o).grownBy w1 v.ownBlock) (hb : Bx W b T u) (hT : T ≠ e) : Bx w1 b T u :=
  app_same hrow hgrow hb (fun c f he => by simp only [Obj.cells.injEq] at he; exact hT he.2.1)
theorem kps_app {W w1 : World} {base e sz n N S : Nat} {v : Value} {xs : List Value} {o : Obj} (hrow : W.ownsRow base e sz v n xs) (hgrow : (W.alloc o).grownBy w1 v.ownBlock) (hN : N ≤ base) (hNW : N ≤ W.heap.size) (h3 : 3 ≠ e) (h4 : 80 ≠ e) : Kps N S W w1 := by
  refine ⟨⟨by have := hgrow.size; simp at this; omega, fun k hk => ?_⟩, fun k ob _ hk ⟨c, f, ht⟩ => app_same hrow hgrow hk (fun c' f' he => ?_)⟩
  · refine (hgrow.block k (by simp; omega) (fun he => ?_)).trans (Below.heap_alloc W o k (by omega))
    have := (hrow.lt k he.symm).1; omega
  · rcases ht with rfl | rfl <;> (simp only [Obj.cells.injEq] at he; first | exact h3 he.2.1 | exact h4 he.2.1)
theorem keeps_app {W w1 : World} {base e sz n : Nat} {v : Value} {xs : List Value} {o : Obj} (hrow : W.ownsRow base e sz v n xs) (hgrow : (W.alloc o).grownBy w1 v.ownBlock) : KeepsOthers W w1 :=
  (KeepsOthers.alloc W o).trans (KeepsOthers.of_grownBy hgrow (fun j o' hj ho' => by
    rcases (hrow.alloc o).2 with ⟨rfl, _⟩ | ⟨g, cap, cur, rfl, _, hg', _⟩
    · simp [Value.ownBlock] at hj
    · simp only [Value.ownBlock, Option.some.injEq] at hj
      subst hj
      rw [hg'] at ho'; cases ho'; rfl))

/-- What holds between the rounds of Kept. -/
def KpI (w : World) (h1 : Nat) (N : Int) (Sp pre : List Pl.Spot) (W : World) : Prop :=
  ∃ (v : Value) (out : List (Int × Int)) (f : Int), Bx W h1 33 v ∧ W.ownsRow (h1 + 4) 70 2 v out.length (rgcs out) ∧ Bx W (h1 + 1) 3 (.int .i64 f) ∧ 0 ≤ f ∧ f ≤ 4000000 ∧ out.length ≤ pre.length ∧
    out ++ Pl.kp f N (Sp.drop pre.length) = Pl.kp 0 N Sp ∧ Below w.heap.size w W ∧ h1 + 4 ≤ W.heap.size
theorem KpI.step {w X Y : World} {h1 : Nat} {N : Int} {Sp pre : List Pl.Spot} (h : KpI w h1 N Sp pre X) (g : Below X.heap.size X Y) : KpI w h1 N Sp pre Y := by
  obtain ⟨v, out, f, a1, a2, a3, a4, a5, a6, a7, a8, a9⟩ := h
  exact ⟨v, out, f, a1.below g a1.lt, own_later a2 g, a3.below g a3.lt, a4, a5, a6, a7, a8.trans (g.mono a8.size), Nat.le_trans a9 g.size⟩
theorem KpI.put {w W : World} {h1 : Nat} {N : Int} {Sp pre : List Pl.Spot} (h : KpI w h1 N Sp pre W) {l : Nat} {o : Obj} (o' : Obj) (hl : w.heap.size ≤ l) (ho : W.heap[l]? = some o) (hc : o.isCells = false) : KpI w h1 N Sp pre (W.putObj l o') := by
  obtain ⟨v, out, f, a1, a2, a3, a4, a5, a6, a7, a8, a9⟩ := h
  exact ⟨v, out, f, a1.put o' ho hc, a2.kept (grownBy_putObj' W l o') (.inr (own_ne_obj a2 ho hc)), a3.put o' ho hc, a4, a5, a6, a7, below_putN a8 o' hl, by simpa using a9⟩

theorem kp_skip {f N : Int} {p : Pl.Spot} {r : List Pl.Spot} (h : p.b = p.e) : Pl.kp f N (p :: r) = Pl.kp f N r := by simp only [Pl.kp]; rw [if_pos h]
theorem kp_take {f N : Int} {p : Pl.Spot} {r : List Pl.Spot} (h : p.b ≠ p.e) (h2 : f < p.b) : Pl.kp f N (p :: r) = (f, p.b) :: Pl.kp p.e N r := by simp only [Pl.kp]; rw [if_neg h, if_pos h2]; rfl
theorem kp_pass {f N : Int} {p : Pl.Spot} {r : List Pl.Spot} (h : p.b ≠ p.e) (h2 : ¬ f < p.b) : Pl.kp f N (p :: r) = Pl.kp p.e N r := by simp only [Pl.kp]; rw [if_neg h, if_neg h2]; rfl
theorem rgcs_snoc (l : List (Int × Int)) (a b : Int) : rgcs l ++ [.int .i64 a, .int .i64 b] = rgcs (l ++ [(a, b)]) := by simp [rgcs, rgc, List.flatMap_append]
theorem four_more (w : World) (v0 v1 v2 v3 : Value) (T0 T1 T2 T3 : TypeId) : ((((w.alloc (.cells #[v0] T0)).alloc (.cells #[v1] T1)).alloc (.cells #[v2] T2)).alloc (.cells #[v3] T3)).heap.size = w.heap.size + 4 ∧
    Below w.heap.size w ((((w.alloc (.cells #[v0] T0)).alloc (.cells #[v1] T1)).alloc (.cells #[v2] T2)).alloc (.cells #[v3] T3)) :=
  ⟨by simp, ((((Below.refl _ w).alloc (Nat.le_refl _) _).alloc (by simp) _).alloc (by simp; omega) _).alloc (by simp; omega) _⟩

/-- What a call of either Kept leaves. -/
def KeptPost (o : List (Int × Int)) (er : Int) (w : World) (e : Ending) (w' : World) : Prop :=
  ∃ B cb, e = .returned (.tuple #[.slice B o.length cb, .int .i64 er]) ∧ Rd w' 2 B o.length (rgcs o) ∧ Below w.heap.size w w'

set_option maxRecDepth 100000 in
set_option maxHeartbeats 4000000 in
theorem Kept_fit (s : ByteArray) (A : Option Addr) (c : Nat) (l : List Pl.Ed) (w : World) (hs : s.size ≤ 4000000) (h : Rd w 3 A l.length (edcs l)) (hsm : Sm l) (hf : fitS s.data.toList l = true) :
    Calls Try.prog 22 #[.string s, .slice A l.length c] w (KeptPost (Pl.kp 0 s.size (Pl.spots (Pl.lines s.data.toList) 0 l)) 0 w) := by
  have C1 := fun W g => pfit_any s A c l W hs g hsm
  rw [hf] at C1
  have K1 := Lib.hid C1; clear C1
  obtain ⟨i0, hi, hz0, hz1, hz2⟩ := info_parts rgInfo
  refine callsIn_wide (n := 5) |>.1 ?_
  refine callsIn_of_wp_marks Try.func22 rfl trivial ?_ rfl
  simp only [Try.ntmps22, List.size_toArray, List.length_cons, List.length_nil, Nat.reduceAdd, Nat.reduceSub, Array.replicate_succ, Array.replicate_zero, List.push_toArray, List.append_toArray, List.nil_append, List.cons_append]
  gi_wp2_with (first
    | (refine ⟨trivial, ?_⟩; gi_at_call 44; refine (callsIn_wide.2 (K1.out _ h)).mono ?_; rintro e w1 ⟨rfl, hb1⟩)
    | (refine ⟨trivial, ?_⟩; gi_at_call 45; refine (callsIn_wide.2 (spots_any _ _ _ _ _)).mono ?_; rintro e w2 ⟨rfl, rfl⟩))
  obtain ⟨hSm, hSl⟩ := spots_ok hs hsm hf
  have hlen := hsm.len
  obtain ⟨b0, b1, b2, b3⟩ := four_boxes w1 (.slice none 0 0) (.int .i64 0) (.string s) (.slice A l.length c) 33 3 9 22
  obtain ⟨hwl, hB2⟩ := four_more w1 (.slice none 0 0) (.int .i64 0) (.string s) (.slice A l.length c) 33 3 9 22
  have hB12 := hb1.trans (hB2.mono hb1.size)
  have hww := hb1.size
  have SEQ := seq_at s A c l w _ _ _ _ hs h hsm hf b2 b3 hB12 hwl
  obtain ⟨N, hN⟩ : ∃ N : Int, N = s.size := ⟨_, rfl⟩
  obtain ⟨Sp, hSp⟩ : ∃ Sp, Sp = Pl.spots (Pl.lines s.data.toList) 0 l := ⟨_, rfl⟩
  rw [← hSp] at hSm hSl SEQ
  have HSP := Lib.hid hSp; clear hSp
  have HN := Lib.hid hN; clear hN
  refine rangeLaw2 (gf := 61) (lb := #[.pointer (some ⟨w1.heap.size + 1 + 1, 0, none⟩), .pointer (some ⟨w1.heap.size + 1 + 1 + 1, 0, none⟩)]) rfl (enters_of Try.func61 (by kernel_rfl) rfl)
    SEQ (fun X Y k o hg hk ho _ => (hg.block k (Array.getElem?_eq_some_iff.1 ho).1).trans ho)
    (fun h1 h2 => h1.trans h2) (fun W l o o' hl ho hc _ => Kps.put W l o o' (by rw [hwl] at hl; omega) ho hc) (fun _ => rfl)
    (KpI w w1.heap.size N Sp) (fun _ _ _ => False)
    (fun pre X Y hi hg => hi.step hg)
    (fun pre W l o o' hi hl ho hc => hi.put o' (by rw [hwl] at hl; omega) ho hc)
    (fun c pre W l o o' hi _ _ _ => hi)
    (fun W1 hs1 hbb => ⟨_, [], 0, b0.below hbb b0.lt, World.ownsRow_nil _ _ _ _, b1.below hbb b1.lt, by omega, by omega, by simp, by simp, hB12.trans (hbb.mono (by omega)), by rw [hs1, hwl]; omega⟩)
    (fun pre x a' W => ∃ P, a' = { tmps := kpTmps s A l.length c w1.heap.size (.pointer (some ⟨P, 0, none⟩)) (.agg #[.int .i64 x.b, .int .i64 x.e, .int .i64 x.to, .string (bs x.x)]), defers := [] } ∧ Sb W P x ∧ KpI w w1.heap.size N Sp pre W)
    (fun pre x a' W l o o' ⟨P, h1, h2, h3⟩ hl ho hc => ⟨P, h1, h2.put o' ho hc, h3.put o' (by rw [hwl] at hl; omega) ho hc⟩) ?assign ?body ?done ?stop
  case assign =>
    intro y pre x W K hi hgo hsz hK
    simp only [spv]
    gi_wp2
    exact hK _ _ ((KeepsOthers.alloc W _).from _) (Kps.alloc _ _ W _ (by rw [hwl] at hsz; omega)) ⟨_, rfl, Sb.new W x, hi.step ((Below.refl _ W).alloc (Nat.le_refl _) _)⟩
  case body =>
    rintro y pre x a' W ⟨P, rfl, hP, ⟨v, out, f, a1, a2, a3, f0', f1', a6, a7, a8, a9⟩⟩ hgo hsz
    obtain ⟨ra, rc, rfl, hrc, _⟩ := own_form a2
    have hx := hSm x (Pl.pre_mem hgo)
    have hpl := Pl.pre_len hgo
    have hpx : (pre ++ [x]).length = pre.length + 1 := by simp
    obtain ⟨b0', be, e1, x1', t0, t1⟩ := hx
    rw [Pl.drop_pre hgo] at a7
    obtain ⟨p0, p1, p2, p3⟩ := hP.cells
    have k1 := a1.cell
    have k3 := a3.cell
    have g1 := a1.frozen
    have g3 := a3.frozen
    have hpx' := Lib.hid hpx
    have hwl' := Lib.hid hwl
    clear hgo hpx SEQ hwl hSm
    unfold kpTmps
    by_cases he : x.b = x.e
    · have A7 := Lib.hid (a7.symm.trans (by rw [kp_skip he])); clear a7
      have hd : (x.b == x.e) = true := by simp [he]
      clear he
      gi_wp2
      exact ⟨KeepsFrom.refl _ _, Kps.refl _ _ _, _, out, f, a1, a2, a3, f0', f1', by rw [hpx'.out]; omega, A7.out.symm, a8, a9⟩
    · have hd : (x.b == x.e) = false := by simp [he]
      by_cases hfb : f < x.b
      · have A7 : Hid (Pl.kp 0 N Sp = (out ++ [(f, x.b)]) ++ Pl.kp x.e N (Sp.drop (pre ++ [x]).length)) := Lib.hid (by rw [← a7, kp_take he hfb, List.append_assoc]; rfl)
        have HS := Lib.hid (rgcs_snoc out f x.b)
        clear a7 he
        gi_wp2_with (gi_at_builtin; refine wpListIn_append_own _ rfl _ _ 33 rfl (w1.heap.size + 4) 70 i0 _ 2 16 Try.underlying33 hi hz0 hz1 hz2 rfl (by decide) _ _ _ rfl (a2.alloc _) ⟨W.heap.size, 0, none⟩ 1 1 [.int .i64 f, .int .i64 x.b] rfl rfl (two_at _ _ _ _) (by simp [Value.oneCell']) (by unfold maxLen; omega) (by omega) (by simp; omega) ?_; intro v' w3 hown' hgrow _; obtain ⟨vg, vc, rfl⟩ := ownsRow_succ hown'; have d1 := (bx_app a2 hgrow a1 (by decide)); have d3 := (bx_app a2 hgrow a3 (by decide)); have e1' := d1.cell; have e3' := d3.cell; have e2' := d1.frozen; have e4' := d3.frozen; have hP3 := app_same a2 hgrow hP (fun c f he => by simp at he); obtain ⟨q0, q1, q2, q3⟩ := Sb.cells hP3)
        have hown3 := (hown'.kept (grownBy_set w3 w1.heap.size (.slice (some ⟨vg, 0, none⟩) (out.length + 1) vc)) (.inr (own_ne hown' (by omega)))).kept (grownBy_set _ (w1.heap.size + 1) (.int .i64 x.e)) (.inr (own_ne hown' (by omega)))
        have hsz3 : w1.heap.size + 4 ≤ w3.heap.size := by have := hgrow.size; simp at this; omega
        refine ⟨(((keeps_app a2 hgrow).trans (KeepsOthers.setCell _ _ _)).trans (KeepsOthers.setCell _ _ _)).from _, ((kps_app a2 hgrow (by omega) (by omega) (by decide) (by decide)).trans (Kps.set _ _ _ (by omega) (by omega))).trans (Kps.set _ _ _ (by omega) (by omega)),
          _, out ++ [(f, x.b)], _, (d1.set _).other (by omega) _, by rw [List.length_append]; rw [HS.out] at hown3; exact hown3, (d3.other (by omega) _).set _, by omega, by omega, by rw [hpx'.out, List.length_append]; simp; omega, A7.out.symm,
          (((a8.alloc a8.size (.cells #[.int .i64 f, .int .i64 x.b] 70)).grown hgrow (by have := a8.size; simp; omega) (fun j hj => by have := (a2.lt j hj).1; omega)).setCell (p := ⟨_, 0, none⟩) (by simp; omega) _).setCell (p := ⟨_, 0, none⟩) (by simp; omega) _, by simp [World.setCell]; exact hsz3⟩
      · have A7 := Lib.hid (a7.symm.trans (by rw [kp_pass he hfb])); clear a7 he
        gi_wp2
        exact ⟨(KeepsOthers.setCell _ _ _).from _, Kps.set _ _ _ (by omega) (by omega), _, out, _, a1.other (by omega) _, a2.kept (grownBy_set _ _ _) (.inr (own_ne a2 (by omega))), a3.set _, by omega, by omega, by rw [hpx'.out]; omega, A7.out.symm, a8.setCell (p := ⟨_, 0, none⟩) (by simp; omega) _, by simp [World.setCell]; exact a9⟩
  case stop =>
    rintro D c' pre W hD hS hX hK
    exact hX.elim
  case done =>
    rintro D xs W hD hS ⟨v, out, f, a1, a2, a3, f0', f1', a6, a7, a8, a9⟩ hK
    have hol : out.length ≤ 4000000 := by rw [hS, hSl] at a6; omega
    rw [hS, List.drop_length] at a7
    have HD := Lib.hid hD; clear hD
    have HWL := Lib.hid hwl
    obtain ⟨ra, rc, rfl, hrc, hRd⟩ := own_form a2
    have k1 := a1.cell
    have k3 := a3.cell
    have g1 := a1.frozen
    have RES : Hid (∀ (W9 : World) (B : Option Addr) (cb : Nat) (o9 : List (Int × Int)) (ln : Nat), o9 = Pl.kp 0 N Sp → o9.length = ln → Rd W9 2 B ln (rgcs o9) → Below w.heap.size w W9 → KeptPost (Pl.kp 0 s.size (Pl.spots (Pl.lines s.data.toList) 0 l)) 0 w (Ending.returned (.tuple #[.slice B ln cb, .int .i64 0])) W9) := Lib.hid (fun W9 B cb o9 ln ho hln hr hb => by
      subst hln
      rw [← HSP.out, ← HN.out, ← ho]
      exact ⟨B, cb, rfl, hr, hb⟩)
    have hNN := HN.out
    by_cases hfN : f < (s.size : Int)
    · have A7 : Hid (out ++ [(f, (s.size : Int))] = Pl.kp 0 N Sp) := Lib.hid (by rw [← a7]; simp only [Pl.kp]; rw [hNN, if_pos hfN])
      have HS := Lib.hid (rgcs_snoc out f s.size)
      have hd : decide (f < (s.size : Int)) = true := by simp; omega
      clear a7 hS SEQ hNN hwl
      gi_wp2_with (gi_at_builtin; refine wpListIn_append_own _ rfl _ _ 33 rfl (w1.heap.size + 4) 70 i0 _ 2 16 Try.underlying33 hi hz0 hz1 hz2 rfl (by decide) _ _ _ rfl (a2.alloc _) ⟨W.heap.size, 0, none⟩ 1 1 [.int .i64 f, .int .i64 s.size] rfl rfl (two_at _ _ _ _) (by simp [Value.oneCell']) (by unfold maxLen; omega) (by omega) (by simp; omega) ?_; intro v' w3 hown' hgrow _; obtain ⟨vg, vc, rfl⟩ := ownsRow_succ hown'; have d1 := (bx_app a2 hgrow a1 (by decide)); have e1' := d1.cell; have e2' := d1.frozen; have hK3 := app_same a2 hgrow hK (fun c f he => by cases he))
      have hown3 := hown'.kept (grownBy_set w3 w1.heap.size (.slice (some ⟨vg, 0, none⟩) (out.length + 1) vc)) (.inr (own_ne hown' (by omega)))
      have hB9 := ((a8.alloc a8.size (.cells #[.int .i64 f, .int .i64 s.size] 70)).grown hgrow (by have := a8.size; simp; omega) (fun j hj => by have := (a2.lt j hj).1; omega)).setCell (p := ⟨w1.heap.size, 0, none⟩) (by simp; omega) (.slice (some ⟨vg, 0, none⟩) (out.length + 1) vc)
      have hK9 : (w3.setCell ⟨w1.heap.size, 0, none⟩ (.slice (some ⟨vg, 0, none⟩) (out.length + 1) vc)).heap[D]? = some (.deferred (some [])) := (Below.heap_setCell _ _ _ _ (fun e => by simp at e; have := HD.out; rw [HWL.out] at this; omega)).trans hK3
      rw [HS.out] at hown3
      have hp9 := hown3.kept (grownBy_putObj' _ D (.deferred none)) (.inr (own_ne_obj hown3 hK9 rfl))
      refine ⟨by simp, .inl ⟨_, _, rfl, run_takeDeferred hK9, ?_⟩⟩
      exact ⟨_, results_tmp2 (t := 4) (u := 5) rfl _ _ _, RES.out _ (some ⟨vg, 0, none⟩) vc (out ++ [(f, (s.size : Int))]) (out.length + 1) A7.out (by rw [List.length_append]; rfl) (Rd.of_own hp9) (below_putN hB9 _ (by have := HD.out; rw [HWL.out] at this; omega))⟩
    · have A7 : Hid (out = Pl.kp 0 N Sp) := Lib.hid (by rw [← a7]; simp only [Pl.kp]; rw [hNN, if_neg hfN, List.append_nil])
      have hd : decide (f < (s.size : Int)) = false := by simp; omega
      clear a7 hS SEQ hNN hwl
      gi_wp2
      have hp9 := a2.kept (grownBy_putObj' _ D (.deferred none)) (.inr (own_ne_obj a2 hK rfl))
      refine ⟨by simp, .inl ⟨_, _, rfl, run_takeDeferred hK, ?_⟩⟩
      exact ⟨_, results_tmp2 (t := 4) (u := 5) rfl _ _ _, RES.out _ ra rc out out.length A7.out rfl (Rd.of_own hp9) (below_putN a8 _ (by have := HD.out; rw [HWL.out] at this; omega))⟩

end Go.Proofs.Ytnijaleedbmljaa
