/- Walks: a style's text (the program's). -/
import Derived.Test.YtliabgcpciekpaaDoorYeE
import Derived.Test.YtliabgcpciekpaaDoorYBld
set_option linter.unusedVariables false
set_option linter.unusedSimpArgs false
namespace Go.Proofs.YtliabgcpciekpaaDoor
open Go Go.RowKit
attribute [local go_sem] Oper.semAt_some

/-- The library's text of a number, in every world behind w. -/
def ItC (w : World) (n : Int) : Prop := ∀ w', Below w.heap.size w w' → Calls Tryd.prog 39 #[.int .i64 n] w' fun e w'' => e = .returned (.string (bs (Lib.itoa n))) ∧ Below w'.heap.size w' w''
/-- What a call of Print leaves. -/
def PrRes (v : Nat → Int) (w : World) (e : Ending) (w' : World) : Prop :=
  e = .returned (.tuple #[.string (bs (if St.chk v = true then St.txt v 18 else [])), .int .i64 (if St.chk v = true then 0 else 90)]) ∧ Below w.heap.size w w'

set_option maxRecDepth 100000 in
set_option maxHeartbeats 8000000 in
theorem Print_no (v : Nat → Int) (hfl : St.Fl v) (w : World) (hno : St.chk v = false) :
    Calls Tryd.prog 13 #[.agg (St.stv v).toArray] w (PrRes v w) := by
  have S0 := Sty.new w v
  have SR := S0.range
  have hb0 := (Below.refl w.heap.size w).alloc (Nat.le_refl _) (.cells (St.stv v).toArray 23)
  have hlen := St.stv_len v
  have hinfo : (Tryd.prog.info? 23).map (·.size) = some (St.stv v).length := by rw [hlen]; kernel_rfl
  have CK := Check_any v hfl
  rw [hno] at CK
  have CK := Lib.hid CK
  have HR : Hid (∀ w', Below w.heap.size w w' → PrRes v w (.returned (.tuple #[.string (bs []), .int .i64 90])) w') := Lib.hid (fun w' hb => ⟨by rw [hno]; rfl, hb⟩)
  clear hno S0 hlen
  generalize (St.stv v) = cs at *
  go_enter Tryd.func13, Tryd.ntmps13
  go_wp2_with (first
    | (refine wpList_load_mid rfl _ _ rfl _ _ rfl cs _ SR Tryd.underlying23 rfl hinfo ?_)
    | (go_at_call 15; (with_reducible refine (CK.out _).mono ?_); rintro e w1 ⟨rfl, b1⟩))
  go_ret2
  exact HR.out _ (hb0.trans (b1.mono hb0.size))

theorem pre_eq {pre : List Nat} {x : Nat} (h : pre ++ [x] <+: List.range 18) : x = pre.length ∧ x < 18 := by
  have hx := pre_lt h
  refine ⟨?_, hx⟩
  obtain ⟨t, ht⟩ := h
  have h1 : (pre ++ [x] ++ t)[pre.length]? = some x := by simp
  rw [ht] at h1
  have hl : pre.length < 18 := by
    have := congrArg List.length ht
    simp at this
    omega
  rw [List.getElem?_eq_getElem (by simpa using hl)] at h1
  simpa using h1.symm
theorem txt_len {v : Nat → Int} (h : ∀ i, i < 18 → St.low i ≤ v i ∧ v i ≤ St.high i) : ∀ n, n ≤ 18 → (St.txt v n).length ≤ n * 2000000 := by
  intro n
  induction n with
  | zero => intro _; simp [St.txt]
  | succ n ih =>
    intro hn
    have h1 := ih (by omega)
    have h2 := St.ln_len (by omega) (h n (by omega))
    rw [St.txt_succ, List.length_append]
    omega

/-- In the midst of a round of Print: the builder, what lies below it, the round's entry; what has turned since the round began. -/
def PrS (w1 W0 : World) (P sb x : Nat) (dn : List UInt8) (W : World) : Prop :=
  IsBd w1.heap.size w1.heap.size (Lib.byteCells dn) W ∧ Below w1.heap.size w1 W ∧ w1.heap.size < W.heap.size ∧ Eb W P sb x ∧ P ≠ w1.heap.size ∧ Oth w1.heap.size W0 W ∧ W0.heap.size ≤ W.heap.size
section
variable {w1 W0 W : World} {P sb x : Nat} {dn : List UInt8}
theorem Eb.oth {W W' : World} {P sb x b : Nat} (h : Eb W P sb x) (g : Oth b W W') (hP : P ≠ b) : Eb W' P sb x := g P _ h hP (fun c fr e => by injection e with _ e2 _; exact absurd e2 (by decide))
theorem PrS.blw (h : PrS w1 W0 P sb x dn W) : Below w1.heap.size w1 W := h.2.1
theorem PrS.eb (h : PrS w1 W0 P sb x dn W) : Eb W P sb x := h.2.2.2.1
theorem PrS.str (h : PrS w1 W0 P sb x dn W) (y : List UInt8) (hl : dn.length ≤ 100000000000000) (hy : y.length ≤ 10000000) :
    Calls Tryd.prog 38 #[.pointer (some ⟨w1.heap.size, 0, none⟩), .string (bs y)] W fun e w' => e = .returned (.tuple #[.int .i64 (bs y).size, .nilIface]) ∧ PrS w1 W0 P sb x (dn ++ y) w' := by
  refine (WriteString_any _ _ _ (bs y) W h.1 (by rw [Lib.byteCells_length, bs_size]; omega) (Nat.le_of_lt h.2.2.1)).mono ?_
  rintro e w' ⟨rfl, a1, a2, a3⟩
  rw [bytes_append] at a1
  exact ⟨rfl, a1, h.2.1.trans a2, Nat.lt_of_lt_of_le h.2.2.1 a2.size, h.2.2.2.1.oth a3 h.2.2.2.2.1, h.2.2.2.2.1, h.2.2.2.2.2.1.trans a3, Nat.le_trans h.2.2.2.2.2.2 a2.size⟩
theorem PrS.eqs (h : PrS w1 W0 P sb x dn W) (hl : dn.length ≤ 100000000000000) :
    Calls Tryd.prog 38 #[.pointer (some ⟨w1.heap.size, 0, none⟩), .string ⟨#[32, 61, 32]⟩] W fun e w' => e = .returned (.tuple #[.int .i64 (bs [32, 61, 32]).size, .nilIface]) ∧ PrS w1 W0 P sb x (dn ++ [32, 61, 32]) w' := h.str [32, 61, 32] hl (by simp)
theorem PrS.byte10 (h : PrS w1 W0 P sb x dn W) (hl : dn.length ≤ 100000000000000) :
    Calls Tryd.prog 41 #[.pointer (some ⟨w1.heap.size, 0, none⟩), .int .u8 10] W fun e w' => e = .returned .nilIface ∧ PrS w1 W0 P sb x (dn ++ [10]) w' := by
  refine (WriteByte_any _ _ _ 10 W h.1 (by rw [Lib.byteCells_length]; omega) (Nat.le_of_lt h.2.2.1)).mono ?_
  rintro e w' ⟨rfl, a1, a2, a3⟩
  have a1' : IsBd w1.heap.size w1.heap.size (Lib.byteCells (dn ++ [10])) w' := by rw [← bytes_one]; exact a1
  exact ⟨rfl, a1', h.2.1.trans a2, Nat.lt_of_lt_of_le h.2.2.1 a2.size, h.2.2.2.1.oth a3 h.2.2.2.2.1, h.2.2.2.2.1, h.2.2.2.2.2.1.trans a3, Nat.le_trans h.2.2.2.2.2.2 a2.size⟩
theorem PrS.later {w' : World} (h : PrS w1 W0 P sb x dn W) (hb : Below W.heap.size W w') : PrS w1 W0 P sb x dn w' :=
  ⟨h.1.below hb, h.2.1.trans (hb.mono (Nat.le_of_lt h.2.2.1)), Nat.lt_of_lt_of_le h.2.2.1 hb.size, h.2.2.2.1.later hb, h.2.2.2.2.1, h.2.2.2.2.2.1.trans (Oth.below hb), Nat.le_trans h.2.2.2.2.2.2 hb.size⟩
end
theorem keeps_oth {B b : Nat} {W W' : World} (h : Oth b W W') (hs : W.heap.size ≤ W'.heap.size) {c : Array Value} {T : TypeId} {fr : Nat × Nat} (hb : W.heap[b]? = some (.cells c T fr)) : KeepsFrom B W W' :=
  ⟨hs, fun k o _ e ho => h k o e (by rintro rfl; rw [hb] at e; cases e; cases ho) (fun c' fr' e' => by rw [e'] at ho; cases ho)⟩
theorem KpE.oth {b : Nat} {W W' : World} (h : Oth b W W') {c : Array Value} {fr : Nat × Nat} (hb : W.heap[b]? = some (.cells c 70 fr)) : KpE W W' := fun k c' fr' e =>
  h k _ e (by rintro rfl; rw [hb] at e; cases e) (fun c2 fr2 e2 => by injection e2 with _ e3 _; exact absurd e3 (by decide))

def PrI (w1 : World) (v : Nat → Int) (pre : List Nat) (W : World) : Prop := IsBd w1.heap.size w1.heap.size (Lib.byteCells (St.txt v pre.length)) W ∧ Below w1.heap.size w1 W ∧ w1.heap.size + 2 ≤ W.heap.size
def prTmps (cs : Array Value) (sb B : Nat) (p e : Value) : Array Value := #[.agg cs, .pointer (some ⟨sb, 0, none⟩), .string ⟨#[]⟩, .int .i64 0, .int .i64 0, .pointer (some ⟨B, 0, none⟩), p, .agg cs, .int .i64 0, .int .i64 0, .bool false, undef, .func (.func 64) #[] #[.pointer (some ⟨B + 1, 0, none⟩)], e, undef, undef, undef, undef, undef, undef, undef, undef, undef, undef]

set_option maxRecDepth 100000 in
set_option maxHeartbeats 8000000 in
theorem Print_yes (v : Nat → Int) (hfl : St.Fl v) (w : World) (hyes : St.chk v = true) (hit : ∀ i, i < 18 → ItC w (v i)) :
    Calls Tryd.prog 13 #[.agg (St.stv v).toArray] w (PrRes v w) := by
  have S0 := Sty.new w v
  have SR := S0.range
  have hb0 := (Below.refl w.heap.size w).alloc (Nat.le_refl _) (.cells (St.stv v).toArray 23)
  have hs0 : (w.alloc (.cells (St.stv v).toArray 23)).heap.size = w.heap.size + 1 := by simp
  have hlen := St.stv_len v
  have hinfo : (Tryd.prog.info? 23).map (·.size) = some (St.stv v).length := by rw [hlen]; kernel_rfl
  have HCI := Lib.hid ((St.chk_iff v).1 hyes)
  have CK := Check_any v hfl
  rw [hyes] at CK
  have CK := Lib.hid CK
  have HR : Hid (∀ w', Below w.heap.size w w' → PrRes v w (.returned (.tuple #[.string (bs (St.txt v 18)), .int .i64 0])) w') := Lib.hid (fun w' hb => ⟨by rw [hyes]; rfl, hb⟩)
  have HS0 := Lib.hid S0
  have HSZ := Lib.hid hs0
  have HIT := Lib.hid hit
  clear hyes S0 hlen hs0 hit
  generalize hcs : (St.stv v) = cs at *
  refine callsIn_wide (n := 5) |>.1 ?_
  refine callsIn_of_wp_marks Tryd.func13 rfl trivial ?_ rfl
  simp only [Tryd.ntmps13, List.size_toArray, List.length_cons, List.length_nil, Nat.reduceAdd, Nat.reduceSub, Array.replicate_succ, Array.replicate_zero, List.push_toArray, List.append_toArray, List.nil_append, List.cons_append]
  refine wpIn_wide.2 ?_
  go_wp2_with (first
    | (refine wpList_load_mid rfl _ _ rfl _ _ rfl cs _ SR Tryd.underlying23 rfl hinfo ?_)
    | (go_at_call 15; (with_reducible refine (CK.out _).mono ?_); rintro e w1 ⟨rfl, b1⟩)
    | (go_at_call 37; (with_reducible refine (entries_any _ _).mono ?_); rintro e w2 ⟨rfl, rfl⟩))
  refine (wpIn_wide (n := 5)).1 ?_
  have hb1 := hb0.trans (b1.mono hb0.size)
  have S1 : Sty w1 w.heap.size v := HS0.out.below b1 (by rw [HSZ.out]; omega)
  have hw1 := hb1.size
  have hsw := S1.lt
  obtain ⟨wB, hwB⟩ : ∃ wB, ((w1.alloc (.cells #[.pointer none, .slice none 0 0] 70)).alloc (.cells #[.pointer (some ⟨w.heap.size, 0, none⟩)] 74)) = wB := ⟨_, rfl⟩
  have hsB : wB.heap.size = w1.heap.size + 2 := by rw [← hwB]; simp
  have hbB : Below w1.heap.size w1 wB := by rw [← hwB]; exact ((Below.refl _ _).alloc (Nat.le_refl _) _).alloc (by simp only [World.size_alloc]; omega) _
  have B1 : IsBd w1.heap.size w1.heap.size (Lib.byteCells []) wB := by
    rw [← hwB]
    exact IsBd.alloc (Lib.fresh_isBuilder _ _ w1) _
  have P1 : Bx wB (w1.heap.size + 1) 74 (.pointer (some ⟨w.heap.size, 0, none⟩)) := by
    rw [← hwB]
    have h1 := Bx.new (w1.alloc (.cells #[.pointer none, .slice none 0 0] 70)) 74 (.pointer (some ⟨w.heap.size, 0, none⟩))
    rw [World.size_alloc] at h1
    exact h1
  rw [hwB]
  clear hwB SR hinfo hb0 b1
  refine rangeLaw2 (gf := 64) (lb := #[.pointer (some ⟨w1.heap.size + 1, 0, none⟩)]) rfl (enters_of Tryd.func64 (by kernel_rfl) rfl)
    (fun W1 hs1 hbb => entries1_seq (5 - 1) (w1.heap.size + 1) w.heap.size W1 (P1.below hbb P1.lt) (by have := S1.below (hbB.trans (hbb.mono hbB.size)) hsw; unfold Sty at this; rw [this]; rfl))
    (fun X Y k o hg hk ho _ => (hg.block k (Array.getElem?_eq_some_iff.1 ho).1 (by simp)).trans ho)
    (fun h1 h2 => h1.trans h2) (fun W l o o' hl ho hc _ => KpE.put W l o o' ho hc) (fun _ => rfl)
    (PrI w1 v) (fun _ _ _ => False)
    (fun pre X Y ⟨h1, h2, h3⟩ hg => ⟨h1.below ⟨hg.os, hg.tape, hg.output, hg.size, fun k hk => hg.block k hk (by simp)⟩, h2.grown hg h2.size (fun k e => by cases e), Nat.le_trans h3 hg.size⟩)
    (fun pre W l o o' ⟨h1, h2, h3⟩ hl ho hc => ⟨h1.put o' ho hc, below_put h2 o' (by rw [hsB] at hl; omega), by simpa using h3⟩)
    (fun c pre W l o o' h hl ho hc => h)
    (fun W1 hs1 hbb => ⟨B1.below (hbb.mono (by omega)), hbB.trans (hbb.mono hbB.size), by rw [hs1, hsB]; omega⟩)
    (fun pre x a' W => ∃ P, a' = { tmps := prTmps cs.toArray w.heap.size w1.heap.size (.pointer (some ⟨P, 0, none⟩)) (entV w.heap.size x), defers := [] } ∧ Eb W P w.heap.size x ∧ PrI w1 v pre W ∧ P ≠ w1.heap.size)
    (fun pre x a' W l o o' ⟨P, h0, he, ⟨h1, h2, h3⟩, h6⟩ hl ho hc => ⟨P, h0, he.put o' ho hc, ⟨h1.put o' ho hc, below_put h2 o' (by rw [hsB] at hl; omega), by simpa using h3⟩, h6⟩) ?assign ?body ?done ?stop
  case assign =>
    intro y pre x W K hi hgo hsz hK
    simp only [entV]
    have HK := Lib.hid (hK { tmps := prTmps cs.toArray w.heap.size w1.heap.size (.pointer (some ⟨W.heap.size, 0, none⟩)) (entV w.heap.size x), defers := [] } (W.alloc (.cells (entL w.heap.size x).toArray 78)) ((KeepsOthers.alloc W _).from _) (KpE.below (B := 0) ((Below.refl _ _).alloc (Nat.le_refl _) _))
      ⟨_, rfl, Eb.new W _ _, ⟨hi.1.alloc _, hi.2.1.alloc hi.2.1.size _, by have := hi.2.2; simp; omega⟩, by have := hi.2.2; omega⟩)
    unfold prTmps entV entL at HK
    generalize hp4 : (if St.isFl x = true then none else some (⟨w.heap.size, x, none⟩ : Addr)) = p4 at *
    generalize hp5 : (if St.isFl x = true then some (⟨w.heap.size, x, none⟩ : Addr) else none) = p5 at *
    clear hK hi hp4 hp5
    gi_wp2
    exact HK.out
  case body =>
    rintro y pre x a' W ⟨P, rfl, hP, ⟨h1, h2, h3⟩, hPB⟩ hgo hsz
    obtain ⟨hxp, hx⟩ := pre_eq hgo
    have hpx : (pre ++ [x]).length = x + 1 := by simp [hxp]
    rw [← hxp] at h1
    have hvr := HCI.out x hx
    have hlo := St.low_bd x
    have hhi := St.high_bd x hx
    have hnl := St.nm_len x hx
    have htl := txt_len HCI.out x (by omega)
    have hil := St.itoa_le (n := v x) (by omega) (by omega)
    have IT := Lib.hid (fun W' (hb : Below w1.heap.size w1 W') => HIT.out x hx W' (hb1.trans (hb.mono hb1.size)))
    have VA := Lib.hid (fun W' (hb : Below w1.heap.size w1 W') => value_any w.heap.size x (bs (St.nm x)) (St.low x) (St.high x) (St.first x) v W' (S1.below hb hsw) hx hfl)
    have T0 : PrS w1 W P w.heap.size x (St.txt v x) W := ⟨h1, h2, by omega, hP, hPB, Oth.refl _ _, Nat.le_refl _⟩
    have HB := Lib.hid h1.block
    have HP := Lib.hid (show St.txt v (x + 1) = ((((St.txt v x) ++ St.nm x) ++ [32, 61, 32]) ++ Lib.itoa (v x)) ++ [10] by rw [St.txt_succ]; simp [St.ln])
    obtain ⟨c0, c1, c2, c3, c4, c5⟩ := hP.cells
    have EC := Lib.hid (fun W' (h : Eb W' P w.heap.size x) => h.cells)
    have HPX := Lib.hid hpx
    unfold prTmps
    generalize hp4 : (if St.isFl x = true then none else some (⟨w.heap.size, x, none⟩ : Addr)) = p4 at *
    generalize hp5 : (if St.isFl x = true then some (⟨w.heap.size, x, none⟩ : Addr) else none) = p5 at *
    clear hp4 hp5 hgo hpx hvr h1 hxp hlo hhi
    generalize St.txt v x = dn at *
    generalize St.nm x = p1 at *
    generalize Lib.itoa (v x) = p2 at *
    have l1 : dn.length ≤ 100000000000000 := by omega
    have l2 : (dn ++ p1).length ≤ 100000000000000 := by simp; omega
    have l3 : ((dn ++ p1) ++ [32, 61, 32]).length ≤ 100000000000000 := by simp; omega
    have l4 : (((dn ++ p1) ++ [32, 61, 32]) ++ p2).length ≤ 100000000000000 := by simp; omega
    have m1 : p1.length ≤ 10000000 := by omega
    have m2 : ([32, 61, 32] : List UInt8).length ≤ 10000000 := by simp
    have m3 : p2.length ≤ 10000000 := by omega
    gi_wp2_with (first
      | (refine ⟨trivial, ?_⟩; gi_at_call 38; (with_reducible refine (CallsIn.inRound y (callsIn_wide.2 (T0.str p1 l1 m1))).mono ?_); rintro e wa ⟨rfl, hT1⟩)
      | (refine ⟨trivial, ?_⟩; gi_at_call 38; (with_reducible refine (CallsIn.inRound y (callsIn_wide.2 (hT1.eqs l2))).mono ?_); rintro e wb ⟨rfl, hT2⟩; obtain ⟨e0, e1, e2, e3, e4, e5⟩ := EC.out _ hT2.eb)
      | (refine ⟨trivial, ?_⟩; gi_at_call 40; (with_reducible refine (CallsIn.inRound y (callsIn_wide.2 (VA.out _ hT2.blw))).mono ?_); rintro e wc ⟨rfl, bc⟩; have hT3 := hT2.later bc)
      | (refine ⟨trivial, ?_⟩; gi_at_call 39; (with_reducible refine (CallsIn.inRound y (callsIn_wide.2 (IT.out _ hT3.blw))).mono ?_); rintro e wd ⟨rfl, bd⟩; have hT4 := hT3.later bd)
      | (refine ⟨trivial, ?_⟩; gi_at_call 38; (with_reducible refine (CallsIn.inRound y (callsIn_wide.2 (hT4.str p2 l3 m3))).mono ?_); rintro e we ⟨rfl, hT5⟩)
      | (refine ⟨trivial, ?_⟩; gi_at_call 41; (with_reducible refine (CallsIn.inRound y (callsIn_wide.2 (hT5.byte10 l4))).mono ?_); rintro e wf ⟨rfl, hT6⟩))
    obtain ⟨cb, hcb⟩ := HB.out
    obtain ⟨t1, t2, t3, t4, t5, t6, t7⟩ := hT6
    refine ⟨keeps_oth t6 t7 hcb, KpE.oth t6 hcb, ?_, t2, by omega⟩
    rw [HPX.out, HP.out]
    exact t1
  case done =>
    rintro D xs W hD hS ⟨h1, h2, h3⟩ hK
    obtain rfl : D = w1.heap.size + 2 := by rw [hD, hsB]
    rw [hS, List.length_range] at h1
    have SS := Lib.hid (Tryd.Builder_String_any_k w1.heap.size w1.heap.size _ _ (Lib.IsBuilderF.of h1) (by omega))
    have htl := txt_len HCI.out 18 (by omega)
    have HB := Lib.hid hb1
    generalize St.txt v 18 = z at *
    go_wp2_with (go_at_call 42; (with_reducible refine SS.out.mono ?_); rintro e w9 ⟨rfl, _, hb9, ok9⟩)
    cases (by assumption : Ending.returned (.string (bs z)) = Ending.returned _)
    have hK9 := ok9 _ _ hK (by simp) (fun c fz e => by cases e)
    refine ⟨by simp, .inl ⟨_, _, rfl, run_takeDeferred hK9, ?_⟩⟩
    refine ⟨_, show (results Tryd.f13 _).run Tryd.prog _ = .ok (.tuple #[.string (bs z), .int .i64 0]) _ by (simp [results, Tryd.results13, go_sem]; try rfl), ?_⟩
    exact HR.out _ (below_put (HB.out.trans ((h2.trans (hb9.mono (by omega))).mono hw1)) _ (by omega))
  case stop =>
    rintro D c pre W hD hS h hK
    exact h.elim

end Go.Proofs.YtliabgcpciekpaaDoor
