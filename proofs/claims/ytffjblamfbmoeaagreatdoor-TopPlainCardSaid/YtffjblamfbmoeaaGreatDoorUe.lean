/- Several texts in one: Walks: a text's parts as an iterator; Walks: how far a line is that may be an #include; Tokens of a logical text: where they end; the list of them does not hang on the fuel; Walks: the tokens of a logical text as an iterator. -/
import Derived.Test.YtffjblamfbmoeaaGreatDoorUv
import Derived.Test.YtffjblamfbmoeaaGreatDoorUa
import Derived.WalkMore
import Derived.Control
import Derived.Sort.QuietTacIn
import Derived.Deep.RegionHeld3
import Derived.Test.YtffjblamfbmoeaaGreatDoorUb
import Derived.Test.YtffjblamfbmoeaaGreatDoorUd
/-! Walks: a text's parts as an iterator. -/
set_option linter.unusedVariables false
set_option linter.unusedSimpArgs false
namespace Go.Proofs.YtffjblamfbmoeaaGreatDoor
open Go Go.RowKit
attribute [local go_sem] Oper.semAt_some

/-- A round's word: the blocks of some types stay. -/
def KpT (Ts : List TypeId) (X Y : World) : Prop := ∀ (k : Nat) (c : Array Value) (T : TypeId) (f : Nat × Nat), T ∈ Ts → X.heap[k]? = some (.cells c T f) → Y.heap[k]? = some (.cells c T f)
theorem KpT.refl (Ts : List TypeId) (X : World) : KpT Ts X X := fun _ _ _ _ _ h => h
theorem KpT.trans {Ts : List TypeId} {X Y Z : World} (h : KpT Ts X Y) (g : KpT Ts Y Z) : KpT Ts X Z := fun k c T f hT e => g k c T f hT (h k c T f hT e)
theorem KpT.below {Ts : List TypeId} {X Y : World} (h : Below X.heap.size X Y) : KpT Ts X Y := fun k c T f _ e => (h.block k (Array.getElem?_eq_some_iff.1 e).1).trans e
theorem KpT.put {Ts : List TypeId} (W : World) (l : Nat) (o o' : Obj) (hl : W.heap[l]? = some o) (ho : o.isCells = false) : KpT Ts W (W.putObj l o') := fun k c T f _ e => by
  rw [World.putObj_heap_other]
  · exact e
  · rintro rfl; rw [hl] at e; cases e; cases ho
theorem KpT.set {Ts : List TypeId} {W : World} {b : Nat} {c : Array Value} {T : TypeId} {f : Nat × Nat} (h : W.heap[b]? = some (.cells c T f)) (hT : T ∉ Ts) (o : Nat) (v : Value) : KpT Ts W (W.setCell ⟨b, o, none⟩ v) := fun k c' T' f' hT' e => by
  rw [Below.heap_setCell _ _ _ _ (by rintro rfl; rw [h] at e; cases e; exact hT hT')]; exact e
theorem KpT.grown {Ts : List TypeId} {X Y : World} {r : Option Nat} (h : X.grownBy Y r) (hr : ∀ b c T f, r = some b → X.heap[b]? = some (.cells c T f) → T ∉ Ts) : KpT Ts X Y := fun k c T f hT e => by
  rw [h.block k (Array.getElem?_eq_some_iff.1 e).1 (by intro e2; exact hr k c T f e2.symm e hT)]; exact e
theorem KpT.own {Ts : List TypeId} {X Y : World} {base n : Nat} {T : TypeId} {sz : Nat} {v : Value} {xs : List Value} (ho : X.ownsRow base T sz v n xs) (h : X.grownBy Y v.ownBlock) (hT : T ∉ Ts) : KpT Ts X Y := by
  refine KpT.grown h ?_
  intro b c T' f e1 e2
  rcases ho.2 with ⟨rfl, _⟩ | ⟨g, cap, cur, rfl, _, hg, _⟩
  · simp [Value.ownBlock] at e1
  · simp only [Value.ownBlock, Option.some.injEq] at e1
    subst e1
    rw [hg] at e2; cases e2; exact hT
theorem keeps_below {B : Nat} {W W' : World} (h : Below W.heap.size W W') : KeepsFrom B W W' := ⟨h.size, fun k o _ e _ => (h.block k (Array.getElem?_eq_some_iff.1 e).1).trans e⟩

/-- A block that holds a part. -/
def Pb (W : World) (b : Nat) (p : Tp.Part) : Prop := W.heap[b]? = some (.cells #[.int .u8 p.b.toNat, .int .i64 p.at_, .int .i64 p.len, .bool p.sp] 100 (0, 0))
theorem Pb.lt {W : World} {b : Nat} {p : Tp.Part} (h : Pb W b p) : b < W.heap.size := (Array.getElem?_eq_some_iff.1 h).1
theorem Pb.cells {W : World} {b : Nat} {p : Tp.Part} (h : Pb W b p) : W.cell? ⟨b, 0, none⟩ = some (.int .u8 p.b.toNat) ∧ W.cell? ⟨b, 1, none⟩ = some (.int .i64 p.at_) ∧ W.cell? ⟨b, 2, none⟩ = some (.int .i64 p.len) ∧ W.cell? ⟨b, 3, none⟩ = some (.bool p.sp) :=
  ⟨Lib.cell_of_heap h 0, Lib.cell_of_heap h 1, Lib.cell_of_heap h 2, Lib.cell_of_heap h 3⟩
theorem Pb.new (W : World) (p : Tp.Part) : Pb (W.alloc (.cells #[.int .u8 p.b.toNat, .int .i64 p.at_, .int .i64 p.len, .bool p.sp] 100)) W.heap.size p := heap_alloc_new W _
theorem Pb.below {W W' : World} {b B : Nat} {p : Tp.Part} (h : Pb W b p) (hb : Below B W W') (hB : b < B) : Pb W' b p := (hb.block b hB).trans h
theorem Pb.kept {W W' : World} {b : Nat} {p : Tp.Part} (h : Pb W b p) {Ts : List TypeId} (hb : KpT Ts W W') (hT : 100 ∈ Ts) : Pb W' b p := hb _ _ _ _ hT h
theorem Pb.put {W : World} {b l : Nat} {p : Tp.Part} {o : Obj} (h : Pb W b p) (o' : Obj) (hl : W.heap[l]? = some o) (ho : o.isCells = false) : Pb (W.putObj l o') b p :=
  (World.putObj_heap_other (by rintro rfl; unfold Pb at h; rw [hl] at h; cases h; cases ho)).trans h
theorem Bx.kept {W W' : World} {b : Nat} {T : TypeId} {v : Value} (h : Bx W b T v) {Ts : List TypeId} (hb : KpT Ts W W') (hT : T ∈ Ts) : Bx W' b T v := hb _ _ _ _ hT h
theorem Bx.put' {W : World} {b l : Nat} {T : TypeId} {v : Value} {o : Obj} (h : Bx W b T v) (o' : Obj) (hl : W.heap[l]? = some o) (ho : o.isCells = false) : Bx (W.putObj l o') b T v :=
  (World.putObj_heap_other (h.ne_obj hl ho)).trans h

set_option maxRecDepth 100000 in
set_option maxHeartbeats 1000000 in
theorem end_any (p : Tp.Part) (w : World) (h : p.at_ + p.len ≤ 100000000) :
    Calls Tryz.prog 58 #[ptV p] w fun e w' => e = .returned (.int .i64 (p.at_ + p.len : Nat)) ∧ Below w.heap.size w w' := by
  unfold ptV
  go_enter Tryz.func58, Tryz.ntmps58
  go_wp2
  go_ret
  exact ⟨by simp, (Below.refl _ w).alloc (Nat.le_refl _) _⟩

theorem parts_any (s : ByteArray) (w : World) :
    Calls Tryz.prog 33 #[.string s] w fun e w' => e = .returned (.func (.func 59) #[] #[.pointer (some ⟨w.heap.size, 0, none⟩)]) ∧ w' = w.alloc (.cells #[.string s] 9) := by
  go_enter Tryz.func33, Tryz.ntmps33
  go_wp2
  go_ret
  exact ⟨rfl, rfl⟩

set_option maxRecDepth 100000 in
set_option maxHeartbeats 4000000 in
theorem parts1_seq (n : Nat) (Bp : Nat) (t : Tp.T) (W : World) (ht : t.length ≤ 1000000) (hb : Bx W Bp 9 (.string (bs t))) :
    Seq n Tryz.prog 59 #[.pointer (some ⟨Bp, 0, none⟩)] (fun p : Tp.Part => #[ptV p]) (fun X Y => Below X.heap.size X Y) (KpT [9, 100])
      (fun pre => pre <+: Tp.parts t 0) (fun xs => xs = Tp.parts t 0) (fun pre => pre <+: Tp.parts t 0) W := by
  have hts : (bs t).size = t.length := bs_size t
  intro l K Kx hK hY h0
  refine callsIn_of_wp Tryz.func59 rfl trivial ?_ rfl
  simp only [Tryz.ntmps59, List.size_toArray, List.length_cons, List.length_nil, Nat.reduceAdd, Nat.reduceSub, Array.replicate_succ, Array.replicate_zero, List.push_toArray, List.append_toArray, List.nil_append, List.cons_append]
  gi_wp2
  gi_loopw [3, 4] (fun c _ wr => ∃ (pre : List Tp.Part) (a : Nat), c = .int .i64 a ∧ a ≤ t.length ∧ Bx wr Bp 9 (.string (bs t)) ∧ Hid (pre ++ Tp.parts t a = Tp.parts t 0) ∧ K pre wr) (fun c _ wr => t.length - (intOf c).toNat)
  case atStart => exact ⟨[], 0, rfl, Nat.zero_le _, hb, Lib.hid rfl, h0⟩
  case round =>
    obtain ⟨pre, a, rfl, ha, hbx, HP, hKp⟩ := hrel
    have cx := hbx.cell
    by_cases hal : a < t.length
    · have HPA := Lib.hid (fun w => partAt_any t a w hal ht)
      have HC := Lib.hid (Tp.parts_cons hal)
      have HPE := Lib.hid (Tp.part_end hal)
      have HPP := Lib.hid (Tp.part_pos t a)
      have HAT := Lib.hid (Tp.part_at t a)
      generalize hp : Tp.part t a = p at *
      clear hp
      gi_wp2_with (first | (refine ⟨trivial, (fun h => by cases h), ?_⟩; gi_at_call 60; (with_reducible refine (callsIn_wide.2 (HPA.out _)).mono ?_); rintro e w2 ⟨rfl, hb2⟩; simp only [ptV]))
      have hBy : Below wr.heap.size wr (w2.alloc (.cells #[.int .u8 p.b.toNat, .int .i64 p.at_, .int .i64 p.len, .bool p.sp] 100)) := hb2.alloc hb2.size _
      have HPP2 := Lib.hid (HC.out ▸ HP.out)
      obtain ⟨fn, tmps, assign, body, hy, hR⟩ := hY pre p _ (hK pre wr _ hKp hBy) ⟨Tp.parts t (a + p.len), by rw [List.append_assoc]; exact HPP2.out⟩
      have hpy := Pb.new w2 p
      have hbxy := hbx.below hBy hbx.lt
      simp only [ptV] at hy
      have HE := Lib.hid (fun w => end_any p w (by have := HPE.out; rw [HAT.out]; omega))
      simp only [ptV] at HE
      have hpe : p.at_ + p.len = a + p.len := by rw [HAT.out]
      rw [hpe] at HE
      clear hpe
      generalize w2.alloc (.cells #[.int .u8 p.b.toNat, .int .i64 p.at_, .int .i64 p.len, .bool p.sp] 100) = wy at *
      rw [hy]
      gi_wp2
      refine ⟨(fun h => by cases h), hR.mono ?_⟩
      rintro e W3 (⟨rfl, hJ3, hk3⟩ | ⟨rfl, hJx3⟩)
      · have hp3 := hpy.kept hk3 (by decide)
        have hbx3 := hbxy.kept hk3 (by decide)
        obtain ⟨y0, y1, y2, y3⟩ := hp3.cells
        have HP4 := Lib.hid (show (pre ++ [p]) ++ Tp.parts t (a + p.len) = Tp.parts t 0 by rw [List.append_assoc]; exact HPP2.out)
        have hle := HPE.out
        have hlp := HPP.out.1
        clear hk3 hy hR
        gi_wp2_with (first | (refine ⟨trivial, (fun h => by cases h), ?_⟩; gi_at_call 58; (with_reducible refine (callsIn_wide.2 (HE.out _)).mono ?_); rintro e w5 ⟨rfl, hb5⟩))
        go_roundw
        case rel => exact ⟨_, a + p.len, by go_num, hle, hbx3.below hb5 hbx3.lt, HP4, hK _ _ _ hJ3 hb5⟩
        case measure => simp [intOf]; omega
      · gi_wp2
        refine bodyPost_ret (results_none rfl _ _ _) rfl ?_
        exact ⟨⟨_, rfl⟩, .inr ⟨_, ⟨Tp.parts t (a + p.len), by rw [List.append_assoc]; exact HPP2.out⟩, hJx3⟩⟩
    · have HE := Lib.hid (Tp.parts_end hal)
      gi_wp2
      go_end0
      exact ⟨⟨_, rfl⟩, .inl ⟨_, by rw [← HP.out, HE.out, List.append_nil], hKp⟩⟩

end Go.Proofs.YtffjblamfbmoeaaGreatDoor

/-! Walks: how far a line is that may be an #include. -/
set_option linter.unusedVariables false
set_option linter.unusedSimpArgs false
namespace Go.Proofs.YtffjblamfbmoeaaGreatDoor
open Go Go.RowKit

set_option maxRecDepth 100000 in
set_option maxHeartbeats 2000000 in
theorem after_any (s k : Nat) (x : Tp.T) (w : World) :
    Calls Tryz.prog 56 #[.int .i64 s, .int .i64 k, .string (bs x)] w fun e w' => e = .returned (.int .i64 (Tp.after s k x : Nat)) ∧ w' = w := by
  have htx : (bs x).toList = x := bs_toList x
  by_cases k8 : k = 8
  · subst k8
    have HV := Lib.hid (show Tp.after s 8 x = s by unfold Tp.after; rw [if_pos rfl])
    go_enter Tryz.func56, Tryz.ntmps56
    go_wp2
    go_ret
    exact ⟨by rw [HV.out]; rfl, rfl⟩
  by_cases k9 : k = 9
  · subst k9
    have HV := Lib.hid (show Tp.after s 9 x = 0 by unfold Tp.after; rw [if_neg (by decide), if_pos rfl])
    go_enter Tryz.func56, Tryz.ntmps56
    go_wp2
    go_ret
    exact ⟨by rw [HV.out]; rfl, rfl⟩
  have k8I : ¬ (k : Int) = 8 := by omega
  have k9I : ¬ (k : Int) = 9 := by omega
  have HA := Lib.hid (show Tp.after s k x = if s = 0 ∧ k = 5 ∧ (x = [35] ∨ x = [37, 58]) then 1 else if s = 1 ∧ k = 1 ∧ x = [105, 110, 99, 108, 117, 100, 101] then 2 else 3 by unfold Tp.after; rw [if_neg k8, if_neg k9])
  by_cases s0 : s = 0
  · subst s0
    by_cases k5 : k = 5
    · subst k5
      by_cases x1 : x = [35] ∨ x = [37, 58]
      · have HV := Lib.hid (show Tp.after 0 5 x = 1 by rw [HA.out, if_pos ⟨rfl, rfl, x1⟩])
        rcases x1 with rfl | rfl <;>
        · go_enter Tryz.func56, Tryz.ntmps56
          go_wp2
          go_ret
          exact ⟨by rw [HV.out]; rfl, rfl⟩
      · have HV := Lib.hid (show Tp.after 0 5 x = 3 by rw [HA.out, if_neg (fun h => x1 h.2.2), if_neg (fun h => by cases h.1)])
        simp only [not_or] at x1
        have b1 : (x == [35]) = false := beq_eq_false_iff_ne.2 x1.1
        have b2 : (x == [37, 58]) = false := beq_eq_false_iff_ne.2 x1.2
        clear x1
        go_enter Tryz.func56, Tryz.ntmps56
        go_wp2
        go_ret
        exact ⟨by rw [HV.out]; rfl, rfl⟩
    · have HV := Lib.hid (show Tp.after 0 k x = 3 by rw [HA.out, if_neg (fun h => k5 h.2.1), if_neg (fun h => by cases h.1)])
      have k5I : ¬ (k : Int) = 5 := by omega
      go_enter Tryz.func56, Tryz.ntmps56
      go_wp2
      go_ret
      exact ⟨by rw [HV.out]; rfl, rfl⟩
  have s0I : ¬ (s : Int) = 0 := by omega
  by_cases s1 : s = 1
  · subst s1
    by_cases k1 : k = 1
    · subst k1
      by_cases x1 : x = [105, 110, 99, 108, 117, 100, 101]
      · have HV := Lib.hid (show Tp.after 1 1 x = 2 by rw [HA.out, if_neg (fun h => by cases h.1), if_pos ⟨rfl, rfl, x1⟩])
        subst x1
        go_enter Tryz.func56, Tryz.ntmps56
        go_wp2
        go_ret
        exact ⟨by rw [HV.out]; rfl, rfl⟩
      · have HV := Lib.hid (show Tp.after 1 1 x = 3 by rw [HA.out, if_neg (fun h => by cases h.1), if_neg (fun h => x1 h.2.2)])
        have b1 : (x == [105, 110, 99, 108, 117, 100, 101]) = false := beq_eq_false_iff_ne.2 x1
        clear x1
        go_enter Tryz.func56, Tryz.ntmps56
        go_wp2
        go_ret
        exact ⟨by rw [HV.out]; rfl, rfl⟩
    · have HV := Lib.hid (show Tp.after 1 k x = 3 by rw [HA.out, if_neg (fun h => by cases h.1), if_neg (fun h => k1 h.2.1)])
      have k1I : ¬ (k : Int) = 1 := by omega
      go_enter Tryz.func56, Tryz.ntmps56
      go_wp2
      go_ret
      exact ⟨by rw [HV.out]; rfl, rfl⟩
  · have HV := Lib.hid (show Tp.after s k x = 3 by rw [HA.out, if_neg (fun h => s0 h.1), if_neg (fun h => s1 h.1)])
    have s1I : ¬ (s : Int) = 1 := by omega
    go_enter Tryz.func56, Tryz.ntmps56
    go_wp2
    go_ret
    exact ⟨by rw [HV.out]; rfl, rfl⟩

end Go.Proofs.YtffjblamfbmoeaaGreatDoor

/-! Tokens of a logical text: where they end; the list of them does not hang on the fuel. -/
set_option linter.unusedVariables false
set_option linter.unusedSimpArgs false
namespace Go.Proofs.YtffjblamfbmoeaaGreatDoor
namespace Tp
open Go

theorem hdLen_le (c : UInt8) (l : T) : hdLen c l ≤ l.length := by
  induction l with
  | nil => simp [hdLen]
  | cons x r ih =>
    rw [hdLen]
    split
    · simp
    · split
      · simp
      · cases h : hdLen c r with
        | zero => simp
        | succ n => rw [h] at ih; simp; omega
theorem wdLen_le (l : T) : wdLen l ≤ l.length := by
  induction l with
  | nil => simp [wdLen]
  | cons x r ih => rw [wdLen]; split <;> simp; omega
theorem nmLen_le : ∀ (n : Nat) (l : T), l.length ≤ n → nmLen l ≤ l.length := by
  intro n
  induction n with
  | zero => intro l h; cases l with | nil => simp [nmLen] | cons x r => simp at h
  | succ n ih =>
    intro l h
    cases l with
    | nil => simp [nmLen]
    | cons c r =>
      cases r with
      | nil => rw [nmLen]; split <;> simp
      | cons d r =>
        rw [nmLen]
        simp only [List.length_cons] at h ⊢
        split
        · have := ih r (by omega); omega
        · split
          · have := ih (d :: r) (by simp only [List.length_cons]; omega); simp only [List.length_cons] at this; omega
          · omega
theorem qtLen_le (q : UInt8) : ∀ (n : Nat) (l : T), l.length ≤ n → qtLen q l ≤ l.length := by
  intro n
  induction n with
  | zero => intro l h; cases l with | nil => simp [qtLen] | cons x r => simp at h
  | succ n ih =>
    intro l h
    cases l with
    | nil => simp [qtLen]
    | cons x r =>
      cases r with
      | nil => rw [qtLen]; split; · simp
               split <;> simp
      | cons y r =>
        rw [qtLen]
        simp only [List.length_cons] at h ⊢
        split
        · omega
        · split
          · omega
          · split
            · split
              · omega
              · have := ih r (by omega)
                cases h2 : qtLen q r with
                | zero => simp
                | succ m => rw [h2] at this; simp; omega
            · have := ih (y :: r) (by simp only [List.length_cons]; omega)
              simp only [List.length_cons] at this
              cases h2 : qtLen q (y :: r) with
              | zero => simp
              | succ m => rw [h2] at this; simp; omega
theorem headerEnd_le (l : T) (a : Nat) (h : a < l.length) : headerEnd l a ≤ l.length ∧ (0 < headerEnd l a → a < headerEnd l a) := by
  unfold headerEnd
  have h1 := hdLen_le 62 (l.drop (a + 1))
  have h2 := hdLen_le 34 (l.drop (a + 1))
  rw [List.length_drop] at h1 h2
  simp only
  split
  · cases hh : hdLen 62 (l.drop (a + 1)) with
    | zero => simp
    | succ n => rw [hh] at h1; simp only; omega
  · split
    · cases hh : hdLen 34 (l.drop (a + 1)) with
      | zero => simp
      | succ n => rw [hh] at h2; simp only; omega
    · simp
theorem wordEnd_le (l : T) (a : Nat) (h : a < l.length) : wordEnd l a ≤ l.length := by
  unfold wordEnd
  have := wdLen_le (l.drop (a + 1))
  rw [List.length_drop] at this
  split <;> omega
theorem numberEnd_le (l : T) (a : Nat) (h : a < l.length) : numberEnd l a ≤ l.length := by
  unfold numberEnd
  simp only
  generalize (if g l a = 46 then a + 1 else a) = i
  have := nmLen_le _ (l.drop (i + 1)) (Nat.le_refl _)
  rw [List.length_drop] at this
  split
  · next h2 => omega
  · omega
theorem quoted_le (l : T) (a : Nat) (h : a < l.length) : (quoted l a).2 ≤ l.length := by
  unfold quoted
  simp only
  generalize (if [117, 56, 34].isPrefixOf (l.drop a) = true then a + 2 else if g l a = 117 ∨ g l a = 85 ∨ g l a = 76 then a + 1 else a) = i
  have := qtLen_le (g l i) _ (l.drop (i + 1)) (Nat.le_refl _)
  rw [List.length_drop] at this
  split
  · next h2 =>
    cases hh : qtLen (g l i) (l.drop (i + 1)) with
    | zero => simp
    | succ n =>
      rw [hh] at this
      simp only
      split
      · simp only; omega
      · split <;> simp only <;> omega
  · simp
theorem puLen_le' (l : T) (a n : Nat) : puLen l a n ≤ n := by
  induction n with
  | zero => simp [puLen]
  | succ n ih => rw [puLen]; split <;> omega
theorem punctEnd_le (l : T) (a : Nat) (h : a < l.length) : punctEnd l a ≤ l.length := by
  unfold punctEnd
  have := puLen_le' l a (min 4 (l.length - a))
  cases hh : puLen l a (min 4 (l.length - a)) with
  | zero => simp
  | succ n => rw [hh] at this; simp only; omega
/-- What the best token so far is. -/
def Bst (a N : Nat) (b : It) : Prop := b.f = a ∧ b.t ≤ N ∧ a ≤ b.t ∧ (b.k ≠ 0 → a < b.t)
theorem Bst.best {a N : Nat} {b : It} (h : Bst a N b) {k t : Nat} (ht : t ≤ N) : Bst a N (Tp.best b ⟨k, a, t⟩) := by
  unfold Tp.best
  obtain ⟨h1, h2, h3, h4⟩ := h
  split
  · next hlt => simp only at hlt; exact ⟨rfl, ht, by simp only; omega, fun _ => by simp only; omega⟩
  · exact ⟨h1, h2, h3, h4⟩
theorem longest_ok (l : T) (a : Nat) (h : a < l.length) (he : (longest l a).2 = 0) : (longest l a).1.f = a ∧ a < (longest l a).1.t ∧ (longest l a).1.t ≤ l.length := by
  have hB : Bst a l.length (best (best (best (best ⟨0, a, a⟩ ⟨(quoted l a).1, a, (quoted l a).2⟩) ⟨1, a, wordEnd l a⟩) ⟨2, a, numberEnd l a⟩) ⟨5, a, punctEnd l a⟩) := by
    have h0 : Bst a l.length ⟨0, a, a⟩ := ⟨rfl, by simp only; omega, Nat.le_refl _, fun e => absurd rfl e⟩
    exact (((h0.best (quoted_le l a h)).best (wordEnd_le l a h)).best (numberEnd_le l a h)).best (punctEnd_le l a h)
  unfold longest at he ⊢
  split at he
  · next h1 => rw [if_pos h1]; exact ⟨rfl, by simp only; omega, by simp only; omega⟩
  · next h1 =>
    rw [if_neg h1]
    simp only at he ⊢
    generalize best (best (best (best ⟨0, a, a⟩ ⟨(quoted l a).1, a, (quoted l a).2⟩) ⟨1, a, wordEnd l a⟩) ⟨2, a, numberEnd l a⟩) ⟨5, a, punctEnd l a⟩ = b at *
    split at he
    · next h2 => rw [if_pos h2]; exact ⟨hB.1, hB.2.2.2 h2, hB.2.1⟩
    · next h2 =>
      rw [if_neg h2]
      split at he
      · simp at he
      · next h3 => rw [if_neg h3]; exact ⟨rfl, by simp only; omega, by simp only; omega⟩
theorem cm_le' (l : T) : ∀ n, cmLen l = some n → n + 2 ≤ l.length := by
  induction l with
  | nil => intro n h; simp [cmLen] at h
  | cons x l ih =>
    intro n h
    cases l with
    | nil => simp [cmLen] at h
    | cons y r =>
      rw [cmLen] at h
      split at h
      · simp only [Option.some.injEq] at h; subst h; simp
      · cases hc : cmLen (y :: r) with
        | none => rw [hc] at h; simp at h
        | some m =>
          rw [hc] at h
          simp only [Option.map_some, Option.some.injEq] at h
          have := ih m hc
          simp only [List.length_cons] at this ⊢
          omega
theorem ln_le' (l : T) : lnLen l ≤ l.length := by
  induction l with
  | nil => exact Nat.le_refl _
  | cons x r ih => rw [lnLen]; split <;> simp <;> omega
theorem itemAt_ok (l : T) (a : Nat) (hd : Bool) (h : a < l.length) (he : (itemAt l a hd).2 = 0) : (itemAt l a hd).1.f = a ∧ a < (itemAt l a hd).1.t ∧ (itemAt l a hd).1.t ≤ l.length := by
  have hh := headerEnd_le l a h
  unfold itemAt at he ⊢
  split at he
  · next h1 => rw [if_pos h1]; exact ⟨rfl, hh.2 h1.2, hh.1⟩
  · next h1 =>
    rw [if_neg h1]
    split at he
    · next h2 =>
      rw [if_pos h2]
      have hp := (List.isPrefixOf_iff_prefix.1 h2).length_le
      simp only [List.length_cons, List.length_nil, List.length_drop] at hp
      cases hc : cmLen (l.drop (a + 2)) with
      | none => rw [hc] at he; simp at he
      | some n =>
        have := cm_le' _ n hc
        rw [List.length_drop] at this
        exact ⟨rfl, by simp only; omega, by simp only; omega⟩
    · next h2 =>
      rw [if_neg h2]
      split at he
      · next h3 =>
        rw [if_pos h3]
        have hle := ln_le' (l.drop a)
        rw [List.length_drop] at hle
        obtain ⟨r, hr⟩ := List.isPrefixOf_iff_prefix.1 h3
        have hp : 0 < lnLen (l.drop a) := by rw [← hr]; simp [lnLen]
        exact ⟨rfl, by simp only; omega, by simp only; omega⟩
      · next h3 => rw [if_neg h3]; exact longest_ok l a h he
/-- The tokens from a place on. -/
def itemsA (l : T) (a s : Nat) : List (It × Int) := items l (l.length - a) a s
theorem items_ge (l : T) : ∀ (n m a s : Nat), l.length - a ≤ n → l.length - a ≤ m → items l n a s = items l m a s := by
  intro n
  induction n with
  | zero =>
    intro m a s h1 h2
    cases m with
    | zero => rfl
    | succ m => rw [items, items, if_neg (by omega)]
  | succ n ih =>
    intro m a s h1 h2
    cases m with
    | zero => rw [items, items, if_neg (by omega)]
    | succ m =>
      rw [items, items]
      split
      · next h =>
        split
        · exact ih m _ _ (by omega) (by omega)
        · simp only
          split
          · rfl
          · next he =>
            have hk := itemAt_ok l a (s == 2) h (by simpa using he)
            rw [ih m _ _ (by omega) (by omega)]
      · rfl
theorem items_end {l : T} {a : Nat} (h : ¬ a < l.length) (s : Nat) : itemsA l a s = [] := by
  unfold itemsA; rw [show l.length - a = 0 by omega]; rfl
theorem items_white {l : T} {a : Nat} (h : a < l.length) (s : Nat) (hw : white (g l a) = true) : itemsA l a s = itemsA l (a + 1) s := by
  unfold itemsA
  obtain ⟨m, hm⟩ : ∃ m, l.length - a = m + 1 := ⟨l.length - a - 1, by omega⟩
  rw [hm, items, if_pos h, if_pos hw, items_ge l m (l.length - (a + 1)) _ _ (by omega) (Nat.le_refl _)]
theorem items_bad {l : T} {a : Nat} (h : a < l.length) (s : Nat) (hw : white (g l a) = false) (he : (itemAt l a (s == 2)).2 ≠ 0) : itemsA l a s = [itemAt l a (s == 2)] := by
  unfold itemsA
  obtain ⟨m, hm⟩ : ∃ m, l.length - a = m + 1 := ⟨l.length - a - 1, by omega⟩
  rw [hm, items, if_pos h, if_neg (by simp [hw])]
  exact if_pos he
theorem items_cons {l : T} {a : Nat} (h : a < l.length) (s : Nat) (hw : white (g l a) = false) (he : (itemAt l a (s == 2)).2 = 0) :
    itemsA l a s = itemAt l a (s == 2) :: itemsA l (itemAt l a (s == 2)).1.t (after s (itemAt l a (s == 2)).1.k ((l.take (itemAt l a (s == 2)).1.t).drop (itemAt l a (s == 2)).1.f)) := by
  have hk := itemAt_ok l a (s == 2) h he
  unfold itemsA
  obtain ⟨m, hm⟩ : ∃ m, l.length - a = m + 1 := ⟨l.length - a - 1, by omega⟩
  rw [hm, items, if_pos h, if_neg (by simp [hw])]
  simp only
  rw [if_neg (by simp [he]), items_ge l m (l.length - (itemAt l a (s == 2)).1.t) _ _ (by omega) (Nat.le_refl _)]
end Tp
end Go.Proofs.YtffjblamfbmoeaaGreatDoor

/-! Walks: the tokens of a logical text as an iterator. -/
set_option linter.unusedVariables false
set_option linter.unusedSimpArgs false
namespace Go.Proofs.YtffjblamfbmoeaaGreatDoor
open Go Go.RowKit
attribute [local go_sem] Oper.semAt_some

/-- A round's word: the blocks of some types stay, and the first block. -/
def KpZ (Ts : List TypeId) (X Y : World) : Prop := KpT Ts X Y ∧ Y.heap[0]? = X.heap[0]?
theorem KpZ.trans {Ts : List TypeId} {X Y Z : World} (h : KpZ Ts X Y) (g : KpZ Ts Y Z) : KpZ Ts X Z := ⟨h.1.trans g.1, g.2.trans h.2⟩
theorem KpZ.below {Ts : List TypeId} {X Y : World} (h : Below X.heap.size X Y) (h0 : 0 < X.heap.size) : KpZ Ts X Y := ⟨KpT.below h, h.block 0 h0⟩
theorem KpZ.put {Ts : List TypeId} (W : World) (l : Nat) (o o' : Obj) (h0 : 0 < l) (hl : W.heap[l]? = some o) (ho : o.isCells = false) : KpZ Ts W (W.putObj l o') := ⟨KpT.put W l o o' hl ho, World.putObj_heap_other (by omega)⟩

theorem items_any (s : ByteArray) (w : World) :
    Calls Tryz.prog 28 #[.string s] w fun e w' => e = .returned (.func (.func 53) #[] #[.pointer (some ⟨w.heap.size, 0, none⟩)]) ∧ w' = w.alloc (.cells #[.string s] 9) := by
  go_enter Tryz.func28, Tryz.ntmps28
  go_wp2
  go_ret
  exact ⟨rfl, rfl⟩

theorem wpIn_scope {n : Nat} {P : Program} {c : Code} {Q : Exit → Act → World → Prop} {a : Act} {w : World} (h : c.wpIn Fence.wide n P (Exit.noGoto Q) a w) : (Code.scope c).wpIn Fence.wide n P Q a w :=
  wpIn_wide.2 (wp_scope_straight (wpIn_wide.1 h))
theorem wpIn_label {n l : Nat} {P : Program} {Q : Exit → Act → World → Prop} {a : Act} {w : World} (h : Q .normal a w) : (Code.label l).wpIn Fence.wide n P Q a w := wpIn_wide.2 (wp_label h)

/-- What a round is handed. -/
def itA (x : Tp.It × Int) : Array Value := #[itV x.1, .int .i64 x.2]

set_option maxRecDepth 100000 in
set_option maxHeartbeats 8000000 in
theorem items1_seq (n : Nat) (Bp : Nat) (l : Tp.T) (W : World) (hl : l.length ≤ 1000000) (hb : Bx W Bp 9 (.string (bs l))) (hm : MX W) :
    Seq n Tryz.prog 53 #[.pointer (some ⟨Bp, 0, none⟩)] itA (fun X Y => Below X.heap.size X Y) (KpZ [9, 83])
      (fun pre => pre <+: Tp.itemsA l 0 0) (fun xs => xs = Tp.itemsA l 0 0) (fun pre => pre <+: Tp.itemsA l 0 0) W := by
  have hls : (bs l).size = l.length := bs_size l
  intro y K Kx hK hY h0
  refine callsIn_of_wp Tryz.func53 rfl trivial ?_ rfl
  simp only [Tryz.ntmps53, List.size_toArray, List.length_cons, List.length_nil, Nat.reduceAdd, Nat.reduceSub, Array.replicate_succ, Array.replicate_zero, List.push_toArray, List.append_toArray, List.nil_append, List.cons_append]
  gi_wp2
  refine wpIn_scope ?_
  gi_wp2
  refine wpIn_label ?_
  gi_wp2
  gi_loopw [3, 4, 5, 6] (fun c3 c4 _ _ wr => ∃ (pre : List (Tp.It × Int)) (a s : Nat), c3 = .int .i64 s ∧ c4 = .int .i64 a ∧ a ≤ l.length ∧ Bx wr Bp 9 (.string (bs l)) ∧ MX wr ∧ Hid (pre ++ Tp.itemsA l a s = Tp.itemsA l 0 0) ∧ K pre wr) (fun _ c _ _ wr => l.length - (intOf c).toNat)
  case atStart => exact ⟨[], 0, 0, rfl, rfl, Nat.zero_le _, hb, hm, Lib.hid rfl, h0⟩
  case round =>
    obtain ⟨pre, a, s, rfl, rfl, ha, hbx, hmx, HP, hKp⟩ := hrel
    have cx := hbx.cell
    by_cases hal : a < l.length
    · have hals : a < (bs l).size := by omega
      have WH := fun W => white_any ((bs l)[a]'hals) W
      rw [← g_at hals] at WH
      cases hwh : Tp.white (Tp.g l a)
      · rw [hwh] at WH
        replace WH := Lib.hid WH
        have IT := Lib.hid (fun W hM => itemAt_any l a (s == 2) W hal hl hM)
        have HB := Lib.hid (fun h => Tp.items_bad hal s hwh h)
        have HC := Lib.hid (fun h => Tp.items_cons hal s hwh h)
        have HO := Lib.hid (fun h => Tp.itemAt_ok l a (s == 2) hal h)
        have HS2 := Lib.hid (show ((s : Int) == 2) = (s == 2) by rw [Bool.eq_iff_iff, beq_iff_eq, beq_iff_eq]; omega)
        rw [g_at hals] at WH
        generalize Tp.itemAt l a (s == 2) = x at *
        obtain ⟨⟨ik, jf, jt⟩, ie⟩ := x
        simp only at HB HC HO
        unfold itR itV at IT
        simp only at IT
        rw [← HS2.out] at IT
        clear hwh
        gi_wp2_with (first
          | (refine ⟨trivial, (fun h => by cases h), ?_⟩; gi_at_call 54; (with_reducible refine (callsIn_wide.2 (WH.out _)).mono ?_); rintro e w2 ⟨rfl, rfl⟩)
          | (refine ⟨trivial, (fun h => by cases h), ?_⟩; gi_at_call 55; (with_reducible refine (callsIn_wide.2 (IT.out _ hmx)).mono ?_); rintro e w3 ⟨rfl, hb3⟩))
        have hBy : Below w2.heap.size w2 (w3.alloc (.cells #[.int .i64 ik, .int .i64 jf, .int .i64 jt] 83)) := hb3.alloc hb3.size _
        have hpy := Ib.new w3 ⟨ik, jf, jt⟩
        simp only at hpy
        have hbxy := hbx.below hBy hbx.lt
        have hmxy := hmx.later hBy
        have hK1 := hK pre w2 _ hKp hBy
        generalize w3.alloc (.cells #[.int .i64 ik, .int .i64 jf, .int .i64 jt] 83) = wy at *
        by_cases he : ie = 0
        · subst he
          have HC2 := Lib.hid (HC.out rfl)
          obtain ⟨o1, o2, o3⟩ := HO.out rfl
          have o1s := o1.symm
          subst o1s
          clear o1
          obtain ⟨fn, tmps, assign, body, hy, hR⟩ := hY pre (⟨ik, a, jt⟩, 0) _ hK1 ⟨Tp.itemsA l jt (Tp.after s ik ((l.take jt).drop a)), by rw [List.append_assoc, ← HP.out, HC2.out]; rfl⟩
          simp only [itA, itV] at hy
          rw [hy]
          gi_wp2
          refine ⟨(fun h => by cases h), hR.mono ?_⟩
          rintro e W3 (⟨rfl, hJ3, hk3⟩ | ⟨rfl, hJx3⟩)
          · have hp3 : Ib W3 w3.heap.size ⟨ik, a, jt⟩ := hk3.1 _ _ _ _ (by decide) hpy
            have hbx3 : Bx W3 Bp 9 (.string (bs l)) := hk3.1 _ _ _ _ (by decide) hbxy
            have hmx3 := hmxy.same hk3.2
            obtain ⟨y0, y1, y2⟩ := hp3.cells
            have cx3 := hbx3.cell
            have AF := Lib.hid (fun W => after_any s ik ((l.take jt).drop a) W)
            have hsub : (bs l).extract a jt = bs ((l.take jt).drop a) := by
              have := bs_sub l a (jt - a)
              rw [show a + (jt - a) = jt by omega] at this
              rw [this, List.drop_take]
            have HP2 := Lib.hid (show (pre ++ [((⟨ik, a, jt⟩ : Tp.It), (0 : Int))]) ++ Tp.itemsA l jt (Tp.after s ik ((l.take jt).drop a)) = Tp.itemsA l 0 0 by rw [List.append_assoc, ← HP.out, HC2.out]; rfl)
            generalize Tp.after s ik ((l.take jt).drop a) = s2 at *
            clear hk3 hp3 hy hR hpy hBy hbxy hK1 hbx hb3 cx
            gi_wp2
            refine wpIn_wide.2 ?_
            go_quiet ((go_at_call 56; exact Calls.quiet_of_same (AF.out _)))
            gi_wp2
            go_roundw
            case rel => exact ⟨_, jt, s2, rfl, rfl, o3, hbx3.below (below_drewN (Below.refl _ _) _) hbx3.lt, hmx3.later (below_drewN (Below.refl _ _) _), HP2, hK _ _ _ hJ3 (below_drewN (Below.refl _ _) _)⟩
            case measure => simp [intOf]; omega
          · gi_wp2
            simp only [Exit.noGoto]
            go_end0
            exact ⟨⟨_, rfl⟩, .inr ⟨_, ⟨Tp.itemsA l jt (Tp.after s ik ((l.take jt).drop a)), by rw [List.append_assoc, ← HP.out, HC2.out]; rfl⟩, hJx3⟩⟩
        · have HB2 := Lib.hid (HB.out he)
          obtain ⟨fn, tmps, assign, body, hy, hR⟩ := hY pre (⟨ik, jf, jt⟩, ie) _ hK1 ⟨[], by rw [List.append_nil, ← HP.out, HB2.out]⟩
          simp only [itA, itV] at hy
          have heb : (ie != 0) = true := by simpa using he
          rw [hy]
          gi_wp2
          refine ⟨(fun h => by cases h), hR.mono ?_⟩
          rintro e W3 (⟨rfl, hJ3, hk3⟩ | ⟨rfl, hJx3⟩)
          · gi_wp2
            simp only [Exit.noGoto]
            go_end0
            exact ⟨⟨_, rfl⟩, .inl ⟨_, by rw [← HP.out, HB2.out], hJ3⟩⟩
          · gi_wp2
            simp only [Exit.noGoto]
            go_end0
            exact ⟨⟨_, rfl⟩, .inr ⟨_, ⟨[], by rw [List.append_nil, ← HP.out, HB2.out]⟩, hJx3⟩⟩
      · rw [hwh] at WH
        have HW := Lib.hid (Tp.items_white hal s hwh)
        rw [g_at hals] at WH
        replace WH := Lib.hid WH
        clear hwh
        gi_wp2_with (first
          | (refine ⟨trivial, (fun h => by cases h), ?_⟩; gi_at_call 54; (with_reducible refine (callsIn_wide.2 (WH.out _)).mono ?_); rintro e w2 ⟨rfl, rfl⟩))
        go_roundw
        case rel => exact ⟨pre, a + 1, s, rfl, by go_num, hal, hbx, hmx, Lib.hid (by rw [← HW.out]; exact HP.out), hKp⟩
        case measure => simp [intOf]; omega
    · have HE := Lib.hid (Tp.items_end hal s)
      gi_wp2
      simp only [Exit.noGoto]
      go_end0
      exact ⟨⟨_, rfl⟩, .inl ⟨_, by rw [← HP.out, HE.out, List.append_nil], hKp⟩⟩

end Go.Proofs.YtffjblamfbmoeaaGreatDoor
