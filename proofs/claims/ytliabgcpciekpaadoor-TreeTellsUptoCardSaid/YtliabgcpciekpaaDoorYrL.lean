/- Walks: what one line sets (the program's). -/
import Derived.Test.YtliabgcpciekpaaDoorYrK
import Derived.Test.YtliabgcpciekpaaDoorYrD
set_option linter.unusedVariables false
set_option linter.unusedSimpArgs false
namespace Go.Proofs.YtliabgcpciekpaaDoor
open Go Go.RowKit
attribute [local go_sem] Oper.semAt_some

/-- What assign comes to. -/
def AsFin (o : Option (Nat × Int)) (v : Nat → Int) (b : Nat) (w : World) (e : Ending) (w' : World) : Prop := match o with
  | none => e = .returned (.tuple #[.string ⟨#[]⟩, .bool false]) ∧ Sty w' b v ∧ w.grownBy w' (some b)
  | some (i, x) => e = .returned (.tuple #[.string (bs (St.nm i)), .bool true]) ∧ Sty w' b (St.sput v i x) ∧ w.grownBy w' (some b)
def AsRes (t : St.T) (v : Nat → Int) (b : Nat) (w : World) (e : Ending) (w' : World) : Prop := AsFin (St.sdP t) v b w e w'

theorem gbB {w X Y : World} {r : Option Nat} (h : w.grownBy X r) (hb : Below X.heap.size X Y) : w.grownBy Y r :=
  ⟨hb.os.trans h.os, hb.tape.trans h.tape, hb.output.trans h.output, Nat.le_trans h.size hb.size, fun k hk hr => (hb.block k (Nat.lt_of_lt_of_le hk h.size)).trans (h.block k hk hr)⟩
theorem gb0 (w : World) (r : Option Nat) : w.grownBy w r := ⟨rfl, rfl, rfl, Nat.le_refl _, fun _ _ _ => rfl⟩
theorem gbPut {w X : World} {r : Option Nat} (h : w.grownBy X r) {l : Nat} (hl : w.heap.size ≤ l) (o : Obj) : w.grownBy (X.putObj l o) r :=
  ⟨h.os, h.tape, h.output, by simpa using h.size, fun k hk hr => (World.putObj_heap_other (by omega)).trans (h.block k hk hr)⟩
theorem gbSet {w X : World} {r : Option Nat} (h : w.grownBy X r) {a : Addr} (ha : w.heap.size ≤ a.block) (u : Value) : w.grownBy (X.setCell a u) r :=
  ⟨h.os, h.tape, h.output, by simpa [World.setCell] using h.size, fun k hk hr => (Below.heap_setCell _ _ _ _ (by omega)).trans (h.block k hk hr)⟩
theorem gbThen {w X Y : World} {b : Nat} (h : w.grownBy X (some b)) (g : X.grownBy Y (some b)) : w.grownBy Y (some b) :=
  ⟨g.os.trans h.os, g.tape.trans h.tape, g.output.trans h.output, Nat.le_trans h.size g.size, fun k hk hr => (g.block k (Nat.lt_of_lt_of_le hk h.size) hr).trans (h.block k hk hr)⟩

/-- What holds in assign: the style, the two results' boxes. -/
structure AsI (w : World) (b : Nat) (v : Nat → Int) (r : ByteArray) (k : Bool) (W : World) : Prop where
  sty : Sty W b v
  lt : b < w.heap.size
  x0 : Bx W w.heap.size 9 (.string r)
  x1 : Bx W (w.heap.size + 1) 4 (.bool k)
  gb : w.grownBy W (some b)
  size : w.heap.size + 2 ≤ W.heap.size
section
variable {w W W' : World} {b : Nat} {v : Nat → Int} {r : ByteArray} {k : Bool}
theorem AsI.start (h : Sty w b v) : AsI w b v ⟨#[]⟩ false ((w.alloc (.cells #[.string ⟨#[]⟩] 9)).alloc (.cells #[.bool false] 4)) := by
  have hb : Below w.heap.size w ((w.alloc (.cells #[.string ⟨#[]⟩] 9)).alloc (.cells #[.bool false] 4)) := ((Below.refl _ _).alloc (Nat.le_refl _) _).alloc (by simp) _
  have h1 := Bx.new (w.alloc (.cells #[.string ⟨#[]⟩] 9)) 4 (.bool false)
  rw [World.size_alloc] at h1
  have h0 := Bx.new w 9 (.string ⟨#[]⟩)
  exact ⟨h.later hb, h.lt, h0.below ((Below.refl _ _).alloc (Nat.le_refl _) _) h0.lt, h1, gbB (gb0 w _) hb, by simp⟩
theorem AsI.below (h : AsI w b v r k W) (hb : Below W.heap.size W W') : AsI w b v r k W' :=
  ⟨h.sty.later hb, h.lt, h.x0.below hb h.x0.lt, h.x1.below hb h.x1.lt, gbB h.gb hb, Nat.le_trans h.size hb.size⟩
theorem AsI.draw (h : AsI w b v r k W) (n : Nat) : AsI w b v r k (W.drewN n) := ⟨h.sty, h.lt, h.x0, h.x1, ⟨h.gb.os, h.gb.tape, h.gb.output, h.gb.size, h.gb.block⟩, h.size⟩
theorem AsI.alloc (h : AsI w b v r k W) (o : Obj) : AsI w b v r k (W.alloc o) := h.below ((Below.refl _ _).alloc (Nat.le_refl _) _)
theorem AsI.put (h : AsI w b v r k W) {l : Nat} {o : Obj} (o' : Obj) (hl : w.heap.size ≤ l) (ho : W.heap[l]? = some o) (hc : o.isCells = false) : AsI w b v r k (W.putObj l o') :=
  ⟨h.sty.put o' ho hc, h.lt, h.x0.put' o' ho hc, h.x1.put' o' ho hc, gbPut h.gb hl o', by simpa using h.size⟩
theorem AsI.set (h : AsI w b v r k W) (r' : ByteArray) (k' : Bool) : AsI w b v r' k' ((W.setCell ⟨w.heap.size, 0, none⟩ (.string r')).setCell ⟨w.heap.size + 1, 0, none⟩ (.bool k')) := by
  have hlt := h.lt
  refine ⟨?_, h.lt, ?_, ?_, gbSet (gbSet h.gb (Nat.le_refl _) _) (by simp) _, by simpa [World.setCell] using h.size⟩
  · exact (Below.heap_setCell _ _ _ _ (by simp; omega)).trans ((Below.heap_setCell _ _ _ _ (by simp; omega)).trans h.sty)
  · exact (Below.heap_setCell _ _ _ _ (by simp)).trans (h.x0.set _)
  · have h2 : Bx (W.setCell ⟨w.heap.size, 0, none⟩ (.string r')) (w.heap.size + 1) 4 (.bool k) := (Below.heap_setCell _ _ _ _ (by simp)).trans h.x1
    exact h2.set _
theorem AsI.grown (h : AsI w b v r k W) {v' : Nat → Int} (hs : Sty W' b v') (hg : W.grownBy W' (some b)) : AsI w b v' r k W' := by
  have hlt := h.lt
  exact ⟨hs, h.lt, (hg.block _ h.x0.lt (by simp; omega)).trans h.x0, (hg.block _ h.x1.lt (by simp; omega)).trans h.x1, gbThen h.gb hg, Nat.le_trans h.size hg.size⟩
end
theorem as_results {w W : World} {b : Nat} {v : Nat → Int} {r : ByteArray} {k : Bool} {tmps : Array Value} (h : AsI w b v r k W) (h4 : tmps.getD 4 undef = .pointer (some ⟨w.heap.size, 0, none⟩)) (h5 : tmps.getD 5 undef = .pointer (some ⟨w.heap.size + 1, 0, none⟩)) :
    (results Tryd.f49 tmps).run Tryd.prog W = .ok (.tuple #[.string r, .bool k]) W := by
  have z0 := h.x0.cell
  have z1 := h.x1.cell
  have h4' : tmps[4]?.getD undef = .pointer (some ⟨w.heap.size, 0, none⟩) := by simpa using h4
  have h5' : tmps[5]?.getD undef = .pointer (some ⟨w.heap.size + 1, 0, none⟩) := by simpa using h5
  simp [results, Tryd.results49, go_sem, h4', h5', z0, z1]

/-- How the range over the entries ends. -/
def AsEnd (w : World) (b : Nat) (v : Nat → Int) (N : St.T) (x : Int) (W : World) : Prop := match St.fnd N x with
  | none => AsI w b v ⟨#[]⟩ false W
  | some (i, y) => AsI w b (St.sput v i y) (bs (St.nm i)) true W
theorem AsEnd.put {w W : World} {b : Nat} {v : Nat → Int} {N : St.T} {x : Int} (h : AsEnd w b v N x W) {l : Nat} {o : Obj} (o' : Obj) (hl : w.heap.size ≤ l) (ho : W.heap[l]? = some o) (hc : o.isCells = false) : AsEnd w b v N x (W.putObj l o') := by
  unfold AsEnd at h ⊢
  cases hf : St.fnd N x with
  | none => rw [hf] at h; exact h.put o' hl ho hc
  | some q => rw [hf] at h; exact AsI.put h o' hl ho hc
theorem AsEnd.res {w W : World} {b : Nat} {v : Nat → Int} {N : St.T} {x : Int} {tmps : Array Value} (h : AsEnd w b v N x W) (h4 : tmps.getD 4 undef = .pointer (some ⟨w.heap.size, 0, none⟩)) (h5 : tmps.getD 5 undef = .pointer (some ⟨w.heap.size + 1, 0, none⟩)) :
    ∃ u, (results Tryd.f49 tmps).run Tryd.prog W = .ok u W ∧ AsFin (St.fnd N x) v b w (.returned u) W := by
  unfold AsEnd at h
  cases hf : St.fnd N x with
  | none => rw [hf] at h; exact ⟨_, as_results h h4 h5, rfl, h.sty, h.gb⟩
  | some q => rw [hf] at h; exact ⟨_, as_results h h4 h5, rfl, h.sty, h.gb⟩
/-- What holds between the rounds. -/
structure AsJ (w : World) (b : Nat) (v : Nat → Int) (N : St.T) (x : Int) (H2 H3 : Nat) (pre : List Nat) (W : World) : Prop where
  ai : AsI w b v ⟨#[]⟩ false W
  x2 : Bx W H2 9 (.string (bs N))
  x3 : Bx W H3 3 (.int .i64 x)
  no : ∀ i ∈ pre, St.nm i ≠ N
  o1 : w.heap.size + 2 ≤ H2
  o2 : H2 < H3
  sz : H3 + 2 ≤ W.heap.size
section
variable {w W W' : World} {b : Nat} {v : Nat → Int} {N : St.T} {x : Int} {H2 H3 : Nat} {pre : List Nat}
theorem AsJ.below (h : AsJ w b v N x H2 H3 pre W) (hb : Below W.heap.size W W') : AsJ w b v N x H2 H3 pre W' :=
  ⟨h.ai.below hb, h.x2.below hb h.x2.lt, h.x3.below hb h.x3.lt, h.no, h.o1, h.o2, Nat.le_trans h.sz hb.size⟩
theorem AsJ.grown (h : AsJ w b v N x H2 H3 pre W) (hg : W.grownBy W' none) : AsJ w b v N x H2 H3 pre W' :=
  h.below ⟨hg.os, hg.tape, hg.output, hg.size, fun k hk => hg.block k hk (by simp)⟩
theorem AsJ.put (h : AsJ w b v N x H2 H3 pre W) {l : Nat} {o : Obj} (o' : Obj) (hl : H3 ≤ l) (ho : W.heap[l]? = some o) (hc : o.isCells = false) : AsJ w b v N x H2 H3 pre (W.putObj l o') := by
  have := h.o1; have := h.o2
  exact ⟨h.ai.put o' (by omega) ho hc, h.x2.put' o' ho hc, h.x3.put' o' ho hc, h.no, h.o1, h.o2, by simpa using h.sz⟩
theorem AsJ.more (h : AsJ w b v N x H2 H3 pre W) {i : Nat} (hi : St.nm i ≠ N) : AsJ w b v N x H2 H3 (pre ++ [i]) W :=
  ⟨h.ai, h.x2, h.x3, fun j hj => by
    rcases List.mem_append.1 hj with hj | hj
    · exact h.no j hj
    · rw [List.mem_singleton.1 hj]; exact hi, h.o1, h.o2, h.sz⟩
end
def asTmps (b h h2 h3 : Nat) (s A B N D : ByteArray) (x : Int) (p e : Value) : Array Value :=
  #[.pointer (some ⟨b, 0, none⟩), .string s, undef, undef, .pointer (some ⟨h, 0, none⟩), .pointer (some ⟨h + 1, 0, none⟩), .string A, .string B, .bool true, .pointer (some ⟨h2, 0, none⟩), .pointer (some ⟨h3, 0, none⟩), .bool true, p,
    .tuple #[.string A, .string B, .bool true], .string s, .tuple #[.string A, .string B, .bool true], .string A, .string B, .bool true, .bool true, .bool false, .string A, .string N,
    .tuple #[.int .i64 x, .bool true], .string B, .string D, .tuple #[.int .i64 x, .bool true], .int .i64 x, .bool true, .bool true, .bool false, .pointer (some ⟨b, 0, none⟩),
    .func (.func 64) #[] #[.pointer (some ⟨h3 + 1, 0, none⟩)], e, undef, undef, undef, undef, undef, undef, undef, undef, undef, undef, undef, undef, undef, undef, undef, undef, undef, undef]
theorem keeps_self (B : Nat) (W : World) : KeepsFrom B W W := ⟨Nat.le_refl _, fun _ _ _ h _ => h⟩
theorem kpE_self (W : World) : KpE W W := fun _ _ _ e => e

set_option maxRecDepth 100000 in
set_option maxHeartbeats 4000000 in
theorem assign_any (s : ByteArray) (b : Nat) (v : Nat → Int) (w : World) (hs : s.size ≤ 1000000000) (h : Sty w b v) :
    Calls Tryd.prog 49 #[.pointer (some ⟨b, 0, none⟩), .string s] w (AsRes s.data.toList v b w) := by
  have hC := fun W => Cut_any s W hs
  have A0 := AsI.start h
  cases hT : St.cutT s.data.toList
  · have HR := Lib.hid (show St.sdP s.data.toList = none by unfold St.sdP; rw [hT]; rfl)
    rw [hT] at hC
    have hC := Lib.hid hC
    unfold AsRes
    rw [HR.out]
    clear hT
    generalize bs (St.cutA s.data.toList) = A at *
    generalize bs (St.cutB s.data.toList) = B at *
    have A0 := Lib.hid A0
    go_enter Tryd.func49, Tryd.ntmps49
    go_wp2_with (go_at_call 77; (with_reducible refine (hC.out _).mono ?_); rintro e w1 ⟨rfl, n, rfl⟩)
    have A1 := (A0.out.draw n).set ⟨#[]⟩ false
    exact bodyPost_ret (as_results A1 rfl rfl) rfl ⟨rfl, A1.sty, A1.gb⟩
  · rw [hT] at hC
    have hC := Lib.hid hC
    obtain ⟨ka, hka⟩ := St.cutA_eq s.data.toList
    obtain ⟨kb, hkb⟩ := St.cutB_eq s.data.toList
    have hAz : (bs (St.cutA s.data.toList)).size ≤ 1000000000 := by rw [bs_size, hka]; have := Lib.size_eq s; simp; omega
    have TR := fun W => TrimRight_any (bs (St.cutA s.data.toList)) W hAz
    have TL := fun W => TrimLeft_any (bs (St.cutB s.data.toList)) W
    rw [bs_data] at TR TL
    have DG := fun W => digits_any (bs (St.trimL (St.cutB s.data.toList))) W
    rw [bs_data] at DG
    have HS := Lib.hid (show St.sdP s.data.toList = if St.isNum (St.trimL (St.cutB s.data.toList)) = true then St.fnd (St.trimR (St.cutA s.data.toList)) (St.worth (St.trimL (St.cutB s.data.toList))) else none by unfold St.sdP; rw [if_pos hT])
    clear hka hkb hAz hT
    generalize bs (St.cutA s.data.toList) = A at *
    generalize bs (St.cutB s.data.toList) = B at *
    generalize St.trimR (St.cutA s.data.toList) = N at *
    generalize St.trimL (St.cutB s.data.toList) = D at *
    have TR := Lib.hid TR
    have TL := Lib.hid TL
    cases hN : St.isNum D
    · have HR := Lib.hid (show St.sdP s.data.toList = none by rw [HS.out, hN]; rfl)
      rw [dgRes_no hN] at DG
      have DG := Lib.hid DG
      unfold AsRes
      rw [HR.out]
      clear hN
      have A0 := Lib.hid A0
      go_enter Tryd.func49, Tryd.ntmps49
      go_wp2_with (first
        | (go_at_call 77; (with_reducible refine (hC.out _).mono ?_); rintro e w1 ⟨rfl, n, rfl⟩; have A1 := Lib.hid (A0.out.draw n))
        | (go_at_call 48; (with_reducible refine (TR.out _).mono ?_); rintro e w2 ⟨rfl, b2⟩; have A2 := Lib.hid (A1.out.below b2))
        | (go_at_call 47; (with_reducible refine (TL.out _).mono ?_); rintro e w3 ⟨rfl, b3⟩; have A3 := (A2.out.alloc _).below b3; have z0 := A3.x0.cell; have y0 := A3.x0.frozen; have z1 := A3.x1.cell; have y1 := A3.x1.frozen; have l0 := A3.x0.lt; have l1 := A3.x1.lt; have A3 := Lib.hid A3)
        | (go_at_call 78; (with_reducible refine (DG.out _).mono ?_); rintro e w4 ⟨rfl, rfl⟩))
      have A4 := (A3.out.set ⟨#[]⟩ false).alloc (.cells #[.int .i64 0] 3)
      exact bodyPost_ret (as_results A4 rfl rfl) rfl ⟨rfl, A4.sty, A4.gb⟩
    · have hwb := St.isNum_bd hN
      have HR := Lib.hid (show St.sdP s.data.toList = St.fnd N (St.worth D) by rw [HS.out, hN]; rfl)
      rw [dgRes_yes hN] at DG
      have DG := Lib.hid DG
      unfold AsRes
      rw [HR.out]
      clear hN
      generalize St.worth D = x at *
      have A0 := Lib.hid A0
      refine callsIn_wide (n := 5) |>.1 ?_
      refine callsIn_of_wp_marks Tryd.func49 rfl trivial ?_ rfl
      simp only [Tryd.ntmps49, List.size_toArray, List.length_cons, List.length_nil, Nat.reduceAdd, Nat.reduceSub, Array.replicate_succ, Array.replicate_zero, List.push_toArray, List.append_toArray, List.nil_append, List.cons_append]
      refine wpIn_wide.2 ?_
      go_wp2_with (first
        | (go_at_call 77; (with_reducible refine (hC.out _).mono ?_); rintro e w1 ⟨rfl, n, rfl⟩; have A1 := Lib.hid (A0.out.draw n))
        | (go_at_call 48; (with_reducible refine (TR.out _).mono ?_); rintro e w2 ⟨rfl, b2⟩; have A2 := Lib.hid (A1.out.below b2))
        | (go_at_call 47; (with_reducible refine (TL.out _).mono ?_); rintro e w3 ⟨rfl, b3⟩; have A3 := (A2.out.alloc _).below b3; have z0 := A3.x0.cell; have y0 := A3.x0.frozen; have z1 := A3.x1.cell; have y1 := A3.x1.frozen; have l0 := A3.x0.lt; have l1 := A3.x1.lt; have A3 := Lib.hid A3)
        | (go_at_call 78; (with_reducible refine (DG.out _).mono ?_); rintro e w4 ⟨rfl, rfl⟩)
        | (go_at_call 37; (with_reducible refine (entries_any _ _).mono ?_); rintro e w5 ⟨rfl, rfl⟩))
      obtain ⟨wB, hwB⟩ : ∃ wB, ((w3.alloc (.cells #[.int .i64 x] 3)).alloc (.cells #[.pointer (some ⟨b, 0, none⟩)] 74)) = wB := ⟨_, rfl⟩
      have hsB : wB.heap.size = w3.heap.size + 2 := by rw [← hwB]; simp
      have hb3B : Below w3.heap.size w3 wB := by rw [← hwB]; exact ((Below.refl _ _).alloc (Nat.le_refl _) _).alloc (by simp) _
      have h23 : w2.heap.size < w3.heap.size := by have := b3.size; simp at this; omega
      have J0 : AsJ w b v N x w2.heap.size w3.heap.size [] wB := by
        have q2 := Bx.new w2 9 (.string (bs N))
        have q3 := Bx.new w3 3 (.int .i64 x)
        refine ⟨A3.out.below hb3B, (q2.below b3 (by simp)).below hb3B h23, ?_, by simp, A2.out.size, h23, by omega⟩
        rw [← hwB]
        exact q3.below ((Below.refl _ _).alloc (Nat.le_refl _) _) q3.lt
      have P1 : Bx wB (w3.heap.size + 1) 74 (.pointer (some ⟨b, 0, none⟩)) := by
        rw [← hwB]
        have h1 := Bx.new (w3.alloc (.cells #[.int .i64 x] 3)) 74 (.pointer (some ⟨b, 0, none⟩))
        rw [World.size_alloc] at h1
        exact h1
      rw [hwB]
      have hw23 := A2.out.size
      generalize w2.heap.size = H2 at *
      generalize w3.heap.size = H3 at *
      clear hwB hb3B z0 y0 z1 y1 b3 A3 A2 TL TR DG b2 A1
      refine (wpIn_wide (n := 5)).1 ?_
      refine rangeLaw2 (gf := 64) (lb := #[.pointer (some ⟨H3 + 1, 0, none⟩)]) rfl (enters_of Tryd.func64 (by kernel_rfl) rfl)
        (fun W1 hs1 hbb => entries1_seq (5 - 1) (H3 + 1) b W1 (P1.below hbb P1.lt) (by have := (J0.ai.sty.below hbb J0.ai.sty.lt); unfold Sty at this; rw [this]; rfl))
        (fun X Y k o hg hk ho _ => (hg.block k (Array.getElem?_eq_some_iff.1 ho).1 (by simp)).trans ho)
        (fun h1 h2 => h1.trans h2) (fun W l o o' hl ho hc _ => KpE.put W l o o' ho hc) (fun _ => rfl)
        (AsJ w b v N x H2 H3) (fun c _ W => c = .ret ∧ AsEnd w b v N x W)
        (fun pre X Y h1 hg => h1.grown hg)
        (fun pre W l o o' h1 hl ho hc => h1.put o' (by rw [hsB] at hl; omega) ho hc)
        (fun c pre W l o o' h1 hl ho hc => ⟨h1.1, h1.2.put o' (by rw [hsB] at hl; omega) ho hc⟩)
        (fun W1 hs1 hbb => J0.below hbb)
        (fun pre i a' W => ∃ P, a' = { tmps := asTmps b w.heap.size H2 H3 s A B (bs N) (bs D) x (.pointer (some ⟨P, 0, none⟩)) (entV b i), defers := [] } ∧ Eb W P b i ∧ AsJ w b v N x H2 H3 pre W)
        (fun pre i a' W l o o' ⟨P, h0, he, h1⟩ hl ho hc => ⟨P, h0, he.put o' ho hc, h1.put o' (by rw [hsB] at hl; omega) ho hc⟩) ?assign ?body ?done ?stop
      case assign =>
        intro y pre i W K hi hgo hsz hK
        simp only [entV]
        have HK := Lib.hid (hK { tmps := asTmps b w.heap.size H2 H3 s A B (bs N) (bs D) x (.pointer (some ⟨W.heap.size, 0, none⟩)) (entV b i), defers := [] } (W.alloc (.cells (entL b i).toArray 78)) ((KeepsOthers.alloc W _).from _) (KpE.below (B := 0) ((Below.refl _ _).alloc (Nat.le_refl _) _))
          ⟨_, rfl, Eb.new W _ _, hi.below ((Below.refl _ _).alloc (Nat.le_refl _) _)⟩)
        unfold asTmps entV entL at HK
        generalize hp4 : (if St.isFl i = true then none else some (⟨b, i, none⟩ : Addr)) = p4 at *
        generalize hp5 : (if St.isFl i = true then some (⟨b, i, none⟩ : Addr) else none) = p5 at *
        clear hK hi hp4 hp5
        gi_wp2
        exact HK.out
      case body =>
        rintro y pre i a' W ⟨P, rfl, hP, h1⟩ hgo hsz
        have hi := pre_lt hgo
        obtain ⟨c0, c1, c2, c3, c4, c5⟩ := hP.cells
        have d2 := h1.x2.cell
        have d3 := h1.x3.cell
        have z0 := h1.ai.x0.cell
        have y0 := h1.ai.x0.frozen
        have z1 := h1.ai.x1.cell
        have y1 := h1.ai.x1.frozen
        have hfh := St.fl_high i hi
        have SA := Lib.hid (fun hx => set_any b i (bs (St.nm i)) (St.low i) (St.high i) (St.first i) x v W h1.ai.sty hi hx)
        have HNM := Lib.hid (show (bs (St.nm i)) = bs N ↔ St.nm i = N from ⟨fun e => by rw [← bs_data (St.nm i), e, bs_data], fun e => by rw [e]⟩)
        have H1 := Lib.hid h1
        have hn0 : St.nm i ≠ N → AsJ w b v N x H2 H3 (pre ++ [i]) W := fun h => h1.more h
        have hout : St.nm i = N → (x < St.low i ∨ St.high i < x) → AsEnd w b v N x ((W.setCell ⟨w.heap.size, 0, none⟩ (.string ⟨#[]⟩)).setCell ⟨w.heap.size + 1, 0, none⟩ (.bool false)) := fun h k => by
          unfold AsEnd; rw [St.fnd_out hi h k]; exact h1.ai.set _ _
        have hin : St.nm i = N → St.low i ≤ x → x ≤ St.high i → ∀ W3, Sty W3 b (St.sput v i x) → W.grownBy W3 (some b) → AsEnd w b v N x ((W3.setCell ⟨w.heap.size, 0, none⟩ (.string (bs N))).setCell ⟨w.heap.size + 1, 0, none⟩ (.bool true)) := fun h k1 k2 W3 s3 g3 => by
          unfold AsEnd; rw [St.fnd_name hi h k1 k2, ← h]; exact (h1.ai.grown s3 g3).set _ _
        have hfar : ∀ W3, Sty W3 b (St.sput v i x) → W.grownBy W3 (some b) → AsI w b (St.sput v i x) ⟨#[]⟩ false W3 ∧ Bx W3 H2 9 (.string (bs N)) := fun W3 s3 g3 =>
          ⟨h1.ai.grown s3 g3, (g3.block _ h1.x2.lt (by have := h1.ai.lt; have := h1.o1; simp; omega)).trans h1.x2⟩
        have hn0 := Lib.hid hn0
        have hout := Lib.hid hout
        have hin := Lib.hid hin
        have hfar := Lib.hid hfar
        have HST := Lib.hid h1.ai.sty
        have hfh := Lib.hid hfh
        unfold asTmps
        generalize hp4 : (if St.isFl i = true then none else some (⟨b, i, none⟩ : Addr)) = p4 at *
        generalize hp5 : (if St.isFl i = true then some (⟨b, i, none⟩ : Addr) else none) = p5 at *
        clear hp4 hp5 hgo h1 J0 P1 H1
        generalize bs (St.nm i) = M at *
        generalize bs N = NB at *
        by_cases hM : M = NB
        · have hnm := Lib.hid (HNM.out.1 hM)
          subst hM
          clear HNM
          by_cases h5 : x < St.low i
          · have HE := Lib.hid (hout.out hnm.out (.inl h5))
            gi_wp2
            exact ⟨((KeepsOthers.setCell _ _ _).trans (KeepsOthers.setCell _ _ _)).from _, rfl, HE.out⟩
          · by_cases h6 : St.high i < x
            · have HE := Lib.hid (hout.out hnm.out (.inr h6))
              gi_wp2
              exact ⟨((KeepsOthers.setCell _ _ _).trans (KeepsOthers.setCell _ _ _)).from _, rfl, HE.out⟩
            · have HE := Lib.hid (hin.out hnm.out (by omega) (by omega))
              have SA := Lib.hid (SA.out (fun hf => by have := hfh.out hf; omega))
              gi_wp2_with (refine ⟨trivial, ?_⟩; gi_at_call 53; (with_reducible refine (CallsIn.inRound y (callsIn_wide.2 SA.out)).mono ?_); rintro e w4 ⟨rfl, s4, g4⟩; have HF := hfar.out _ s4 g4; have u0 := HF.1.x0.cell; have t0 := HF.1.x0.frozen; have u1 := HF.1.x1.cell; have t1 := HF.1.x1.frozen; have u2 := HF.2.cell; have KG := keeps_grown (B := wB.heap.size) HST.out g4; have HE4 := Lib.hid (HE.out _ s4 g4); clear s4 g4 HF)
              exact ⟨KG.trans (((KeepsOthers.setCell _ _ _).trans (KeepsOthers.setCell _ _ _)).from _), rfl, HE4.out⟩
        · have hML : ¬ M.toList = NB.toList := fun e => hM (by rw [← bs_of M, ← bs_of NB, ← Lib.toList_data, ← Lib.toList_data, e])
          have hMq : (M.toList == NB.toList) = false := beq_eq_false_iff_ne.2 hML
          have HJ := Lib.hid (hn0.out (fun e => hM (HNM.out.2 e)))
          clear HNM
          gi_wp2
          exact ⟨keeps_self _ _, kpE_self _, HJ.out⟩
      case done =>
        rintro D xs W hD hS h1 hK
        obtain rfl : D = H3 + 2 := by rw [hD, hsB]
        have hf : St.fnd N x = none := St.fnd_far (fun i hi => h1.no i (by rw [hS]; exact List.mem_range.2 hi))
        have z0 := h1.ai.x0.cell
        have y0 := h1.ai.x0.frozen
        have z1 := h1.ai.x1.cell
        have y1 := h1.ai.x1.frozen
        have HE := Lib.hid (h1.ai.set ⟨#[]⟩ false)
        have HK : ((W.setCell ⟨w.heap.size, 0, none⟩ (.string ⟨#[]⟩)).setCell ⟨w.heap.size + 1, 0, none⟩ (.bool false)).heap[H3 + 2]? = some (.deferred (some [])) :=
          (Below.heap_setCell _ _ _ _ (by simp; omega)).trans ((Below.heap_setCell _ _ _ _ (by simp; omega)).trans hK)
        have HK := Lib.hid HK
        have hf := Lib.hid hf
        clear hK h1 hS J0 P1
        go_wp2
        refine ⟨by simp, .inl ⟨_, _, rfl, run_takeDeferred HK.out, ?_⟩⟩
        have HE2 := HE.out.put (.deferred none) (by omega) HK.out rfl
        rw [hf.out]
        exact ⟨_, as_results HE2 rfl rfl, rfl, HE2.sty, HE2.gb⟩
      case stop =>
        rintro D c pre W hD hS ⟨rfl, hE⟩ hK
        obtain rfl : D = H3 + 2 := by rw [hD, hsB]
        clear hS J0 P1
        gi_wp2
        refine ⟨by simp, .inl ⟨_, _, rfl, run_takeDeferred hK, ?_⟩⟩
        obtain ⟨u, hu, hr⟩ := AsEnd.res (hE.put (.deferred none) (by omega) hK rfl) (tmps := asTmps b w.heap.size H2 H3 s A B (bs N) (bs D) x undef undef) rfl rfl
        exact ⟨_, hu, hr⟩

end Go.Proofs.YtliabgcpciekpaaDoor
