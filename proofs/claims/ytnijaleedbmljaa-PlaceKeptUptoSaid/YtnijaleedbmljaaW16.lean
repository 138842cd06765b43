/- Walks: edits as spots in bytes, by the program's iterator. -/
import Derived.Test.YtnijaleedbmljaaW6
import Derived.Test.YtnijaleedbmljaaW8
import Derived.Test.YtnijaleedbmljaaW9
import Derived.Test.YtnijaleedbmljaaW11
import Derived.Test.YtnijaleedbmljaaSeq2
import Derived.Test.YtnijaleedbmljaaPlI
import Derived.Deep.RegionHeld3
import Derived.Sort.QuietTacIn
set_option linter.unusedVariables false
set_option linter.unusedSimpArgs false
namespace Go.Proofs.Ytnijaleedbmljaa
open Go Go.RowKit Go.Shelf
attribute [local go_sem] Oper.semAt_some

/-- What lies in the blocks below N stays. -/
def Keep (N : Nat) (a b : World) : Prop := a.heap.size ≤ b.heap.size ∧ ∀ k, k < N → b.heap[k]? = a.heap[k]?
theorem Keep.refl (N : Nat) (a : World) : Keep N a a := ⟨Nat.le_refl _, fun _ _ => rfl⟩
theorem Keep.trans {N : Nat} {a b c : World} (h : Keep N a b) (g : Keep N b c) : Keep N a c := ⟨Nat.le_trans h.1 g.1, fun k hk => (g.2 k hk).trans (h.2 k hk)⟩
theorem Keep.below {N M : Nat} {a b : World} (h : Below M a b) (hN : N ≤ M) : Keep N a b := ⟨h.size, fun k hk => h.block k (by omega)⟩
theorem cell_same {a b : World} {p : Addr} (h : b.heap[p.block]? = a.heap[p.block]?) : b.cell? p = a.cell? p := by unfold World.cell?; rw [h]
theorem Rd.keep {w w' : World} {sz n : Nat} {A : Option Addr} {xs : List Value} (h : Rd w sz A n xs) (g : Keep w.heap.size w w') : Rd w' sz A n xs :=
  ⟨h.1, fun hn => by
    obtain ⟨b, o, e, hlt, hc⟩ := h.2 hn
    exact ⟨b, o, e, Nat.lt_of_lt_of_le hlt g.1, fun j u hu => (cell_same (p := ⟨b, o + j, none⟩) (g.2 b hlt)).trans (hc j u hu)⟩⟩

/-- The places at which lines begin. -/
def begs (L : List Pl.T) (k : Nat) : List Value := (List.range (k + 1)).map fun j => Value.int .i64 (Pl.beg L j)
theorem begs_length (L : List Pl.T) (k : Nat) : (begs L k).length = k + 1 := by simp [begs]
theorem begs_at {L : List Pl.T} {k j : Nat} (h : j ≤ k) : (begs L k)[j]? = some (.int .i64 (Pl.beg L j)) := by
  unfold begs; rw [List.getElem?_map, List.getElem?_range (by omega)]; rfl
theorem begs_snoc (L : List Pl.T) (k : Nat) : begs L k ++ [.int .i64 (Pl.beg L (k + 1))] = begs L (k + 1) := by
  unfold begs; rw [List.range_succ (n := k + 1), List.map_append]; rfl
theorem beg_succ {L : List Pl.T} {k : Nat} {x : Pl.T} (h : L[k]? = some x) : Pl.beg L (k + 1) = Pl.beg L k + x.length := off_succ h
theorem beg_le (L : List Pl.T) (k : Nat) : Pl.beg L k ≤ L.flatten.length := off_le L k

theorem own_ne_ty {w : World} {b1 b2 e1 e2 s1 s2 n1 n2 : Nat} {v1 v2 : Value} {x1 x2 : List Value} (h1 : w.ownsRow b1 e1 s1 v1 n1 x1) (h2 : w.ownsRow b2 e2 s2 v2 n2 x2) (h : e1 ≠ e2) : v1.ownBlock = none ∨ v1.ownBlock ≠ v2.ownBlock := by
  rcases h1.2 with ⟨rfl, _⟩ | ⟨g1, c1, u1, rfl, _, g1h, _⟩
  · exact .inl rfl
  rcases h2.2 with ⟨rfl, _⟩ | ⟨g2, c2, u2, rfl, _, g2h, _⟩
  · exact .inr (by simp [Value.ownBlock])
  right
  simp only [Value.ownBlock, ne_eq, Option.some.injEq]
  rintro rfl
  rw [g1h] at g2h
  simp only [Option.some.injEq, Obj.cells.injEq] at g2h
  exact h g2h.2.1
theorem own_same {w w' : World} {base e sz n : Nat} {v : Value} {xs : List Value} (h : w.ownsRow base e sz v n xs) (hk : ∀ k o, base ≤ k → w.heap[k]? = some o → (∃ c f, o = .cells c e f) → w'.heap[k]? = some o) : w'.ownsRow base e sz v n xs := by
  refine ⟨h.1, ?_⟩
  rcases h.2 with h2 | ⟨g, cap, cur, hv, hg, hh, r⟩
  · exact .inl h2
  · exact .inr ⟨g, cap, cur, hv, hg, hk g _ hg hh ⟨_, _, rfl⟩, r⟩

theorem spInfo : (Try.prog.info? 80).map (fun i => (i.zero, i.size, i.bytes)) = some (some (.agg #[.int .i64 0, .int .i64 0, .int .i64 0, .string ⟨#[]⟩]), 4, 40) := by kernel_rfl
theorem intInfo' : (Try.prog.info? 3).map (fun i => (i.zero, i.size, i.bytes)) = some (some (.int .i64 0), 1, 8) := by kernel_rfl

/-- A spot's value. -/
def spv (p : Pl.Spot) : Array Value := #[.agg #[.int .i64 p.b, .int .i64 p.e, .int .i64 p.to, .string (bs p.x)]]
/-- A round's word: the blocks below N, and the iterator's own ones (of ints and of spots), stay. -/
def Kps (N S : Nat) (A B : World) : Prop := Keep N A B ∧ ∀ k o, S ≤ k → A.heap[k]? = some o → (∃ c f, o = .cells c 3 f ∨ o = .cells c 80 f) → B.heap[k]? = some o

set_option maxRecDepth 100000 in
set_option maxHeartbeats 8000000 in
theorem spots1_seq (n Bs Bl : Nat) (s : ByteArray) (A : Option Addr) (c : Nat) (l : List Pl.Ed) (w0 W : World) (es : Prop) (hs : s.size ≤ 4000000) (hb : Bx W Bs 9 (.string s)) (hbl : Bx W Bl 22 (.slice A l.length c))
    (h : Rd w0 3 A l.length (edcs l)) (hsm : Sm l) (hfit : Pl.Fits (Pl.lines s.data.toList).length es (-1) l) (h0W : Keep w0.heap.size w0 W) :
    Seq n Try.prog 61 #[.pointer (some ⟨Bs, 0, none⟩), .pointer (some ⟨Bl, 0, none⟩)] spv (fun X Y => Below X.heap.size X Y) (Kps w0.heap.size W.heap.size)
      (fun pre => pre <+: Pl.spots (Pl.lines s.data.toList) 0 l) (fun xs => xs = Pl.spots (Pl.lines s.data.toList) 0 l) (fun pre => pre <+: Pl.spots (Pl.lines s.data.toList) 0 l) W := by
  obtain ⟨i0, hi, hz0, hz1, hz2⟩ := info_parts intInfo'
  obtain ⟨hxn, hxT, hxf⟩ := ref_setup hs
  have LC := Lib.hid (fun w => Lines_any s w (by omega))
  generalize Pl.lines s.data.toList = L at *
  have hlen := hsm.len
  intro y K Kx hK hY h0
  refine callsIn_of_wp Try.func61 rfl trivial ?_ rfl
  simp only [Try.ntmps61, List.size_toArray, List.length_cons, List.length_nil, Nat.reduceAdd, Nat.reduceSub, Array.replicate_succ, Array.replicate_zero, List.push_toArray, List.append_toArray, List.nil_append, List.cons_append]
  have hsc := ((Bx.below hb ((Below.refl W.heap.size W).alloc (Nat.le_refl _) (.cells #[.int .i64 0] 3)) hb.lt)).cell
  gi_wp2_with (first | (refine ⟨trivial, (fun h => by cases h), ?_⟩; gi_at_call 32; refine (callsIn_wide.2 (LC.out _)).mono ?_; rintro e w2 ⟨xv, rfl, hXo, hb2⟩; obtain ⟨xa, xc, rfl, hxc, _⟩ := own_form hXo))
  have hB2 : Below W.heap.size W w2 := ((Below.refl _ W).alloc (Nat.le_refl _) _).trans (hb2.mono (by simp))
  have hbg : w2.ownsRow W.heap.size 3 1 (.slice (some ⟨W.heap.size, 0, none⟩) 1 1) (0 + 1) (begs L 0) := by
    have := World.ownsRow_lit (base := W.heap.size) (e := 3) (size := 1) W #[.int .i64 0] 1 (Nat.le_refl _) (by unfold maxLen; omega) rfl
    exact own_later this hb2
  have hXo' : w2.ownsRow W.heap.size 9 1 (.slice xa L.length xc) L.length (strs L) := own_base hXo (by simp)
  clear hsc hXo hb2
  gi_loopw [4, 6, 15] (fun b _ i wr => ∃ k : Nat, k ≤ L.length ∧ i = .int .i64 k ∧ wr.ownsRow W.heap.size 3 1 b (k + 1) (begs L k) ∧ wr.ownsRow W.heap.size 9 1 (.slice xa L.length xc) L.length (strs L) ∧ Below W.heap.size W wr) (fun _ _ i _ => L.length - (intOf i).toNat)
  case atStart => exact ⟨0, Nat.zero_le _, rfl, hbg, hXo', hB2⟩
  case round =>
    obtain ⟨k, hk, rfl, hrow, hX, hB⟩ := hrel
    by_cases hlt : k < L.length
    · have hkx := List.getElem?_eq_getElem hlt
      generalize L[k] = x at hkx
      obtain ⟨bx, ox, rfl, hbx, c1⟩ := (Rd.of_own hX).st hkx
      obtain ⟨g, cap, rfl⟩ := ownsRow_succ hrow
      have c2 := hrow.cellAt k (by omega)
      rw [begs_at (Nat.le_refl k)] at c2
      have hxs : (bs x).size = x.length := bs_size x
      have hxl : x.length ≤ 4000000 := Nat.le_trans (Pl.len_flat (List.mem_of_getElem? hkx)) hxf
      have hpl := Nat.le_trans (beg_le L k) hxf
      have HSN : Hid (begs L k ++ [.int .i64 ((Pl.beg L k : Int) + x.length)] = begs L (k + 1)) := Lib.hid (by rw [← begs_snoc, beg_succ hkx]; simp)
      generalize Pl.beg L k = p at c2 hpl HSN
      have hbX := own_ne_ty hX hrow (by decide)
      generalize hm : x.length = m at hxs hxl HSN
      clear hkx hm
      gi_wp2_with (gi_at_builtin; refine wpListIn_append_own _ rfl _ _ 100 rfl W.heap.size 3 i0 _ 1 8 Try.underlying100 hi hz0 hz1 hz2 rfl (by decide) _ _ _ rfl (hrow.alloc _) ⟨wr.heap.size, 0, none⟩ 1 1 [.int .i64 ((p : Int) + m)] rfl rfl (cell_one_new _ _ _) (by simp [Value.oneCell']) (by unfold maxLen; omega) (by omega) (by have := hB.size; simp; omega) ?_; intro v' w1 hown' hgrow _)
      have hX' := (hX.alloc (.cells #[.int .i64 ((p : Int) + m)] 3)).kept hgrow hbX
      have hB' := (hB.alloc hB.size (.cells #[.int .i64 ((p : Int) + m)] 3)).grown hgrow (by have := hB.size; simp; omega) (fun j hj => (hrow.lt j hj).1)
      go_roundw
      case rel => exact ⟨k + 1, by omega, by go_num, by rw [HSN.out] at hown'; exact hown', hX', hB'⟩
      case measure => simp [intOf]; omega
    · obtain rfl : k = L.length := by omega
      obtain ⟨g, cap, rfl⟩ := ownsRow_succ hrow
      have cl := (hbl.below hB hbl.lt).cell
      have hK1 := hK [] W wr h0 hB
      gi_wp2
      have h00 : Keep w0.heap.size w0 wr := h0W.trans (Keep.below hB h0W.1)
      have hWr : W.heap.size ≤ wr.heap.size := hB.size
      have HF := Lib.hid hfit
      obtain ⟨wa, rfl⟩ : ∃ wa : World, wa = wr := ⟨_, rfl⟩
      clear hX hB hk hlt cl hXo' hbg hB2 hfit h0 hb hbl
      gi_loopw [7, 9, 10, 34] (fun mo _ _ i wq => ∃ (k : Nat) (pre : List Pl.Spot) (m : Int), k ≤ l.length ∧ i = .int .i64 k ∧ mo = .int .i64 m ∧ -((k : Int) * 4000000) ≤ m ∧ m ≤ (k : Int) * 4000000 ∧ K pre wq ∧ Keep w0.heap.size w0 wq ∧ W.heap.size ≤ wq.heap.size ∧
        wq.ownsRow W.heap.size 3 1 (.slice (some ⟨g, 0, none⟩) (L.length + 1) cap) (L.length + 1) (begs L L.length) ∧ Hid (pre ++ Pl.spots L m (l.drop k) = Pl.spots L 0 l)) (fun _ _ _ i _ => l.length - (intOf i).toNat)
      case atStart => exact ⟨0, [], 0, Nat.zero_le _, rfl, rfl, by omega, by omega, hK1, h00, hWr, hrow, Lib.hid (by simp)⟩
      case round =>
        obtain ⟨k, pre, m, hk, rfl, rfl, hm1, hm2, hKp, hKe, hWq, hrow, HS⟩ := hrel
        obtain ⟨wq, rfl⟩ : ∃ wq : World, wq = wr := ⟨_, rfl⟩
        by_cases hlt : k < l.length
        · have hek := List.getElem?_eq_getElem hlt
          have hd := List.drop_eq_getElem_cons hlt
          have q1 := Fits_mem HF.out l[k] (List.getElem_mem hlt)
          have q2 := hsm.txt l[k] (List.getElem_mem hlt)
          generalize l[k] = e at hek hd q1 q2
          rw [hd] at HS
          clear hd
          obtain ⟨ef, et, ex⟩ := e
          simp only at q1 q2
          obtain ⟨f2, f3, f4⟩ := q1
          obtain ⟨f, rfl⟩ := Int.eq_ofNat_of_zero_le f2
          obtain ⟨t, rfl⟩ := Int.eq_ofNat_of_zero_le (show 0 ≤ et by omega)
          have hft : f ≤ t := by omega
          have htl : t ≤ L.length := by omega
          simp only [Pl.spots, Int.toNat_natCast] at HS
          obtain ⟨b1, o1, rfl, hbk1, c1, c2, c3⟩ := (h.keep hKe).ed hek
          simp only at c1 c2 c3
          have d1 := hrow.cellAt f (by omega)
          have d2 := hrow.cellAt t (by omega)
          rw [begs_at (by omega)] at d1 d2
          have p1 := Nat.le_trans (beg_le L f) hxf
          have p2 := Nat.le_trans (beg_le L t) hxf
          have p3 : Pl.beg L f ≤ Pl.beg L t := by rw [Pl.beg_cut hft]; omega
          generalize Pl.beg L f = bf at *
          generalize Pl.beg L t = bt at *
          have hgq := (hrow.lt g rfl).2
          have hq := heap_alloc_new wq (.cells #[.int .i64 f, .int .i64 t, .string (bs ex)] 41)
          clear hek f2 f3 f4 HF
          have z1 : (0 : Int) ≤ (f : Int) := by omega
          have z2 : (f : Int) < (L.length : Int) + 1 := by omega
          have z5 : f < L.length + 1 := by omega
          have z3 : (0 : Int) ≤ (t : Int) := by omega
          have z4 : (t : Int) < (L.length : Int) + 1 := by omega
          have z6 : t < L.length + 1 := by omega
          gi_wp2
          refine wpIn_wide.2 ?_
          have hx0 := Lib.cell_of_heap hq 0
          have hx1 := Lib.cell_of_heap hq 1
          have hx2 := Lib.cell_of_heap hq 2
          simp only [List.getElem?_toArray, List.getElem?_cons_zero, List.getElem?_cons_succ] at hx0 hx1 hx2
          have dA := (Below.refl wq.heap.size wq).alloc (Nat.le_refl _) (.cells #[.int .i64 f, .int .i64 t, .string (bs ex)] 41)
          have d1' := (dA.cell (p := ⟨g, f, none⟩) hgq).trans d1
          have d2' := (dA.cell (p := ⟨g, t, none⟩) hgq).trans d2
          generalize wq.alloc (.cells #[.int .i64 f, .int .i64 t, .string (bs ex)] 41) = wx at *
          have e0 := World.new_ne wx _ hx0
          have e1 := World.new_ne wx _ hx1
          have e2 := World.new_ne wx _ hx2
          have e3 := World.new_ne wx _ d1'
          have e4 := World.new_ne wx _ d2'
          go_region_held3 (fun w' => w'.cell? ⟨wq.heap.size, 0, none⟩ = some (.int .i64 f) ∧ w'.cell? ⟨wq.heap.size, 1, none⟩ = some (.int .i64 t) ∧ w'.cell? ⟨wq.heap.size, 2, none⟩ = some (.string (bs ex)) ∧ w'.cell? ⟨g, f, none⟩ = some (.int .i64 bf) ∧ w'.cell? ⟨g, t, none⟩ = some (.int .i64 bt)) (go_keep) (fail)
          have hBy : Below wq.heap.size wq (wx.alloc (.cells #[.int .i64 bf, .int .i64 bt, .int .i64 ((bf : Int) + m), .string (bs ex)] 80)).drew := below_drewN (dA.alloc dA.size _) 1
          obtain ⟨fn, tmps, assign, body, hy, hR⟩ := hY pre ⟨bf, bt, (bf : Int) + m, ex⟩ _ (hK pre wq _ hKp hBy) ⟨_, by rw [List.append_assoc]; exact HS.out⟩
          simp only [spv] at hy hR
          have hrowy := own_later hrow hBy
          have hpy : (wx.alloc (.cells #[.int .i64 bf, .int .i64 bt, .int .i64 ((bf : Int) + m), .string (bs ex)] 80)).drew.heap[wx.heap.size]? = some (.cells #[.int .i64 bf, .int .i64 bt, .int .i64 ((bf : Int) + m), .string (bs ex)] 80 (0, 0)) := heap_alloc_new wx _
          have hWx : W.heap.size ≤ wx.heap.size := Nat.le_trans hWq dA.size
          have hKy := hKe.trans (Keep.below hBy hKe.1)
          have hzs : (bs ex).size = ex.length := bs_size ex
          gi_wp2
          refine ⟨(fun h => by cases h), hR.mono ?_⟩
          rintro e W3 (⟨rfl, hJ3, hk3⟩ | ⟨rfl, hJx3⟩)
          · have hp3 := hk3.2 _ _ hWx hpy ⟨_, _, .inr rfl⟩
            have hrow3 := own_same hrowy (fun j o h1 h2 ⟨c', f', h3⟩ => hk3.2 j o h1 h2 ⟨c', f', .inl h3⟩)
            have hK3 := hKy.trans hk3.1
            have hW3 : W.heap.size ≤ W3.heap.size := Nat.le_trans hWq (Nat.le_trans hBy.size hk3.1.1)
            have y0 := Lib.cell_of_heap hp3 0
            have y1 := Lib.cell_of_heap hp3 1
            have y3 := Lib.cell_of_heap hp3 3
            simp only [List.getElem?_toArray, List.getElem?_cons_zero, List.getElem?_cons_succ] at y0 y1 y3
            have H2 : Hid ((pre ++ [(⟨bf, bt, (bf : Int) + m, ex⟩ : Pl.Spot)]) ++ Pl.spots L (m + ((ex.length : Int) - ((bt : Int) - bf))) (l.drop (k + 1)) = Pl.spots L 0 l) := Lib.hid (by rw [List.append_assoc]; exact HS.out)
            generalize ex.length = xl at *
            clear hp3 hk3 hy hR hpy hBy hrowy hKy HS hx0 hx1 hx2 hq d1' d2' dA e0 e1 e2 e3 e4 c1 c2 c3 d1 d2 z1 z2 z3 z4 z5 z6
            gi_wp2
            go_roundw
            case rel => exact ⟨k + 1, _, _, by omega, by go_num, rfl, by omega, by omega, hJ3, hK3, hW3, hrow3, H2⟩
            case measure => simp [intOf]; omega
          · gi_wp2
            refine bodyPost_ret (results_none rfl _ _ _) rfl ?_
            exact ⟨⟨_, rfl⟩, .inr ⟨_, ⟨_, by rw [List.append_assoc]; exact HS.out⟩, hJx3⟩⟩
        · have hdk : l.drop k = [] := List.drop_of_length_le (by omega)
          have HE := Lib.hid (show pre = Pl.spots L 0 l by have := HS.out; rw [hdk] at this; simpa [Pl.spots] using this)
          clear hdk
          gi_wp2
          go_end0
          exact ⟨⟨_, rfl⟩, .inl ⟨_, HE.out, hKp⟩⟩

end Go.Proofs.Ytnijaleedbmljaa
