/- The law TreeNear, walked. -/
import Derived.Test.YtliabgcpciekpaaDoorTreeHolds
import Derived.Test.YtliabgcpciekpaaDoorTrK
import Derived.Test.YtliabgcpciekpaaDoorYrP
import Derived.Laws.AppendOwnNone
import Derived.Laws.OwnMore
import Derived.Deep.CutBlock
import Derived.Deep.DeepCutAuto
set_option linter.unusedVariables false
set_option linter.unusedSimpArgs false
namespace Go.Proofs.YtliabgcpciekpaaDoor
open Go Go.RowKit Go.Maps

namespace Tr
theorem ftx_own {fs : List (T × T)} {p t : T} : ftx ((own p, t) :: fs) p = t := by
  have h := own_near (ms := nms fs) (p := p)
  have e1 := near_own (ms := nms fs) (p := p)
  have h2 : nr (nms ((own p, t) :: fs)) p = some ((spl 47 p).length - 1) := h
  rw [ftx_some h2]
  have e2 : near (nms ((own p, t) :: fs)) p = own p := e1.1
  rw [e2]
  refine txt_at (k := 0) ?_ (f := (own p, t)) rfl
  show 0 = (own p :: nms fs).idxOf (own p)
  simp
theorem ns_own {fs : List (T × T)} {p t : T} (hp : isPath p = true) : nsRes (nms ((own p, t) :: fs)) p = .tuple #[.string (bs (own p)), .bool true, .int .i64 0] := by
  have e1 := near_own (ms := nms fs) (p := p)
  unfold nsRes nsN nsH nsE
  rw [hp]
  show Value.tuple #[.string (bs (near (own p :: nms fs) p)), .bool (true && has (own p :: nms fs) p), .int .i64 0] = _
  rw [e1.1, e1.2.1]; rfl
theorem fr_own {fs : List (T × T)} {p t : T} (hp : isPath p = true) : frRes ((own p, t) :: fs) p = .tuple #[.agg (St.stv (St.psV t)).toArray, .string (bs (own p)), .int .i64 (St.psE t)] := by
  unfold frRes frV frE nsN
  rw [hp, ftx_own]
  have e1 := near_own (ms := nms fs) (p := p)
  have e2 : near (nms ((own p, t) :: fs)) p = own p := e1.1
  rw [e2]; rfl
def xp : T := [120]
theorem fr_x {t : T} : frRes [(dot, t)] xp = .tuple #[.agg (St.stv (St.psV t)).toArray, .string ⟨#[46, 99, 102, 109, 116]⟩, .int .i64 (St.psE t)] := by
  have h : own xp = dot := by decide
  have h2 := fr_own (fs := []) (p := xp) (t := t) (by decide)
  rw [h] at h2
  exact h2
theorem ns_more {ms : List T} {p : T} (hp : isPath p = true) : nsRes ms p = .tuple #[.string (bs (near ms p)), .bool (has ms p), .int .i64 0] := by
  unfold nsRes nsN nsH nsE; rw [hp]; rfl
theorem ns_no {ms : List T} {p : T} (hp : isPath p = false) : nsRes ms p = .tuple #[.string ⟨#[]⟩, .bool false, .int .i64 220] := by
  unfold nsRes nsN nsH nsE; rw [hp]; rfl
theorem own_len {p : T} (hp : isPath p = true) : (own p).length ≤ 660 := path_len (at_path hp (by have := List.length_pos_iff.2 (spl_ne 47 p); omega))
end Tr
theorem fileInfo : (Tryd.prog.info? 43).map (fun i => (i.zero, i.size, i.bytes)) = some (some (.agg #[.string ⟨#[]⟩, .string ⟨#[]⟩]), 2, 32) := by kernel_rfl
theorem two_at (w : World) (x y : Value) (t : TypeId) : ∀ j u, [x, y][j]? = some u → (w.alloc (.cells #[x, y] t)).cell? ((⟨w.heap.size, 0, none⟩ : Addr).add j) = some u := by
  intro j u hj
  match j, hj with
  | 0, hj => simp at hj; subst hj; simp [Addr.add]
  | 1, hj => simp at hj; subst hj; simp [Addr.add]
theorem Rd.add_at {w : World} {sz n b o : Nat} {xs : List Value} (h : Rd w sz (some ⟨b, o, none⟩) n xs) (h0 : 0 < n) : b < w.heap.size ∧ ∀ j u, xs[j]? = some u → w.cell? ((⟨b, o, none⟩ : Addr).add j) = some u := by
  obtain ⟨b', o', e, hlt, hc⟩ := h.2 h0
  injection e with e
  injection e with e1 e2
  subst e1 e2
  refine ⟨hlt, fun j u hj => ?_⟩
  have := hc j u hj
  by_cases hj0 : j = 0
  · subst hj0; simpa [Addr.add] using this
  · simpa [Addr.add, hj0] using this
theorem fls_one (l : List (Tr.T × Tr.T)) : ∀ u ∈ fls l, u.oneCell' = true := by
  intro u hu
  unfold fls at hu
  obtain ⟨f, _, hf⟩ := List.mem_flatMap.1 hu
  rcases List.mem_cons.1 hf with rfl | hf
  · rfl
  · rw [List.mem_singleton.1 hf]; rfl
theorem Rd.src {w : World} {sz n : Nat} {ad : Addr} {xs : List Value} (h : Rd w sz (some ad) n xs) : ∀ j u, xs[j]? = some u → w.cell? (ad.add j) = some u := by
  rcases Nat.eq_zero_or_pos n with h0 | h0
  · intro j u hj
    have h1 := h.1
    rw [h0, Nat.zero_mul] at h1
    rw [List.eq_nil_of_length_eq_zero h1] at hj
    simp at hj
  · obtain ⟨b, o, e, _⟩ := h.2 h0
    injection e with e
    subst e
    exact (h.add_at h0).2
theorem own_count {W : World} {base : Nat} {v : Value} {n : Nat} {x y : Value} {xs : List Value} (h : W.ownsRow base 43 2 v (0 + 1 + n) ([] ++ [x, y] ++ xs)) : W.ownsRow base 43 2 v (n + 1) (x :: y :: xs) := by
  have e : 0 + 1 + n = n + 1 := by omega
  rw [e] at h
  exact h
theorem own_count1 {W : World} {base : Nat} {v : Value} {x y : Value} (h : W.ownsRow base 43 2 v (0 + 1) ([] ++ [x, y])) : W.ownsRow base 43 2 v 1 [x, y] := h
theorem one_file (w : World) (t : Tr.T) : Rd (w.alloc (.cells #[.string ⟨#[46, 99, 102, 109, 116]⟩, .string (bs t)] 43)) 2 (some ⟨w.heap.size, 0, none⟩) 1 (fls [(Tr.dot, t)]) := by
  refine ⟨rfl, fun _ => ⟨w.heap.size, 0, rfl, by simp, fun j u hu => ?_⟩⟩
  rw [Nat.zero_add]
  refine (Lib.cell_of_heap (heap_alloc_new w _) j).trans ?_
  rw [← hu]
  simp [fls, Tr.dot, bs]
theorem own_shape1 {W : World} {base : Nat} {v : Value} {xs : List Value} (h : W.ownsRow base 43 2 v (0 + 1) xs) : ∃ g c, v = .slice (some ⟨g, 0, none⟩) 1 c ∧ base ≤ g := by
  rcases h.2 with ⟨_, h0⟩ | ⟨g, cap, cur, rfl, hg, _⟩
  · omega
  · exact ⟨g, cap, rfl, hg⟩
theorem own_shape {W : World} {base : Nat} {v : Value} {n : Nat} {xs : List Value} (h : W.ownsRow base 43 2 v (n + 1) xs) : ∃ g c, v = .slice (some ⟨g, 0, none⟩) (n + 1) c ∧ base ≤ g := by
  rcases h.2 with ⟨_, h0⟩ | ⟨g, cap, cur, rfl, hg, _⟩
  · omega
  · exact ⟨g, cap, rfl, hg⟩
theorem own_first {W : World} {base : Nat} {v : Value} {n : Nat} {x : Value} {xs : List Value} (h : W.ownsRow base 43 2 v (n + 1) (x :: xs)) :
    ∃ g c, v = .slice (some ⟨g, 0, none⟩) (n + 1) c ∧ base ≤ g ∧ g < W.heap.size ∧ W.frozen? ⟨g, 0, none⟩ = false ∧ W.cell? ⟨g, 0, none⟩ = some x ∧
      ∀ y, (W.setCell ⟨g, 0, none⟩ y).ownsRow base 43 2 v (n + 1) (y :: xs) := by
  have h' := h
  rcases h.2 with ⟨_, h0⟩ | ⟨g, cap, cur, rfl, hg, hh, r⟩
  · omega
  · refine ⟨g, cap, rfl, hg, (Array.getElem?_eq_some_iff.1 hh).1, by simp [World.frozen?, hh], ?_, fun y => (h'.stored 0 y).1⟩
    have := h'.cells (g := g) rfl 0 x rfl
    simpa [Addr.add] using this

theorem own_firstE {W : World} {base g c n : Nat} {x : Value} {xs : List Value} (h : W.ownsRow base 43 2 (.slice (some ⟨g, 0, none⟩) (n + 1) c) (n + 1) (x :: xs)) :
    base ≤ g ∧ True ∧ g < W.heap.size ∧ W.frozen? ⟨g, 0, none⟩ = false ∧ W.cell? ⟨g, 0, none⟩ = some x ∧
      ∀ y, (W.setCell ⟨g, 0, none⟩ y).ownsRow base 43 2 (.slice (some ⟨g, 0, none⟩) (n + 1) c) (n + 1) (y :: xs) := by
  obtain ⟨g', c', e, h1, h2, h3, h4, h5⟩ := own_first h
  injection e with e
  injection e with e
  injection e with e
  subst e
  exact ⟨h1, trivial, h2, h3, h4, h5⟩

theorem own_firstE1 {W : World} {base g c : Nat} {x : Value} {xs : List Value} (h : W.ownsRow base 43 2 (.slice (some ⟨g, 0, none⟩) 1 c) 1 (x :: xs)) :
    base ≤ g ∧ True ∧ g < W.heap.size ∧ W.frozen? ⟨g, 0, none⟩ = false ∧ W.cell? ⟨g, 0, none⟩ = some x ∧
      ∀ y, (W.setCell ⟨g, 0, none⟩ y).ownsRow base 43 2 (.slice (some ⟨g, 0, none⟩) 1 c) 1 (y :: xs) := own_firstE (n := 0) h

set_option maxRecDepth 100000 in
set_option maxHeartbeats 16000000 in
theorem TreeNear_any (A : Option Addr) (cap : Nat) (fs : List (Tr.T × Tr.T)) (p : Tr.T) (m : Tr.T × Tr.T) (w : World) (hrd : Rd w 2 A fs.length (fls fs)) (hA : A = none → cap = 0) (hn : fs.length ≤ 4398046511103) (hz : ∀ f ∈ fs, f.1.length ≤ 140737488355328) (hpl : p.length ≤ 140737488355328)
    (hm1 : m.1.length ≤ 140737488355328) (hm2 : m.2.length ≤ 140737488355328) :
    Calls Tryd.prog 6 #[.slice A fs.length cap, .string (bs p), .agg #[.string (bs m.1), .string (bs m.2)]] w fun e w' => e = .returned (.bool true) ∧ Below w.heap.size w w' := by
  have AL := Lib.hid (fun W => treeAlive_any W)
  have GR := Lib.hid (fun W (hb : Below w.heap.size w W) => great_any A cap fs W (by omega) (hrd.later hb))
  have HB0 := Lib.hid ((Below.refl w.heap.size w).alloc (Nat.le_refl _) (.cells #[.string (bs m.1), .string (bs m.2)] 43))
  generalize decide (3000 < Tr.grI fs) = gr at *
  have hps : (bs p).size = p.length := bs_size p
  have hm1s : (bs m.1).size = m.1.length := bs_size _
  have hm2s : (bs m.2).size = m.2.length := bs_size _
  have hmw : IntKind.i64.wrap ((m.1.length : Int) + (m.2.length : Int)) = (m.1.length : Int) + (m.2.length : Int) := IntWalk.i64_in _ (by omega)
  cases gr
  rotate_left
  · go_enter Tryd.func6, Tryd.ntmps6
    go_wp2_with (first
      | (go_at_call 22; (with_reducible refine (AL.out _).mono ?_); rintro e w1 ⟨rfl, b1⟩; have B1 := Lib.hid (HB0.out.trans (b1.mono HB0.out.size)); have F1 : Fb w1 w.heap.size m := (b1.block _ (by simp)).trans (heap_alloc_new w _); have x0 := Lib.cell_of_heap F1 0; have x1 := Lib.cell_of_heap F1 1; have F1 := Lib.hid F1)
      | (go_at_call 23; refine (GR.out _ B1.out).mono ?_; rintro e w2 ⟨rfl, b2⟩; have B2 := Lib.hid (B1.out.trans (b2.mono B1.out.size)); have F2 : Fb w2 w.heap.size m := (b2.block _ (Fb.lt F1.out)).trans F1.out; have y0 := Lib.cell_of_heap F2 0; have y1 := Lib.cell_of_heap F2 1; have F2 := Lib.hid F2))
    go_ret
    exact ⟨rfl, B2.out⟩
  by_cases hbig : 1000 < p.length
  · go_enter Tryd.func6, Tryd.ntmps6
    go_wp2_with (first
      | (go_at_call 22; (with_reducible refine (AL.out _).mono ?_); rintro e w1 ⟨rfl, b1⟩; have B1 := Lib.hid (HB0.out.trans (b1.mono HB0.out.size)); have F1 : Fb w1 w.heap.size m := (b1.block _ (by simp)).trans (heap_alloc_new w _); have x0 := Lib.cell_of_heap F1 0; have x1 := Lib.cell_of_heap F1 1; have F1 := Lib.hid F1)
      | (go_at_call 23; refine (GR.out _ B1.out).mono ?_; rintro e w2 ⟨rfl, b2⟩; have B2 := Lib.hid (B1.out.trans (b2.mono B1.out.size)); have F2 : Fb w2 w.heap.size m := (b2.block _ (Fb.lt F1.out)).trans F1.out; have y0 := Lib.cell_of_heap F2 0; have y1 := Lib.cell_of_heap F2 1; have F2 := Lib.hid F2))
    go_ret
    exact ⟨rfl, B2.out⟩
  by_cases hmb : 500 < m.1.length + m.2.length
  · have hmI : (500 : Int) < (m.1.length : Int) + (m.2.length : Int) := by omega
    go_enter Tryd.func6, Tryd.ntmps6
    go_wp2_with (first
      | (go_at_call 22; (with_reducible refine (AL.out _).mono ?_); rintro e w1 ⟨rfl, b1⟩; have B1 := Lib.hid (HB0.out.trans (b1.mono HB0.out.size)); have F1 : Fb w1 w.heap.size m := (b1.block _ (by simp)).trans (heap_alloc_new w _); have x0 := Lib.cell_of_heap F1 0; have x1 := Lib.cell_of_heap F1 1; have F1 := Lib.hid F1)
      | (go_at_call 23; refine (GR.out _ B1.out).mono ?_; rintro e w2 ⟨rfl, b2⟩; have B2 := Lib.hid (B1.out.trans (b2.mono B1.out.size)); have F2 : Fb w2 w.heap.size m := (b2.block _ (Fb.lt F1.out)).trans F1.out; have y0 := Lib.cell_of_heap F2 0; have y1 := Lib.cell_of_heap F2 1; have F2 := Lib.hid F2))
    go_ret
    exact ⟨rfl, B2.out⟩
  have hmI : ¬ (500 : Int) < (m.1.length : Int) + (m.2.length : Int) := by omega
  have NA := fun W (hb : Below w.heap.size w W) => Nearest_any A cap fs p W (hrd.later hb) (by omega) hz hpl
  cases hp : Tr.isPath p
  · have PA := fun W => Path_any (bs p) W (by rw [hps]; exact hpl)
    simp only [bs_data, hp] at PA
    simp only [Tr.ns_no hp] at NA
    have PA := Lib.hid PA
    have NA := Lib.hid NA
    go_enter Tryd.func6, Tryd.ntmps6
    go_wp2_with (first
      | (go_at_call 22; (with_reducible refine (AL.out _).mono ?_); rintro e w1 ⟨rfl, b1⟩; have B1 := Lib.hid (HB0.out.trans (b1.mono HB0.out.size)); have F1 : Fb w1 w.heap.size m := (b1.block _ (by simp)).trans (heap_alloc_new w _); have x0 := Lib.cell_of_heap F1 0; have x1 := Lib.cell_of_heap F1 1; have F1 := Lib.hid F1)
      | (go_at_call 23; refine (GR.out _ B1.out).mono ?_; rintro e w2 ⟨rfl, b2⟩; have B2 := Lib.hid (B1.out.trans (b2.mono B1.out.size)); have F2 : Fb w2 w.heap.size m := (b2.block _ (Fb.lt F1.out)).trans F1.out; have y0 := Lib.cell_of_heap F2 0; have y1 := Lib.cell_of_heap F2 1; have F2 := Lib.hid F2)
      | (go_at_call 24; (with_reducible refine (NA.out w2 B2.out).mono ?_); rintro e w3 ⟨rfl, b3⟩; have B3 := Lib.hid (B2.out.trans (b3.mono B2.out.size)); have F3 : Fb w3 w.heap.size m := (b3.block _ (Fb.lt F2.out)).trans F2.out; have z0 := Lib.cell_of_heap F3 0; have z1 := Lib.cell_of_heap F3 1; have F3 := Lib.hid F3)
      | (go_at_call 25; refine (PA.out _).mono ?_; rintro e w4 ⟨rfl, b4⟩))
    go_ret
    exact ⟨rfl, B3.out.trans (b4.mono B3.out.size)⟩
  have hpl2 := Tr.path_len hp
  simp only [Tr.ns_more hp] at NA
  have hol := Tr.own_len hp
  have NM := fun (A' : Option Addr) (c' : Nat) (W : World) (h : Rd W 2 A' (fs.length + 1) (fls (m :: fs))) => Nearest_any A' c' (m :: fs) p W h (by simp only [List.length_cons]; omega) (fun f hf => by
    rcases List.mem_cons.1 hf with rfl | hf
    · exact hm1
    · exact hz f hf) hpl
  have NO := fun (A' : Option Addr) (c' : Nat) (W : World) (h : Rd W 2 A' (fs.length + 1) (fls ((Tr.own p, m.2) :: fs))) => Nearest_any A' c' ((Tr.own p, m.2) :: fs) p W h (by simp only [List.length_cons]; omega) (fun f hf => by
    rcases List.mem_cons.1 hf with rfl | hf
    · exact Nat.le_trans hol (by decide)
    · exact hz f hf) hpl
  have FO := fun (A' : Option Addr) (c' : Nat) (W : World) (h : Rd W 2 A' (fs.length + 1) (fls ((Tr.own p, m.2) :: fs))) => For_any A' c' ((Tr.own p, m.2) :: fs) p W h (by simp only [List.length_cons]; omega) (fun f hf => by
    rcases List.mem_cons.1 hf with rfl | hf
    · exact Nat.le_trans hol (by decide)
    · exact hz f hf) hpl
  have FX := fun (A' : Option Addr) (c' : Nat) (W : World) (h : Rd W 2 A' 1 (fls [(Tr.dot, m.2)])) => For_any A' c' [(Tr.dot, m.2)] Tr.xp W h (by simp only [List.length_cons, List.length_nil]; omega) (by simp [Tr.dot]) (by decide)
  have e0 : Tr.nms (m :: fs) = m.1 :: Tr.nms fs := rfl
  simp only [Tr.ns_more hp, e0, List.length_cons] at NM
  simp only [Tr.ns_own hp, List.length_cons] at NO
  simp only [Tr.fr_own hp, List.length_cons] at FO
  simp only [Tr.fr_x, List.length_cons, List.length_nil, Nat.zero_add] at FX
  have NEQ := Lib.hid (fun h => Tr.near_more (ms := Tr.nms fs) (p := p) (m := m.1) hp h)
  have OWN0 := Lib.hid (fun (h : 47 ∉ p) => Tr.own_no h)
  have OWN1 := Lib.hid (fun (i : Nat) (h : p[i]? = some 47) (h2 : 47 ∉ p.drop (i + 1)) => Tr.own_at h h2)
  have ex : bs Tr.xp = ⟨#[120]⟩ := rfl
  simp only [ex] at FX
  clear ex
  generalize Tr.own p = OW at *
  generalize Tr.near (m.1 :: Tr.nms fs) p = N2 at *
  generalize Tr.has (m.1 :: Tr.nms fs) p = H2 at *
  generalize Tr.near (Tr.nms fs) p = NR at *
  generalize Tr.has (Tr.nms fs) p = HS at *
  generalize St.psV m.2 = V at *
  generalize St.psE m.2 = er at *
  have NA := Lib.hid NA
  have NM := Lib.hid NM
  have NO := Lib.hid NO
  have FO := Lib.hid FO
  have FX := Lib.hid FX
  obtain ⟨i0, hi, hz0, hz1, hz2⟩ := info_parts fileInfo
  have HRD := Lib.hid hrd
  have hpc : p.length ≤ 1000 := by omega
  have hE := fun w => eqStB V w
  have hgd := eq_guardSt
  have hinfo : (Tryd.prog.info? 23).map (·.size) = some (St.stv V).length := by rw [St.stv_len]; kernel_rfl
  clear e0 hp hrd hz hol
  rcases A with _ | ad
  · obtain rfl := hA rfl
    have hf0 : fs = [] := by
      rcases fs with _ | ⟨f, r⟩
      · rfl
      · obtain ⟨b, o, e, _⟩ := HRD.out.2 (by simp)
        cases e
    subst hf0
    simp only [List.length_nil, Nat.zero_add] at *
    go_enter Tryd.func6, Tryd.ntmps6
    go_upto_region 12 with (first
      | (go_at_call 22; (with_reducible refine (AL.out _).mono ?_); rintro e w1 ⟨rfl, b1⟩; have B1 := Lib.hid (HB0.out.trans (b1.mono HB0.out.size)); have F1 : Fb w1 w.heap.size m := (b1.block _ (by simp)).trans (heap_alloc_new w _); have x0 := Lib.cell_of_heap F1 0; have x1 := Lib.cell_of_heap F1 1; have F1 := Lib.hid F1)
      | (go_at_call 23; refine (GR.out _ B1.out).mono ?_; rintro e w2 ⟨rfl, b2⟩; have B2 := Lib.hid (B1.out.trans (b2.mono B1.out.size)); have F2 : Fb w2 w.heap.size m := (b2.block _ (Fb.lt F1.out)).trans F1.out; have y0 := Lib.cell_of_heap F2 0; have y1 := Lib.cell_of_heap F2 1; have F2 := Lib.hid F2)
      | (go_at_call 24; (with_reducible refine (NA.out w2 B2.out).mono ?_); rintro e w3 ⟨rfl, b3⟩; have B3 := Lib.hid (B2.out.trans (b3.mono B2.out.size)); have F3 : Fb w3 w.heap.size m := (b3.block _ (Fb.lt F2.out)).trans F2.out; have z0 := Lib.cell_of_heap F3 0; have z1 := Lib.cell_of_heap F3 1; have F3 := Lib.hid F3)
      | (at_builtin; refine wpList_append_own _ rfl _ _ 41 rfl (w.heap.size + 1) 43 i0 (.agg #[.string ⟨#[]⟩, .string ⟨#[]⟩]) 2 32 Tryd.underlying41 hi hz0 hz1 hz2 rfl (by decide) (.slice none 0 0) 0 [] rfl (World.ownsRow_nil (w3.alloc (.cells #[.string (bs m.1), .string (bs m.2)] 43)) _ _ _) ⟨w3.heap.size, 0, none⟩ 1 1 [.string (bs m.1), .string (bs m.2)] rfl rfl (two_at _ _ _ _) (by simp [Value.oneCell']) (by unfold maxLen; omega) (by omega) (by have := Fb.lt F3.out; simp; omega) ?_; intro v4 w4 o4 g4 n4; clear n4; have B4 := Lib.hid ((B3.out.alloc B3.out.size (.cells #[.string (bs m.1), .string (bs m.2)] 43)).grown g4 (by have := B3.out.size; simp; omega) (fun k e => by cases e)); have F4 : Fb w4 w.heap.size m := (g4.block _ (by have := Fb.lt F3.out; simp; omega) (fun e => by cases e)).trans ((Below.heap_alloc w3 _ _ (Fb.lt F3.out)).trans F3.out); have u0 := Lib.cell_of_heap F4 0; have u1 := Lib.cell_of_heap F4 1; have F4 := Lib.hid F4; have B4s := Fb.lt F4.out; have o4 := own_count1 o4; obtain ⟨g, c5, rfl, hgw⟩ := own_shape1 o4; have o4 := Lib.hid o4; clear g4; go_frame)
      | (at_builtin; refine wpList_append_own_none rfl _ _ 41 rfl (w.heap.size + 1) 43 i0 2 Tryd.underlying41 hi (.slice (some ⟨g, 0, none⟩) 1 c5) _ _ rfl o4.out rfl ?_; (try dsimp only); simp only [Act.put, List.setIfInBounds_toArray, List.set_cons_zero, List.set_cons_succ])
      | (go_at_call 24; (with_reducible refine (NM.out _ _ _ (Rd.of_own o4.out)).mono ?_); rintro e w6 ⟨rfl, b6⟩; have B6 := Lib.hid (B4.out.trans (b6.mono B4.out.size)); have o6 := Lib.hid (own_later o4.out b6); have F6 : Fb w6 w.heap.size m := (b6.block _ (Fb.lt F4.out)).trans F4.out; have v0 := Lib.cell_of_heap F6 0; have v1 := Lib.cell_of_heap F6 1; have F6 := Lib.hid F6))
    obtain ⟨_, _, hgl, hfz, hc0, hset⟩ := own_firstE1 o6.out
    have R7 := Lib.hid (show Rd (w6.setCell ⟨g, 0, none⟩ (.string (bs OW))) 2 (some ⟨g, 0, none⟩) 1 (fls ((OW, m.2) :: [])) from Rd.of_own (hset (.string (bs OW))))
    have B7 := Lib.hid (B6.out.setCell (p := ⟨g, 0, none⟩) (by simp; omega) (.string (bs OW)))
    have F7 := Lib.hid (show Fb (w6.setCell ⟨g, 0, none⟩ (.string (bs OW))) w.heap.size m from (Below.heap_setCell _ _ _ _ (by simp; omega)).trans F6.out)
    clear hset
    go_cut [15, 16] from 28 (fun n d W => n = .int .i64 ((m.1.length : Nat) : Int) ∧ d = .bool (Tr.dotB m.1) ∧ W = w6)
    case first =>
      by_cases h5 : m.1.length < 5
      · have hdb := Tr.dotB_short h5
        have h5I : ¬ (5 : Int) ≤ (m.1.length : Int) := by omega
        have h5D : decide ((5 : Int) ≤ (m.1.length : Int)) = false := decide_eq_false h5I
        go_wp2
        go_meet
        case rel => exact ⟨by first | rfl | (rw [hk]; push_cast; rfl) | (rw [hk]; rfl), by rw [hdb], rfl⟩
      obtain ⟨k, hk⟩ : ∃ k, m.1.length = k + 5 := ⟨m.1.length - 5, by omega⟩
      have hcut : (bs m.1).extract k (k + 5) = bs (m.1.drop k) := bs_cut m.1 _ _ (by omega)
      have hdt : (bs (m.1.drop k)).toList = m.1.drop k := bs_toList _
      have hkw : IntKind.i64.wrap (k : Int) = (k : Int) := IntWalk.i64_in _ (by omega)
      have hk5 : (5 : Int) ≤ (k : Int) + 5 := by omega
      have hk7 : (k : Int) ≤ (k : Int) + 5 := by omega
      have htd : (bs Tr.dot).toList = [46, 99, 102, 109, 116] := by rw [bs_toList]; rfl
      by_cases hsf : m.1.drop k = Tr.dot
      rotate_left
      · have hdb := Tr.dotB_suf hk hsf
        have hsf' : ¬ m.1.drop k = [46, 99, 102, 109, 116] := hsf
        have hsfB : (m.1.drop k == [46, 99, 102, 109, 116]) = false := beq_eq_false_iff_ne.2 hsf'
        go_wp2
        go_meet
        case rel => exact ⟨by first | rfl | (rw [hk]; push_cast; rfl) | (rw [hk]; rfl), by rw [hdb], rfl⟩
      have hsf' : m.1.drop k = [46, 99, 102, 109, 116] := hsf
      rcases Nat.eq_zero_or_pos k with h00 | h00
      · subst h00
        have hdb := Tr.dotB_five hsf
        go_wp2
        go_meet
        case rel => exact ⟨by first | rfl | (rw [hk]; push_cast; rfl) | (rw [hk]; rfl), by rw [hdb], rfl⟩
      obtain ⟨q, rfl⟩ : ∃ q, k = q + 1 := ⟨k - 1, by omega⟩
      have hqs : q < (bs m.1).size := by omega
      have hqg := ba_get (bs m.1) q hqs
      rw [bs_data] at hqg
      have hqw : IntKind.i64.wrap (q : Int) = (q : Int) := IntWalk.i64_in _ (by omega)
      have hq5 : ¬ (q : Int) + 1 + 5 = 5 := by omega
      have hq5B : ((q : Int) + 1 + 5 == 5) = false := beq_eq_false_iff_ne.2 hq5
      have hq6 : ¬ (q : Int) + 1 = 0 := by omega
      have hq6B : ((q : Int) + 1 == 0) = false := beq_eq_false_iff_ne.2 hq6
      by_cases hc47 : ((bs m.1)[q]).toNat = 47
      · have hdb := Tr.dotB_yes (q := q) (by omega) hsf (by rw [hqg]; exact congrArg some (UInt8.toNat_inj.1 (by rw [hc47]; rfl)))
        have hcI : (((bs m.1)[q]).toNat : Int) = 47 := by omega
        clear hqg
        go_wp2
        go_meet
        case rel => exact ⟨by first | rfl | (rw [hk]; push_cast; rfl) | (rw [hk]; rfl), by rw [hdb], rfl⟩
      · have hdb := Tr.dotB_no (q := q) (by omega) hqg (fun e => hc47 (by rw [e]; rfl))
        have hcI : ¬ (((bs m.1)[q]).toNat : Int) = 47 := by omega
        have hcB : ((((bs m.1)[q]).toNat : Int) == 47) = false := beq_eq_false_iff_ne.2 hcI
        clear hqg
        go_wp2
        go_meet
        case rel => exact ⟨by first | rfl | (rw [hk]; push_cast; rfl) | (rw [hk]; rfl), by rw [hdb], rfl⟩
    case rest =>
      obtain ⟨rfl, rfl, rfl⟩ := hcut
      cases hdb : Tr.dotB m.1
      · obtain ⟨e1, e2⟩ := NEQ.out hdb
        subst e1 e2
        go_wp2
        go_loop [17] (fun kv => ∃ k : Nat, k ≤ p.length ∧ kv = .int .i64 k ∧ Hid (47 ∉ p.drop k)) (fun kv => (intOf kv).toNat)
        case atStart => exact ⟨p.length, Nat.le_refl _, by go_num, Lib.hid (by simp)⟩
        case round =>
          obtain ⟨k, hk, rfl, HK⟩ := hrel
          rcases Nat.eq_zero_or_pos k with h00 | h00
          · subst h00
            have EO := Lib.hid (show OW = p.take 0 ++ Tr.dot by rw [OWN0.out (by have := HK.out; rwa [List.drop_zero] at this)]; rfl)
            have hOW : bs OW = ⟨#[46, 99, 102, 109, 116]⟩ := by rw [EO.out]; rfl
            rw [hOW] at R7 B7 F7
            have hcu : (bs p).extract 0 0 = bs (p.take 0) := bs_extract p _
            have hca : bs (p.take 0) ++ ⟨#[46, 99, 102, 109, 116]⟩ = bs OW := by rw [EO.out]; exact bs_cat (p.take 0) Tr.dot
            go_wp2_with (first
              | (go_at_call 24; (with_reducible refine (NO.out _ _ _ R7.out).mono ?_); rintro e w8 ⟨rfl, b8⟩; have B8 := Lib.hid (B7.out.trans (b8.mono B7.out.size)); have R8 := Lib.hid (R7.out.later b8); have F8 := Lib.hid (show Fb w8 w.heap.size m from (b8.block _ (Fb.lt F7.out)).trans F7.out))
              | (go_at_call 26; (with_reducible refine (FO.out _ _ _ R8.out).mono ?_); rintro e w9 ⟨rfl, b9⟩; have B9 := Lib.hid (B8.out.trans (b9.mono B8.out.size)); have F9 := Lib.hid (show Fb w9 w.heap.size m from (b9.block _ (Fb.lt F8.out)).trans F8.out))
              | (refine wpList_store_mid rfl _ _ _ rfl _ _ (St.stv V).toArray rfl rfl (st_there w9 V) (sty_info V) (sty_one V) ?_; refine gen_world2 (Q := fun W => wpList _ _ _ _ _ W) (fun W => Sty W w9.heap.size V ∧ Below w9.heap.size w9 W ∧ W.heap.size = w9.heap.size + 1) (st_first w9 V) ?_; rintro w10 ⟨S10, c10, -⟩; have S10 := Lib.hid S10; have B10 := Lib.hid (B9.out.trans (c10.mono B9.out.size)); have F10 : Fb w10 w.heap.size m := (c10.block _ (Fb.lt F9.out)).trans F9.out; have r1 := Lib.cell_of_heap F10 1; have R10 := Lib.hid (one_file w10 m.2); clear F10; (try dsimp only); simp only [Act.put, List.setIfInBounds_toArray, List.set_cons_zero, List.set_cons_succ])
              | (go_at_call 26; (with_reducible refine (FX.out _ _ _ R10.out).mono ?_); rintro e w11 ⟨rfl, b11⟩; have hb10 := (Below.refl w10.heap.size w10).alloc (Nat.le_refl _) (.cells #[.string ⟨#[46, 99, 102, 109, 116]⟩, .string (bs m.2)] 43); have S11 := Lib.hid ((S10.out.later hb10).later b11); have B11 := Lib.hid ((B10.out.trans (hb10.mono B10.out.size)).trans (b11.mono (B10.out.trans (hb10.mono B10.out.size)).size)); clear hb10)
              | (refine wpList_store_mid rfl _ _ _ rfl _ _ (St.stv V).toArray rfl rfl (st_there w11 V) (sty_info V) (sty_one V) ?_; refine gen_world2 (Q := fun W => wpList _ _ _ _ _ W) (fun W => Sty W w11.heap.size V ∧ Below w11.heap.size w11 W ∧ W.heap.size = w11.heap.size + 1) (st_first w11 V) ?_; rintro w12 ⟨S12, c12, -⟩; have SR12 := S12.range; have SR10 := (S11.out.later c12).range; have B12 := Lib.hid (B11.out.trans (c12.mono B11.out.size)); have S12 := Lib.hid S12; (try dsimp only); simp only [Act.put, List.setIfInBounds_toArray, List.set_cons_zero, List.set_cons_succ])
              | (refine wpList_load_guarded (by rfl) _ _ rfl _ _ rfl (St.stv V) _ SR10 Tryd.underlying23 rfl hinfo ?_)
              | (refine wpList_load_guarded (by rfl) _ _ rfl _ _ rfl (St.stv V) _ SR12 Tryd.underlying23 rfl hinfo ?_))
            go_ret
            exact ⟨by simp, B12.out⟩
          · obtain ⟨j, rfl⟩ : ∃ j, k = j + 1 := ⟨k - 1, by omega⟩
            have hjs : j < (bs p).size := by omega
            have hjg := ba_get (bs p) j hjs
            rw [bs_data] at hjg
            have hj0 : (0 : Int) < (j : Int) + 1 := by omega
            have hjw : IntKind.i64.wrap (j : Int) = (j : Int) := IntWalk.i64_in _ (by omega)
            have hjk : (j : Int) + 1 ≤ (p.length : Int) := by omega
            have hjk2 : (0 : Int) ≤ (j : Int) + 1 := by omega
            by_cases hc : ((bs p)[j]).toNat = 47
            · have hc2 : (bs p)[j] = 47 := UInt8.toNat_inj.1 (by rw [hc]; rfl)
              have EO := Lib.hid (show OW = p.take (j + 1) ++ Tr.dot from OWN1.out j (by rw [hjg, hc2]) HK.out)
              have hcI : (((bs p)[j]).toNat : Int) = 47 := by omega
              clear hjg hc2
              have hpz : (bs (p.take (j + 1))).size = j + 1 := by rw [bs_size, List.length_take]; omega
              have hpq : ¬ 9223372036854775807 < j + 1 + 5 := by omega
              have hcu : (bs p).extract 0 (j + 1) = bs (p.take (j + 1)) := bs_extract p _
              have hca : bs (p.take (j + 1)) ++ ⟨#[46, 99, 102, 109, 116]⟩ = bs OW := by rw [EO.out]; exact bs_cat (p.take (j + 1)) Tr.dot
              go_wp2_with (first
                | (go_at_call 24; (with_reducible refine (NO.out _ _ _ R7.out).mono ?_); rintro e w8 ⟨rfl, b8⟩; have B8 := Lib.hid (B7.out.trans (b8.mono B7.out.size)); have R8 := Lib.hid (R7.out.later b8); have F8 := Lib.hid (show Fb w8 w.heap.size m from (b8.block _ (Fb.lt F7.out)).trans F7.out))
                | (go_at_call 26; (with_reducible refine (FO.out _ _ _ R8.out).mono ?_); rintro e w9 ⟨rfl, b9⟩; have B9 := Lib.hid (B8.out.trans (b9.mono B8.out.size)); have F9 := Lib.hid (show Fb w9 w.heap.size m from (b9.block _ (Fb.lt F8.out)).trans F8.out))
                | (refine wpList_store_mid rfl _ _ _ rfl _ _ (St.stv V).toArray rfl rfl (st_there w9 V) (sty_info V) (sty_one V) ?_; refine gen_world2 (Q := fun W => wpList _ _ _ _ _ W) (fun W => Sty W w9.heap.size V ∧ Below w9.heap.size w9 W ∧ W.heap.size = w9.heap.size + 1) (st_first w9 V) ?_; rintro w10 ⟨S10, c10, -⟩; have S10 := Lib.hid S10; have B10 := Lib.hid (B9.out.trans (c10.mono B9.out.size)); have F10 : Fb w10 w.heap.size m := (c10.block _ (Fb.lt F9.out)).trans F9.out; have r1 := Lib.cell_of_heap F10 1; have R10 := Lib.hid (one_file w10 m.2); clear F10; (try dsimp only); simp only [Act.put, List.setIfInBounds_toArray, List.set_cons_zero, List.set_cons_succ])
                | (go_at_call 26; (with_reducible refine (FX.out _ _ _ R10.out).mono ?_); rintro e w11 ⟨rfl, b11⟩; have hb10 := (Below.refl w10.heap.size w10).alloc (Nat.le_refl _) (.cells #[.string ⟨#[46, 99, 102, 109, 116]⟩, .string (bs m.2)] 43); have S11 := Lib.hid ((S10.out.later hb10).later b11); have B11 := Lib.hid ((B10.out.trans (hb10.mono B10.out.size)).trans (b11.mono (B10.out.trans (hb10.mono B10.out.size)).size)); clear hb10)
                | (refine wpList_store_mid rfl _ _ _ rfl _ _ (St.stv V).toArray rfl rfl (st_there w11 V) (sty_info V) (sty_one V) ?_; refine gen_world2 (Q := fun W => wpList _ _ _ _ _ W) (fun W => Sty W w11.heap.size V ∧ Below w11.heap.size w11 W ∧ W.heap.size = w11.heap.size + 1) (st_first w11 V) ?_; rintro w12 ⟨S12, c12, -⟩; have SR12 := S12.range; have SR10 := (S11.out.later c12).range; have B12 := Lib.hid (B11.out.trans (c12.mono B11.out.size)); have S12 := Lib.hid S12; (try dsimp only); simp only [Act.put, List.setIfInBounds_toArray, List.set_cons_zero, List.set_cons_succ])
                | (refine wpList_load_guarded (by rfl) _ _ rfl _ _ rfl (St.stv V) _ SR10 Tryd.underlying23 rfl hinfo ?_)
                | (refine wpList_load_guarded (by rfl) _ _ rfl _ _ rfl (St.stv V) _ SR12 Tryd.underlying23 rfl hinfo ?_))
              go_ret
              exact ⟨by simp, B12.out⟩
            · have hcI : ¬ (((bs p)[j]).toNat : Int) = 47 := by omega
              have hcB : ((((bs p)[j]).toNat : Int) == 47) = false := beq_eq_false_iff_ne.2 hcI
              have hcN : ((((bs p)[j]).toNat : Int) != 47) = true := by simp [hcI]
              have HK2 := Lib.hid (show 47 ∉ p.drop j by
                have h1 : j < p.length := by omega
                rw [List.drop_eq_getElem_cons h1, List.mem_cons, not_or]
                refine ⟨fun e => hc ?_, HK.out⟩
                rw [List.getElem?_eq_getElem h1] at hjg
                simp only [Option.some.injEq] at hjg
                rw [← hjg, ← e]
                rfl)
              clear hjg
              go_wp2
              go_round
              case rel => exact ⟨j, by omega, by go_num, HK2⟩
              case measure => first | (simp [intOf]; done) | (simp [intOf]; omega)
      · go_wp2
        go_loop [17] (fun kv => ∃ k : Nat, k ≤ p.length ∧ kv = .int .i64 k ∧ Hid (47 ∉ p.drop k)) (fun kv => (intOf kv).toNat)
        case atStart => exact ⟨p.length, Nat.le_refl _, by go_num, Lib.hid (by simp)⟩
        case round =>
          obtain ⟨k, hk, rfl, HK⟩ := hrel
          rcases Nat.eq_zero_or_pos k with h00 | h00
          · subst h00
            have EO := Lib.hid (show OW = p.take 0 ++ Tr.dot by rw [OWN0.out (by have := HK.out; rwa [List.drop_zero] at this)]; rfl)
            have hOW : bs OW = ⟨#[46, 99, 102, 109, 116]⟩ := by rw [EO.out]; rfl
            rw [hOW] at R7 B7 F7
            have hcu : (bs p).extract 0 0 = bs (p.take 0) := bs_extract p _
            have hca : bs (p.take 0) ++ ⟨#[46, 99, 102, 109, 116]⟩ = bs OW := by rw [EO.out]; exact bs_cat (p.take 0) Tr.dot
            go_wp2_with (first
              | (go_at_call 24; (with_reducible refine (NO.out _ _ _ R7.out).mono ?_); rintro e w8 ⟨rfl, b8⟩; have B8 := Lib.hid (B7.out.trans (b8.mono B7.out.size)); have R8 := Lib.hid (R7.out.later b8); have F8 := Lib.hid (show Fb w8 w.heap.size m from (b8.block _ (Fb.lt F7.out)).trans F7.out))
              | (go_at_call 26; (with_reducible refine (FO.out _ _ _ R8.out).mono ?_); rintro e w9 ⟨rfl, b9⟩; have B9 := Lib.hid (B8.out.trans (b9.mono B8.out.size)); have F9 := Lib.hid (show Fb w9 w.heap.size m from (b9.block _ (Fb.lt F8.out)).trans F8.out))
              | (refine wpList_store_mid rfl _ _ _ rfl _ _ (St.stv V).toArray rfl rfl (st_there w9 V) (sty_info V) (sty_one V) ?_; refine gen_world2 (Q := fun W => wpList _ _ _ _ _ W) (fun W => Sty W w9.heap.size V ∧ Below w9.heap.size w9 W ∧ W.heap.size = w9.heap.size + 1) (st_first w9 V) ?_; rintro w10 ⟨S10, c10, -⟩; have S10 := Lib.hid S10; have B10 := Lib.hid (B9.out.trans (c10.mono B9.out.size)); have F10 : Fb w10 w.heap.size m := (c10.block _ (Fb.lt F9.out)).trans F9.out; have r1 := Lib.cell_of_heap F10 1; have R10 := Lib.hid (one_file w10 m.2); clear F10; (try dsimp only); simp only [Act.put, List.setIfInBounds_toArray, List.set_cons_zero, List.set_cons_succ])
              | (go_at_call 26; (with_reducible refine (FX.out _ _ _ R10.out).mono ?_); rintro e w11 ⟨rfl, b11⟩; have hb10 := (Below.refl w10.heap.size w10).alloc (Nat.le_refl _) (.cells #[.string ⟨#[46, 99, 102, 109, 116]⟩, .string (bs m.2)] 43); have S11 := Lib.hid ((S10.out.later hb10).later b11); have B11 := Lib.hid ((B10.out.trans (hb10.mono B10.out.size)).trans (b11.mono (B10.out.trans (hb10.mono B10.out.size)).size)); clear hb10)
              | (refine wpList_store_mid rfl _ _ _ rfl _ _ (St.stv V).toArray rfl rfl (st_there w11 V) (sty_info V) (sty_one V) ?_; refine gen_world2 (Q := fun W => wpList _ _ _ _ _ W) (fun W => Sty W w11.heap.size V ∧ Below w11.heap.size w11 W ∧ W.heap.size = w11.heap.size + 1) (st_first w11 V) ?_; rintro w12 ⟨S12, c12, -⟩; have SR12 := S12.range; have SR10 := (S11.out.later c12).range; have B12 := Lib.hid (B11.out.trans (c12.mono B11.out.size)); have S12 := Lib.hid S12; (try dsimp only); simp only [Act.put, List.setIfInBounds_toArray, List.set_cons_zero, List.set_cons_succ])
              | (refine wpList_load_guarded (by rfl) _ _ rfl _ _ rfl (St.stv V) _ SR10 Tryd.underlying23 rfl hinfo ?_)
              | (refine wpList_load_guarded (by rfl) _ _ rfl _ _ rfl (St.stv V) _ SR12 Tryd.underlying23 rfl hinfo ?_))
            go_ret
            exact ⟨by simp, B12.out⟩
          · obtain ⟨j, rfl⟩ : ∃ j, k = j + 1 := ⟨k - 1, by omega⟩
            have hjs : j < (bs p).size := by omega
            have hjg := ba_get (bs p) j hjs
            rw [bs_data] at hjg
            have hj0 : (0 : Int) < (j : Int) + 1 := by omega
            have hjw : IntKind.i64.wrap (j : Int) = (j : Int) := IntWalk.i64_in _ (by omega)
            have hjk : (j : Int) + 1 ≤ (p.length : Int) := by omega
            have hjk2 : (0 : Int) ≤ (j : Int) + 1 := by omega
            by_cases hc : ((bs p)[j]).toNat = 47
            · have hc2 : (bs p)[j] = 47 := UInt8.toNat_inj.1 (by rw [hc]; rfl)
              have EO := Lib.hid (show OW = p.take (j + 1) ++ Tr.dot from OWN1.out j (by rw [hjg, hc2]) HK.out)
              have hcI : (((bs p)[j]).toNat : Int) = 47 := by omega
              clear hjg hc2
              have hpz : (bs (p.take (j + 1))).size = j + 1 := by rw [bs_size, List.length_take]; omega
              have hpq : ¬ 9223372036854775807 < j + 1 + 5 := by omega
              have hcu : (bs p).extract 0 (j + 1) = bs (p.take (j + 1)) := bs_extract p _
              have hca : bs (p.take (j + 1)) ++ ⟨#[46, 99, 102, 109, 116]⟩ = bs OW := by rw [EO.out]; exact bs_cat (p.take (j + 1)) Tr.dot
              go_wp2_with (first
                | (go_at_call 24; (with_reducible refine (NO.out _ _ _ R7.out).mono ?_); rintro e w8 ⟨rfl, b8⟩; have B8 := Lib.hid (B7.out.trans (b8.mono B7.out.size)); have R8 := Lib.hid (R7.out.later b8); have F8 := Lib.hid (show Fb w8 w.heap.size m from (b8.block _ (Fb.lt F7.out)).trans F7.out))
                | (go_at_call 26; (with_reducible refine (FO.out _ _ _ R8.out).mono ?_); rintro e w9 ⟨rfl, b9⟩; have B9 := Lib.hid (B8.out.trans (b9.mono B8.out.size)); have F9 := Lib.hid (show Fb w9 w.heap.size m from (b9.block _ (Fb.lt F8.out)).trans F8.out))
                | (refine wpList_store_mid rfl _ _ _ rfl _ _ (St.stv V).toArray rfl rfl (st_there w9 V) (sty_info V) (sty_one V) ?_; refine gen_world2 (Q := fun W => wpList _ _ _ _ _ W) (fun W => Sty W w9.heap.size V ∧ Below w9.heap.size w9 W ∧ W.heap.size = w9.heap.size + 1) (st_first w9 V) ?_; rintro w10 ⟨S10, c10, -⟩; have S10 := Lib.hid S10; have B10 := Lib.hid (B9.out.trans (c10.mono B9.out.size)); have F10 : Fb w10 w.heap.size m := (c10.block _ (Fb.lt F9.out)).trans F9.out; have r1 := Lib.cell_of_heap F10 1; have R10 := Lib.hid (one_file w10 m.2); clear F10; (try dsimp only); simp only [Act.put, List.setIfInBounds_toArray, List.set_cons_zero, List.set_cons_succ])
                | (go_at_call 26; (with_reducible refine (FX.out _ _ _ R10.out).mono ?_); rintro e w11 ⟨rfl, b11⟩; have hb10 := (Below.refl w10.heap.size w10).alloc (Nat.le_refl _) (.cells #[.string ⟨#[46, 99, 102, 109, 116]⟩, .string (bs m.2)] 43); have S11 := Lib.hid ((S10.out.later hb10).later b11); have B11 := Lib.hid ((B10.out.trans (hb10.mono B10.out.size)).trans (b11.mono (B10.out.trans (hb10.mono B10.out.size)).size)); clear hb10)
                | (refine wpList_store_mid rfl _ _ _ rfl _ _ (St.stv V).toArray rfl rfl (st_there w11 V) (sty_info V) (sty_one V) ?_; refine gen_world2 (Q := fun W => wpList _ _ _ _ _ W) (fun W => Sty W w11.heap.size V ∧ Below w11.heap.size w11 W ∧ W.heap.size = w11.heap.size + 1) (st_first w11 V) ?_; rintro w12 ⟨S12, c12, -⟩; have SR12 := S12.range; have SR10 := (S11.out.later c12).range; have B12 := Lib.hid (B11.out.trans (c12.mono B11.out.size)); have S12 := Lib.hid S12; (try dsimp only); simp only [Act.put, List.setIfInBounds_toArray, List.set_cons_zero, List.set_cons_succ])
                | (refine wpList_load_guarded (by rfl) _ _ rfl _ _ rfl (St.stv V) _ SR10 Tryd.underlying23 rfl hinfo ?_)
                | (refine wpList_load_guarded (by rfl) _ _ rfl _ _ rfl (St.stv V) _ SR12 Tryd.underlying23 rfl hinfo ?_))
              go_ret
              exact ⟨by simp, B12.out⟩
            · have hcI : ¬ (((bs p)[j]).toNat : Int) = 47 := by omega
              have hcB : ((((bs p)[j]).toNat : Int) == 47) = false := beq_eq_false_iff_ne.2 hcI
              have hcN : ((((bs p)[j]).toNat : Int) != 47) = true := by simp [hcI]
              have HK2 := Lib.hid (show 47 ∉ p.drop j by
                have h1 : j < p.length := by omega
                rw [List.drop_eq_getElem_cons h1, List.mem_cons, not_or]
                refine ⟨fun e => hc ?_, HK.out⟩
                rw [List.getElem?_eq_getElem h1] at hjg
                simp only [Option.some.injEq] at hjg
                rw [← hjg, ← e]
                rfl)
              clear hjg
              go_wp2
              go_round
              case rel => exact ⟨j, by omega, by go_num, HK2⟩
              case measure => first | (simp [intOf]; done) | (simp [intOf]; omega)
  clear hA
  go_enter Tryd.func6, Tryd.ntmps6
  go_upto_region 12 with (first
    | (go_at_call 22; (with_reducible refine (AL.out _).mono ?_); rintro e w1 ⟨rfl, b1⟩; have B1 := Lib.hid (HB0.out.trans (b1.mono HB0.out.size)); have F1 : Fb w1 w.heap.size m := (b1.block _ (by simp)).trans (heap_alloc_new w _); have x0 := Lib.cell_of_heap F1 0; have x1 := Lib.cell_of_heap F1 1; have F1 := Lib.hid F1)
    | (go_at_call 23; refine (GR.out _ B1.out).mono ?_; rintro e w2 ⟨rfl, b2⟩; have B2 := Lib.hid (B1.out.trans (b2.mono B1.out.size)); have F2 : Fb w2 w.heap.size m := (b2.block _ (Fb.lt F1.out)).trans F1.out; have y0 := Lib.cell_of_heap F2 0; have y1 := Lib.cell_of_heap F2 1; have F2 := Lib.hid F2)
    | (go_at_call 24; (with_reducible refine (NA.out w2 B2.out).mono ?_); rintro e w3 ⟨rfl, b3⟩; have B3 := Lib.hid (B2.out.trans (b3.mono B2.out.size)); have F3 : Fb w3 w.heap.size m := (b3.block _ (Fb.lt F2.out)).trans F2.out; have z0 := Lib.cell_of_heap F3 0; have z1 := Lib.cell_of_heap F3 1; have F3 := Lib.hid F3)
    | (at_builtin; refine wpList_append_own _ rfl _ _ 41 rfl (w.heap.size + 1) 43 i0 (.agg #[.string ⟨#[]⟩, .string ⟨#[]⟩]) 2 32 Tryd.underlying41 hi hz0 hz1 hz2 rfl (by decide) (.slice none 0 0) 0 [] rfl (World.ownsRow_nil (w3.alloc (.cells #[.string (bs m.1), .string (bs m.2)] 43)) _ _ _) ⟨w3.heap.size, 0, none⟩ 1 1 [.string (bs m.1), .string (bs m.2)] rfl rfl (two_at _ _ _ _) (by simp [Value.oneCell']) (by unfold maxLen; omega) (by omega) (by have := Fb.lt F3.out; simp; omega) ?_; intro v4 w4 o4 g4 n4; clear n4; have B4 := Lib.hid ((B3.out.alloc B3.out.size (.cells #[.string (bs m.1), .string (bs m.2)] 43)).grown g4 (by have := B3.out.size; simp; omega) (fun k e => by cases e)); have F4 : Fb w4 w.heap.size m := (g4.block _ (by have := Fb.lt F3.out; simp; omega) (fun e => by cases e)).trans ((Below.heap_alloc w3 _ _ (Fb.lt F3.out)).trans F3.out); have u0 := Lib.cell_of_heap F4 0; have u1 := Lib.cell_of_heap F4 1; have F4 := Lib.hid F4; have B4s := Fb.lt F4.out; have o4 := Lib.hid o4; clear g4; go_frame)
    | (at_builtin; refine wpList_append_own _ rfl _ _ 41 rfl (w.heap.size + 1) 43 i0 (.agg #[.string ⟨#[]⟩, .string ⟨#[]⟩]) 2 32 Tryd.underlying41 hi hz0 hz1 hz2 rfl (by decide) _ _ _ rfl o4.out ad fs.length cap (fls fs) rfl (fls_length fs) ((HRD.out.later B4.out).src) (fls_one fs) (by unfold maxLen; omega) (by omega) B4s ?_; intro v5 w5 o5 g5 n5; clear n5; have B5 := Lib.hid (B4.out.grown g5 B4.out.size (fun k e => by have := (o4.out.lt k e).1; omega)); have F5 : Fb w5 w.heap.size m := (g5.block _ (Fb.lt F4.out) (fun e => by have := (o4.out.lt _ e.symm).1; omega)).trans F4.out; have s0 := Lib.cell_of_heap F5 0; have s1 := Lib.cell_of_heap F5 1; have F5 := Lib.hid F5; have o5 := own_count o5; obtain ⟨g, c5, rfl, hgw⟩ := own_shape o5; have o5 := Lib.hid o5; clear g5; go_frame)
    | (go_at_call 24; (with_reducible refine (NM.out _ _ _ (Rd.of_own o5.out)).mono ?_); rintro e w6 ⟨rfl, b6⟩; have B6 := Lib.hid (B5.out.trans (b6.mono B5.out.size)); have o6 := Lib.hid (own_later o5.out b6); have F6 : Fb w6 w.heap.size m := (b6.block _ (Fb.lt F5.out)).trans F5.out; have v0 := Lib.cell_of_heap F6 0; have v1 := Lib.cell_of_heap F6 1; have F6 := Lib.hid F6))
  obtain ⟨_, _, hgl, hfz, hc0, hset⟩ := own_firstE o6.out
  have R7 := Lib.hid (show Rd (w6.setCell ⟨g, 0, none⟩ (.string (bs OW))) 2 (some ⟨g, 0, none⟩) (fs.length + 1) (fls ((OW, m.2) :: fs)) from Rd.of_own (hset (.string (bs OW))))
  have B7 := Lib.hid (B6.out.setCell (p := ⟨g, 0, none⟩) (by simp; omega) (.string (bs OW)))
  have F7 := Lib.hid (show Fb (w6.setCell ⟨g, 0, none⟩ (.string (bs OW))) w.heap.size m from (Below.heap_setCell _ _ _ _ (by simp; omega)).trans F6.out)
  clear hset
  go_cut [15, 16] from 28 (fun n d W => n = .int .i64 ((m.1.length : Nat) : Int) ∧ d = .bool (Tr.dotB m.1) ∧ W = w6)
  case first =>
    by_cases h5 : m.1.length < 5
    · have hdb := Tr.dotB_short h5
      have h5I : ¬ (5 : Int) ≤ (m.1.length : Int) := by omega
      have h5D : decide ((5 : Int) ≤ (m.1.length : Int)) = false := decide_eq_false h5I
      go_wp2
      go_meet
      case rel => exact ⟨by first | rfl | (rw [hk]; push_cast; rfl) | (rw [hk]; rfl), by rw [hdb], rfl⟩
    obtain ⟨k, hk⟩ : ∃ k, m.1.length = k + 5 := ⟨m.1.length - 5, by omega⟩
    have hcut : (bs m.1).extract k (k + 5) = bs (m.1.drop k) := bs_cut m.1 _ _ (by omega)
    have hdt : (bs (m.1.drop k)).toList = m.1.drop k := bs_toList _
    have hkw : IntKind.i64.wrap (k : Int) = (k : Int) := IntWalk.i64_in _ (by omega)
    have hk5 : (5 : Int) ≤ (k : Int) + 5 := by omega
    have hk7 : (k : Int) ≤ (k : Int) + 5 := by omega
    have htd : (bs Tr.dot).toList = [46, 99, 102, 109, 116] := by rw [bs_toList]; rfl
    by_cases hsf : m.1.drop k = Tr.dot
    rotate_left
    · have hdb := Tr.dotB_suf hk hsf
      have hsf' : ¬ m.1.drop k = [46, 99, 102, 109, 116] := hsf
      have hsfB : (m.1.drop k == [46, 99, 102, 109, 116]) = false := beq_eq_false_iff_ne.2 hsf'
      go_wp2
      go_meet
      case rel => exact ⟨by first | rfl | (rw [hk]; push_cast; rfl) | (rw [hk]; rfl), by rw [hdb], rfl⟩
    have hsf' : m.1.drop k = [46, 99, 102, 109, 116] := hsf
    rcases Nat.eq_zero_or_pos k with h00 | h00
    · subst h00
      have hdb := Tr.dotB_five hsf
      go_wp2
      go_meet
      case rel => exact ⟨by first | rfl | (rw [hk]; push_cast; rfl) | (rw [hk]; rfl), by rw [hdb], rfl⟩
    obtain ⟨q, rfl⟩ : ∃ q, k = q + 1 := ⟨k - 1, by omega⟩
    have hqs : q < (bs m.1).size := by omega
    have hqg := ba_get (bs m.1) q hqs
    rw [bs_data] at hqg
    have hqw : IntKind.i64.wrap (q : Int) = (q : Int) := IntWalk.i64_in _ (by omega)
    have hq5 : ¬ (q : Int) + 1 + 5 = 5 := by omega
    have hq5B : ((q : Int) + 1 + 5 == 5) = false := beq_eq_false_iff_ne.2 hq5
    have hq6 : ¬ (q : Int) + 1 = 0 := by omega
    have hq6B : ((q : Int) + 1 == 0) = false := beq_eq_false_iff_ne.2 hq6
    by_cases hc47 : ((bs m.1)[q]).toNat = 47
    · have hdb := Tr.dotB_yes (q := q) (by omega) hsf (by rw [hqg]; exact congrArg some (UInt8.toNat_inj.1 (by rw [hc47]; rfl)))
      have hcI : (((bs m.1)[q]).toNat : Int) = 47 := by omega
      clear hqg
      go_wp2
      go_meet
      case rel => exact ⟨by first | rfl | (rw [hk]; push_cast; rfl) | (rw [hk]; rfl), by rw [hdb], rfl⟩
    · have hdb := Tr.dotB_no (q := q) (by omega) hqg (fun e => hc47 (by rw [e]; rfl))
      have hcI : ¬ (((bs m.1)[q]).toNat : Int) = 47 := by omega
      have hcB : ((((bs m.1)[q]).toNat : Int) == 47) = false := beq_eq_false_iff_ne.2 hcI
      clear hqg
      go_wp2
      go_meet
      case rel => exact ⟨by first | rfl | (rw [hk]; push_cast; rfl) | (rw [hk]; rfl), by rw [hdb], rfl⟩
  case rest =>
    obtain ⟨rfl, rfl, rfl⟩ := hcut
    cases hdb : Tr.dotB m.1
    · obtain ⟨e1, e2⟩ := NEQ.out hdb
      subst e1 e2
      go_wp2
      go_loop [17] (fun kv => ∃ k : Nat, k ≤ p.length ∧ kv = .int .i64 k ∧ Hid (47 ∉ p.drop k)) (fun kv => (intOf kv).toNat)
      case atStart => exact ⟨p.length, Nat.le_refl _, by go_num, Lib.hid (by simp)⟩
      case round =>
        obtain ⟨k, hk, rfl, HK⟩ := hrel
        rcases Nat.eq_zero_or_pos k with h00 | h00
        · subst h00
          have EO := Lib.hid (show OW = p.take 0 ++ Tr.dot by rw [OWN0.out (by have := HK.out; rwa [List.drop_zero] at this)]; rfl)
          have hOW : bs OW = ⟨#[46, 99, 102, 109, 116]⟩ := by rw [EO.out]; rfl
          rw [hOW] at R7 B7 F7
          have hcu : (bs p).extract 0 0 = bs (p.take 0) := bs_extract p _
          have hca : bs (p.take 0) ++ ⟨#[46, 99, 102, 109, 116]⟩ = bs OW := by rw [EO.out]; exact bs_cat (p.take 0) Tr.dot
          go_wp2_with (first
            | (go_at_call 24; (with_reducible refine (NO.out _ _ _ R7.out).mono ?_); rintro e w8 ⟨rfl, b8⟩; have B8 := Lib.hid (B7.out.trans (b8.mono B7.out.size)); have R8 := Lib.hid (R7.out.later b8); have F8 := Lib.hid (show Fb w8 w.heap.size m from (b8.block _ (Fb.lt F7.out)).trans F7.out))
            | (go_at_call 26; (with_reducible refine (FO.out _ _ _ R8.out).mono ?_); rintro e w9 ⟨rfl, b9⟩; have B9 := Lib.hid (B8.out.trans (b9.mono B8.out.size)); have F9 := Lib.hid (show Fb w9 w.heap.size m from (b9.block _ (Fb.lt F8.out)).trans F8.out))
            | (refine wpList_store_mid rfl _ _ _ rfl _ _ (St.stv V).toArray rfl rfl (st_there w9 V) (sty_info V) (sty_one V) ?_; refine gen_world2 (Q := fun W => wpList _ _ _ _ _ W) (fun W => Sty W w9.heap.size V ∧ Below w9.heap.size w9 W ∧ W.heap.size = w9.heap.size + 1) (st_first w9 V) ?_; rintro w10 ⟨S10, c10, -⟩; have S10 := Lib.hid S10; have B10 := Lib.hid (B9.out.trans (c10.mono B9.out.size)); have F10 : Fb w10 w.heap.size m := (c10.block _ (Fb.lt F9.out)).trans F9.out; have r1 := Lib.cell_of_heap F10 1; have R10 := Lib.hid (one_file w10 m.2); clear F10; (try dsimp only); simp only [Act.put, List.setIfInBounds_toArray, List.set_cons_zero, List.set_cons_succ])
            | (go_at_call 26; (with_reducible refine (FX.out _ _ _ R10.out).mono ?_); rintro e w11 ⟨rfl, b11⟩; have hb10 := (Below.refl w10.heap.size w10).alloc (Nat.le_refl _) (.cells #[.string ⟨#[46, 99, 102, 109, 116]⟩, .string (bs m.2)] 43); have S11 := Lib.hid ((S10.out.later hb10).later b11); have B11 := Lib.hid ((B10.out.trans (hb10.mono B10.out.size)).trans (b11.mono (B10.out.trans (hb10.mono B10.out.size)).size)); clear hb10)
            | (refine wpList_store_mid rfl _ _ _ rfl _ _ (St.stv V).toArray rfl rfl (st_there w11 V) (sty_info V) (sty_one V) ?_; refine gen_world2 (Q := fun W => wpList _ _ _ _ _ W) (fun W => Sty W w11.heap.size V ∧ Below w11.heap.size w11 W ∧ W.heap.size = w11.heap.size + 1) (st_first w11 V) ?_; rintro w12 ⟨S12, c12, -⟩; have SR12 := S12.range; have SR10 := (S11.out.later c12).range; have B12 := Lib.hid (B11.out.trans (c12.mono B11.out.size)); have S12 := Lib.hid S12; (try dsimp only); simp only [Act.put, List.setIfInBounds_toArray, List.set_cons_zero, List.set_cons_succ])
            | (refine wpList_load_guarded (by rfl) _ _ rfl _ _ rfl (St.stv V) _ SR10 Tryd.underlying23 rfl hinfo ?_)
            | (refine wpList_load_guarded (by rfl) _ _ rfl _ _ rfl (St.stv V) _ SR12 Tryd.underlying23 rfl hinfo ?_))
          go_ret
          exact ⟨by simp, B12.out⟩
        · obtain ⟨j, rfl⟩ : ∃ j, k = j + 1 := ⟨k - 1, by omega⟩
          have hjs : j < (bs p).size := by omega
          have hjg := ba_get (bs p) j hjs
          rw [bs_data] at hjg
          have hj0 : (0 : Int) < (j : Int) + 1 := by omega
          have hjw : IntKind.i64.wrap (j : Int) = (j : Int) := IntWalk.i64_in _ (by omega)
          have hjk : (j : Int) + 1 ≤ (p.length : Int) := by omega
          have hjk2 : (0 : Int) ≤ (j : Int) + 1 := by omega
          by_cases hc : ((bs p)[j]).toNat = 47
          · have hc2 : (bs p)[j] = 47 := UInt8.toNat_inj.1 (by rw [hc]; rfl)
            have EO := Lib.hid (show OW = p.take (j + 1) ++ Tr.dot from OWN1.out j (by rw [hjg, hc2]) HK.out)
            have hcI : (((bs p)[j]).toNat : Int) = 47 := by omega
            clear hjg hc2
            have hpz : (bs (p.take (j + 1))).size = j + 1 := by rw [bs_size, List.length_take]; omega
            have hpq : ¬ 9223372036854775807 < j + 1 + 5 := by omega
            have hcu : (bs p).extract 0 (j + 1) = bs (p.take (j + 1)) := bs_extract p _
            have hca : bs (p.take (j + 1)) ++ ⟨#[46, 99, 102, 109, 116]⟩ = bs OW := by rw [EO.out]; exact bs_cat (p.take (j + 1)) Tr.dot
            go_wp2_with (first
              | (go_at_call 24; (with_reducible refine (NO.out _ _ _ R7.out).mono ?_); rintro e w8 ⟨rfl, b8⟩; have B8 := Lib.hid (B7.out.trans (b8.mono B7.out.size)); have R8 := Lib.hid (R7.out.later b8); have F8 := Lib.hid (show Fb w8 w.heap.size m from (b8.block _ (Fb.lt F7.out)).trans F7.out))
              | (go_at_call 26; (with_reducible refine (FO.out _ _ _ R8.out).mono ?_); rintro e w9 ⟨rfl, b9⟩; have B9 := Lib.hid (B8.out.trans (b9.mono B8.out.size)); have F9 := Lib.hid (show Fb w9 w.heap.size m from (b9.block _ (Fb.lt F8.out)).trans F8.out))
              | (refine wpList_store_mid rfl _ _ _ rfl _ _ (St.stv V).toArray rfl rfl (st_there w9 V) (sty_info V) (sty_one V) ?_; refine gen_world2 (Q := fun W => wpList _ _ _ _ _ W) (fun W => Sty W w9.heap.size V ∧ Below w9.heap.size w9 W ∧ W.heap.size = w9.heap.size + 1) (st_first w9 V) ?_; rintro w10 ⟨S10, c10, -⟩; have S10 := Lib.hid S10; have B10 := Lib.hid (B9.out.trans (c10.mono B9.out.size)); have F10 : Fb w10 w.heap.size m := (c10.block _ (Fb.lt F9.out)).trans F9.out; have r1 := Lib.cell_of_heap F10 1; have R10 := Lib.hid (one_file w10 m.2); clear F10; (try dsimp only); simp only [Act.put, List.setIfInBounds_toArray, List.set_cons_zero, List.set_cons_succ])
              | (go_at_call 26; (with_reducible refine (FX.out _ _ _ R10.out).mono ?_); rintro e w11 ⟨rfl, b11⟩; have hb10 := (Below.refl w10.heap.size w10).alloc (Nat.le_refl _) (.cells #[.string ⟨#[46, 99, 102, 109, 116]⟩, .string (bs m.2)] 43); have S11 := Lib.hid ((S10.out.later hb10).later b11); have B11 := Lib.hid ((B10.out.trans (hb10.mono B10.out.size)).trans (b11.mono (B10.out.trans (hb10.mono B10.out.size)).size)); clear hb10)
              | (refine wpList_store_mid rfl _ _ _ rfl _ _ (St.stv V).toArray rfl rfl (st_there w11 V) (sty_info V) (sty_one V) ?_; refine gen_world2 (Q := fun W => wpList _ _ _ _ _ W) (fun W => Sty W w11.heap.size V ∧ Below w11.heap.size w11 W ∧ W.heap.size = w11.heap.size + 1) (st_first w11 V) ?_; rintro w12 ⟨S12, c12, -⟩; have SR12 := S12.range; have SR10 := (S11.out.later c12).range; have B12 := Lib.hid (B11.out.trans (c12.mono B11.out.size)); have S12 := Lib.hid S12; (try dsimp only); simp only [Act.put, List.setIfInBounds_toArray, List.set_cons_zero, List.set_cons_succ])
              | (refine wpList_load_guarded (by rfl) _ _ rfl _ _ rfl (St.stv V) _ SR10 Tryd.underlying23 rfl hinfo ?_)
              | (refine wpList_load_guarded (by rfl) _ _ rfl _ _ rfl (St.stv V) _ SR12 Tryd.underlying23 rfl hinfo ?_))
            go_ret
            exact ⟨by simp, B12.out⟩
          · have hcI : ¬ (((bs p)[j]).toNat : Int) = 47 := by omega
            have hcB : ((((bs p)[j]).toNat : Int) == 47) = false := beq_eq_false_iff_ne.2 hcI
            have hcN : ((((bs p)[j]).toNat : Int) != 47) = true := by simp [hcI]
            have HK2 := Lib.hid (show 47 ∉ p.drop j by
              have h1 : j < p.length := by omega
              rw [List.drop_eq_getElem_cons h1, List.mem_cons, not_or]
              refine ⟨fun e => hc ?_, HK.out⟩
              rw [List.getElem?_eq_getElem h1] at hjg
              simp only [Option.some.injEq] at hjg
              rw [← hjg, ← e]
              rfl)
            clear hjg
            go_wp2
            go_round
            case rel => exact ⟨j, by omega, by go_num, HK2⟩
            case measure => first | (simp [intOf]; done) | (simp [intOf]; omega)
    · go_wp2
      go_loop [17] (fun kv => ∃ k : Nat, k ≤ p.length ∧ kv = .int .i64 k ∧ Hid (47 ∉ p.drop k)) (fun kv => (intOf kv).toNat)
      case atStart => exact ⟨p.length, Nat.le_refl _, by go_num, Lib.hid (by simp)⟩
      case round =>
        obtain ⟨k, hk, rfl, HK⟩ := hrel
        rcases Nat.eq_zero_or_pos k with h00 | h00
        · subst h00
          have EO := Lib.hid (show OW = p.take 0 ++ Tr.dot by rw [OWN0.out (by have := HK.out; rwa [List.drop_zero] at this)]; rfl)
          have hOW : bs OW = ⟨#[46, 99, 102, 109, 116]⟩ := by rw [EO.out]; rfl
          rw [hOW] at R7 B7 F7
          have hcu : (bs p).extract 0 0 = bs (p.take 0) := bs_extract p _
          have hca : bs (p.take 0) ++ ⟨#[46, 99, 102, 109, 116]⟩ = bs OW := by rw [EO.out]; exact bs_cat (p.take 0) Tr.dot
          go_wp2_with (first
            | (go_at_call 24; (with_reducible refine (NO.out _ _ _ R7.out).mono ?_); rintro e w8 ⟨rfl, b8⟩; have B8 := Lib.hid (B7.out.trans (b8.mono B7.out.size)); have R8 := Lib.hid (R7.out.later b8); have F8 := Lib.hid (show Fb w8 w.heap.size m from (b8.block _ (Fb.lt F7.out)).trans F7.out))
            | (go_at_call 26; (with_reducible refine (FO.out _ _ _ R8.out).mono ?_); rintro e w9 ⟨rfl, b9⟩; have B9 := Lib.hid (B8.out.trans (b9.mono B8.out.size)); have F9 := Lib.hid (show Fb w9 w.heap.size m from (b9.block _ (Fb.lt F8.out)).trans F8.out))
            | (refine wpList_store_mid rfl _ _ _ rfl _ _ (St.stv V).toArray rfl rfl (st_there w9 V) (sty_info V) (sty_one V) ?_; refine gen_world2 (Q := fun W => wpList _ _ _ _ _ W) (fun W => Sty W w9.heap.size V ∧ Below w9.heap.size w9 W ∧ W.heap.size = w9.heap.size + 1) (st_first w9 V) ?_; rintro w10 ⟨S10, c10, -⟩; have S10 := Lib.hid S10; have B10 := Lib.hid (B9.out.trans (c10.mono B9.out.size)); have F10 : Fb w10 w.heap.size m := (c10.block _ (Fb.lt F9.out)).trans F9.out; have r1 := Lib.cell_of_heap F10 1; have R10 := Lib.hid (one_file w10 m.2); clear F10; (try dsimp only); simp only [Act.put, List.setIfInBounds_toArray, List.set_cons_zero, List.set_cons_succ])
            | (go_at_call 26; (with_reducible refine (FX.out _ _ _ R10.out).mono ?_); rintro e w11 ⟨rfl, b11⟩; have hb10 := (Below.refl w10.heap.size w10).alloc (Nat.le_refl _) (.cells #[.string ⟨#[46, 99, 102, 109, 116]⟩, .string (bs m.2)] 43); have S11 := Lib.hid ((S10.out.later hb10).later b11); have B11 := Lib.hid ((B10.out.trans (hb10.mono B10.out.size)).trans (b11.mono (B10.out.trans (hb10.mono B10.out.size)).size)); clear hb10)
            | (refine wpList_store_mid rfl _ _ _ rfl _ _ (St.stv V).toArray rfl rfl (st_there w11 V) (sty_info V) (sty_one V) ?_; refine gen_world2 (Q := fun W => wpList _ _ _ _ _ W) (fun W => Sty W w11.heap.size V ∧ Below w11.heap.size w11 W ∧ W.heap.size = w11.heap.size + 1) (st_first w11 V) ?_; rintro w12 ⟨S12, c12, -⟩; have SR12 := S12.range; have SR10 := (S11.out.later c12).range; have B12 := Lib.hid (B11.out.trans (c12.mono B11.out.size)); have S12 := Lib.hid S12; (try dsimp only); simp only [Act.put, List.setIfInBounds_toArray, List.set_cons_zero, List.set_cons_succ])
            | (refine wpList_load_guarded (by rfl) _ _ rfl _ _ rfl (St.stv V) _ SR10 Tryd.underlying23 rfl hinfo ?_)
            | (refine wpList_load_guarded (by rfl) _ _ rfl _ _ rfl (St.stv V) _ SR12 Tryd.underlying23 rfl hinfo ?_))
          go_ret
          exact ⟨by simp, B12.out⟩
        · obtain ⟨j, rfl⟩ : ∃ j, k = j + 1 := ⟨k - 1, by omega⟩
          have hjs : j < (bs p).size := by omega
          have hjg := ba_get (bs p) j hjs
          rw [bs_data] at hjg
          have hj0 : (0 : Int) < (j : Int) + 1 := by omega
          have hjw : IntKind.i64.wrap (j : Int) = (j : Int) := IntWalk.i64_in _ (by omega)
          have hjk : (j : Int) + 1 ≤ (p.length : Int) := by omega
          have hjk2 : (0 : Int) ≤ (j : Int) + 1 := by omega
          by_cases hc : ((bs p)[j]).toNat = 47
          · have hc2 : (bs p)[j] = 47 := UInt8.toNat_inj.1 (by rw [hc]; rfl)
            have EO := Lib.hid (show OW = p.take (j + 1) ++ Tr.dot from OWN1.out j (by rw [hjg, hc2]) HK.out)
            have hcI : (((bs p)[j]).toNat : Int) = 47 := by omega
            clear hjg hc2
            have hpz : (bs (p.take (j + 1))).size = j + 1 := by rw [bs_size, List.length_take]; omega
            have hpq : ¬ 9223372036854775807 < j + 1 + 5 := by omega
            have hcu : (bs p).extract 0 (j + 1) = bs (p.take (j + 1)) := bs_extract p _
            have hca : bs (p.take (j + 1)) ++ ⟨#[46, 99, 102, 109, 116]⟩ = bs OW := by rw [EO.out]; exact bs_cat (p.take (j + 1)) Tr.dot
            go_wp2_with (first
              | (go_at_call 24; (with_reducible refine (NO.out _ _ _ R7.out).mono ?_); rintro e w8 ⟨rfl, b8⟩; have B8 := Lib.hid (B7.out.trans (b8.mono B7.out.size)); have R8 := Lib.hid (R7.out.later b8); have F8 := Lib.hid (show Fb w8 w.heap.size m from (b8.block _ (Fb.lt F7.out)).trans F7.out))
              | (go_at_call 26; (with_reducible refine (FO.out _ _ _ R8.out).mono ?_); rintro e w9 ⟨rfl, b9⟩; have B9 := Lib.hid (B8.out.trans (b9.mono B8.out.size)); have F9 := Lib.hid (show Fb w9 w.heap.size m from (b9.block _ (Fb.lt F8.out)).trans F8.out))
              | (refine wpList_store_mid rfl _ _ _ rfl _ _ (St.stv V).toArray rfl rfl (st_there w9 V) (sty_info V) (sty_one V) ?_; refine gen_world2 (Q := fun W => wpList _ _ _ _ _ W) (fun W => Sty W w9.heap.size V ∧ Below w9.heap.size w9 W ∧ W.heap.size = w9.heap.size + 1) (st_first w9 V) ?_; rintro w10 ⟨S10, c10, -⟩; have S10 := Lib.hid S10; have B10 := Lib.hid (B9.out.trans (c10.mono B9.out.size)); have F10 : Fb w10 w.heap.size m := (c10.block _ (Fb.lt F9.out)).trans F9.out; have r1 := Lib.cell_of_heap F10 1; have R10 := Lib.hid (one_file w10 m.2); clear F10; (try dsimp only); simp only [Act.put, List.setIfInBounds_toArray, List.set_cons_zero, List.set_cons_succ])
              | (go_at_call 26; (with_reducible refine (FX.out _ _ _ R10.out).mono ?_); rintro e w11 ⟨rfl, b11⟩; have hb10 := (Below.refl w10.heap.size w10).alloc (Nat.le_refl _) (.cells #[.string ⟨#[46, 99, 102, 109, 116]⟩, .string (bs m.2)] 43); have S11 := Lib.hid ((S10.out.later hb10).later b11); have B11 := Lib.hid ((B10.out.trans (hb10.mono B10.out.size)).trans (b11.mono (B10.out.trans (hb10.mono B10.out.size)).size)); clear hb10)
              | (refine wpList_store_mid rfl _ _ _ rfl _ _ (St.stv V).toArray rfl rfl (st_there w11 V) (sty_info V) (sty_one V) ?_; refine gen_world2 (Q := fun W => wpList _ _ _ _ _ W) (fun W => Sty W w11.heap.size V ∧ Below w11.heap.size w11 W ∧ W.heap.size = w11.heap.size + 1) (st_first w11 V) ?_; rintro w12 ⟨S12, c12, -⟩; have SR12 := S12.range; have SR10 := (S11.out.later c12).range; have B12 := Lib.hid (B11.out.trans (c12.mono B11.out.size)); have S12 := Lib.hid S12; (try dsimp only); simp only [Act.put, List.setIfInBounds_toArray, List.set_cons_zero, List.set_cons_succ])
              | (refine wpList_load_guarded (by rfl) _ _ rfl _ _ rfl (St.stv V) _ SR10 Tryd.underlying23 rfl hinfo ?_)
              | (refine wpList_load_guarded (by rfl) _ _ rfl _ _ rfl (St.stv V) _ SR12 Tryd.underlying23 rfl hinfo ?_))
            go_ret
            exact ⟨by simp, B12.out⟩
          · have hcI : ¬ (((bs p)[j]).toNat : Int) = 47 := by omega
            have hcB : ((((bs p)[j]).toNat : Int) == 47) = false := beq_eq_false_iff_ne.2 hcI
            have hcN : ((((bs p)[j]).toNat : Int) != 47) = true := by simp [hcI]
            have HK2 := Lib.hid (show 47 ∉ p.drop j by
              have h1 : j < p.length := by omega
              rw [List.drop_eq_getElem_cons h1, List.mem_cons, not_or]
              refine ⟨fun e => hc ?_, HK.out⟩
              rw [List.getElem?_eq_getElem h1] at hjg
              simp only [Option.some.injEq] at hjg
              rw [← hjg, ← e]
              rfl)
            clear hjg
            go_wp2
            go_round
            case rel => exact ⟨j, by omega, by go_num, HK2⟩
            case measure => first | (simp [intOf]; done) | (simp [intOf]; omega)

end Go.Proofs.YtliabgcpciekpaaDoor
