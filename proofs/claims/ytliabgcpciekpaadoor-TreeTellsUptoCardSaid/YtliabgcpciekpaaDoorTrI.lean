/- Walks: where the nearest style's file stands (the program's). -/
import Derived.Test.YtliabgcpciekpaaDoorTrH
import Derived.Shelf.RegionOpen
set_option linter.unusedVariables false
set_option linter.unusedSimpArgs false
namespace Go.Proofs.YtliabgcpciekpaaDoor
open Go Go.RowKit Go.Maps
attribute [local go_sem] Oper.semAt_some

namespace Tr
theorem jn_len {l : List T} (h : ∀ x ∈ l, x.length ≤ 32) : (jn l).length ≤ 33 * l.length := by
  induction l with
  | nil => simp [jn]
  | cons a r ih =>
    have h1 := h a (by simp)
    have h2 := ih (fun x hx => h x (by simp [hx]))
    cases r with
    | nil => simp [jn]; omega
    | cons b r => rw [jn_cons a (by simp)]; simp only [List.length_append, List.length_cons] at *; omega
theorem path_len {p : T} (h : isPath p = true) : p.length ≤ 660 := by
  have h1 := (isPath_iff p).1 h
  have h2 := jn_len (l := spl 47 p) (fun x hx => ((isName_iff x).1 (h1.2 x hx)).2.1)
  rw [jn_spl] at h2
  omega
theorem fols_mem_len : ∀ (n : Nat) (t : T), t.length ≤ n → ∀ x ∈ fols t, x.length ≤ n := by
  intro n
  induction n with
  | zero => intro t h x hx; rw [List.eq_nil_of_length_eq_zero (Nat.le_zero.1 h), fols_nil] at hx; simp at hx
  | succ n ih =>
    intro t h x hx
    by_cases ht : t = []
    · subst ht; rw [fols_nil] at hx; simp at hx
    · rw [fols_cons ht] at hx
      have := fol_lt ht
      rcases List.mem_cons.1 hx with rfl | hx
      · omega
      · have := ih (fol t) (by omega) x hx; omega
theorem ins_len (f n : T) : (ins f n).length ≤ f.length + 1 + n.length := by
  unfold ins; split <;> simp <;> omega
theorem nrI_hit {ms : List T} {p x : T} {pre : List T} (hp : isPath p = true) (hpre : pre ++ [x] <+: fols p) (hn : ∀ f ∈ pre, known ms (ins f dot) = false) (hx : known ms (ins x dot) = true) : nrI ms p = ((ms.idxOf (ins x dot) : Nat) : Int) := by
  obtain ⟨r, hr⟩ := hpre
  have hf := nr_fols (ms := ms) hp
  have h1 : (fols p).find? (fun f => known ms (ins f dot)) = some x := by
    rw [← hr, List.append_assoc, List.find?_append, List.find?_eq_none.2 (fun f hf => by rw [hn f hf]; simp)]
    simp [hx]
  rw [h1] at hf
  unfold nrI
  cases hnr : nr ms p with
  | none => rw [hnr] at hf; cases hf
  | some i =>
    rw [hnr] at hf
    simp only [Option.map_some, Option.some.injEq] at hf
    simp only
    rw [hf, ins_at (isPath_good hp)]
theorem nrI_miss {ms : List T} {p : T} (hp : isPath p = true) (hn : ∀ f ∈ fols p, known ms (ins f dot) = false) : nrI ms p = -1 := by
  have hf := nr_fols (ms := ms) hp
  rw [List.find?_eq_none.2 (fun f hf => by rw [hn f hf]; simp)] at hf
  unfold nrI
  cases hnr : nr ms p with
  | none => rfl
  | some i => rw [hnr] at hf; cases hf
end Tr

set_option maxRecDepth 100000 in
theorem look_run {W : World} {b n : Nat} {D : DataW Unit} {ms : List Tr.T} {x : Tr.T} (own : W.ownsMap Tryd.prog 9 (plainElem Tryd.prog 3) b n D) (CN : Tr.CntOf D ms) (hx : x.length ≤ 140737488355328) :
    (Instr.lookup 92 (.map (some b)) (.string (bs x)) true).run Tryd.prog W = .ok (.tuple #[.int .i64 (if Tr.known ms x = true then ((ms.idxOf x : Nat) : Int) else 0), .bool (Tr.known ms x)]) W := by
  have hkey : keyOf Tryd.prog 9 (.string (bs x)) = some (.string x) := by
    have := Go.WideMaps.keyOf_string_mk (P := Tryd.prog) Tryd.underlying9 (s := bs x) (by rw [bs_size]; unfold maxLen; omega)
    rwa [bs_data] at this
  obtain ⟨v, ps, hrun, hv⟩ := own.look_ok lawS Tryd.underlying92 (zeroI W) (zd := .lit (.int .i64 0)) (zp := []) (plainElem_int Tryd.underlying3 (by decide)) hkey
  obtain ⟨c, rfl, hc, hwc⟩ := plainElem_int_inv Tryd.underlying3 hv
  have hc := congrArg Prod.fst hc
  simp only at hc
  rw [CN.has x] at hrun
  rw [hrun]
  cases hk : Tr.known ms x
  · rw [atKey_of_not_has (by rw [CN.has x, hk])] at hc
    injection hc with hc
    injection hc with _ hc
    subst hc; simp
  · rw [CN.one x hk] at hc
    injection hc with hc
    injection hc with _ hc
    subst hc; simp

/-- In a round of nearest. -/
def NrI (w : World) (b n : Nat) (D : DataW Unit) (ms : List Tr.T) (pre : List Tr.T) (W : World) : Prop :=
  Bx W b 92 (.map (some w.heap.size)) ∧ Bx W (b + 1) 3 (.int .i64 (-1)) ∧ W.ownsMap Tryd.prog 9 (plainElem Tryd.prog 3) w.heap.size n D ∧ (∀ f ∈ pre, Tr.known ms (Tr.ins f Tr.dot) = false) ∧ Below w.heap.size w W ∧ b + 3 ≤ W.heap.size
def NrX (w : World) (b : Nat) (r : Int) (c : Code) (_ : List Tr.T) (W : World) : Prop := c = .exit 0 ∧ Bx W (b + 1) 3 (.int .i64 r) ∧ Below w.heap.size w W
def nrTmps (A : Option Addr) (n cap : Nat) (p : Tr.T) (h b : Nat) (x : Tr.T) : Array Value := #[.slice A n cap, .string (bs p), undef, undef, .int .i64 0, .pointer (some ⟨b, 0, none⟩), .pointer (some ⟨b + 1, 0, none⟩), .string (bs x), undef, undef,
  .slice A n cap, .map (some h), .string (bs p), .func (.func 95) #[] #[.pointer (some ⟨b + 1 + 1, 0, none⟩)], .string (bs x), undef, undef, undef, undef, undef, undef, undef, undef, undef, undef]
theorem NrI.put {w W : World} {b n : Nat} {D : DataW Unit} {ms pre : List Tr.T} (h : NrI w b n D ms pre W) (hb : w.heap.size < b) {l : Nat} {o : Obj} (o' : Obj) (hl : b + 3 ≤ l) (ho : W.heap[l]? = some o) (hc : o.isCells = false) : NrI w b n D ms pre (W.putObj l o') :=
  ⟨h.1.put' o' ho hc, h.2.1.put' o' ho hc, ownsMap_kept h.2.2.1 (World.putObj_heap_other (by omega)), h.2.2.2.1, below_put h.2.2.2.2.1 o' (by omega), by simpa using h.2.2.2.2.2⟩

set_option maxRecDepth 100000 in
set_option maxHeartbeats 4000000 in
theorem nearest_any (A : Option Addr) (cap : Nat) (fs : List (Tr.T × Tr.T)) (p : Tr.T) (w : World) (hrd : Rd w 2 A fs.length (fls fs)) (hn : fs.length ≤ 140737488355328) (hz : ∀ f ∈ fs, f.1.length ≤ 140737488355328) (hp : Tr.isPath p = true) :
    Calls Tryd.prog 54 #[.slice A fs.length cap, .string (bs p)] w fun e w' => e = .returned (.int .i64 (Tr.nrI (Tr.nms fs) p)) ∧ Below w.heap.size w w' := by
  refine callsIn_wide (n := 6) |>.1 ?_
  refine callsIn_of_wp_marks Tryd.func54 rfl trivial ?_ rfl
  simp only [Tryd.ntmps54, List.size_toArray, List.length_cons, List.length_nil, Nat.reduceAdd, Nat.reduceSub, Array.replicate_succ, Array.replicate_zero, List.push_toArray, List.append_toArray, List.nil_append, List.cons_append]
  gi_wp2
  refine wpIn_scope ?_
  refine wpIn_wide.2 ?_
  go_wp2_with (go_at_call 57; refine (counted_any A cap fs _ hrd hn hz).mono ?_; rintro e w2 ⟨D, rfl, own, CN, b2⟩; have own := Lib.hid own; have CN := Lib.hid CN)
  refine wp_label ?_
  go_wp2_with (go_at_call 80; refine (folders_any _ _).mono ?_; rintro e w3 ⟨rfl, rfl⟩)
  refine (wpIn_wide (n := 6)).1 ?_
  have hown2 := own.out.lt
  obtain ⟨wB, hwB⟩ : ∃ wB, (((w2.alloc (.cells #[.map (some w.heap.size)] 92)).alloc (.cells #[.int .i64 (-1)] 3)).alloc (.cells #[.string (bs p)] 9)) = wB := ⟨_, rfl⟩
  have hsB : wB.heap.size = w2.heap.size + 3 := by rw [← hwB]; simp
  have hbB : Below w2.heap.size w2 wB := by rw [← hwB]; exact (((Below.refl _ _).alloc (Nat.le_refl _) _).alloc (by simp) _).alloc (by simp; omega) _
  have B0 : Bx wB w2.heap.size 92 (.map (some w.heap.size)) := by
    rw [← hwB]
    exact (Bx.new w2 92 (.map (some w.heap.size))).below (((Below.refl _ _).alloc (Nat.le_refl _) _).alloc (by simp only [World.size_alloc]; omega) _) (by simp only [World.size_alloc]; omega)
  have B1 : Bx wB (w2.heap.size + 1) 3 (.int .i64 (-1)) := by
    rw [← hwB]
    have h1 := Bx.new (w2.alloc (.cells #[.map (some w.heap.size)] 92)) 3 (.int .i64 (-1))
    simp only [World.size_alloc] at h1
    exact h1.below ((Below.refl _ _).alloc (Nat.le_refl _) _) (by simp only [World.size_alloc]; omega)
  have zp : Bx wB (w2.heap.size + 1 + 1) 9 (.string (bs p)) := by
    rw [← hwB]
    have h1 := Bx.new ((w2.alloc (.cells #[.map (some w.heap.size)] 92)).alloc (.cells #[.int .i64 (-1)] 3)) 9 (.string (bs p))
    simp only [World.size_alloc] at h1
    exact h1
  rw [hwB]
  have HO := Lib.hid (ownsMap_kept own.out (hbB.block _ hown2))
  have hB := b2.trans (hbB.mono b2.size)
  have hq := b2.size
  clear hwB hbB b2 own
  have hpl : p.length ≤ 140737488355328 := by have := Tr.path_len hp; omega
  generalize w2.heap.size = q at *
  have hmix : Tryd.prog.follows .mixedOrders = true := by kernel_rfl
  refine rangeLaw (gf := 95) (lb := #[.pointer (some ⟨q + 1 + 1, 0, none⟩)]) rfl (enters_of Tryd.func95 (by kernel_rfl) rfl)
    (fun W1 hs1 hbb => folders1_seq (6 - 1) (q + 1 + 1) p W1 hpl (zp.below hbb zp.lt))
    (fun X Y k o hg hk ho _ => (hg.block k (Array.getElem?_eq_some_iff.1 ho).1 (fun e => by have := Option.some.inj e; omega)).trans ho)
    (fun h1 h2 => h2.trans h1)
    (fun W l o o' hl _ _ _ => World.putObj_heap_other (by omega)) (fun _ => rfl)
    (NrI w q fs.length D (Tr.nms fs)) (NrX w q (Tr.nrI (Tr.nms fs) p))
    (fun pre X Y ⟨h1, h2, h3, h4, h5, h6⟩ hg => ⟨(hg.block _ h1.lt (fun e => by have := Option.some.inj e; omega)).trans h1, (hg.block _ h2.lt (fun e => by have := Option.some.inj e; omega)).trans h2, ownsMap_kept h3 (hg.block _ h3.lt (fun e => by have := Option.some.inj e; omega)), h4, h5.grown hg h5.size (fun k e => by cases e; omega), Nat.le_trans h6 hg.size⟩)
    (fun pre W l o o' hi hl ho hc => hi.put (by omega) o' (by omega) ho hc)
    (fun c pre W l o o' ⟨h1, h2, h3⟩ hl ho hc => ⟨h1, h2.put' o' ho hc, below_put h3 o' (by omega)⟩)
    (fun W1 hs1 hbb => ⟨B0.below hbb B0.lt, B1.below hbb B1.lt, ownsMap_kept HO.out (hbb.block _ (by omega)), by simp, hB.trans (hbb.mono hB.size), by omega⟩)
    (fun x => { tmps := nrTmps A fs.length cap p w.heap.size q x, defers := [] }) ?assign ?body ?done ?stop
  case assign =>
    intro l x W K hK
    gi_wp2
    exact hK
  case body =>
    rintro l pre x W ⟨h1, h2, h3, h4, h5, h6⟩ hgo hsz
    have hxm : x ∈ Tr.fols p := hgo.subset (by simp)
    have hxl := Tr.fols_mem_len _ p (Nat.le_refl _) x hxm
    have hpl2 := Tr.path_len hp
    have hil := Tr.ins_len x Tr.dot
    have hdl : Tr.dot.length = 5 := rfl
    have LK := Lib.hid (look_run (W := W.drew) (x := Tr.ins x Tr.dot) (ownsMap_kept h3 rfl) CN.out (by omega))
    have IN := Lib.hid (fun W => inside_any x Tr.dot W (by omega) (by decide))
    have HIT := Lib.hid (fun h => Tr.nrI_hit (ms := Tr.nms fs) hp hgo h4 h)
    have H4 := Lib.hid h4
    have c0 := h1.cell
    have c1 := h2.cell
    have f1 := h2.frozen
    unfold nrTmps
    clear hgo hxm h4 hil hdl
    cases hk : Tr.known (Tr.nms fs) (Tr.ins x Tr.dot)
    · have H42 := Lib.hid (show ∀ f ∈ pre ++ [x], Tr.known (Tr.nms fs) (Tr.ins f Tr.dot) = false from fun f hf => by
        rcases List.mem_append.1 hf with hf | hf
        · exact H4.out f hf
        · rw [List.mem_singleton.1 hf]; exact hk)
      have lk := LK.out
      rw [hk] at lk
      clear hk LK
      generalize bs (Tr.ins x Tr.dot) = J at *
      gi_wp2
      gi_region_with_o (first | (refine ⟨trivial, ?_⟩; gi_at_call 81; refine (CallsIn.inRound l (callsIn_wide.2 (IN.out _))).mono ?_; rintro e w4 ⟨rfl, rfl⟩))
      all_goals
        gi_wp2
        exact ⟨(KeepsOthers.drew W).from _, rfl, h1, h2, ownsMap_kept h3 rfl, H42.out, h5.trans (below_drewN (Below.refl _ _) 1), h6⟩
    · have hidx := HIT.out hk
      have lk := LK.out
      rw [hk, if_pos rfl, ← hidx] at lk
      clear hk hidx LK HIT
      generalize bs (Tr.ins x Tr.dot) = J at *
      generalize Tr.nrI (Tr.nms fs) p = r at *
      gi_wp2
      gi_region_with_o (first | (refine ⟨trivial, ?_⟩; gi_at_call 81; refine (CallsIn.inRound l (callsIn_wide.2 (IN.out _))).mono ?_; rintro e w4 ⟨rfl, rfl⟩))
      all_goals
        gi_wp2
        exact ⟨((KeepsOthers.drew W).trans (KeepsOthers.setCell _ _ _)).from _, rfl, Bx.set (w := W.drew) h2 _, (h5.trans (below_drewN (Below.refl _ _) 1)).setCell (p := ⟨_, 0, none⟩) (by simp; omega) _⟩
  case done =>
    rintro D0 xs W hD hS ⟨h1, h2, h3, h4, h5, h6⟩ hK
    obtain rfl : D0 = q + 3 := by rw [hD, hsB]
    have HN := Lib.hid (Tr.nrI_miss (ms := Tr.nms fs) hp (by rw [← hS]; exact h4))
    have c1 := h2.cell
    clear hS h4
    gi_wp2
    go_wp2
    rw [Exit.noGoto_ret]
    refine ⟨by simp, .inl ⟨_, _, rfl, run_takeDeferred hK, ?_⟩⟩
    exact ⟨_, show (results Tryd.f54 _).run Tryd.prog _ = .ok (.int .i64 (-1)) _ by simp [results, Tryd.results54, go_sem], by rw [HN.out], below_put h5 _ (by omega)⟩
  case stop =>
    rintro D0 c pre W hD hS ⟨rfl, h2, h3⟩ hK
    obtain rfl : D0 = q + 3 := by rw [hD, hsB]
    obtain ⟨r, hr⟩ : ∃ r, r = Tr.nrI (Tr.nms fs) p := ⟨_, rfl⟩
    rw [← hr] at h2
    have HR := Lib.hid hr
    have c1 := h2.cell
    clear hS hr
    gi_wp2
    go_wp2
    rw [Exit.noGoto_ret]
    refine ⟨by simp, .inl ⟨_, _, rfl, run_takeDeferred hK, ?_⟩⟩
    exact ⟨_, show (results Tryd.f54 _).run Tryd.prog _ = .ok (.int .i64 r) _ by simp [results, Tryd.results54, go_sem], by rw [HR.out], below_put h3 _ (by omega)⟩

end Go.Proofs.YtliabgcpciekpaaDoor
