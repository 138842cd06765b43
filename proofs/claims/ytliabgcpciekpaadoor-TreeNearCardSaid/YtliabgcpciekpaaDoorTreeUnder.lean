/- The law TreeUnder, walked. -/
import Derived.Test.YtliabgcpciekpaaDoorTrN
import Derived.Test.YtliabgcpciekpaaDoorTrD
import Derived.Deep.RegionHeld3
set_option linter.unusedVariables false
set_option linter.unusedSimpArgs false
namespace Go.Proofs.YtliabgcpciekpaaDoor
open Go Go.RowKit Go.Maps

namespace Tr
theorem inF_nil : inF [] = fun _ => true := by funext x; unfold inF; simp
theorem unL_nil (ms : List T) : unL ms [] = und ms fun _ => true := by unfold unL; rw [inF_nil]; simp
theorem unE_nil : unE [] = 0 := by unfold unE; simp
theorem unL_ok {ms : List T} {f : T} (h : f = [] ∨ isPath f = true) : unL ms f = (und ms fun _ => true).filter (inF f) := by
  unfold unL
  rw [← und_filter]
  rcases h with h | h
  · simp [h]
  · simp [h]
theorem unE_ok {f : T} (h : f = [] ∨ isPath f = true) : unE f = 0 := by unfold unE; rcases h with h | h <;> simp [h]
theorem und_path {ms : List T} {q : T → Bool} {x : T} (h : x ∈ und ms q) : isPath x = true := (known_iff.1 (und_mem.1 h).1).2
theorem inF_short {f x : T} (hf : f ≠ []) (h : x.length ≤ f.length) : inF f x = false := by
  have : ¬ inF f x = true := fun e => by
    obtain ⟨r, e⟩ := (inF_iff hf).1 e
    rw [e] at h; simp at h; omega
  simpa using this
theorem inF_take {f x : T} (hf : f ≠ []) : inF f x = true ↔ x.take (f.length + 1) = f ++ [47] := by
  rw [inF_iff hf]
  constructor
  · rintro ⟨r, rfl⟩
    rw [show f ++ 47 :: r = (f ++ [47]) ++ r by simp, List.take_left' (by simp)]
  · intro h
    refine ⟨x.drop (f.length + 1), ?_⟩
    have := List.take_append_drop (f.length + 1) x
    rw [h] at this
    rw [← this]; simp
end Tr

theorem bs_extract (x : Tr.T) (n : Nat) : (bs x).extract 0 n = bs (x.take n) := by rw [Lib.extract_eq]; simp [bs]
/-- What is held in the drawn region: a text, the text ahead of it. -/
def USt (w0 : World) (g o j : Nat) (x y : Tr.T) (W : World) : Prop := W.cell? ⟨g, o + j, none⟩ = some (.string (bs y)) ∧ W.cell? ⟨g, o + (j + 1), none⟩ = some (.string (bs x)) ∧ g < W.heap.size ∧ Below w0.heap.size w0 W
theorem USt.later {w0 W W' : World} {g o j : Nat} {x y : Tr.T} (h : USt w0 g o j x y W) (hb : Below W.heap.size W W') : USt w0 g o j x y W' :=
  ⟨(hb.cell (p := ⟨g, o + j, none⟩) h.2.2.1).trans h.1, (hb.cell (p := ⟨g, o + (j + 1), none⟩) h.2.2.1).trans h.2.1, Nat.lt_of_lt_of_le h.2.2.1 hb.size, h.2.2.2.trans (hb.mono h.2.2.2.size)⟩
def USo (w0 : World) (g o : Nat) (x : Tr.T) (W : World) : Prop := W.cell? ⟨g, o, none⟩ = some (.string (bs x)) ∧ g < W.heap.size ∧ Below w0.heap.size w0 W
theorem USo.later {w0 W W' : World} {g o : Nat} {x : Tr.T} (h : USo w0 g o x W) (hb : Below W.heap.size W W') : USo w0 g o x W' :=
  ⟨(hb.cell (p := ⟨g, o, none⟩) h.2.1).trans h.1, Nat.lt_of_lt_of_le h.2.1 hb.size, h.2.2.trans (hb.mono h.2.2.size)⟩

set_option maxRecDepth 100000 in
set_option maxHeartbeats 8000000 in
theorem TreeUnder_any (A : Option Addr) (cap : Nat) (fs : List (Tr.T × Tr.T)) (fd : Tr.T) (w : World) (hrd : Rd w 2 A fs.length (fls fs)) (hn : fs.length ≤ 4398046511104) (hz : ∀ f ∈ fs, f.1.length ≤ 140737488355328) (hfl : fd.length ≤ 140737488355328) :
    Calls Tryd.prog 7 #[.slice A fs.length cap, .string (bs fd)] w fun e w' => e = .returned (.bool true) ∧ Below w.heap.size w w' := by
  have AL := Lib.hid (treeAlive_any w)
  have GR := Lib.hid (fun W (hb : Below w.heap.size w W) => great_any A cap fs W (by omega) (hrd.later hb))
  generalize decide (3000 < Tr.grI fs) = gr at *
  have hfs : (bs fd).size = fd.length := bs_size fd
  cases gr
  rotate_left
  · go_enter Tryd.func7, Tryd.ntmps7
    go_wp2_with (first
      | (go_at_call 22; (with_reducible refine AL.out.mono ?_); rintro e w1 ⟨rfl, b1⟩)
      | (go_at_call 23; refine (GR.out _ b1).mono ?_; rintro e w2 ⟨rfl, b2⟩))
    go_ret
    exact ⟨rfl, b1.trans (b2.mono b1.size)⟩
  by_cases hbig : 1000 < fd.length
  · go_enter Tryd.func7, Tryd.ntmps7
    go_wp2_with (first
      | (go_at_call 22; (with_reducible refine AL.out.mono ?_); rintro e w1 ⟨rfl, b1⟩)
      | (go_at_call 23; refine (GR.out _ b1).mono ?_; rintro e w2 ⟨rfl, b2⟩))
    go_ret
    exact ⟨rfl, b1.trans (b2.mono b1.size)⟩
  have UA := fun W (hb : Below w.heap.size w W) => Under_any A cap fs [] W (hrd.later hb) hn hz (by decide)
  have UF := fun W (hb : Below w.heap.size w W) => Under_any A cap fs fd W (hrd.later hb) hn hz hfl
  have PA := fun W => Path_any (bs fd) W (by rw [hfs]; exact hfl)
  simp only [bs_data] at PA
  have eb0 : bs [] = ⟨#[]⟩ := rfl
  simp only [Tr.unL_nil, Tr.unE_nil, eb0] at UA
  clear eb0
  have htl : (bs fd).toList = fd := bs_toList fd
  by_cases hok : fd = [] ∨ Tr.isPath fd = true
  rotate_left
  · have h0 : ¬ fd = [] := fun e => hok (.inl e)
    have hp : Tr.isPath fd = false := by
      rcases h : Tr.isPath fd with _ | _
      · rfl
      · exact absurd (.inr h) hok
    have b0 : (fd == []) = false := beq_eq_false_iff_ne.2 h0
    have c0 : fd.isEmpty = false := by rw [List.isEmpty_eq_false_iff]; exact h0
    have e1 : Tr.unL (Tr.nms fs) fd = [] := by unfold Tr.unL; simp [h0, hp]
    have e2 : Tr.unE fd = 220 := by unfold Tr.unE; simp [h0, hp]
    simp only [e1, e2] at UF
    simp only [hp] at PA
    have UA := Lib.hid UA
    have UF := Lib.hid UF
    have PA := Lib.hid PA
    clear e1 e2 hp hok hrd hz
    go_enter Tryd.func7, Tryd.ntmps7
    go_wp2_with (first
      | (go_at_call 22; (with_reducible refine AL.out.mono ?_); rintro e w1 ⟨rfl, b1⟩)
      | (go_at_call 23; refine (GR.out _ b1).mono ?_; rintro e w2 ⟨rfl, b2⟩; have B2 := Lib.hid (b1.trans (b2.mono b1.size)))
      | (go_at_call 27; (with_reducible refine (UA.out w2 B2.out).mono ?_); rintro e w3 ⟨v3, rfl, o3, b3⟩; have B3 := Lib.hid (B2.out.trans (b3.mono B2.out.size)))
      | (go_at_call 27; (with_reducible refine (UF.out w3 B3.out).mono ?_); rintro e w4 ⟨v4, rfl, o4, b4⟩; have B4 := Lib.hid (B3.out.trans (b4.mono B3.out.size)); obtain ⟨A4, c4, rfl, _, _⟩ := own_form o4)
      | (go_at_call 25; refine (PA.out _).mono ?_; rintro e w5 ⟨rfl, b5⟩; have B5 := Lib.hid (B4.out.trans (b5.mono B4.out.size))))
    go_ret
    exact ⟨rfl, B5.out⟩
  have e1 := Tr.unL_ok (ms := Tr.nms fs) hok
  have e2 := Tr.unE_ok hok
  simp only [e1, e2] at UF
  have HSRT := Lib.hid (fun (i : Nat) (x y : Tr.T) h1 h2 => Tr.und_at_lt (ms := Tr.nms fs) (q := fun _ => true) (i := i) (x := x) (y := y) h1 h2)
  have HPTH := Lib.hid (fun (x : Tr.T) h => Tr.und_path (ms := Tr.nms fs) (q := fun _ => true) (x := x) h)
  have hLl := Tr.und_length (Tr.nms fs) (fun _ => true)
  rw [Tr.nms_length] at hLl
  generalize (Tr.und (Tr.nms fs) fun _ => true) = L at *
  obtain ⟨ml, hml⟩ : ∃ ml, ml = (L.filter (Tr.inF fd)).length := ⟨_, rfl⟩
  simp only [← hml] at UF
  have HML := Lib.hid hml
  have hml2 : ml ≤ L.length := by rw [hml]; exact List.length_filter_le _ _
  clear hml
  have UA := Lib.hid UA
  have UF := Lib.hid UF
  have PF : ∀ W, Calls Tryd.prog 25 #[.string (bs fd)] W fun e w' => e = .returned (.bool (Tr.isPath fd)) ∧ Below W.heap.size W w' := PA
  clear PA
  clear e1 e2 hrd hz
  by_cases h0 : fd = []
  · have hfe := Lib.hid h0
    have t2 : (bs fd).toList.isEmpty = true := by rw [htl, h0]; rfl
    have t3 : (bs fd).toList = [] := by rw [htl, h0]
    clear htl h0
    go_enter Tryd.func7, Tryd.ntmps7
    go_wp2_with (first
      | (go_at_call 22; (with_reducible refine AL.out.mono ?_); rintro e w1 ⟨rfl, b1⟩)
      | (go_at_call 23; refine (GR.out _ b1).mono ?_; rintro e w2 ⟨rfl, b2⟩; have B2 := Lib.hid (b1.trans (b2.mono b1.size)))
      | (go_at_call 27; (with_reducible refine (UA.out w2 B2.out).mono ?_); rintro e w3 ⟨v3, rfl, o3, b3⟩; have B3 := Lib.hid (B2.out.trans (b3.mono B2.out.size)); obtain ⟨A3, c3, rfl, hc3, R3⟩ := own_form o3; have R3 := Lib.hid R3; clear o3)
      | (go_at_call 27; (with_reducible refine (UF.out w3 B3.out).mono ?_); rintro e w4 ⟨v4, rfl, o4, b4⟩; have B4 := Lib.hid (B3.out.trans (b4.mono B3.out.size)); obtain ⟨A4, c4, rfl, hc4, R4⟩ := own_form o4; have R4 := Lib.hid R4; have R34 := Lib.hid (R3.out.later b4); clear o4)
      )
    have R3w := R34
    have R4z := R4
    have BZ := B4
    go_loopw [10, 57] (fun kv iv wr => ∃ i, i ≤ L.length ∧ iv = .int .i64 ((i : Nat) : Int) ∧ kv = .int .i64 ((((L.take i).filter (Tr.inF fd)).length : Nat) : Int) ∧ Below w4.heap.size w4 wr) (fun _ iv _ => L.length - (intOf iv).toNat)
    case atStart => exact ⟨0, Nat.zero_le _, rfl, by simp, Below.refl _ _⟩
    case round =>
      obtain ⟨i, hi, rfl, rfl, hI⟩ := hrel
      have R4w := Lib.hid (R4z.out.later hI)
      by_cases hlt : i < L.length
      · have hx := List.getElem?_eq_getElem hlt
        have hxm := List.getElem_mem hlt
        have hR := R3w.out.later hI
        have hxp := HPTH.out _ hxm
        have hxl := Tr.path_len hxp
        obtain ⟨g, o, rfl, hg, hc0⟩ := hR.st hx
        have PX0 := fun W => Path_any (bs L[i]) W (by rw [bs_size]; omega)
        simp only [bs_data, hxp] at PX0
        have PX0 := Lib.hid PX0
        have HX := Lib.hid hx
        have hI := Lib.hid hI
        have HRA := Lib.hid hR
        rcases Nat.eq_zero_or_pos i with h00 | h00
        · subst h00
          rw [Nat.add_zero] at hc0
          generalize L[0] = x at *
          have hxs : (bs x).size = x.length := bs_size x
          have hxt : (bs x).toList = x := bs_toList x
          have hLI : (0 : Int) < (L.length : Int) := by omega
          clear hx hxm hxp hR
          have hS0 : USo wr g o x wr.drew := ⟨hc0, hg, below_drewN (Below.refl _ _) 1⟩
          have PX := Lib.hid (fun W (h : USo wr g o x W) => (PX0.out W).mono fun e w' (q : _ ∧ _) => (⟨q.1, h.later q.2⟩ : _ ∧ USo wr g o x w'))
          go_wp2
          refine wp_region_held_drew (S := USo wr g o x) (by kernel_rfl) hS0 (fun hHeld => ?_)
          refine wpAnyH_take (i := 0) (v := ?_) rfl (by kernel_rfl) (by kernel_rfl) (by kernel_rfl) (fun _ _ _ h => h) (Or.inl ⟨by rfl, ?_⟩) (by assumption) ?_
          rotate_left
          · intro w hSw
            (try unfold USo at hSw)
            go_simp
            all_goals (with_reducible rfl)
          try simp only [List.getElem_toArray, List.getElem_cons_succ, List.getElem_cons_zero, Act.put, List.setIfInBounds_toArray, List.set_cons_zero, List.set_cons_succ]
          refine wpAnyH_take (i := 1) (v := ?_) rfl (by kernel_rfl) (by kernel_rfl) (by kernel_rfl) (fun _ _ _ h => h) (Or.inl ⟨by rfl, ?_⟩) (by assumption) ?_
          rotate_left
          · intro w hSw
            (try unfold USo at hSw)
            go_simp
            all_goals (with_reducible rfl)
          try simp only [List.getElem_toArray, List.getElem_cons_succ, List.getElem_cons_zero, Act.put, List.setIfInBounds_toArray, List.set_cons_zero, List.set_cons_succ]
          refine wpAnyH_take (i := 2) (v := ?_) rfl (by kernel_rfl) (by kernel_rfl) (by kernel_rfl) (fun _ _ _ h => h) (Or.inl ⟨by rfl, ?_⟩) (by assumption) ?_
          rotate_left
          · intro w hSw
            (try unfold USo at hSw)
            go_simp
            all_goals (with_reducible rfl)
          try simp only [List.getElem_toArray, List.getElem_cons_succ, List.getElem_cons_zero, Act.put, List.setIfInBounds_toArray, List.set_cons_zero, List.set_cons_succ]
          refine wpAnyH_take (i := 3) (v := undef) rfl (by kernel_rfl) (by kernel_rfl) (by kernel_rfl) (fun _ _ _ h => h) (Or.inr ⟨by rfl, rfl⟩) (by assumption) ?_
          try simp only [List.getElem_toArray, List.getElem_cons_succ, List.getElem_cons_zero, Act.put, List.setIfInBounds_toArray, List.set_cons_zero, List.set_cons_succ]
          refine wpAnyH_take (i := 4) (v := undef) rfl (by kernel_rfl) (by kernel_rfl) (by kernel_rfl) (fun _ _ _ h => h) (Or.inr ⟨by rfl, rfl⟩) (by assumption) ?_
          try simp only [List.getElem_toArray, List.getElem_cons_succ, List.getElem_cons_zero, Act.put, List.setIfInBounds_toArray, List.set_cons_zero, List.set_cons_succ]
          refine wpAnyH_take (i := 5) (v := undef) rfl (by kernel_rfl) (by kernel_rfl) (by kernel_rfl) (fun _ _ _ h => h) (Or.inr ⟨by rfl, rfl⟩) (by assumption) ?_
          try simp only [List.getElem_toArray, List.getElem_cons_succ, List.getElem_cons_zero, Act.put, List.setIfInBounds_toArray, List.set_cons_zero, List.set_cons_succ]
          refine wpAnyH_take (i := 6) (v := undef) rfl (by kernel_rfl) (by kernel_rfl) (by kernel_rfl) (fun _ _ _ h => h) (Or.inr ⟨by rfl, rfl⟩) (by assumption) ?_
          try simp only [List.getElem_toArray, List.getElem_cons_succ, List.getElem_cons_zero, Act.put, List.setIfInBounds_toArray, List.set_cons_zero, List.set_cons_succ]
          refine wpAnyH_take (i := 7) (v := undef) rfl (by kernel_rfl) (by kernel_rfl) (by kernel_rfl) (fun _ _ _ h => h) (Or.inr ⟨by rfl, rfl⟩) (by assumption) ?_
          try simp only [List.getElem_toArray, List.getElem_cons_succ, List.getElem_cons_zero, Act.put, List.setIfInBounds_toArray, List.set_cons_zero, List.set_cons_succ]
          refine wpAnyH_take (i := 8) (v := undef) rfl (by kernel_rfl) (by kernel_rfl) (by kernel_rfl) (fun _ _ _ h => h) (Or.inr ⟨by rfl, rfl⟩) (by assumption) ?_
          try simp only [List.getElem_toArray, List.getElem_cons_succ, List.getElem_cons_zero, Act.put, List.setIfInBounds_toArray, List.set_cons_zero, List.set_cons_succ]
          refine wpAnyH_take (i := 9) (v := undef) rfl (by kernel_rfl) (by kernel_rfl) (by kernel_rfl) (fun _ _ _ h => h) (Or.inr ⟨by rfl, rfl⟩) (by assumption) ?_
          try simp only [List.getElem_toArray, List.getElem_cons_succ, List.getElem_cons_zero, Act.put, List.setIfInBounds_toArray, List.set_cons_zero, List.set_cons_succ]
          refine wpAnyH_take (i := 10) (v := undef) rfl (by kernel_rfl) (by kernel_rfl) (by kernel_rfl) (fun _ _ _ h => h) (Or.inr ⟨by rfl, rfl⟩) (by assumption) ?_
          try simp only [List.getElem_toArray, List.getElem_cons_succ, List.getElem_cons_zero, Act.put, List.setIfInBounds_toArray, List.set_cons_zero, List.set_cons_succ]
          refine wpAnyH_take (i := 11) (v := undef) rfl (by kernel_rfl) (by kernel_rfl) (by kernel_rfl) (fun _ _ _ h => h) (Or.inr ⟨by rfl, rfl⟩) (by assumption) ?_
          try simp only [List.getElem_toArray, List.getElem_cons_succ, List.getElem_cons_zero, Act.put, List.setIfInBounds_toArray, List.set_cons_zero, List.set_cons_succ]
          refine wpAnyH_take (i := 12) (v := undef) rfl (by kernel_rfl) (by kernel_rfl) (by kernel_rfl) (fun _ _ _ h => h) (Or.inr ⟨by rfl, rfl⟩) (by assumption) ?_
          try simp only [List.getElem_toArray, List.getElem_cons_succ, List.getElem_cons_zero, Act.put, List.setIfInBounds_toArray, List.set_cons_zero, List.set_cons_succ]
          refine wpAnyH_take (i := 13) (v := ?_) rfl (by kernel_rfl) (by kernel_rfl) (by kernel_rfl) (fun _ _ _ h => h) (Or.inl ⟨by rfl, ?_⟩) (by assumption) ?_
          rotate_left
          · intro w hSw
            (try unfold USo at hSw)
            go_simp
            all_goals (with_reducible rfl)
          try simp only [List.getElem_toArray, List.getElem_cons_succ, List.getElem_cons_zero, Act.put, List.setIfInBounds_toArray, List.set_cons_zero, List.set_cons_succ]
          refine wpAnyH_take (i := 14) (v := ?_) rfl (by kernel_rfl) (by kernel_rfl) (by kernel_rfl) (fun _ _ _ h => h) (Or.inl ⟨by rfl, ?_⟩) (by assumption) ?_
          rotate_left
          · intro w hSw
            (try unfold USo at hSw)
            go_simp
            all_goals (with_reducible rfl)
          try simp only [List.getElem_toArray, List.getElem_cons_succ, List.getElem_cons_zero, Act.put, List.setIfInBounds_toArray, List.set_cons_zero, List.set_cons_succ]
          refine wpAnyH_take (i := 15) (v := ?_) rfl (by kernel_rfl) (by kernel_rfl) (by kernel_rfl) (fun _ _ _ h => h) (Or.inl ⟨by rfl, ?_⟩) (by assumption) ?_
          rotate_left
          · intro w hSw
            (try unfold USo at hSw)
            go_simp
            all_goals (with_reducible rfl)
          try simp only [List.getElem_toArray, List.getElem_cons_succ, List.getElem_cons_zero, Act.put, List.setIfInBounds_toArray, List.set_cons_zero, List.set_cons_succ]
          refine wpAnyH_take (i := 16) (v := ?_) rfl (by kernel_rfl) (by kernel_rfl) (by kernel_rfl) (fun _ _ _ h => h) (Or.inl ⟨by rfl, ?_⟩) (by assumption) ?_
          rotate_left
          · intro w hSw
            (try unfold USo at hSw)
            go_simp
            all_goals (with_reducible rfl)
          try simp only [List.getElem_toArray, List.getElem_cons_succ, List.getElem_cons_zero, Act.put, List.setIfInBounds_toArray, List.set_cons_zero, List.set_cons_succ]
          refine wpAnyH_take (i := 17) (v := ?_) rfl (by kernel_rfl) (by kernel_rfl) (by kernel_rfl) (fun _ _ _ h => h) (Or.inl ⟨by rfl, ?_⟩) (by assumption) ?_
          rotate_left
          · intro w hSw
            (try unfold USo at hSw)
            go_simp
            all_goals (with_reducible rfl)
          try simp only [List.getElem_toArray, List.getElem_cons_succ, List.getElem_cons_zero, Act.put, List.setIfInBounds_toArray, List.set_cons_zero, List.set_cons_succ]
          refine wpAnyH_take (i := 18) (v := ?_) rfl (by kernel_rfl) (by kernel_rfl) (by kernel_rfl) (fun _ _ _ h => h) (Or.inl ⟨by rfl, ?_⟩) (by assumption) ?_
          rotate_left
          · intro w hSw
            (try unfold USo at hSw)
            go_simp
            all_goals (with_reducible rfl)
          try simp only [List.getElem_toArray, List.getElem_cons_succ, List.getElem_cons_zero, Act.put, List.setIfInBounds_toArray, List.set_cons_zero, List.set_cons_succ]
          refine wpAnyH_ready (rs := [19]) (by kernel_rfl) (by simp) ?_
          refine AllReadyH.cons rfl (fun K hK => ?_) AllReadyH.nil
          go_simp
          go_at_call 25
          refine (PX.out _ hHeld).mono ?_
          rintro e wc ⟨rfl, hx⟩
          go_wp2_with fail
          refine hK.out _ _ hx (fun hHeldc => ?_)
          clear hK K hHeld
          try simp only [List.getElem_toArray, List.getElem_cons_succ, List.getElem_cons_zero, Act.put, List.setIfInBounds_toArray, List.set_cons_zero, List.set_cons_succ]
          refine wpAnyH_take (i := 20) (v := ?_) rfl (by kernel_rfl) (by kernel_rfl) (by kernel_rfl) (fun _ _ _ h => h) (Or.inl ⟨by rfl, ?_⟩) (by assumption) ?_
          rotate_left
          · intro w hSw
            (try unfold USo at hSw)
            go_simp
            all_goals (with_reducible rfl)
          try simp only [List.getElem_toArray, List.getElem_cons_succ, List.getElem_cons_zero, Act.put, List.setIfInBounds_toArray, List.set_cons_zero, List.set_cons_succ]
          refine wpAnyH_take (i := 21) (v := ?_) rfl (by kernel_rfl) (by kernel_rfl) (by kernel_rfl) (fun _ _ _ h => h) (Or.inl ⟨by rfl, ?_⟩) (by assumption) ?_
          rotate_left
          · intro w hSw
            (try unfold USo at hSw)
            go_simp
            all_goals (with_reducible rfl)
          try simp only [List.getElem_toArray, List.getElem_cons_succ, List.getElem_cons_zero, Act.put, List.setIfInBounds_toArray, List.set_cons_zero, List.set_cons_succ]
          refine wpAnyH_done (by kernel_rfl) ?_ _
          have BW := Lib.hid (hI.out.trans ((hHeldc.2.2).mono hI.out.size))
          have d0 := hHeldc.1
          have R4c := Lib.hid (R4w.out.later hHeldc.2.2)
          clear hHeldc hS0 PX
          have hq : Tr.inF fd x = true := by rw [hfe.out]; rw [Tr.inF_nil]
          have HT := Lib.hid (show ((L.take (0 + 1)).filter (Tr.inF fd)).length = ((L.take 0).filter (Tr.inF fd)).length + 1 by rw [Tr.filter_step HX.out, hq]; simp)
          have hat := Tr.filter_at HX.out hq
          have hkl := (List.getElem?_eq_some_iff.1 hat).1
          rw [← HML.out] at hkl
          obtain ⟨g2, o2, rfl, hg2, hc2⟩ := R4c.out.st hat
          have ek : ((L.take 0).filter (Tr.inF fd)).length = 0 := by simp
          rw [ek] at hkl hc2 HT
          rw [Nat.add_zero] at hc2
          have hkI : ¬ (ml : Int) ≤ 0 := by omega
          have hkD : decide ((ml : Int) ≤ 0) = false := decide_eq_false hkI
          have hkN : decide (ml = 0) = false := decide_eq_false (by omega)
          have hkM : ¬ ml = 0 := by omega
          have hkP : 0 < ml := hkl
          clear hq hat
          go_wp2
          go_quiet (fail)
          go_wp2
          refine ⟨⟨0 + 1, by omega, by go_num, by rw [HT.out]; go_num, BW.out.trans (below_drewN (Below.refl _ _) _)⟩, by simp [intOf]; omega⟩
        · obtain ⟨j, rfl⟩ : ∃ j, i = j + 1 := ⟨i - 1, by omega⟩
          have hjl : j < L.length := by omega
          have hy := List.getElem?_eq_getElem hjl
          have hlex := HSRT.out j _ _ hy hx
          have hcj : wr.cell? ⟨g, o + j, none⟩ = some (.string (bs L[j])) := by
            obtain ⟨g', o', e', _, hcj⟩ := hR.st hy
            injection e' with e'
            injection e' with e1 e2
            subst e1 e2
            exact hcj
          generalize L[j + 1] = x at *
          generalize L[j] = y at *
          have hxs : (bs x).size = x.length := bs_size x
          have hxt : (bs x).toList = x := bs_toList x
          have hyt : (bs y).toList = y := bs_toList y
          have hb1 : Op.bytesLess x y = false := by rw [Tr.bytesLess_eq]; exact decide_eq_false fun e => Tr.lt_irr _ (Tr.lt_tr e hlex)
          have hb2 : ¬ x = y := fun e => by rw [e] at hlex; exact Tr.lt_irr _ hlex
          have hb3 : (x == y) = false := beq_eq_false_iff_ne.2 hb2
          have hLI : (j : Int) + 1 < (L.length : Int) := by omega
          have hjI : (j : Int) < (L.length : Int) := by omega
          have hj0 : (0 : Int) < (j : Int) + 1 := by omega
          have hj1 : (0 : Int) ≤ (j : Int) + 1 := by omega
          have hjw : IntKind.i64.wrap (j : Int) = (j : Int) := IntWalk.i64_in _ (by omega)
          obtain ⟨kk, hkk⟩ : ∃ kk, kk = ((L.take (j + 1)).filter (Tr.inF fd)).length := ⟨_, rfl⟩
          have HKL := Lib.hid (show ((((L.take (j + 1)).filter (Tr.inF fd)).length : Nat) : Int) = (kk : Int) by rw [hkk])
          rw [← hkk]
          have HKK := Lib.hid hkk
          clear hkk hx hxm hxp hR hy hlex hb2
          have hS0 : USt wr g o j x y wr.drew := ⟨hcj, hc0, hg, below_drewN (Below.refl _ _) 1⟩
          have PX := Lib.hid (fun W (h : USt wr g o j x y W) => (PX0.out W).mono fun e w' (q : _ ∧ _) => (⟨q.1, h.later q.2⟩ : _ ∧ USt wr g o j x y w'))
          go_wp2
          refine wp_region_held_drew (S := USt wr g o j x y) (by kernel_rfl) hS0 (fun hHeld => ?_)
          refine wpAnyH_take (i := 0) (v := ?_) rfl (by kernel_rfl) (by kernel_rfl) (by kernel_rfl) (fun _ _ _ h => h) (Or.inl ⟨by rfl, ?_⟩) (by assumption) ?_
          rotate_left
          · intro w hSw
            (try unfold USt at hSw)
            go_simp
            all_goals (with_reducible rfl)
          try simp only [List.getElem_toArray, List.getElem_cons_succ, List.getElem_cons_zero, Act.put, List.setIfInBounds_toArray, List.set_cons_zero, List.set_cons_succ]
          refine wpAnyH_take (i := 1) (v := ?_) rfl (by kernel_rfl) (by kernel_rfl) (by kernel_rfl) (fun _ _ _ h => h) (Or.inl ⟨by rfl, ?_⟩) (by assumption) ?_
          rotate_left
          · intro w hSw
            (try unfold USt at hSw)
            go_simp
            all_goals (with_reducible rfl)
          try simp only [List.getElem_toArray, List.getElem_cons_succ, List.getElem_cons_zero, Act.put, List.setIfInBounds_toArray, List.set_cons_zero, List.set_cons_succ]
          refine wpAnyH_take (i := 2) (v := ?_) rfl (by kernel_rfl) (by kernel_rfl) (by kernel_rfl) (fun _ _ _ h => h) (Or.inl ⟨by rfl, ?_⟩) (by assumption) ?_
          rotate_left
          · intro w hSw
            (try unfold USt at hSw)
            go_simp
            all_goals (with_reducible rfl)
          try simp only [List.getElem_toArray, List.getElem_cons_succ, List.getElem_cons_zero, Act.put, List.setIfInBounds_toArray, List.set_cons_zero, List.set_cons_succ]
          refine wpAnyH_take (i := 3) (v := ?_) rfl (by kernel_rfl) (by kernel_rfl) (by kernel_rfl) (fun _ _ _ h => h) (Or.inl ⟨by rfl, ?_⟩) (by assumption) ?_
          rotate_left
          · intro w hSw
            (try unfold USt at hSw)
            go_simp
            all_goals (with_reducible rfl)
          try simp only [List.getElem_toArray, List.getElem_cons_succ, List.getElem_cons_zero, Act.put, List.setIfInBounds_toArray, List.set_cons_zero, List.set_cons_succ]
          refine wpAnyH_take (i := 4) (v := ?_) rfl (by kernel_rfl) (by kernel_rfl) (by kernel_rfl) (fun _ _ _ h => h) (Or.inl ⟨by rfl, ?_⟩) (by assumption) ?_
          rotate_left
          · intro w hSw
            (try unfold USt at hSw)
            go_simp
            all_goals (with_reducible rfl)
          try simp only [List.getElem_toArray, List.getElem_cons_succ, List.getElem_cons_zero, Act.put, List.setIfInBounds_toArray, List.set_cons_zero, List.set_cons_succ]
          refine wpAnyH_take (i := 5) (v := ?_) rfl (by kernel_rfl) (by kernel_rfl) (by kernel_rfl) (fun _ _ _ h => h) (Or.inl ⟨by rfl, ?_⟩) (by assumption) ?_
          rotate_left
          · intro w hSw
            (try unfold USt at hSw)
            go_simp
            all_goals (with_reducible rfl)
          try simp only [List.getElem_toArray, List.getElem_cons_succ, List.getElem_cons_zero, Act.put, List.setIfInBounds_toArray, List.set_cons_zero, List.set_cons_succ]
          refine wpAnyH_take (i := 6) (v := ?_) rfl (by kernel_rfl) (by kernel_rfl) (by kernel_rfl) (fun _ _ _ h => h) (Or.inl ⟨by rfl, ?_⟩) (by assumption) ?_
          rotate_left
          · intro w hSw
            (try unfold USt at hSw)
            go_simp
            all_goals (with_reducible rfl)
          try simp only [List.getElem_toArray, List.getElem_cons_succ, List.getElem_cons_zero, Act.put, List.setIfInBounds_toArray, List.set_cons_zero, List.set_cons_succ]
          refine wpAnyH_take (i := 7) (v := ?_) rfl (by kernel_rfl) (by kernel_rfl) (by kernel_rfl) (fun _ _ _ h => h) (Or.inl ⟨by rfl, ?_⟩) (by assumption) ?_
          rotate_left
          · intro w hSw
            (try unfold USt at hSw)
            go_simp
            all_goals (with_reducible rfl)
          try simp only [List.getElem_toArray, List.getElem_cons_succ, List.getElem_cons_zero, Act.put, List.setIfInBounds_toArray, List.set_cons_zero, List.set_cons_succ]
          refine wpAnyH_take (i := 8) (v := ?_) rfl (by kernel_rfl) (by kernel_rfl) (by kernel_rfl) (fun _ _ _ h => h) (Or.inl ⟨by rfl, ?_⟩) (by assumption) ?_
          rotate_left
          · intro w hSw
            (try unfold USt at hSw)
            go_simp
            all_goals (with_reducible rfl)
          try simp only [List.getElem_toArray, List.getElem_cons_succ, List.getElem_cons_zero, Act.put, List.setIfInBounds_toArray, List.set_cons_zero, List.set_cons_succ]
          refine wpAnyH_take (i := 9) (v := ?_) rfl (by kernel_rfl) (by kernel_rfl) (by kernel_rfl) (fun _ _ _ h => h) (Or.inl ⟨by rfl, ?_⟩) (by assumption) ?_
          rotate_left
          · intro w hSw
            (try unfold USt at hSw)
            go_simp
            all_goals (with_reducible rfl)
          try simp only [List.getElem_toArray, List.getElem_cons_succ, List.getElem_cons_zero, Act.put, List.setIfInBounds_toArray, List.set_cons_zero, List.set_cons_succ]
          refine wpAnyH_take (i := 10) (v := ?_) rfl (by kernel_rfl) (by kernel_rfl) (by kernel_rfl) (fun _ _ _ h => h) (Or.inl ⟨by rfl, ?_⟩) (by assumption) ?_
          rotate_left
          · intro w hSw
            (try unfold USt at hSw)
            go_simp
            all_goals (with_reducible rfl)
          try simp only [List.getElem_toArray, List.getElem_cons_succ, List.getElem_cons_zero, Act.put, List.setIfInBounds_toArray, List.set_cons_zero, List.set_cons_succ]
          refine wpAnyH_take (i := 11) (v := ?_) rfl (by kernel_rfl) (by kernel_rfl) (by kernel_rfl) (fun _ _ _ h => h) (Or.inl ⟨by rfl, ?_⟩) (by assumption) ?_
          rotate_left
          · intro w hSw
            (try unfold USt at hSw)
            go_simp
            all_goals (with_reducible rfl)
          try simp only [List.getElem_toArray, List.getElem_cons_succ, List.getElem_cons_zero, Act.put, List.setIfInBounds_toArray, List.set_cons_zero, List.set_cons_succ]
          refine wpAnyH_take (i := 12) (v := ?_) rfl (by kernel_rfl) (by kernel_rfl) (by kernel_rfl) (fun _ _ _ h => h) (Or.inl ⟨by rfl, ?_⟩) (by assumption) ?_
          rotate_left
          · intro w hSw
            (try unfold USt at hSw)
            go_simp
            all_goals (with_reducible rfl)
          try simp only [List.getElem_toArray, List.getElem_cons_succ, List.getElem_cons_zero, Act.put, List.setIfInBounds_toArray, List.set_cons_zero, List.set_cons_succ]
          refine wpAnyH_take (i := 13) (v := ?_) rfl (by kernel_rfl) (by kernel_rfl) (by kernel_rfl) (fun _ _ _ h => h) (Or.inl ⟨by rfl, ?_⟩) (by assumption) ?_
          rotate_left
          · intro w hSw
            (try unfold USt at hSw)
            go_simp
            all_goals (with_reducible rfl)
          try simp only [List.getElem_toArray, List.getElem_cons_succ, List.getElem_cons_zero, Act.put, List.setIfInBounds_toArray, List.set_cons_zero, List.set_cons_succ]
          refine wpAnyH_take (i := 14) (v := ?_) rfl (by kernel_rfl) (by kernel_rfl) (by kernel_rfl) (fun _ _ _ h => h) (Or.inl ⟨by rfl, ?_⟩) (by assumption) ?_
          rotate_left
          · intro w hSw
            (try unfold USt at hSw)
            go_simp
            all_goals (with_reducible rfl)
          try simp only [List.getElem_toArray, List.getElem_cons_succ, List.getElem_cons_zero, Act.put, List.setIfInBounds_toArray, List.set_cons_zero, List.set_cons_succ]
          refine wpAnyH_take (i := 15) (v := ?_) rfl (by kernel_rfl) (by kernel_rfl) (by kernel_rfl) (fun _ _ _ h => h) (Or.inl ⟨by rfl, ?_⟩) (by assumption) ?_
          rotate_left
          · intro w hSw
            (try unfold USt at hSw)
            go_simp
            all_goals (with_reducible rfl)
          try simp only [List.getElem_toArray, List.getElem_cons_succ, List.getElem_cons_zero, Act.put, List.setIfInBounds_toArray, List.set_cons_zero, List.set_cons_succ]
          refine wpAnyH_take (i := 16) (v := ?_) rfl (by kernel_rfl) (by kernel_rfl) (by kernel_rfl) (fun _ _ _ h => h) (Or.inl ⟨by rfl, ?_⟩) (by assumption) ?_
          rotate_left
          · intro w hSw
            (try unfold USt at hSw)
            go_simp
            all_goals (with_reducible rfl)
          try simp only [List.getElem_toArray, List.getElem_cons_succ, List.getElem_cons_zero, Act.put, List.setIfInBounds_toArray, List.set_cons_zero, List.set_cons_succ]
          refine wpAnyH_take (i := 17) (v := ?_) rfl (by kernel_rfl) (by kernel_rfl) (by kernel_rfl) (fun _ _ _ h => h) (Or.inl ⟨by rfl, ?_⟩) (by assumption) ?_
          rotate_left
          · intro w hSw
            (try unfold USt at hSw)
            go_simp
            all_goals (with_reducible rfl)
          try simp only [List.getElem_toArray, List.getElem_cons_succ, List.getElem_cons_zero, Act.put, List.setIfInBounds_toArray, List.set_cons_zero, List.set_cons_succ]
          refine wpAnyH_take (i := 18) (v := ?_) rfl (by kernel_rfl) (by kernel_rfl) (by kernel_rfl) (fun _ _ _ h => h) (Or.inl ⟨by rfl, ?_⟩) (by assumption) ?_
          rotate_left
          · intro w hSw
            (try unfold USt at hSw)
            go_simp
            all_goals (with_reducible rfl)
          try simp only [List.getElem_toArray, List.getElem_cons_succ, List.getElem_cons_zero, Act.put, List.setIfInBounds_toArray, List.set_cons_zero, List.set_cons_succ]
          refine wpAnyH_ready (rs := [19]) (by kernel_rfl) (by simp) ?_
          refine AllReadyH.cons rfl (fun K hK => ?_) AllReadyH.nil
          go_simp
          go_at_call 25
          refine (PX.out _ hHeld).mono ?_
          rintro e wc ⟨rfl, hx⟩
          go_wp2_with fail
          refine hK.out _ _ hx (fun hHeldc => ?_)
          clear hK K hHeld
          try simp only [List.getElem_toArray, List.getElem_cons_succ, List.getElem_cons_zero, Act.put, List.setIfInBounds_toArray, List.set_cons_zero, List.set_cons_succ]
          refine wpAnyH_take (i := 20) (v := ?_) rfl (by kernel_rfl) (by kernel_rfl) (by kernel_rfl) (fun _ _ _ h => h) (Or.inl ⟨by rfl, ?_⟩) (by assumption) ?_
          rotate_left
          · intro w hSw
            (try unfold USt at hSw)
            go_simp
            all_goals (with_reducible rfl)
          try simp only [List.getElem_toArray, List.getElem_cons_succ, List.getElem_cons_zero, Act.put, List.setIfInBounds_toArray, List.set_cons_zero, List.set_cons_succ]
          refine wpAnyH_take (i := 21) (v := ?_) rfl (by kernel_rfl) (by kernel_rfl) (by kernel_rfl) (fun _ _ _ h => h) (Or.inl ⟨by rfl, ?_⟩) (by assumption) ?_
          rotate_left
          · intro w hSw
            (try unfold USt at hSw)
            go_simp
            all_goals (with_reducible rfl)
          try simp only [List.getElem_toArray, List.getElem_cons_succ, List.getElem_cons_zero, Act.put, List.setIfInBounds_toArray, List.set_cons_zero, List.set_cons_succ]
          refine wpAnyH_done (by kernel_rfl) ?_ _
          have BW := Lib.hid (hI.out.trans ((hHeldc.2.2.2).mono hI.out.size))
          have d0 := hHeldc.2.1
          have R4c := Lib.hid (R4w.out.later hHeldc.2.2.2)
          clear hHeldc hS0 PX
          have hq : Tr.inF fd x = true := by rw [hfe.out]; rw [Tr.inF_nil]
          have HT := Lib.hid (show ((L.take ((j + 1) + 1)).filter (Tr.inF fd)).length = ((L.take (j + 1)).filter (Tr.inF fd)).length + 1 by rw [Tr.filter_step HX.out, hq]; simp)
          have hat := Tr.filter_at HX.out hq
          have hkl := (List.getElem?_eq_some_iff.1 hat).1
          rw [← HML.out] at hkl
          obtain ⟨g2, o2, rfl, hg2, hc2⟩ := R4c.out.st hat
          rw [← HKK.out] at hkl hc2 HT
          have hkI : ¬ (ml : Int) ≤ (kk : Int) := by omega
          have hkD : decide ((ml : Int) ≤ (kk : Int)) = false := decide_eq_false hkI
          have hkD2 : decide (ml ≤ kk) = false := decide_eq_false (by omega)
          have hkP : (kk : Int) < (ml : Int) := by omega
          clear hq hat
          go_wp2
          go_quiet (fail)
          go_wp2
          refine ⟨⟨(j + 1) + 1, by omega, by go_num, by rw [HT.out]; go_num, BW.out.trans (below_drewN (Below.refl _ _) _)⟩, by simp [intOf]; omega⟩
      · obtain rfl : i = L.length := by omega
        rw [List.take_length, ← HML.out]
        have hll : ¬ (L.length : Int) < (L.length : Int) := by omega
        go_wp2
        go_ret
        exact ⟨by simp, BZ.out.trans (hI.mono BZ.out.size)⟩
  · have hp : Tr.isPath fd = true := by
      rcases hok with h | h
      · exact absurd h h0
      · exact h
    simp only [hp] at PF
    have PF := Lib.hid PF
    have b0 : (fd == []) = false := beq_eq_false_iff_ne.2 h0
    have c0 : fd.isEmpty = false := by rw [List.isEmpty_eq_false_iff]; exact h0
    have d0' : ¬ (bs fd).toList = [] := by rw [htl]; exact h0
    clear hok hp
    go_enter Tryd.func7, Tryd.ntmps7
    go_wp2_with (first
      | (go_at_call 22; (with_reducible refine AL.out.mono ?_); rintro e w1 ⟨rfl, b1⟩)
      | (go_at_call 23; refine (GR.out _ b1).mono ?_; rintro e w2 ⟨rfl, b2⟩; have B2 := Lib.hid (b1.trans (b2.mono b1.size)))
      | (go_at_call 27; (with_reducible refine (UA.out w2 B2.out).mono ?_); rintro e w3 ⟨v3, rfl, o3, b3⟩; have B3 := Lib.hid (B2.out.trans (b3.mono B2.out.size)); obtain ⟨A3, c3, rfl, hc3, R3⟩ := own_form o3; have R3 := Lib.hid R3; clear o3)
      | (go_at_call 27; (with_reducible refine (UF.out w3 B3.out).mono ?_); rintro e w4 ⟨v4, rfl, o4, b4⟩; have B4 := Lib.hid (B3.out.trans (b4.mono B3.out.size)); obtain ⟨A4, c4, rfl, hc4, R4⟩ := own_form o4; have R4 := Lib.hid R4; have R34 := Lib.hid (R3.out.later b4); clear o4)
      | (go_at_call 25; refine (PF.out _).mono ?_; rintro e w5 ⟨rfl, b5⟩; have B5 := Lib.hid (B4.out.trans (b5.mono B4.out.size)))
      )
    have R3w := Lib.hid (R34.out.later b5)
    have R4z := Lib.hid (R4.out.later b5)
    have BZ := B5
    go_loopw [10, 57] (fun kv iv wr => ∃ i, i ≤ L.length ∧ iv = .int .i64 ((i : Nat) : Int) ∧ kv = .int .i64 ((((L.take i).filter (Tr.inF fd)).length : Nat) : Int) ∧ Below w5.heap.size w5 wr) (fun _ iv _ => L.length - (intOf iv).toNat)
    case atStart => exact ⟨0, Nat.zero_le _, rfl, by simp, Below.refl _ _⟩
    case round =>
      obtain ⟨i, hi, rfl, rfl, hI⟩ := hrel
      have R4w := Lib.hid (R4z.out.later hI)
      by_cases hlt : i < L.length
      · have hx := List.getElem?_eq_getElem hlt
        have hxm := List.getElem_mem hlt
        have hR := R3w.out.later hI
        have hxp := HPTH.out _ hxm
        have hxl := Tr.path_len hxp
        obtain ⟨g, o, rfl, hg, hc0⟩ := hR.st hx
        have PX0 := fun W => Path_any (bs L[i]) W (by rw [bs_size]; omega)
        simp only [bs_data, hxp] at PX0
        have PX0 := Lib.hid PX0
        have HX := Lib.hid hx
        have hI := Lib.hid hI
        have HRA := Lib.hid hR
        rcases Nat.eq_zero_or_pos i with h00 | h00
        · subst h00
          rw [Nat.add_zero] at hc0
          generalize L[0] = x at *
          have hxs : (bs x).size = x.length := bs_size x
          have hxt : (bs x).toList = x := bs_toList x
          have hLI : (0 : Int) < (L.length : Int) := by omega
          clear hx hxm hxp hR
          have hS0 : USo wr g o x wr.drew := ⟨hc0, hg, below_drewN (Below.refl _ _) 1⟩
          have PX := Lib.hid (fun W (h : USo wr g o x W) => (PX0.out W).mono fun e w' (q : _ ∧ _) => (⟨q.1, h.later q.2⟩ : _ ∧ USo wr g o x w'))
          go_wp2
          refine wp_region_held_drew (S := USo wr g o x) (by kernel_rfl) hS0 (fun hHeld => ?_)
          refine wpAnyH_take (i := 0) (v := ?_) rfl (by kernel_rfl) (by kernel_rfl) (by kernel_rfl) (fun _ _ _ h => h) (Or.inl ⟨by rfl, ?_⟩) (by assumption) ?_
          rotate_left
          · intro w hSw
            (try unfold USo at hSw)
            go_simp
            all_goals (with_reducible rfl)
          try simp only [List.getElem_toArray, List.getElem_cons_succ, List.getElem_cons_zero, Act.put, List.setIfInBounds_toArray, List.set_cons_zero, List.set_cons_succ]
          refine wpAnyH_take (i := 1) (v := ?_) rfl (by kernel_rfl) (by kernel_rfl) (by kernel_rfl) (fun _ _ _ h => h) (Or.inl ⟨by rfl, ?_⟩) (by assumption) ?_
          rotate_left
          · intro w hSw
            (try unfold USo at hSw)
            go_simp
            all_goals (with_reducible rfl)
          try simp only [List.getElem_toArray, List.getElem_cons_succ, List.getElem_cons_zero, Act.put, List.setIfInBounds_toArray, List.set_cons_zero, List.set_cons_succ]
          refine wpAnyH_take (i := 2) (v := ?_) rfl (by kernel_rfl) (by kernel_rfl) (by kernel_rfl) (fun _ _ _ h => h) (Or.inl ⟨by rfl, ?_⟩) (by assumption) ?_
          rotate_left
          · intro w hSw
            (try unfold USo at hSw)
            go_simp
            all_goals (with_reducible rfl)
          try simp only [List.getElem_toArray, List.getElem_cons_succ, List.getElem_cons_zero, Act.put, List.setIfInBounds_toArray, List.set_cons_zero, List.set_cons_succ]
          refine wpAnyH_take (i := 3) (v := undef) rfl (by kernel_rfl) (by kernel_rfl) (by kernel_rfl) (fun _ _ _ h => h) (Or.inr ⟨by rfl, rfl⟩) (by assumption) ?_
          try simp only [List.getElem_toArray, List.getElem_cons_succ, List.getElem_cons_zero, Act.put, List.setIfInBounds_toArray, List.set_cons_zero, List.set_cons_succ]
          refine wpAnyH_take (i := 4) (v := undef) rfl (by kernel_rfl) (by kernel_rfl) (by kernel_rfl) (fun _ _ _ h => h) (Or.inr ⟨by rfl, rfl⟩) (by assumption) ?_
          try simp only [List.getElem_toArray, List.getElem_cons_succ, List.getElem_cons_zero, Act.put, List.setIfInBounds_toArray, List.set_cons_zero, List.set_cons_succ]
          refine wpAnyH_take (i := 5) (v := undef) rfl (by kernel_rfl) (by kernel_rfl) (by kernel_rfl) (fun _ _ _ h => h) (Or.inr ⟨by rfl, rfl⟩) (by assumption) ?_
          try simp only [List.getElem_toArray, List.getElem_cons_succ, List.getElem_cons_zero, Act.put, List.setIfInBounds_toArray, List.set_cons_zero, List.set_cons_succ]
          refine wpAnyH_take (i := 6) (v := undef) rfl (by kernel_rfl) (by kernel_rfl) (by kernel_rfl) (fun _ _ _ h => h) (Or.inr ⟨by rfl, rfl⟩) (by assumption) ?_
          try simp only [List.getElem_toArray, List.getElem_cons_succ, List.getElem_cons_zero, Act.put, List.setIfInBounds_toArray, List.set_cons_zero, List.set_cons_succ]
          refine wpAnyH_take (i := 7) (v := undef) rfl (by kernel_rfl) (by kernel_rfl) (by kernel_rfl) (fun _ _ _ h => h) (Or.inr ⟨by rfl, rfl⟩) (by assumption) ?_
          try simp only [List.getElem_toArray, List.getElem_cons_succ, List.getElem_cons_zero, Act.put, List.setIfInBounds_toArray, List.set_cons_zero, List.set_cons_succ]
          refine wpAnyH_take (i := 8) (v := undef) rfl (by kernel_rfl) (by kernel_rfl) (by kernel_rfl) (fun _ _ _ h => h) (Or.inr ⟨by rfl, rfl⟩) (by assumption) ?_
          try simp only [List.getElem_toArray, List.getElem_cons_succ, List.getElem_cons_zero, Act.put, List.setIfInBounds_toArray, List.set_cons_zero, List.set_cons_succ]
          refine wpAnyH_take (i := 9) (v := undef) rfl (by kernel_rfl) (by kernel_rfl) (by kernel_rfl) (fun _ _ _ h => h) (Or.inr ⟨by rfl, rfl⟩) (by assumption) ?_
          try simp only [List.getElem_toArray, List.getElem_cons_succ, List.getElem_cons_zero, Act.put, List.setIfInBounds_toArray, List.set_cons_zero, List.set_cons_succ]
          refine wpAnyH_take (i := 10) (v := undef) rfl (by kernel_rfl) (by kernel_rfl) (by kernel_rfl) (fun _ _ _ h => h) (Or.inr ⟨by rfl, rfl⟩) (by assumption) ?_
          try simp only [List.getElem_toArray, List.getElem_cons_succ, List.getElem_cons_zero, Act.put, List.setIfInBounds_toArray, List.set_cons_zero, List.set_cons_succ]
          refine wpAnyH_take (i := 11) (v := undef) rfl (by kernel_rfl) (by kernel_rfl) (by kernel_rfl) (fun _ _ _ h => h) (Or.inr ⟨by rfl, rfl⟩) (by assumption) ?_
          try simp only [List.getElem_toArray, List.getElem_cons_succ, List.getElem_cons_zero, Act.put, List.setIfInBounds_toArray, List.set_cons_zero, List.set_cons_succ]
          refine wpAnyH_take (i := 12) (v := undef) rfl (by kernel_rfl) (by kernel_rfl) (by kernel_rfl) (fun _ _ _ h => h) (Or.inr ⟨by rfl, rfl⟩) (by assumption) ?_
          try simp only [List.getElem_toArray, List.getElem_cons_succ, List.getElem_cons_zero, Act.put, List.setIfInBounds_toArray, List.set_cons_zero, List.set_cons_succ]
          refine wpAnyH_take (i := 13) (v := ?_) rfl (by kernel_rfl) (by kernel_rfl) (by kernel_rfl) (fun _ _ _ h => h) (Or.inl ⟨by rfl, ?_⟩) (by assumption) ?_
          rotate_left
          · intro w hSw
            (try unfold USo at hSw)
            go_simp
            all_goals (with_reducible rfl)
          try simp only [List.getElem_toArray, List.getElem_cons_succ, List.getElem_cons_zero, Act.put, List.setIfInBounds_toArray, List.set_cons_zero, List.set_cons_succ]
          refine wpAnyH_take (i := 14) (v := ?_) rfl (by kernel_rfl) (by kernel_rfl) (by kernel_rfl) (fun _ _ _ h => h) (Or.inl ⟨by rfl, ?_⟩) (by assumption) ?_
          rotate_left
          · intro w hSw
            (try unfold USo at hSw)
            go_simp
            all_goals (with_reducible rfl)
          try simp only [List.getElem_toArray, List.getElem_cons_succ, List.getElem_cons_zero, Act.put, List.setIfInBounds_toArray, List.set_cons_zero, List.set_cons_succ]
          refine wpAnyH_take (i := 15) (v := ?_) rfl (by kernel_rfl) (by kernel_rfl) (by kernel_rfl) (fun _ _ _ h => h) (Or.inl ⟨by rfl, ?_⟩) (by assumption) ?_
          rotate_left
          · intro w hSw
            (try unfold USo at hSw)
            go_simp
            all_goals (with_reducible rfl)
          try simp only [List.getElem_toArray, List.getElem_cons_succ, List.getElem_cons_zero, Act.put, List.setIfInBounds_toArray, List.set_cons_zero, List.set_cons_succ]
          refine wpAnyH_take (i := 16) (v := ?_) rfl (by kernel_rfl) (by kernel_rfl) (by kernel_rfl) (fun _ _ _ h => h) (Or.inl ⟨by rfl, ?_⟩) (by assumption) ?_
          rotate_left
          · intro w hSw
            (try unfold USo at hSw)
            go_simp
            all_goals (with_reducible rfl)
          try simp only [List.getElem_toArray, List.getElem_cons_succ, List.getElem_cons_zero, Act.put, List.setIfInBounds_toArray, List.set_cons_zero, List.set_cons_succ]
          refine wpAnyH_take (i := 17) (v := ?_) rfl (by kernel_rfl) (by kernel_rfl) (by kernel_rfl) (fun _ _ _ h => h) (Or.inl ⟨by rfl, ?_⟩) (by assumption) ?_
          rotate_left
          · intro w hSw
            (try unfold USo at hSw)
            go_simp
            all_goals (with_reducible rfl)
          try simp only [List.getElem_toArray, List.getElem_cons_succ, List.getElem_cons_zero, Act.put, List.setIfInBounds_toArray, List.set_cons_zero, List.set_cons_succ]
          refine wpAnyH_take (i := 18) (v := ?_) rfl (by kernel_rfl) (by kernel_rfl) (by kernel_rfl) (fun _ _ _ h => h) (Or.inl ⟨by rfl, ?_⟩) (by assumption) ?_
          rotate_left
          · intro w hSw
            (try unfold USo at hSw)
            go_simp
            all_goals (with_reducible rfl)
          try simp only [List.getElem_toArray, List.getElem_cons_succ, List.getElem_cons_zero, Act.put, List.setIfInBounds_toArray, List.set_cons_zero, List.set_cons_succ]
          refine wpAnyH_ready (rs := [19]) (by kernel_rfl) (by simp) ?_
          refine AllReadyH.cons rfl (fun K hK => ?_) AllReadyH.nil
          go_simp
          go_at_call 25
          refine (PX.out _ hHeld).mono ?_
          rintro e wc ⟨rfl, hx⟩
          go_wp2_with fail
          refine hK.out _ _ hx (fun hHeldc => ?_)
          clear hK K hHeld
          try simp only [List.getElem_toArray, List.getElem_cons_succ, List.getElem_cons_zero, Act.put, List.setIfInBounds_toArray, List.set_cons_zero, List.set_cons_succ]
          refine wpAnyH_take (i := 20) (v := ?_) rfl (by kernel_rfl) (by kernel_rfl) (by kernel_rfl) (fun _ _ _ h => h) (Or.inl ⟨by rfl, ?_⟩) (by assumption) ?_
          rotate_left
          · intro w hSw
            (try unfold USo at hSw)
            go_simp
            all_goals (with_reducible rfl)
          try simp only [List.getElem_toArray, List.getElem_cons_succ, List.getElem_cons_zero, Act.put, List.setIfInBounds_toArray, List.set_cons_zero, List.set_cons_succ]
          refine wpAnyH_take (i := 21) (v := ?_) rfl (by kernel_rfl) (by kernel_rfl) (by kernel_rfl) (fun _ _ _ h => h) (Or.inl ⟨by rfl, ?_⟩) (by assumption) ?_
          rotate_left
          · intro w hSw
            (try unfold USo at hSw)
            go_simp
            all_goals (with_reducible rfl)
          try simp only [List.getElem_toArray, List.getElem_cons_succ, List.getElem_cons_zero, Act.put, List.setIfInBounds_toArray, List.set_cons_zero, List.set_cons_succ]
          refine wpAnyH_done (by kernel_rfl) ?_ _
          have BW := Lib.hid (hI.out.trans ((hHeldc.2.2).mono hI.out.size))
          have d0 := hHeldc.1
          have R4c := Lib.hid (R4w.out.later hHeldc.2.2)
          clear hHeldc hS0 PX
          by_cases hsh : x.length ≤ fd.length
          · have hq := Tr.inF_short h0 hsh
            have hshI : (x.length : Int) ≤ (fd.length : Int) := by omega
            have HT := Lib.hid (show ((L.take (0 + 1)).filter (Tr.inF fd)).length = ((L.take 0).filter (Tr.inF fd)).length by rw [Tr.filter_step HX.out, hq]; simp)
            clear hq
            go_wp2
            go_roundw
            case rel => exact ⟨0 + 1, by omega, by go_num, by rw [HT.out]; rfl, BW.out⟩
            case measure => simp [intOf]; omega
          · have hshI : ¬ (x.length : Int) ≤ (fd.length : Int) := by omega
            have hcut : (bs x).extract 0 (fd.length + 1) = bs (x.take (fd.length + 1)) := bs_extract _ _
            have hxb : fd.length + 1 ≤ x.length := by omega
            have hxI : (fd.length : Int) + 1 ≤ (x.length : Int) := by omega
            have ht1 : (bs (x.take (fd.length + 1))).toList = x.take (fd.length + 1) := bs_toList _
            have hca : bs fd ++ ⟨#[47]⟩ = bs (fd ++ [47]) := bs_cat fd [47]
            have ht2 : (bs (fd ++ [47])).toList = fd ++ [47] := bs_toList _
            cases hq : Tr.inF fd x
            · have hne : ¬ x.take (fd.length + 1) = fd ++ [47] := fun e => by rw [(Tr.inF_take h0).2 e] at hq; cases hq
              have hneB : (x.take (fd.length + 1) == fd ++ [47]) = false := beq_eq_false_iff_ne.2 hne
              have HT := Lib.hid (show ((L.take (0 + 1)).filter (Tr.inF fd)).length = ((L.take 0).filter (Tr.inF fd)).length by rw [Tr.filter_step HX.out, hq]; simp)
              clear hq
              go_wp2
              go_roundw
              case rel => exact ⟨0 + 1, by omega, by go_num, by rw [HT.out]; rfl, BW.out⟩
              case measure => simp [intOf]; omega
            · have heq := (Tr.inF_take h0).1 hq
              have HT := Lib.hid (show ((L.take (0 + 1)).filter (Tr.inF fd)).length = ((L.take 0).filter (Tr.inF fd)).length + 1 by rw [Tr.filter_step HX.out, hq]; simp)
              have hat := Tr.filter_at HX.out hq
              have hkl := (List.getElem?_eq_some_iff.1 hat).1
              rw [← HML.out] at hkl
              obtain ⟨g2, o2, rfl, hg2, hc2⟩ := R4c.out.st hat
              have ek : ((L.take 0).filter (Tr.inF fd)).length = 0 := by simp
              rw [ek] at hkl hc2 HT
              rw [Nat.add_zero] at hc2
              have hkI : ¬ (ml : Int) ≤ 0 := by omega
              have hkD : decide ((ml : Int) ≤ 0) = false := decide_eq_false hkI
              have hkN : decide (ml = 0) = false := decide_eq_false (by omega)
              have hkM : ¬ ml = 0 := by omega
              have hkP : 0 < ml := hkl
              clear hq hat
              go_wp2
              go_quiet (fail)
              go_wp2
              refine ⟨⟨0 + 1, by omega, by go_num, by rw [HT.out]; go_num, BW.out.trans (below_drewN (Below.refl _ _) _)⟩, by simp [intOf]; omega⟩
        · obtain ⟨j, rfl⟩ : ∃ j, i = j + 1 := ⟨i - 1, by omega⟩
          have hjl : j < L.length := by omega
          have hy := List.getElem?_eq_getElem hjl
          have hlex := HSRT.out j _ _ hy hx
          have hcj : wr.cell? ⟨g, o + j, none⟩ = some (.string (bs L[j])) := by
            obtain ⟨g', o', e', _, hcj⟩ := hR.st hy
            injection e' with e'
            injection e' with e1 e2
            subst e1 e2
            exact hcj
          generalize L[j + 1] = x at *
          generalize L[j] = y at *
          have hxs : (bs x).size = x.length := bs_size x
          have hxt : (bs x).toList = x := bs_toList x
          have hyt : (bs y).toList = y := bs_toList y
          have hb1 : Op.bytesLess x y = false := by rw [Tr.bytesLess_eq]; exact decide_eq_false fun e => Tr.lt_irr _ (Tr.lt_tr e hlex)
          have hb2 : ¬ x = y := fun e => by rw [e] at hlex; exact Tr.lt_irr _ hlex
          have hb3 : (x == y) = false := beq_eq_false_iff_ne.2 hb2
          have hLI : (j : Int) + 1 < (L.length : Int) := by omega
          have hjI : (j : Int) < (L.length : Int) := by omega
          have hj0 : (0 : Int) < (j : Int) + 1 := by omega
          have hj1 : (0 : Int) ≤ (j : Int) + 1 := by omega
          have hjw : IntKind.i64.wrap (j : Int) = (j : Int) := IntWalk.i64_in _ (by omega)
          obtain ⟨kk, hkk⟩ : ∃ kk, kk = ((L.take (j + 1)).filter (Tr.inF fd)).length := ⟨_, rfl⟩
          have HKL := Lib.hid (show ((((L.take (j + 1)).filter (Tr.inF fd)).length : Nat) : Int) = (kk : Int) by rw [hkk])
          rw [← hkk]
          have HKK := Lib.hid hkk
          clear hkk hx hxm hxp hR hy hlex hb2
          have hS0 : USt wr g o j x y wr.drew := ⟨hcj, hc0, hg, below_drewN (Below.refl _ _) 1⟩
          have PX := Lib.hid (fun W (h : USt wr g o j x y W) => (PX0.out W).mono fun e w' (q : _ ∧ _) => (⟨q.1, h.later q.2⟩ : _ ∧ USt wr g o j x y w'))
          go_wp2
          refine wp_region_held_drew (S := USt wr g o j x y) (by kernel_rfl) hS0 (fun hHeld => ?_)
          refine wpAnyH_take (i := 0) (v := ?_) rfl (by kernel_rfl) (by kernel_rfl) (by kernel_rfl) (fun _ _ _ h => h) (Or.inl ⟨by rfl, ?_⟩) (by assumption) ?_
          rotate_left
          · intro w hSw
            (try unfold USt at hSw)
            go_simp
            all_goals (with_reducible rfl)
          try simp only [List.getElem_toArray, List.getElem_cons_succ, List.getElem_cons_zero, Act.put, List.setIfInBounds_toArray, List.set_cons_zero, List.set_cons_succ]
          refine wpAnyH_take (i := 1) (v := ?_) rfl (by kernel_rfl) (by kernel_rfl) (by kernel_rfl) (fun _ _ _ h => h) (Or.inl ⟨by rfl, ?_⟩) (by assumption) ?_
          rotate_left
          · intro w hSw
            (try unfold USt at hSw)
            go_simp
            all_goals (with_reducible rfl)
          try simp only [List.getElem_toArray, List.getElem_cons_succ, List.getElem_cons_zero, Act.put, List.setIfInBounds_toArray, List.set_cons_zero, List.set_cons_succ]
          refine wpAnyH_take (i := 2) (v := ?_) rfl (by kernel_rfl) (by kernel_rfl) (by kernel_rfl) (fun _ _ _ h => h) (Or.inl ⟨by rfl, ?_⟩) (by assumption) ?_
          rotate_left
          · intro w hSw
            (try unfold USt at hSw)
            go_simp
            all_goals (with_reducible rfl)
          try simp only [List.getElem_toArray, List.getElem_cons_succ, List.getElem_cons_zero, Act.put, List.setIfInBounds_toArray, List.set_cons_zero, List.set_cons_succ]
          refine wpAnyH_take (i := 3) (v := ?_) rfl (by kernel_rfl) (by kernel_rfl) (by kernel_rfl) (fun _ _ _ h => h) (Or.inl ⟨by rfl, ?_⟩) (by assumption) ?_
          rotate_left
          · intro w hSw
            (try unfold USt at hSw)
            go_simp
            all_goals (with_reducible rfl)
          try simp only [List.getElem_toArray, List.getElem_cons_succ, List.getElem_cons_zero, Act.put, List.setIfInBounds_toArray, List.set_cons_zero, List.set_cons_succ]
          refine wpAnyH_take (i := 4) (v := ?_) rfl (by kernel_rfl) (by kernel_rfl) (by kernel_rfl) (fun _ _ _ h => h) (Or.inl ⟨by rfl, ?_⟩) (by assumption) ?_
          rotate_left
          · intro w hSw
            (try unfold USt at hSw)
            go_simp
            all_goals (with_reducible rfl)
          try simp only [List.getElem_toArray, List.getElem_cons_succ, List.getElem_cons_zero, Act.put, List.setIfInBounds_toArray, List.set_cons_zero, List.set_cons_succ]
          refine wpAnyH_take (i := 5) (v := ?_) rfl (by kernel_rfl) (by kernel_rfl) (by kernel_rfl) (fun _ _ _ h => h) (Or.inl ⟨by rfl, ?_⟩) (by assumption) ?_
          rotate_left
          · intro w hSw
            (try unfold USt at hSw)
            go_simp
            all_goals (with_reducible rfl)
          try simp only [List.getElem_toArray, List.getElem_cons_succ, List.getElem_cons_zero, Act.put, List.setIfInBounds_toArray, List.set_cons_zero, List.set_cons_succ]
          refine wpAnyH_take (i := 6) (v := ?_) rfl (by kernel_rfl) (by kernel_rfl) (by kernel_rfl) (fun _ _ _ h => h) (Or.inl ⟨by rfl, ?_⟩) (by assumption) ?_
          rotate_left
          · intro w hSw
            (try unfold USt at hSw)
            go_simp
            all_goals (with_reducible rfl)
          try simp only [List.getElem_toArray, List.getElem_cons_succ, List.getElem_cons_zero, Act.put, List.setIfInBounds_toArray, List.set_cons_zero, List.set_cons_succ]
          refine wpAnyH_take (i := 7) (v := ?_) rfl (by kernel_rfl) (by kernel_rfl) (by kernel_rfl) (fun _ _ _ h => h) (Or.inl ⟨by rfl, ?_⟩) (by assumption) ?_
          rotate_left
          · intro w hSw
            (try unfold USt at hSw)
            go_simp
            all_goals (with_reducible rfl)
          try simp only [List.getElem_toArray, List.getElem_cons_succ, List.getElem_cons_zero, Act.put, List.setIfInBounds_toArray, List.set_cons_zero, List.set_cons_succ]
          refine wpAnyH_take (i := 8) (v := ?_) rfl (by kernel_rfl) (by kernel_rfl) (by kernel_rfl) (fun _ _ _ h => h) (Or.inl ⟨by rfl, ?_⟩) (by assumption) ?_
          rotate_left
          · intro w hSw
            (try unfold USt at hSw)
            go_simp
            all_goals (with_reducible rfl)
          try simp only [List.getElem_toArray, List.getElem_cons_succ, List.getElem_cons_zero, Act.put, List.setIfInBounds_toArray, List.set_cons_zero, List.set_cons_succ]
          refine wpAnyH_take (i := 9) (v := ?_) rfl (by kernel_rfl) (by kernel_rfl) (by kernel_rfl) (fun _ _ _ h => h) (Or.inl ⟨by rfl, ?_⟩) (by assumption) ?_
          rotate_left
          · intro w hSw
            (try unfold USt at hSw)
            go_simp
            all_goals (with_reducible rfl)
          try simp only [List.getElem_toArray, List.getElem_cons_succ, List.getElem_cons_zero, Act.put, List.setIfInBounds_toArray, List.set_cons_zero, List.set_cons_succ]
          refine wpAnyH_take (i := 10) (v := ?_) rfl (by kernel_rfl) (by kernel_rfl) (by kernel_rfl) (fun _ _ _ h => h) (Or.inl ⟨by rfl, ?_⟩) (by assumption) ?_
          rotate_left
          · intro w hSw
            (try unfold USt at hSw)
            go_simp
            all_goals (with_reducible rfl)
          try simp only [List.getElem_toArray, List.getElem_cons_succ, List.getElem_cons_zero, Act.put, List.setIfInBounds_toArray, List.set_cons_zero, List.set_cons_succ]
          refine wpAnyH_take (i := 11) (v := ?_) rfl (by kernel_rfl) (by kernel_rfl) (by kernel_rfl) (fun _ _ _ h => h) (Or.inl ⟨by rfl, ?_⟩) (by assumption) ?_
          rotate_left
          · intro w hSw
            (try unfold USt at hSw)
            go_simp
            all_goals (with_reducible rfl)
          try simp only [List.getElem_toArray, List.getElem_cons_succ, List.getElem_cons_zero, Act.put, List.setIfInBounds_toArray, List.set_cons_zero, List.set_cons_succ]
          refine wpAnyH_take (i := 12) (v := ?_) rfl (by kernel_rfl) (by kernel_rfl) (by kernel_rfl) (fun _ _ _ h => h) (Or.inl ⟨by rfl, ?_⟩) (by assumption) ?_
          rotate_left
          · intro w hSw
            (try unfold USt at hSw)
            go_simp
            all_goals (with_reducible rfl)
          try simp only [List.getElem_toArray, List.getElem_cons_succ, List.getElem_cons_zero, Act.put, List.setIfInBounds_toArray, List.set_cons_zero, List.set_cons_succ]
          refine wpAnyH_take (i := 13) (v := ?_) rfl (by kernel_rfl) (by kernel_rfl) (by kernel_rfl) (fun _ _ _ h => h) (Or.inl ⟨by rfl, ?_⟩) (by assumption) ?_
          rotate_left
          · intro w hSw
            (try unfold USt at hSw)
            go_simp
            all_goals (with_reducible rfl)
          try simp only [List.getElem_toArray, List.getElem_cons_succ, List.getElem_cons_zero, Act.put, List.setIfInBounds_toArray, List.set_cons_zero, List.set_cons_succ]
          refine wpAnyH_take (i := 14) (v := ?_) rfl (by kernel_rfl) (by kernel_rfl) (by kernel_rfl) (fun _ _ _ h => h) (Or.inl ⟨by rfl, ?_⟩) (by assumption) ?_
          rotate_left
          · intro w hSw
            (try unfold USt at hSw)
            go_simp
            all_goals (with_reducible rfl)
          try simp only [List.getElem_toArray, List.getElem_cons_succ, List.getElem_cons_zero, Act.put, List.setIfInBounds_toArray, List.set_cons_zero, List.set_cons_succ]
          refine wpAnyH_take (i := 15) (v := ?_) rfl (by kernel_rfl) (by kernel_rfl) (by kernel_rfl) (fun _ _ _ h => h) (Or.inl ⟨by rfl, ?_⟩) (by assumption) ?_
          rotate_left
          · intro w hSw
            (try unfold USt at hSw)
            go_simp
            all_goals (with_reducible rfl)
          try simp only [List.getElem_toArray, List.getElem_cons_succ, List.getElem_cons_zero, Act.put, List.setIfInBounds_toArray, List.set_cons_zero, List.set_cons_succ]
          refine wpAnyH_take (i := 16) (v := ?_) rfl (by kernel_rfl) (by kernel_rfl) (by kernel_rfl) (fun _ _ _ h => h) (Or.inl ⟨by rfl, ?_⟩) (by assumption) ?_
          rotate_left
          · intro w hSw
            (try unfold USt at hSw)
            go_simp
            all_goals (with_reducible rfl)
          try simp only [List.getElem_toArray, List.getElem_cons_succ, List.getElem_cons_zero, Act.put, List.setIfInBounds_toArray, List.set_cons_zero, List.set_cons_succ]
          refine wpAnyH_take (i := 17) (v := ?_) rfl (by kernel_rfl) (by kernel_rfl) (by kernel_rfl) (fun _ _ _ h => h) (Or.inl ⟨by rfl, ?_⟩) (by assumption) ?_
          rotate_left
          · intro w hSw
            (try unfold USt at hSw)
            go_simp
            all_goals (with_reducible rfl)
          try simp only [List.getElem_toArray, List.getElem_cons_succ, List.getElem_cons_zero, Act.put, List.setIfInBounds_toArray, List.set_cons_zero, List.set_cons_succ]
          refine wpAnyH_take (i := 18) (v := ?_) rfl (by kernel_rfl) (by kernel_rfl) (by kernel_rfl) (fun _ _ _ h => h) (Or.inl ⟨by rfl, ?_⟩) (by assumption) ?_
          rotate_left
          · intro w hSw
            (try unfold USt at hSw)
            go_simp
            all_goals (with_reducible rfl)
          try simp only [List.getElem_toArray, List.getElem_cons_succ, List.getElem_cons_zero, Act.put, List.setIfInBounds_toArray, List.set_cons_zero, List.set_cons_succ]
          refine wpAnyH_ready (rs := [19]) (by kernel_rfl) (by simp) ?_
          refine AllReadyH.cons rfl (fun K hK => ?_) AllReadyH.nil
          go_simp
          go_at_call 25
          refine (PX.out _ hHeld).mono ?_
          rintro e wc ⟨rfl, hx⟩
          go_wp2_with fail
          refine hK.out _ _ hx (fun hHeldc => ?_)
          clear hK K hHeld
          try simp only [List.getElem_toArray, List.getElem_cons_succ, List.getElem_cons_zero, Act.put, List.setIfInBounds_toArray, List.set_cons_zero, List.set_cons_succ]
          refine wpAnyH_take (i := 20) (v := ?_) rfl (by kernel_rfl) (by kernel_rfl) (by kernel_rfl) (fun _ _ _ h => h) (Or.inl ⟨by rfl, ?_⟩) (by assumption) ?_
          rotate_left
          · intro w hSw
            (try unfold USt at hSw)
            go_simp
            all_goals (with_reducible rfl)
          try simp only [List.getElem_toArray, List.getElem_cons_succ, List.getElem_cons_zero, Act.put, List.setIfInBounds_toArray, List.set_cons_zero, List.set_cons_succ]
          refine wpAnyH_take (i := 21) (v := ?_) rfl (by kernel_rfl) (by kernel_rfl) (by kernel_rfl) (fun _ _ _ h => h) (Or.inl ⟨by rfl, ?_⟩) (by assumption) ?_
          rotate_left
          · intro w hSw
            (try unfold USt at hSw)
            go_simp
            all_goals (with_reducible rfl)
          try simp only [List.getElem_toArray, List.getElem_cons_succ, List.getElem_cons_zero, Act.put, List.setIfInBounds_toArray, List.set_cons_zero, List.set_cons_succ]
          refine wpAnyH_done (by kernel_rfl) ?_ _
          have BW := Lib.hid (hI.out.trans ((hHeldc.2.2.2).mono hI.out.size))
          have d0 := hHeldc.2.1
          have R4c := Lib.hid (R4w.out.later hHeldc.2.2.2)
          clear hHeldc hS0 PX
          by_cases hsh : x.length ≤ fd.length
          · have hq := Tr.inF_short h0 hsh
            have hshI : (x.length : Int) ≤ (fd.length : Int) := by omega
            have HT := Lib.hid (show ((L.take ((j + 1) + 1)).filter (Tr.inF fd)).length = ((L.take (j + 1)).filter (Tr.inF fd)).length by rw [Tr.filter_step HX.out, hq]; simp)
            clear hq
            go_wp2
            go_roundw
            case rel => exact ⟨(j + 1) + 1, by omega, by go_num, by rw [HT.out, ← HKK.out], BW.out⟩
            case measure => simp [intOf]; omega
          · have hshI : ¬ (x.length : Int) ≤ (fd.length : Int) := by omega
            have hcut : (bs x).extract 0 (fd.length + 1) = bs (x.take (fd.length + 1)) := bs_extract _ _
            have hxb : fd.length + 1 ≤ x.length := by omega
            have hxI : (fd.length : Int) + 1 ≤ (x.length : Int) := by omega
            have ht1 : (bs (x.take (fd.length + 1))).toList = x.take (fd.length + 1) := bs_toList _
            have hca : bs fd ++ ⟨#[47]⟩ = bs (fd ++ [47]) := bs_cat fd [47]
            have ht2 : (bs (fd ++ [47])).toList = fd ++ [47] := bs_toList _
            cases hq : Tr.inF fd x
            · have hne : ¬ x.take (fd.length + 1) = fd ++ [47] := fun e => by rw [(Tr.inF_take h0).2 e] at hq; cases hq
              have hneB : (x.take (fd.length + 1) == fd ++ [47]) = false := beq_eq_false_iff_ne.2 hne
              have HT := Lib.hid (show ((L.take ((j + 1) + 1)).filter (Tr.inF fd)).length = ((L.take (j + 1)).filter (Tr.inF fd)).length by rw [Tr.filter_step HX.out, hq]; simp)
              clear hq
              go_wp2
              go_roundw
              case rel => exact ⟨(j + 1) + 1, by omega, by go_num, by rw [HT.out, ← HKK.out], BW.out⟩
              case measure => simp [intOf]; omega
            · have heq := (Tr.inF_take h0).1 hq
              have HT := Lib.hid (show ((L.take ((j + 1) + 1)).filter (Tr.inF fd)).length = ((L.take (j + 1)).filter (Tr.inF fd)).length + 1 by rw [Tr.filter_step HX.out, hq]; simp)
              have hat := Tr.filter_at HX.out hq
              have hkl := (List.getElem?_eq_some_iff.1 hat).1
              rw [← HML.out] at hkl
              obtain ⟨g2, o2, rfl, hg2, hc2⟩ := R4c.out.st hat
              rw [← HKK.out] at hkl hc2 HT
              have hkI : ¬ (ml : Int) ≤ (kk : Int) := by omega
              have hkD : decide ((ml : Int) ≤ (kk : Int)) = false := decide_eq_false hkI
              have hkD2 : decide (ml ≤ kk) = false := decide_eq_false (by omega)
              have hkP : (kk : Int) < (ml : Int) := by omega
              clear hq hat
              go_wp2
              go_quiet (fail)
              go_wp2
              refine ⟨⟨(j + 1) + 1, by omega, by go_num, by rw [HT.out]; go_num, BW.out.trans (below_drewN (Below.refl _ _) _)⟩, by simp [intOf]; omega⟩
      · obtain rfl : i = L.length := by omega
        rw [List.take_length, ← HML.out]
        have hll : ¬ (L.length : Int) < (L.length : Int) := by omega
        go_wp2
        go_ret
        exact ⟨by simp, BZ.out.trans (hI.mono BZ.out.size)⟩

theorem TreeUnder_ba (A : Option Addr) (cap : Nat) (fs : List (Tr.T × Tr.T)) (s : ByteArray) (w : World) (hrd : Rd w 2 A fs.length (fls fs)) (hn : fs.length ≤ 4398046511104) (hz : ∀ f ∈ fs, f.1.length ≤ 140737488355328) (hfl : s.data.toList.length ≤ 140737488355328) :
    Calls Tryd.prog 7 #[.slice A fs.length cap, .string s] w fun e w' => e = .returned (.bool true) ∧ Below w.heap.size w w' := by
  have h := TreeUnder_any A cap fs s.data.toList w hrd hn hz hfl
  rwa [bs_of] at h

end Go.Proofs.YtliabgcpciekpaaDoor
