/- Several texts in one: The law of a range over a function whose iterator keeps its state in cells of its own: the iterator's steps (It) and a round's word (Kp) are named by the iterator's contract; The law of a range over a function whose iterator keeps its state in cells of its own, where the assign code may make memory (a loop variable that lies in a block); Words for memory: a slice that reads as some cells; ranges, numbers and flags as cells; boxes; small helpers of the walks; Texts' characters, and their tokens, in plain Lean (what phys and scan compute); Macros, in plain Lean (what macro computes). -/
import Derived.RangeFuncNested
import Derived.RangeFuncBound
import Derived.RangeFuncCalls
import Derived.RangeFuncLeaves
import Derived.Test.YtffjblamfbmoeaaGreatDoorProg
import Derived.RangeFuncBox
import Derived.Shelf.Abstract
import Derived.Shelf.RegionOpen
import Derived.OwnWalkIn
import Derived.TacticsInMore
import Derived.LoopNIn
import Derived.LoopIn
import Derived.Maps.AppendAt
import Derived.Lib.Strings
import Derived.WalkKit
import Derived.WalkSpells
import Derived.WalkLawsBesides
import Derived.Deep.QuietTactic
import Derived.BigQuiet
import Derived.Lib.Hide
import Derived.Outline
/-! The law of a range over a function whose iterator keeps its state in cells of its own: the iterator's steps (It) and a round's word (Kp) are named by the iterator's contract. -/
namespace Go.Proofs.YtffjblamfbmoeaaGreatDoor
open Go Go.RowKit
variable {P : Program}

/-- How an iterator ends: all have come; or a part, a round having said 'no more'. -/
def SeqEnd {α : Type} (S Sp : List α → Prop) (K Kx : List α → World → Prop) (e : Ending) (B : World) : Prop :=
  (∃ v, e = .returned v) ∧ ((∃ xs, S xs ∧ K xs B) ∨ (∃ pre, Sp pre ∧ Kx pre B))

/-- The contract of an iterator value, called in the world W: whatever invariant K that the iterator's own steps (It) leave alone, whatever rounds that keep the iterator's word (Kp). -/
def Seq {α : Type} (n : Nat) (P : Program) (gf : Nat) (lb : Array Value) (encs : α → Array Value) (It Kp : World → World → Prop) (Go_ S Sp : List α → Prop) (W : World) : Prop :=
  ∀ (l : Nat) (K Kx : List α → World → Prop), (∀ pre A B, K pre A → It A B → K pre B) →
    (∀ pre x A, K pre A → Go_ (pre ++ [x]) → YieldAt Fence.wide (n - 1) P l (encs x) A fun e B => (e = .returned (.bool true) ∧ K (pre ++ [x]) B ∧ Kp A B) ∨ (e = .returned (.bool false) ∧ Kx (pre ++ [x]) B)) →
    K [] W →
    CallsIn Fence.wide n P gf (#[.func (.yield l) #[] #[]] ++ lb) W (SeqEnd S Sp K Kx)

/-- How the body of a round may be left. -/
def seqPost {α : Type} (B : Nat) (Kp : World → World → Prop) (I : List α → World → Prop) (Ix : Code → List α → World → Prop) (xs : List α) (W : World) : Exit → Act → World → Prop
  | .normal, _, W' => KeepsFrom B W W' ∧ Kp W W' ∧ I xs W'
  | .ret, _, W' => KeepsFrom B W W' ∧ Ix .ret xs W'
  | .exit id, _, W' => KeepsFrom B W W' ∧ Ix (.exit id) xs W'
  | .goto t, _, W' => KeepsFrom B W W' ∧ Ix (.goto t) xs W'
  | .panic _, _, _ => False
  | .outgrown, _, _ => False

theorem rangeLaw {α : Type} {n : Nat} {g : Operand} {ps : Array Tmp} {assign body : Code} {Q : Exit → Act → World → Prop} {a : Act} {w : World}
    {gf : Nat} {lb : Array Value} (hg : a.eval g = .func (.func gf) #[] lb) (eg : ∀ args w, (callFunc gf args).run P w = .ok (.enter gf args) w)
    {encs : α → Array Value} {It Kp : World → World → Prop} {Go_ S Sp : List α → Prop}
    (hseq : ∀ W1 : World, W1.heap.size = w.heap.size + 2 → Below w.heap.size w W1 → Seq (n - 1) P gf lb encs It Kp Go_ S Sp W1)
    (hIt : ∀ (X Y : World) (k : Nat) (o : Obj), It X Y → w.heap.size ≤ k → X.heap[k]? = some o → o.isCells = false → Y.heap[k]? = some o)
    (hKt : ∀ {X Y Z : World}, Kp X Y → Kp Y Z → Kp X Z) (hKb : ∀ (W : World) (l : Nat) (o o' : Obj), w.heap.size ≤ l → W.heap[l]? = some o → o.isCells = false → o.isWalk = false → Kp W (W.putObj l o'))
    (hps : ∀ x, (encs x).size = ps.size)
    (I : List α → World → Prop) (Ix : Code → List α → World → Prop)
    (hI : ∀ pre X Y, I pre X → It X Y → I pre Y)
    (hIp : ∀ pre W (l : Nat) (o o' : Obj), I pre W → w.heap.size ≤ l → W.heap[l]? = some o → o.isCells = false → I pre (W.putObj l o'))
    (hIxp : ∀ c pre W (l : Nat) (o o' : Obj), Ix c pre W → w.heap.size ≤ l → W.heap[l]? = some o → o.isCells = false → Ix c pre (W.putObj l o'))
    (h0 : ∀ W1 : World, W1.heap.size = w.heap.size + 2 → Below w.heap.size w W1 → I [] W1) (a₁ : α → Act)
    (hassign : ∀ (l : Nat) (x : α) (W : World) (K : Act → World → Prop), K (a₁ x) W →
      assign.wpIn (Fence.wide.inRound l) (n - 1 - 1) P (Exit.then K (fun _ _ _ => False)) { tmps := (ps.zip (encs x)).foldl (fun t (p, v) => t.setIfInBounds p v) a.tmps, defers := [] } W)
    (hbody : ∀ (l : Nat) (pre : List α) (x : α) (W : World), I pre W → Go_ (pre ++ [x]) → w.heap.size + 2 ≤ W.heap.size → body.wpIn (Fence.wide.inRound l) (n - 1 - 1) P (seqPost w.heap.size Kp I Ix (pre ++ [x]) W) (a₁ x) W)
    (hdone : ∀ (D : Nat) (xs : List α) (W : World), D = w.heap.size → S xs → I xs W → W.heap[D]? = some (.deferred (some [])) → Q .normal { a with defers := { target := .collected D, args := #[] } :: a.defers } W)
    (hstop : ∀ (D : Nat) (c : Code) (pre : List α) (W : World), D = w.heap.size → Sp pre → Ix c pre W → W.heap[D]? = some (.deferred (some [])) → c.wpIn Fence.wide n P Q { a with defers := { target := .collected D, args := #[] } :: a.defers } W) :
    (Code.rangeFunc g ps assign body).wpIn Fence.wide n P Q a w := by
  refine wpIn_rangeFunc ?_
  intro fn hfn
  obtain ⟨rec, hrec⟩ : ∃ rec : LoopState → Option Code → Loop, rec = fun st pe => { state := st, pending := pe, fn, tmps := a.tmps, params := ps, assign, body, defers := w.heap.size } := ⟨_, rfl⟩
  obtain ⟨W1, hW1⟩ : ∃ W1, (w.alloc (.deferred (some []))).alloc (.loop (rec .ready none)) = W1 := ⟨_, rfl⟩
  have hL1 : W1.heap[w.heap.size + 1]? = some (.loop (rec .ready none)) := by
    rw [← hW1]; have := World.alloc_heap_new (w.alloc (.deferred (some []))) (.loop (rec .ready none)); rwa [World.size_alloc] at this
  have hK1 : W1.heap[w.heap.size]? = some (.deferred (some [])) := by
    rw [← hW1]; exact (Below.heap_alloc _ _ _ (by simp)).trans (World.alloc_heap_new w _)
  have hs1 : W1.heap.size = w.heap.size + 2 := by rw [← hW1]; simp
  have hb1 : Below w.heap.size w W1 := by
    rw [← hW1]; exact ((Below.refl _ w).alloc (Nat.le_refl _) _).alloc (by simp) _
  refine ⟨w.heap.size + 1, [{ target := .collected w.heap.size, args := #[] }], W1, { target := .fn (.func gf) lb, args := #[.func (.yield (w.heap.size + 1)) #[] #[]] }, W1, gf,
    #[.func (.yield (w.heap.size + 1)) #[] #[]] ++ lb, W1, ?_, ?_, ?_, ?_, ?_, ?_⟩
  · rw [← hW1, hrec]; exact run_enterLoop_outer _ _ _ _ _
  · simp only [resolve, hg]
    simp [go_sem]
  · intro f' _; trivial
  · simp [invoke, go_sem, eg]
  · intro h; cases h
  · have hsz : ∀ {W : World} {o : Obj}, W.heap[w.heap.size + 1]? = some o → w.heap.size + 2 ≤ W.heap.size := fun h => by have := (Array.getElem?_eq_some_iff.1 h).1; omega
    have hq := hseq W1 hs1 hb1
    unfold Seq at hq
    refine CallsIn.mono (hq (w.heap.size + 1)
      (fun pre W => I pre W ∧ W.heap[w.heap.size + 1]? = some (.loop (rec .ready none)) ∧ W.heap[w.heap.size]? = some (.deferred (some [])))
      (fun pre W => ∃ c, Ix c pre W ∧ W.heap[w.heap.size + 1]? = some (.loop (rec .done (some c))) ∧ W.heap[w.heap.size]? = some (.deferred (some [])))
      (fun pre X Y hs hst => ⟨hI pre X Y hs.1 hst, hIt X Y _ _ hst (by omega) hs.2.1 rfl, hIt X Y _ _ hst (by omega) hs.2.2 rfl⟩)
      ?_ (And.intro (h0 W1 hs1 hb1) (And.intro hL1 hK1))) ?_
    · rintro pre x W ⟨hi, hl, hk⟩ hgo
      have hlt : w.heap.size + 1 < W.heap.size := (Array.getElem?_eq_some_iff.1 hl).1
      have hy := run_yield (P := P) (args := encs x) hl (by rw [hrec]; exact hps x)
      rw [hrec] at hy
      refine ⟨fn, _, assign, body, hy, roundIn_of_wpIn (F := Fence.wide) hfn (hassign _ x W _ ?_)⟩
      refine ⟨_, run_beginRound hl (by rw [hrec]), ?_⟩
      have hl2 : (W.putObj (w.heap.size + 1) (.loop { rec .ready none with state := .busy })).heap[w.heap.size + 1]? = some (.loop { rec .ready none with state := .busy }) := World.putObj_heap_same hlt
      have hk2 : (W.putObj (w.heap.size + 1) (.loop { rec .ready none with state := .busy })).heap[w.heap.size]? = some (.deferred (some [])) := (World.putObj_heap_other (by omega)).trans hk
      have hw2 : Kp W (W.putObj (w.heap.size + 1) (.loop { rec .ready none with state := .busy })) := hKb _ _ _ _ (by omega) hl rfl rfl
      refine wpIn_mono (hbody _ pre x _ (hIp _ _ _ _ _ hi (by omega) hl rfl) hgo (hsz hl2)) ?_
      have fin : ∀ (jump : Option Code) (W3 : World), KeepsFrom w.heap.size (W.putObj (w.heap.size + 1) (.loop { rec .ready none with state := .busy })) W3 →
          (Instr.endRound (w.heap.size + 1) jump).run P W3 = .ok (.bool jump.isNone) (W3.putObj (w.heap.size + 1) (.loop (rec (if jump.isNone then .ready else .done) jump))) ∧
          W3.heap[w.heap.size + 1]? = some (.loop { rec .ready none with state := .busy }) ∧
          (W3.putObj (w.heap.size + 1) (.loop (rec (if jump.isNone then .ready else .done) jump))).heap[w.heap.size + 1]? = some (.loop (rec (if jump.isNone then .ready else .done) jump)) ∧
          (W3.putObj (w.heap.size + 1) (.loop (rec (if jump.isNone then .ready else .done) jump))).heap[w.heap.size]? = some (.deferred (some [])) := fun jump W3 hk3 => by
        have hl3 := hk3.same _ _ (by omega) hl2 rfl
        have := run_endRound (P := P) jump hl3
        rw [hrec] at this ⊢
        exact ⟨this, by rw [hrec] at hl3; exact hl3, World.putObj_heap_same (Array.getElem?_eq_some_iff.1 hl3).1, (World.putObj_heap_other (by omega)).trans (hk3.same _ _ (Nat.le_refl _) hk2 rfl)⟩
      rintro e a3 W3 hp
      cases e with
      | normal =>
        obtain ⟨hk3, hkp3, hi3⟩ := hp
        obtain ⟨hr, hl3, hl4, hk4⟩ := fin none W3 hk3
        exact ⟨_, _, hr, .inl ⟨rfl, ⟨hIp _ _ _ _ _ hi3 (by omega) hl3 rfl, hl4, hk4⟩, hKt (hKt hw2 hkp3) (hKb _ _ _ _ (by omega) hl3 rfl rfl)⟩⟩
      | ret =>
        obtain ⟨hk3, hi3⟩ := hp
        obtain ⟨hr, hl3, hl4, hk4⟩ := fin (some .ret) W3 hk3
        exact ⟨_, _, hr, .inr ⟨rfl, .ret, hIxp _ _ _ _ _ _ hi3 (by omega) hl3 rfl, hl4, hk4⟩⟩
      | exit id =>
        obtain ⟨hk3, hi3⟩ := hp
        obtain ⟨hr, hl3, hl4, hk4⟩ := fin (some (.exit id)) W3 hk3
        exact ⟨_, _, hr, .inr ⟨rfl, .exit id, hIxp _ _ _ _ _ _ hi3 (by omega) hl3 rfl, hl4, hk4⟩⟩
      | goto t =>
        obtain ⟨hk3, hi3⟩ := hp
        obtain ⟨hr, hl3, hl4, hk4⟩ := fin (some (.goto t)) W3 hk3
        exact ⟨_, _, hr, .inr ⟨rfl, .goto t, hIxp _ _ _ _ _ _ hi3 (by omega) hl3 rfl, hl4, hk4⟩⟩
      | panic ch => exact hp.elim
      | outgrown => exact hp.elim
    · rintro e W2 ⟨⟨v, rfl⟩, (⟨xs, hS, hi, hl, hk⟩ | ⟨pre, hSp, c, hi, hl, hk⟩)⟩
      · exact ⟨none, _, by have := run_endLoop (P := P) hl (by rw [hrec]; simp); rw [hrec] at this; exact this, hdone _ xs _ rfl hS (hIp _ _ _ _ _ hi (by omega) hl rfl) ((World.putObj_heap_other (by omega)).trans hk)⟩
      · exact ⟨some c, _, by have := run_endLoop (P := P) hl (by rw [hrec]; simp); rw [hrec] at this; exact this, hstop _ c pre _ rfl hSp (hIxp _ _ _ _ _ _ hi (by omega) hl rfl) ((World.putObj_heap_other (by omega)).trans hk)⟩

end Go.Proofs.YtffjblamfbmoeaaGreatDoor

/-! The law of a range over a function whose iterator keeps its state in cells of its own, where the assign code may make memory (a loop variable that lies in a block). -/
namespace Go.Proofs.YtffjblamfbmoeaaGreatDoor
open Go Go.RowKit
variable {P : Program}

theorem rangeLaw2 {α : Type} {n : Nat} {g : Operand} {ps : Array Tmp} {assign body : Code} {Q : Exit → Act → World → Prop} {a : Act} {w : World}
    {gf : Nat} {lb : Array Value} (hg : a.eval g = .func (.func gf) #[] lb) (eg : ∀ args w, (callFunc gf args).run P w = .ok (.enter gf args) w)
    {encs : α → Array Value} {It Kp : World → World → Prop} {Go_ S Sp : List α → Prop}
    (hseq : ∀ W1 : World, W1.heap.size = w.heap.size + 2 → Below w.heap.size w W1 → Seq (n - 1) P gf lb encs It Kp Go_ S Sp W1)
    (hIt : ∀ (X Y : World) (k : Nat) (o : Obj), It X Y → w.heap.size ≤ k → X.heap[k]? = some o → o.isCells = false → Y.heap[k]? = some o)
    (hKt : ∀ {X Y Z : World}, Kp X Y → Kp Y Z → Kp X Z) (hKb : ∀ (W : World) (l : Nat) (o o' : Obj), w.heap.size ≤ l → W.heap[l]? = some o → o.isCells = false → o.isWalk = false → Kp W (W.putObj l o'))
    (hps : ∀ x, (encs x).size = ps.size)
    (I : List α → World → Prop) (Ix : Code → List α → World → Prop)
    (hI : ∀ pre X Y, I pre X → It X Y → I pre Y)
    (hIp : ∀ pre W (l : Nat) (o o' : Obj), I pre W → w.heap.size ≤ l → W.heap[l]? = some o → o.isCells = false → I pre (W.putObj l o'))
    (hIxp : ∀ c pre W (l : Nat) (o o' : Obj), Ix c pre W → w.heap.size ≤ l → W.heap[l]? = some o → o.isCells = false → Ix c pre (W.putObj l o'))
    (h0 : ∀ W1 : World, W1.heap.size = w.heap.size + 2 → Below w.heap.size w W1 → I [] W1) (J : List α → α → Act → World → Prop)
    (hJp : ∀ pre x a' W (l : Nat) (o o' : Obj), J pre x a' W → w.heap.size ≤ l → W.heap[l]? = some o → o.isCells = false → J pre x a' (W.putObj l o'))
    (hassign : ∀ (l : Nat) (pre : List α) (x : α) (W : World) (K : Act → World → Prop), I pre W → Go_ (pre ++ [x]) → w.heap.size + 2 ≤ W.heap.size → (∀ a' W', KeepsFrom w.heap.size W W' → Kp W W' → J pre x a' W' → K a' W') →
      assign.wpIn (Fence.wide.inRound l) (n - 1 - 1) P (Exit.then K (fun _ _ _ => False)) { tmps := (ps.zip (encs x)).foldl (fun t (p, v) => t.setIfInBounds p v) a.tmps, defers := [] } W)
    (hbody : ∀ (l : Nat) (pre : List α) (x : α) (a' : Act) (W : World), J pre x a' W → Go_ (pre ++ [x]) → w.heap.size + 2 ≤ W.heap.size → body.wpIn (Fence.wide.inRound l) (n - 1 - 1) P (seqPost w.heap.size Kp I Ix (pre ++ [x]) W) a' W)
    (hdone : ∀ (D : Nat) (xs : List α) (W : World), D = w.heap.size → S xs → I xs W → W.heap[D]? = some (.deferred (some [])) → Q .normal { a with defers := { target := .collected D, args := #[] } :: a.defers } W)
    (hstop : ∀ (D : Nat) (c : Code) (pre : List α) (W : World), D = w.heap.size → Sp pre → Ix c pre W → W.heap[D]? = some (.deferred (some [])) → c.wpIn Fence.wide n P Q { a with defers := { target := .collected D, args := #[] } :: a.defers } W) :
    (Code.rangeFunc g ps assign body).wpIn Fence.wide n P Q a w := by
  refine wpIn_rangeFunc ?_
  intro fn hfn
  obtain ⟨rec, hrec⟩ : ∃ rec : LoopState → Option Code → Loop, rec = fun st pe => { state := st, pending := pe, fn, tmps := a.tmps, params := ps, assign, body, defers := w.heap.size } := ⟨_, rfl⟩
  obtain ⟨W1, hW1⟩ : ∃ W1, (w.alloc (.deferred (some []))).alloc (.loop (rec .ready none)) = W1 := ⟨_, rfl⟩
  have hL1 : W1.heap[w.heap.size + 1]? = some (.loop (rec .ready none)) := by
    rw [← hW1]; have := World.alloc_heap_new (w.alloc (.deferred (some []))) (.loop (rec .ready none)); rwa [World.size_alloc] at this
  have hK1 : W1.heap[w.heap.size]? = some (.deferred (some [])) := by
    rw [← hW1]; exact (Below.heap_alloc _ _ _ (by simp)).trans (World.alloc_heap_new w _)
  have hs1 : W1.heap.size = w.heap.size + 2 := by rw [← hW1]; simp
  have hb1 : Below w.heap.size w W1 := by
    rw [← hW1]; exact ((Below.refl _ w).alloc (Nat.le_refl _) _).alloc (by simp) _
  refine ⟨w.heap.size + 1, [{ target := .collected w.heap.size, args := #[] }], W1, { target := .fn (.func gf) lb, args := #[.func (.yield (w.heap.size + 1)) #[] #[]] }, W1, gf,
    #[.func (.yield (w.heap.size + 1)) #[] #[]] ++ lb, W1, ?_, ?_, ?_, ?_, ?_, ?_⟩
  · rw [← hW1, hrec]; exact run_enterLoop_outer _ _ _ _ _
  · simp only [resolve, hg]
    simp [go_sem]
  · intro f' _; trivial
  · simp [invoke, go_sem, eg]
  · intro h; cases h
  · have hsz : ∀ {W : World} {o : Obj}, W.heap[w.heap.size + 1]? = some o → w.heap.size + 2 ≤ W.heap.size := fun h => by have := (Array.getElem?_eq_some_iff.1 h).1; omega
    have hq := hseq W1 hs1 hb1
    unfold Seq at hq
    refine CallsIn.mono (hq (w.heap.size + 1)
      (fun pre W => I pre W ∧ W.heap[w.heap.size + 1]? = some (.loop (rec .ready none)) ∧ W.heap[w.heap.size]? = some (.deferred (some [])))
      (fun pre W => ∃ c, Ix c pre W ∧ W.heap[w.heap.size + 1]? = some (.loop (rec .done (some c))) ∧ W.heap[w.heap.size]? = some (.deferred (some [])))
      (fun pre X Y hs hst => ⟨hI pre X Y hs.1 hst, hIt X Y _ _ hst (by omega) hs.2.1 rfl, hIt X Y _ _ hst (by omega) hs.2.2 rfl⟩)
      ?_ (And.intro (h0 W1 hs1 hb1) (And.intro hL1 hK1))) ?_
    · rintro pre x W ⟨hi, hl, hk⟩ hgo
      have hlt : w.heap.size + 1 < W.heap.size := (Array.getElem?_eq_some_iff.1 hl).1
      have hy := run_yield (P := P) (args := encs x) hl (by rw [hrec]; exact hps x)
      rw [hrec] at hy
      refine ⟨fn, _, assign, body, hy, roundIn_of_wpIn (F := Fence.wide) hfn (hassign _ pre x W _ hi hgo (hsz hl) ?_)⟩
      clear hy
      intro a' Wa hkfa hkpa hja
      replace hl := hkfa.same _ _ (by omega) hl rfl
      replace hk := hkfa.same _ _ (Nat.le_refl _) hk rfl
      replace hlt : w.heap.size + 1 < Wa.heap.size := (Array.getElem?_eq_some_iff.1 hl).1
      clear hi
      revert hkpa hkfa
      generalize W = Wb
      intro hkfa hkpa
      obtain ⟨W, rfl⟩ : ∃ W, W = Wa := ⟨_, rfl⟩
      refine ⟨_, run_beginRound hl (by rw [hrec]), ?_⟩
      have hl2 : (W.putObj (w.heap.size + 1) (.loop { rec .ready none with state := .busy })).heap[w.heap.size + 1]? = some (.loop { rec .ready none with state := .busy }) := World.putObj_heap_same hlt
      have hk2 : (W.putObj (w.heap.size + 1) (.loop { rec .ready none with state := .busy })).heap[w.heap.size]? = some (.deferred (some [])) := (World.putObj_heap_other (by omega)).trans hk
      have hw2 : Kp W (W.putObj (w.heap.size + 1) (.loop { rec .ready none with state := .busy })) := hKb _ _ _ _ (by omega) hl rfl rfl
      refine wpIn_mono (hbody _ pre x a' _ (hJp _ _ _ _ _ _ _ hja (by omega) hl rfl) hgo (hsz hl2)) ?_
      have fin : ∀ (jump : Option Code) (W3 : World), KeepsFrom w.heap.size (W.putObj (w.heap.size + 1) (.loop { rec .ready none with state := .busy })) W3 →
          (Instr.endRound (w.heap.size + 1) jump).run P W3 = .ok (.bool jump.isNone) (W3.putObj (w.heap.size + 1) (.loop (rec (if jump.isNone then .ready else .done) jump))) ∧
          W3.heap[w.heap.size + 1]? = some (.loop { rec .ready none with state := .busy }) ∧
          (W3.putObj (w.heap.size + 1) (.loop (rec (if jump.isNone then .ready else .done) jump))).heap[w.heap.size + 1]? = some (.loop (rec (if jump.isNone then .ready else .done) jump)) ∧
          (W3.putObj (w.heap.size + 1) (.loop (rec (if jump.isNone then .ready else .done) jump))).heap[w.heap.size]? = some (.deferred (some [])) := fun jump W3 hk3 => by
        have hl3 := hk3.same _ _ (by omega) hl2 rfl
        have := run_endRound (P := P) jump hl3
        rw [hrec] at this ⊢
        exact ⟨this, by rw [hrec] at hl3; exact hl3, World.putObj_heap_same (Array.getElem?_eq_some_iff.1 hl3).1, (World.putObj_heap_other (by omega)).trans (hk3.same _ _ (Nat.le_refl _) hk2 rfl)⟩
      rintro e a3 W3 hp
      cases e with
      | normal =>
        obtain ⟨hk3, hkp3, hi3⟩ := hp
        obtain ⟨hr, hl3, hl4, hk4⟩ := fin none W3 hk3
        exact ⟨_, _, hr, .inl ⟨rfl, ⟨hIp _ _ _ _ _ hi3 (by omega) hl3 rfl, hl4, hk4⟩, hKt hkpa (hKt (hKt hw2 hkp3) (hKb _ _ _ _ (by omega) hl3 rfl rfl))⟩⟩
      | ret =>
        obtain ⟨hk3, hi3⟩ := hp
        obtain ⟨hr, hl3, hl4, hk4⟩ := fin (some .ret) W3 hk3
        exact ⟨_, _, hr, .inr ⟨rfl, .ret, hIxp _ _ _ _ _ _ hi3 (by omega) hl3 rfl, hl4, hk4⟩⟩
      | exit id =>
        obtain ⟨hk3, hi3⟩ := hp
        obtain ⟨hr, hl3, hl4, hk4⟩ := fin (some (.exit id)) W3 hk3
        exact ⟨_, _, hr, .inr ⟨rfl, .exit id, hIxp _ _ _ _ _ _ hi3 (by omega) hl3 rfl, hl4, hk4⟩⟩
      | goto t =>
        obtain ⟨hk3, hi3⟩ := hp
        obtain ⟨hr, hl3, hl4, hk4⟩ := fin (some (.goto t)) W3 hk3
        exact ⟨_, _, hr, .inr ⟨rfl, .goto t, hIxp _ _ _ _ _ _ hi3 (by omega) hl3 rfl, hl4, hk4⟩⟩
      | panic ch => exact hp.elim
      | outgrown => exact hp.elim
    · rintro e W2 ⟨⟨v, rfl⟩, (⟨xs, hS, hi, hl, hk⟩ | ⟨pre, hSp, c, hi, hl, hk⟩)⟩
      · exact ⟨none, _, by have := run_endLoop (P := P) hl (by rw [hrec]; simp); rw [hrec] at this; exact this, hdone _ xs _ rfl hS (hIp _ _ _ _ _ hi (by omega) hl rfl) ((World.putObj_heap_other (by omega)).trans hk)⟩
      · exact ⟨some c, _, by have := run_endLoop (P := P) hl (by rw [hrec]; simp); rw [hrec] at this; exact this, hstop _ c pre _ rfl hSp (hIxp _ _ _ _ _ _ hi (by omega) hl rfl) ((World.putObj_heap_other (by omega)).trans hk)⟩

end Go.Proofs.YtffjblamfbmoeaaGreatDoor

/-! Words for memory: a slice that reads as some cells; ranges, numbers and flags as cells; boxes; small helpers of the walks. -/
set_option linter.unusedVariables false
set_option linter.unusedSimpArgs false
namespace Go.Proofs.YtffjblamfbmoeaaGreatDoor
open Go Go.RowKit Go.Shelf
/-- The slice at A of n elements of sz cells each reads, in w, as the cells xs. -/
def Rd (w : World) (sz : Nat) (A : Option Addr) (n : Nat) (xs : List Value) : Prop :=
  xs.length = n * sz ∧ (0 < n → ∃ b o, A = some ⟨b, o, none⟩ ∧ b < w.heap.size ∧ ∀ j u, xs[j]? = some u → w.cell? ⟨b, o + j, none⟩ = some u)

section
variable {w w' : World} {sz n : Nat} {A : Option Addr} {xs : List Value}
theorem Rd.below (h : Rd w sz A n xs) {B : Nat} (hB : w.heap.size ≤ B) (hb : Below B w w') : Rd w' sz A n xs :=
  ⟨h.1, fun hn => by
    obtain ⟨b, o, e, hlt, hc⟩ := h.2 hn
    exact ⟨b, o, e, Nat.lt_of_lt_of_le hlt hb.size, fun j u hu => (hb.cell (p := ⟨b, o + j, none⟩) (Nat.lt_of_lt_of_le hlt hB)).trans (hc j u hu)⟩⟩
theorem Rd.later (h : Rd w sz A n xs) (hb : Below w.heap.size w w') : Rd w' sz A n xs := h.below (Nat.le_refl _) hb
/-- Whatever lies below the bound B stays. -/
theorem Rd.nil (w : World) (sz : Nat) (A : Option Addr) : Rd w sz A 0 [] := ⟨by simp, fun h => absurd h (by omega)⟩
theorem Rd.of_own {base : Nat} {e : TypeId} {c : Nat} (h : w.ownsRow base e sz (.slice A n c) n xs) : Rd w sz A n xs := by
  refine ⟨h.1, fun hn => ?_⟩
  rcases h.2 with ⟨hv, hx⟩ | ⟨g, cap, cur, hv, hg, hh, r⟩
  · omega
  · injection hv with h1 h2 h3
    refine ⟨g, 0, h1, (Array.getElem?_eq_some_iff.1 hh).1, fun j u hu => ?_⟩
    have := h.cells (g := g) (by rw [h1]; rfl) j u hu
    by_cases hj : j = 0
    · subst hj; simpa [Addr.add] using this
    · simpa [Addr.add, hj] using this
end

/-- A slice value that reads as some cells. -/
def Sl (w : World) (sz : Nat) (v : Value) (n : Nat) (xs : List Value) : Prop := ∃ A c, v = .slice A n c ∧ n ≤ c ∧ Rd w sz A n xs
theorem Sl.later {w w' : World} {sz n : Nat} {v : Value} {xs : List Value} (h : Sl w sz v n xs) (hb : Below w.heap.size w w') : Sl w' sz v n xs := by
  obtain ⟨A, c, e, hc, hr⟩ := h
  exact ⟨A, c, e, hc, hr.later hb⟩
theorem Sl.below {w w' : World} {sz n : Nat} {v : Value} {xs : List Value} (h : Sl w sz v n xs) {B : Nat} (hB : w.heap.size ≤ B) (hb : Below B w w') : Sl w' sz v n xs := by
  obtain ⟨A, c, e, hc, hr⟩ := h
  exact ⟨A, c, e, hc, hr.below hB hb⟩

/-- A range's cells; flags'; numbers'. -/
def rgc (r : Int × Int) : List Value := [.int .i64 r.1, .int .i64 r.2]
def rgcs (l : List (Int × Int)) : List Value := l.flatMap rgc
def bls (l : List Bool) : List Value := l.map Value.bool
def ins (l : List Int) : List Value := l.map (Value.int .i64)
theorem rgcs_length (l : List (Int × Int)) : (rgcs l).length = l.length * 2 := by
  induction l with
  | nil => rfl
  | cons e r ih => simp only [rgcs, List.flatMap_cons, List.length_append, List.length_cons] at ih ⊢; simp only [rgc, List.length_cons, List.length_nil]; omega
theorem rgcs_at {l : List (Int × Int)} : ∀ {k : Nat} {e : Int × Int}, l[k]? = some e → (rgcs l)[k * 2]? = some (.int .i64 e.1) ∧ (rgcs l)[k * 2 + 1]? = some (.int .i64 e.2) := by
  induction l with
  | nil => intro k e h; simp at h
  | cons x r ih =>
    intro k e h
    cases k with
    | zero => simp only [List.getElem?_cons_zero, Option.some.injEq] at h; subst h; exact ⟨rfl, rfl⟩
    | succ k =>
      simp only [List.getElem?_cons_succ] at h
      have := ih h
      have e1 : rgcs (x :: r) = rgc x ++ rgcs r := rfl
      have e2 : (rgc x).length = 2 := rfl
      rw [e1]
      refine ⟨?_, ?_⟩
      · rw [List.getElem?_append_right (by omega), e2, ← this.1]; congr 1; omega
      · rw [List.getElem?_append_right (by omega), e2, ← this.2]; congr 1; omega
theorem Rd.rg {w : World} {A : Option Addr} {l : List (Int × Int)} {n : Nat} (h : Rd w 2 A n (rgcs l)) {k : Nat} {e : Int × Int} (hk : l[k]? = some e) :
    ∃ b o, A = some ⟨b, o, none⟩ ∧ b < w.heap.size ∧ w.cell? ⟨b, o + k * 2, none⟩ = some (.int .i64 e.1) ∧ w.cell? ⟨b, o + k * 2 + 1, none⟩ = some (.int .i64 e.2) := by
  have hl : k < l.length := (List.getElem?_eq_some_iff.1 hk).1
  have h1 := h.1
  rw [rgcs_length] at h1
  obtain ⟨b, o, e, hlt, hc⟩ := h.2 (by omega)
  obtain ⟨a1, a2⟩ := rgcs_at hk
  exact ⟨b, o, e, hlt, hc _ _ a1, by have := hc _ _ a2; rwa [← Nat.add_assoc] at this⟩
theorem Rd.bl {w : World} {A : Option Addr} {l : List Bool} {n : Nat} (h : Rd w 1 A n (bls l)) {k : Nat} {e : Bool} (hk : l[k]? = some e) :
    ∃ b o, A = some ⟨b, o, none⟩ ∧ b < w.heap.size ∧ w.cell? ⟨b, o + k, none⟩ = some (.bool e) := by
  have hl : k < l.length := (List.getElem?_eq_some_iff.1 hk).1
  have h1 := h.1
  simp only [bls, List.length_map, Nat.mul_one] at h1
  obtain ⟨b, o, e, hlt, hc⟩ := h.2 (by omega)
  exact ⟨b, o, e, hlt, hc _ _ (by simp [bls, hk])⟩
theorem Rd.nu {w : World} {A : Option Addr} {l : List Int} {n : Nat} (h : Rd w 1 A n (ins l)) {k : Nat} {e : Int} (hk : l[k]? = some e) :
    ∃ b o, A = some ⟨b, o, none⟩ ∧ b < w.heap.size ∧ w.cell? ⟨b, o + k, none⟩ = some (.int .i64 e) := by
  have hl : k < l.length := (List.getElem?_eq_some_iff.1 hk).1
  have h1 := h.1
  simp only [ins, List.length_map, Nat.mul_one] at h1
  obtain ⟨b, o, e, hlt, hc⟩ := h.2 (by omega)
  exact ⟨b, o, e, hlt, hc _ _ (by simp [ins, hk])⟩
theorem below_drewN {B : Nat} {a w : World} (h : Below B a w) (n : Nat) : Below B a (w.drewN n) := ⟨h.os, h.tape, h.output, h.size, h.block⟩
theorem ret_int {k : IntKind} {a b : Int} (h : a = b) : Ending.returned (.int k a) = .returned (.int k b) := by rw [h]
theorem ret_bool {a b : Bool} (h : a = b) : Ending.returned (.bool a) = .returned (.bool b) := by rw [h]

/-- A box: a block of one cell. -/
def Bx (w : World) (b : Nat) (T : TypeId) (v : Value) : Prop := w.heap[b]? = some (.cells #[v] T (0, 0))
theorem Bx.cell {w : World} {b : Nat} {T : TypeId} {v : Value} (h : Bx w b T v) : w.cell? ⟨b, 0, none⟩ = some v := by unfold Bx at h; simp [World.cell?, h]
theorem Bx.frozen {w : World} {b : Nat} {T : TypeId} {v : Value} (h : Bx w b T v) : w.frozen? ⟨b, 0, none⟩ = false := by unfold Bx at h; simp [World.frozen?, h]
theorem Bx.lt {w : World} {b : Nat} {T : TypeId} {v : Value} (h : Bx w b T v) : b < w.heap.size := (Array.getElem?_eq_some_iff.1 h).1
theorem Bx.set {w : World} {b : Nat} {T : TypeId} {v : Value} (h : Bx w b T v) (u : Value) : Bx (w.setCell ⟨b, 0, none⟩ u) b T u := by
  unfold Bx at h ⊢
  simp [World.setCell, Array.getElem?_modify, h]
theorem Bx.new (w : World) (T : TypeId) (v : Value) : Bx (w.alloc (.cells #[v] T)) w.heap.size T v := heap_alloc_new w _
theorem Bx.below {w w' : World} {b B : Nat} {T : TypeId} {v : Value} (h : Bx w b T v) (hb : Below B w w') (hB : b < B) : Bx w' b T v := (hb.block b hB).trans h
theorem Bx.same {w w' : World} {b : Nat} {T : TypeId} {v : Value} (h : Bx w b T v) (e : w'.heap[b]? = w.heap[b]?) : Bx w' b T v := e.trans h

theorem grownBy_set (w : World) (b : Nat) (u : Value) : w.grownBy (w.setCell ⟨b, 0, none⟩ u) (some b) :=
  ⟨rfl, rfl, rfl, by simp [World.setCell], fun k _ hk => Below.heap_setCell _ _ _ _ (fun e => hk (by rw [e]))⟩

/-- What a call that collects leaves: a slice of its own. -/
def SlOwn (w w' : World) (e : TypeId) (sz : Nat) (v : Value) (n : Nat) (xs : List Value) : Prop := w'.ownsRow w.heap.size e sz v n xs ∧ Below w.heap.size w w'

/-- A box that holds a slice of the call's own, which has been collected so far. -/
def Coll (W : World) (Bl : Nat) (Tl base : Nat) (e : TypeId) (sz n : Nat) (xs : List Value) : Prop := ∃ v, Bx W Bl Tl v ∧ W.ownsRow base e sz v n xs

theorem own_base {W : World} {base b' : Nat} {e : TypeId} {sz n : Nat} {v : Value} {xs : List Value} (h : W.ownsRow base e sz v n xs) (hb : b' ≤ base) : W.ownsRow b' e sz v n xs := by
  refine ⟨h.1, ?_⟩
  rcases h.2 with h2 | ⟨g, cap, cur, hv, hg, r⟩
  · exact .inl h2
  · exact .inr ⟨g, cap, cur, hv, Nat.le_trans hb hg, r⟩
theorem own_ne {W : World} {base : Nat} {e : TypeId} {sz n : Nat} {v : Value} {xs : List Value} (h : W.ownsRow base e sz v n xs) {j : Nat} (hj : j < base) : v.ownBlock ≠ some j := by
  intro e'
  have := (h.lt j e').1
  omega
theorem own_ne_obj {W : World} {base : Nat} {e : TypeId} {sz n : Nat} {v : Value} {xs : List Value} (h : W.ownsRow base e sz v n xs) {j : Nat} {o : Obj} (hj : W.heap[j]? = some o) (ho : o.isCells = false) : v.ownBlock ≠ some j := by
  intro e'
  rcases h.2 with ⟨rfl, _⟩ | ⟨g, cap, cur, rfl, _, hg, _⟩
  · simp [Value.ownBlock] at e'
  · simp only [Value.ownBlock, Option.some.injEq] at e'
    subst e'
    rw [hg] at hj; cases hj; cases ho
theorem Bx.ne_obj {w : World} {b : Nat} {T : TypeId} {v : Value} (h : Bx w b T v) {j : Nat} {o : Obj} (hj : w.heap[j]? = some o) (ho : o.isCells = false) : b ≠ j := by
  rintro rfl
  unfold Bx at h; rw [h] at hj; cases hj; cases ho

section
variable {W W' : World} {Bl Tl base : Nat} {e : TypeId} {sz n : Nat} {xs : List Value}
theorem Coll.grown (h : Coll W Bl Tl base e sz n xs) {k : Nat} (hg : W.grownBy W' (some k)) (h1 : k ≠ Bl) (h2 : k < base) : Coll W' Bl Tl base e sz n xs := by
  obtain ⟨v, hb, ho⟩ := h
  exact ⟨v, (hg.block Bl hb.lt (fun e => h1 (by injection e with e; exact e.symm))).trans hb, ho.kept hg (.inr (own_ne ho h2))⟩
theorem Coll.put (h : Coll W Bl Tl base e sz n xs) {l : Nat} {o : Obj} (o' : Obj) (hl : W.heap[l]? = some o) (ho : o.isCells = false) : Coll (W.putObj l o') Bl Tl base e sz n xs := by
  obtain ⟨v, hb, hr⟩ := h
  exact ⟨v, (World.putObj_heap_other (hb.ne_obj hl ho)).trans hb, hr.kept (grownBy_putObj' W l o') (.inr (own_ne_obj hr hl ho))⟩
theorem below_put {w0 : World} (h : Below w0.heap.size w0 W) {l : Nat} (o' : Obj) (hl : w0.heap.size ≤ l) : Below w0.heap.size w0 (W.putObj l o') :=
  h.trans ⟨rfl, rfl, rfl, by simp, fun k hk => World.putObj_heap_other (by omega)⟩
theorem Coll.new (w : World) (Tl base : Nat) (e : TypeId) (sz : Nat) : Coll (w.alloc (.cells #[.slice none 0 0] Tl)) w.heap.size Tl base e sz 0 [] :=
  ⟨_, Bx.new _ _ _, World.ownsRow_nil _ _ _ _⟩
theorem Coll.alloc (h : Coll W Bl Tl base e sz n xs) (o : Obj) : Coll (W.alloc o) Bl Tl base e sz n xs := by
  obtain ⟨v, hb, ho⟩ := h
  exact ⟨v, (Below.heap_alloc W o Bl hb.lt).trans hb, ho.alloc o⟩
theorem Coll.below {B : Nat} (h : Coll W Bl Tl base e sz n xs) (hb : Below B W W') (h1 : Bl < B) (h2 : W.heap.size ≤ B) : Coll W' Bl Tl base e sz n xs := by
  obtain ⟨v, hx, ho⟩ := h
  refine ⟨v, hx.below hb h1, ho.kept (row := none) ⟨hb.os, hb.tape, hb.output, hb.size, fun k hk _ => hb.block k (by omega)⟩ ?_⟩
  rcases ho.2 with ⟨rfl, _⟩ | ⟨g, cap, cur, rfl, _⟩
  · exact .inl rfl
  · exact .inr (by simp [Value.ownBlock])
end

theorem coll_app {W w1 : World} {Bl Tl base : Nat} {e : TypeId} {sz n : Nat} {v : Value} {xs : List Value} {o : Obj} (hv : Bx W Bl Tl v) (hrow : W.ownsRow base e sz v n xs) (hBl : Bl < base)
    (hgrow : (W.alloc o).grownBy w1 v.ownBlock) : Bx w1 Bl Tl v := by
  have h1 : Bx (W.alloc o) Bl Tl v := (Below.heap_alloc W o Bl hv.lt).trans hv
  exact (hgrow.block Bl h1.lt (fun e => own_ne hrow hBl e.symm)).trans h1

theorem coll_end {w W w1 : World} {B Bl Tl base : Nat} {e : TypeId} {sz n m : Nat} {v v' : Value} {xs ys : List Value} {o : Obj} (hv : Bx W Bl Tl v) (hrow : W.ownsRow base e sz v n xs) (hBl : Bl < base) (hw : w.heap.size ≤ Bl) (hsz : base ≤ W.heap.size)
    (hB : Below w.heap.size w W) (hgrow : (W.alloc o).grownBy w1 v.ownBlock) (hown' : w1.ownsRow base e sz v' m ys) :
    KeepsFrom B W (w1.setCell ⟨Bl, 0, none⟩ v') ∧ (Coll (w1.setCell ⟨Bl, 0, none⟩ v') Bl Tl base e sz m ys ∧ Below w.heap.size w (w1.setCell ⟨Bl, 0, none⟩ v') ∧ base ≤ (w1.setCell ⟨Bl, 0, none⟩ v').heap.size) ∧
    ∀ k, k < base → k ≠ Bl → (w1.setCell ⟨Bl, 0, none⟩ v').heap[k]? = W.heap[k]? := by
  have hv1 := coll_app hv hrow hBl hgrow
  have hg := grownBy_set w1 Bl v'
  have hs1 : W.heap.size + 1 ≤ w1.heap.size := by have := hgrow.size; simpa using this
  have hs2 : (w1.setCell ⟨Bl, 0, none⟩ v').heap.size = w1.heap.size := by simp [World.setCell]
  refine ⟨?_, ⟨⟨v', hv1.set v', hown'.kept hg (.inr (own_ne hown' hBl))⟩, ?_, by omega⟩, fun k hk hne => ?_⟩
  · refine (((KeepsOthers.alloc W o).trans (KeepsOthers.of_grownBy hgrow (fun j o' hj ho' => ?_))).trans (KeepsOthers.setCell _ _ _)).from B
    rcases (hrow.alloc o).2 with ⟨rfl, _⟩ | ⟨g, cap, cur, rfl, _, hg', _⟩
    · simp [Value.ownBlock] at hj
    · simp only [Value.ownBlock, Option.some.injEq] at hj
      subst hj
      rw [hg'] at ho'; cases ho'; rfl
  · exact ((hB.alloc hB.size o).grown hgrow (by have := hB.size; simp; omega) (fun k hk => by have := (hrow.lt k hk).1; omega)).setCell (p := ⟨Bl, 0, none⟩) hw _
  · rw [hg.block k (by omega) (fun e => hne (by injection e)), hgrow.block k (by simp; omega) (fun e => own_ne hrow hk e.symm)]
    exact Below.heap_alloc W o k (by omega)

/-- What lies in the blocks below N stays. -/
def Keep (N : Nat) (a b : World) : Prop := a.heap.size ≤ b.heap.size ∧ ∀ k, k < N → b.heap[k]? = a.heap[k]?
theorem Keep.refl (N : Nat) (a : World) : Keep N a a := ⟨Nat.le_refl _, fun _ _ => rfl⟩
theorem Keep.trans {N : Nat} {a b c : World} (h : Keep N a b) (g : Keep N b c) : Keep N a c := ⟨Nat.le_trans h.1 g.1, fun k hk => (g.2 k hk).trans (h.2 k hk)⟩
theorem Keep.below {N M : Nat} {a b : World} (h : Below M a b) (hN : N ≤ M) : Keep N a b := ⟨h.size, fun k hk => h.block k (by omega)⟩
theorem Keep.mono {N M : Nat} {a b : World} (h : Keep M a b) (hN : N ≤ M) : Keep N a b := ⟨h.1, fun k hk => h.2 k (by omega)⟩
theorem cell_same {a b : World} {p : Addr} (h : b.heap[p.block]? = a.heap[p.block]?) : b.cell? p = a.cell? p := by unfold World.cell?; rw [h]
theorem Rd.keep {w w' : World} {sz n : Nat} {A : Option Addr} {xs : List Value} (h : Rd w sz A n xs) (g : Keep w.heap.size w w') : Rd w' sz A n xs :=
  ⟨h.1, fun hn => by
    obtain ⟨b, o, e, hlt, hc⟩ := h.2 hn
    exact ⟨b, o, e, Nat.lt_of_lt_of_le hlt g.1, fun j u hu => (cell_same (p := ⟨b, o + j, none⟩) (g.2 b hlt)).trans (hc j u hu)⟩⟩
theorem Bx.keep {w w' : World} {b N : Nat} {T : TypeId} {v : Value} (h : Bx w b T v) (g : Keep N w w') (hb : b < N) : Bx w' b T v := (g.2 b hb).trans h

theorem own_form {W : World} {base : Nat} {e : TypeId} {sz n : Nat} {v : Value} {xs : List Value} (h : W.ownsRow base e sz v n xs) : ∃ A c, v = .slice A n c ∧ n ≤ c ∧ Rd W sz A n xs := by
  rcases h.2 with ⟨rfl, rfl⟩ | ⟨g, cap, cur, rfl, hg, hh, hnc, _⟩
  · exact ⟨none, 0, rfl, Nat.le_refl _, Rd.of_own h⟩
  · exact ⟨_, cap, rfl, hnc, Rd.of_own h⟩
theorem own_later {W W' : World} {base : Nat} {e : TypeId} {sz n : Nat} {v : Value} {xs : List Value} (h : W.ownsRow base e sz v n xs) (hb : Below W.heap.size W W') : W'.ownsRow base e sz v n xs := by
  refine h.kept (row := none) ⟨hb.os, hb.tape, hb.output, hb.size, fun k hk _ => hb.block k hk⟩ ?_
  rcases h.2 with ⟨rfl, _⟩ | ⟨g, cap, cur, rfl, _⟩
  · exact .inl rfl
  · exact .inr (by simp [Value.ownBlock])

def bs (x : List UInt8) : ByteArray := ⟨x.toArray⟩
theorem bs_data (x : List UInt8) : (bs x).data.toList = x := by simp [bs]
theorem bs_toList (x : List UInt8) : (bs x).toList = x := by rw [Lib.toList_data, bs_data]
theorem bs_of (s : ByteArray) : bs s.data.toList = s := Lib.mk_data s
theorem bs_size (x : List UInt8) : (bs x).size = x.length := by rw [Lib.size_eq, bs_data]
theorem bs_cat (x y : List UInt8) : bs x ++ bs y = bs (x ++ y) := by
  apply ByteArray.ext
  simp [bs]

end Go.Proofs.YtffjblamfbmoeaaGreatDoor

/-! Texts' characters, and their tokens, in plain Lean (what phys and scan compute). -/
set_option linter.unusedVariables false
set_option linter.unusedSimpArgs false
namespace Go.Proofs.YtffjblamfbmoeaaGreatDoor
namespace Tp
open Go
abbrev T := List UInt8

/-! ### Characters -/
/-- What a trigraph's third character makes of it. -/
def third (c : UInt8) : Option UInt8 :=
  if c = 61 then some 35 else if c = 47 then some 92 else if c = 39 then some 94 else if c = 40 then some 91 else if c = 41 then some 93
  else if c = 33 then some 124 else if c = 60 then some 123 else if c = 62 then some 125 else if c = 45 then some 126 else none
/-- The byte at a place. -/
def g (t : T) (a : Nat) : UInt8 := t.getD a 0
/-- A part's byte ahead of the splices, and how long it is. -/
def tri (t : T) (a : Nat) : UInt8 × Nat :=
  if a + 2 < t.length ∧ g t a = 63 ∧ g t (a + 1) = 63 then match third (g t (a + 2)) with
    | some c => (c, 3)
    | none => (g t a, 1)
  else (g t a, 1)
/-- A part: its byte, its place, its length, is it a splice? -/
structure Part where
  b : UInt8
  at_ : Nat
  len : Nat
  sp : Bool
deriving DecidableEq
def part (t : T) (a : Nat) : Part :=
  if (tri t a).1 = 92 ∧ a + (tri t a).2 < t.length ∧ g t (a + (tri t a).2) = 10 then ⟨0, a, (tri t a).2 + 1, true⟩ else ⟨(tri t a).1, a, (tri t a).2, false⟩
theorem tri_pos (t : T) (a : Nat) : 1 ≤ (tri t a).2 ∧ (tri t a).2 ≤ 3 := by
  unfold tri; split
  · split <;> simp
  · simp
theorem part_pos (t : T) (a : Nat) : 1 ≤ (part t a).len ∧ (part t a).len ≤ 4 := by
  have := tri_pos t a
  unfold part; split <;> simp only <;> omega
theorem part_at (t : T) (a : Nat) : (part t a).at_ = a := by unfold part; split <;> rfl
theorem part_end {t : T} {a : Nat} (h : a < t.length) : a + (part t a).len ≤ t.length := by
  unfold part
  split
  · next h2 => simp only; omega
  · simp only
    unfold tri
    split
    · next h3 => split <;> simp only <;> omega
    · simp only; omega
/-- The parts from a place on. -/
def partsF (t : T) : Nat → Nat → List Part
  | 0, _ => []
  | n + 1, a => if a < t.length then part t a :: partsF t n (a + (part t a).len) else []
def parts (t : T) (a : Nat) : List Part := partsF t (t.length - a) a
theorem partsF_ge (t : T) : ∀ (n m a : Nat), t.length - a ≤ n → t.length - a ≤ m → partsF t n a = partsF t m a := by
  intro n
  induction n with
  | zero =>
    intro m a h1 h2
    cases m with
    | zero => rfl
    | succ m => rw [partsF, partsF, if_neg (by omega)]
  | succ n ih =>
    intro m a h1 h2
    cases m with
    | zero => rw [partsF, partsF, if_neg (by omega)]
    | succ m =>
      rw [partsF, partsF]
      split
      · have := part_pos t a
        rw [ih m _ (by omega) (by omega)]
      · rfl
theorem parts_end {t : T} {a : Nat} (h : ¬ a < t.length) : parts t a = [] := by
  unfold parts; rw [show t.length - a = 0 by omega]; rfl
theorem parts_cons {t : T} {a : Nat} (h : a < t.length) : parts t a = part t a :: parts t (a + (part t a).len) := by
  unfold parts
  obtain ⟨m, hm⟩ : ∃ m, t.length - a = m + 1 := ⟨t.length - a - 1, by omega⟩
  have := part_pos t a
  rw [hm, partsF, if_pos h, partsF_ge t m (t.length - (a + (part t a).len)) _ (by omega) (Nat.le_refl _)]
theorem parts_len : ∀ (n : Nat) (t : T) (a : Nat), t.length - a ≤ n → (parts t a).length ≤ n := by
  intro n
  induction n with
  | zero => intro t a h; rw [parts_end (by omega)]; simp
  | succ n ih =>
    intro t a h
    by_cases hl : a < t.length
    · rw [parts_cons hl, List.length_cons]
      have := part_pos t a
      have := ih t (a + (part t a).len) (by omega)
      omega
    · rw [parts_end hl]; simp
/-- Does a text end well? -/
def chk (t : T) : Int := if 65536 < t.length then 3 else match (parts t 0).getLast? with
  | none => 0
  | some p => if p.sp = true ∨ p.b ≠ 10 then 10 else 0
/-- The characters. -/
def chars (t : T) : List Part := (parts t 0).filter fun p => !p.sp
/-- The logical text. -/
def logic (t : T) : T := (chars t).map (·.b)

/-! ### Tokens -/
def white (c : UInt8) : Bool := c == 32 || (c == 9 || (c == 11 || c == 12))
def letter (c : UInt8) : Bool := (97 ≤ c && c ≤ 122) || ((65 ≤ c && c ≤ 90) || c == 95)
def digit (c : UInt8) : Bool := 48 ≤ c && c ≤ 57
/-- How many bytes a header has whose closing sign is given: behind its first byte. -/
def hdLen (c : UInt8) : T → Nat
  | [] => 0
  | x :: r => if x = 10 then 0 else if x = c then 1 else match hdLen c r with
    | 0 => 0
    | n + 1 => n + 2
def headerEnd (l : T) (a : Nat) : Nat :=
  let c := g l a
  if c = 60 then (match hdLen 62 (l.drop (a + 1)) with | 0 => 0 | n + 1 => a + 1 + (n + 1))
  else if c = 34 then (match hdLen 34 (l.drop (a + 1)) with | 0 => 0 | n + 1 => a + 1 + (n + 1))
  else 0
def wdLen : T → Nat
  | [] => 0
  | c :: r => if letter c || digit c then wdLen r + 1 else 0
def wordEnd (l : T) (a : Nat) : Nat := if letter (g l a) then a + 1 + wdLen (l.drop (a + 1)) else 0
def isExp (c : UInt8) : Bool := c == 101 || (c == 69 || (c == 112 || c == 80))
def sign (c : UInt8) : Bool := c == 43 || c == 45
def nmLen : T → Nat
  | [] => 0
  | [c] => if digit c || (letter c || c == 46) then 1 else 0
  | c :: d :: r => if isExp c && sign d then nmLen r + 2 else if digit c || (letter c || c == 46) then nmLen (d :: r) + 1 else 0
def numberEnd (l : T) (a : Nat) : Nat :=
  let i := if g l a = 46 then a + 1 else a
  if i < l.length ∧ digit (g l i) = true then i + 1 + nmLen (l.drop (i + 1)) else 0
/-- How many bytes a quoted text has behind its opening sign; 0: it doesn't end. -/
def qtLen (q : UInt8) : T → Nat
  | [] => 0
  | [x] => if x = 10 then 0 else if x = q then 1 else 0
  | x :: y :: r => if x = 10 then 0 else if x = q then 1 else if x = 92 then (if y = 10 then 0 else match qtLen q r with | 0 => 0 | n + 1 => n + 3)
    else match qtLen q (y :: r) with | 0 => 0 | n + 1 => n + 2
def quoted (l : T) (a : Nat) : Nat × Nat :=
  let i := if [117, 56, 34].isPrefixOf (l.drop a) = true then a + 2 else if g l a = 117 ∨ g l a = 85 ∨ g l a = 76 then a + 1 else a
  if i < l.length ∧ (g l i = 39 ∨ g l i = 34) then
    match qtLen (g l i) (l.drop (i + 1)) with
    | 0 => (0, 0)
    | n + 1 => if g l i = 34 then (4, i + 1 + (n + 1)) else if n = 0 then (0, 0) else (3, i + 1 + (n + 1))
  else (0, 0)
def puncts : List T := [[91], [93], [40], [41], [123], [125], [46], [45, 62], [43, 43], [45, 45], [38], [42], [43], [45], [126], [33],
  [47], [37], [60, 60], [62, 62], [60], [62], [60, 61], [62, 61], [61, 61], [33, 61], [94], [124], [38, 38], [124, 124],
  [63], [58], [59], [46, 46, 46], [61], [42, 61], [47, 61], [37, 61], [43, 61], [45, 61], [60, 60, 61], [62, 62, 61], [38, 61], [94, 61], [124, 61],
  [44], [35], [35, 35], [60, 58], [58, 62], [60, 37], [37, 62], [37, 58], [37, 58, 37, 58]]
def punct (t : T) : Bool := decide (t ∈ puncts)
def puLen (l : T) (a : Nat) : Nat → Nat
  | 0 => 0
  | n + 1 => if punct ((l.drop a).take (n + 1)) then n + 1 else puLen l a n
def punctEnd (l : T) (a : Nat) : Nat := match puLen l a (min 4 (l.length - a)) with | 0 => 0 | n + 1 => a + (n + 1)
/-- A token: its kind and its place. -/
structure It where
  k : Nat
  f : Nat
  t : Nat
deriving DecidableEq
def best (b c : It) : It := if b.t < c.t then c else b
def longest (l : T) (a : Nat) : It × Int :=
  if g l a = 10 then (⟨9, a, a + 1⟩, 0) else
  let b := best (best (best (best ⟨0, a, a⟩ ⟨(quoted l a).1, a, (quoted l a).2⟩) ⟨1, a, wordEnd l a⟩) ⟨2, a, numberEnd l a⟩) ⟨5, a, punctEnd l a⟩
  if b.k ≠ 0 then (b, 0) else if g l a = 39 ∨ g l a = 34 then (⟨0, 0, 0⟩, 21) else (⟨6, a, a + 1⟩, 0)
/-- Behind how many bytes a comment's end begins; none: it doesn't end. -/
def cmLen : T → Option Nat
  | [] => none
  | [_] => none
  | x :: y :: r => if x = 42 ∧ y = 47 then some 0 else (cmLen (y :: r)).map (· + 1)
def lnLen : T → Nat
  | [] => 0
  | x :: r => if x = 10 then 0 else lnLen r + 1
def itemAt (l : T) (a : Nat) (h : Bool) : It × Int :=
  if h = true ∧ 0 < headerEnd l a then (⟨7, a, headerEnd l a⟩, 0)
  else if [47, 42].isPrefixOf (l.drop a) = true then match cmLen (l.drop (a + 2)) with
    | none => (⟨0, 0, 0⟩, 20)
    | some n => (⟨8, a, a + 2 + n + 2⟩, 0)
  else if [47, 47].isPrefixOf (l.drop a) = true then (⟨8, a, a + lnLen (l.drop a)⟩, 0)
  else longest l a
def after (s k : Nat) (x : T) : Nat :=
  if k = 8 then s else if k = 9 then 0 else if s = 0 ∧ k = 5 ∧ (x = [35] ∨ x = [37, 58]) then 1 else if s = 1 ∧ k = 1 ∧ x = [105, 110, 99, 108, 117, 100, 101] then 2 else 3
/-- The tokens from a place on (fuel: a text's length serves), and the error that ends them. -/
def items (l : T) : Nat → Nat → Nat → List (It × Int)
  | 0, _, _ => []
  | n + 1, a, s => if a < l.length then
      if white (g l a) then items l n (a + 1) s
      else let x := itemAt l a (s == 2)
        if x.2 ≠ 0 then [x] else x :: items l n x.1.t (after s x.1.k ((l.take x.1.t).drop x.1.f))
    else []
/-- A token of a text. -/
structure Tok where
  k : Nat
  x : T
  a : Nat
  e : Nat
  s : Bool
deriving DecidableEq
def tok (cs : List Part) (l : T) (behind : Nat) (i : It) : Tok :=
  let c := cs.getD i.f ⟨0, 0, 0, false⟩
  let d := cs.getD (i.t - 1) ⟨0, 0, 0, false⟩
  ⟨i.k, (l.take i.t).drop i.f, c.at_, d.at_ + d.len, decide (behind < i.f)⟩
def toks (cs : List Part) (l : T) : Nat → List (It × Int) → List Tok × Int
  | _, [] => ([], 0)
  | b, (i, e) :: r => if e ≠ 0 then ([], e) else
    let x := toks cs l i.t r
    if x.2 ≠ 0 then ([], x.2) else (tok cs l b i :: x.1, 0)
def scan (t : T) : List Tok × Int :=
  if chk t ≠ 0 then ([], chk t) else toks (chars t) (logic t) 0 (items (logic t) ((logic t).length + 1) 0 0)
def bareGo : Bool → List Tok → List Tok
  | _, [] => []
  | d, t :: r => if t.k = 8 ∨ t.k = 9 then bareGo true r else { t with s := t.s || d } :: bareGo false r
def bare (l : List Tok) : List Tok := bareGo false l

/-! ### Rows -/
def piecesGo : List Tok → List Tok → List (List Tok)
  | acc, [] => if acc = [] then [] else [acc]
  | acc, t :: r => if t.k = 9 then (acc ++ [t]) :: piecesGo [] r else piecesGo (acc ++ [t]) r
def pieces (l : List Tok) : List (List Tok) := piecesGo [] l
def dirGo : Bool → List Tok → T × Bool
  | m, [] => ([], m)
  | m, t :: r => if t.k = 8 ∨ t.k = 9 then dirGo m r
    else if m = false then (if t.k = 5 ∧ (t.x = [35] ∨ t.x = [37, 58]) then dirGo true r else ([], false))
    else if t.k = 1 then (t.x, true) else ([], true)
def dir (l : List Tok) : T × Bool := dirGo false l
structure Row where
  d : Bool
  n : T
  l : List Tok
deriving DecidableEq
/-- The last row is a run that goes on? -/
def rowsGo : List Row → Bool → List (List Tok) → List Row
  | rs, _, [] => rs
  | rs, run, p :: ps => if (dir p).2 = false ∧ run = true then rowsGo (rs.dropLast ++ [{ (rs.getLastD ⟨false, [], []⟩) with l := (rs.getLastD ⟨false, [], []⟩).l ++ p }]) true ps
    else rowsGo (rs ++ [⟨(dir p).2, (dir p).1, p⟩]) (!(dir p).2) ps
def rows (l : List Tok) : List Row := rowsGo [] false (pieces l)
def says (r : Row) : List Tok := if r.d = false then bare r.l else (bare r.l).drop (min (if r.n = [] then 1 else 2) (bare r.l).length)

/-! ### The chapter's example -/
def exT : T := [35, 100, 101, 102, 105, 110, 101, 32, 88, 32, 49, 10, 88, 32, 95, 95, 76, 73, 78, 69, 95, 95, 10]
theorem ex_scan : (scan exT).2 = 0 ∧ (scan exT).1.map (fun t => (t.k, t.x, t.s)) = [(5, [35], false), (1, [100, 101, 102, 105, 110, 101], false), (1, [88], true), (2, [49], true), (9, [10], false), (1, [88], false), (1, [95, 95, 76, 73, 78, 69, 95, 95], true), (9, [10], false)] := ⟨by kernel_rfl, by kernel_rfl⟩
theorem ex_rows : (rows (scan exT).1).map (fun r => (r.d, r.n, (says r).map (fun t => (t.k, t.x, t.s)))) = [(true, [100, 101, 102, 105, 110, 101], [(1, [88], true), (2, [49], true)]), (false, [], [(1, [88], false), (1, [95, 95, 76, 73, 78, 69, 95, 95], true)])] := by kernel_rfl
end Tp
end Go.Proofs.YtffjblamfbmoeaaGreatDoor

/-! Macros, in plain Lean (what macro computes). -/
set_option linter.unusedVariables false
set_option linter.unusedSimpArgs false
namespace Go.Proofs.YtffjblamfbmoeaaGreatDoor
namespace Tp
open Go

/-! ### A logical text, spelt -/
def parted (l : T) (i : Nat) : Bool :=
  (decide (i + 1 < l.length) && (g l i == 92 && g l (i + 1) == 10)) ||
  (decide (i + 2 < l.length) && (g l i == 63 && (g l (i + 1) == 63 && (third (g l (i + 2))).isSome)))
theorem parted_eq (l : T) (i : Nat) : parted l i = if i + 1 < l.length ∧ g l i = 92 ∧ g l (i + 1) = 10 then true else if i + 2 < l.length ∧ g l i = 63 ∧ g l (i + 1) = 63 then (third (g l (i + 2))).isSome else false := by
  unfold parted
  by_cases h1 : i + 1 < l.length ∧ g l i = 92 ∧ g l (i + 1) = 10
  · rw [if_pos h1]; simp [h1.1, h1.2.1, h1.2.2]
  · rw [if_neg h1]
    have e : (decide (i + 1 < l.length) && (g l i == 92 && g l (i + 1) == 10)) = false := by
      by_cases a : i + 1 < l.length
      · by_cases b : g l i = 92
        · have c : ¬ g l (i + 1) = 10 := fun c => h1 ⟨a, b, c⟩
          simp [c]
        · simp [b]
      · simp [a]
    rw [e, Bool.false_or]
    by_cases h2 : i + 2 < l.length ∧ g l i = 63 ∧ g l (i + 1) = 63
    · rw [if_pos h2]; simp [h2.1, h2.2.1, h2.2.2]
    · rw [if_neg h2]
      by_cases a : i + 2 < l.length
      · by_cases b : g l i = 63
        · have c : ¬ g l (i + 1) = 63 := fun c => h2 ⟨a, b, c⟩
          simp [c]
        · simp [b]
      · simp [a]
def spGo (l : T) (n : Nat) : T := (List.range n).flatMap fun i => g l i :: if parted l i then [92, 10] else []
theorem spGo_succ (l : T) (n : Nat) : spGo l (n + 1) = spGo l n ++ (g l n :: if parted l n then [92, 10] else []) := by simp [spGo, List.range_succ, List.flatMap_append]
def spell (l : T) : T × Int :=
  if 65536 < l.length then ([], 3) else if l ≠ [] ∧ g l (l.length - 1) ≠ 10 then ([], 10)
  else if 65536 < (spGo l l.length).length then ([], 3) else (spGo l l.length, 0)

/-! ### Macros -/
structure PTok where
  k : Nat
  x : T
  s : Bool
  ps : List T
deriving DecidableEq
structure Mac where
  n : T
  f : Bool
  ps : List T
  v : Bool
  b : List PTok
deriving DecidableEq
def of (l : List Tok) : List PTok := l.map fun t => ⟨t.k, t.x, t.s, []⟩
def isP (t : Tok) (l : List T) : Bool := t.k == 5 && decide (t.x ∈ l)
def vaT : T := [95, 95, 86, 65, 95, 65, 82, 71, 83, 95, 95]
def lineN : T := [95, 95, 76, 73, 78, 69, 95, 95]
def definedN : T := [100, 101, 102, 105, 110, 101, 100]
def pragmaN : T := [95, 80, 114, 97, 103, 109, 97]
def reserved (x : T) : Bool := decide (x ∈ [definedN, vaT, lineN, pragmaN])
/-- The parameters: from a place on (fuel), with those that are there; the macro's, is it variadic, how many tokens; none: it may not be. -/
def pmGo (l : List Tok) : Nat → Nat → List T → Option (List T × Bool × Nat)
  | 0, _, _ => none
  | n + 1, i, ps => match l[i]?, l[i + 1]? with
    | some t, some u =>
      if isP t [[46, 46, 46]] then (if isP u [[41]] then some (ps, true, i + 2) else none)
      else if t.k ≠ 1 ∨ t.x = vaT ∨ t.x ∈ ps then none
      else if isP u [[41]] then some (ps ++ [t.x], false, i + 2)
      else if isP u [[44]] then pmGo l n (i + 2) (ps ++ [t.x])
      else none
    | _, _ => none
def params (l : List Tok) : Option (List T × Bool × Nat) :=
  match l[1]? with
  | some u => if isP u [[41]] then some ([], false, 2) else pmGo l l.length 1 []
  | none => pmGo l l.length 1 []
def hh : List T := [[35, 35], [37, 58, 37, 58]]
def vdGo (f v : Bool) (ps : List T) : List Tok → Bool
  | [] => true
  | [t] => if t.k = 1 ∧ t.x = vaT ∧ v = false then false else if f && isP t [[35], [37, 58]] then false else true
  | t :: u :: r => if t.k = 1 ∧ t.x = vaT ∧ v = false then false
    else if f && (isP t [[35], [37, 58]] && !(u.k == 1 && decide (u.x ∈ vaT :: ps))) then false else vdGo f v ps (u :: r)
def valid (f v : Bool) (ps : List T) (l : List Tok) : Bool :=
  match l.head?, l.getLast? with
  | some a, some z => if isP a hh || isP z hh then false else vdGo f v ps l
  | _, _ => true
def bodyOf (l : List Tok) : List PTok := match of l with
  | [] => []
  | t :: r => { t with s := false } :: r
def define (l : List Tok) : Option Mac :=
  match l with
  | [] => none
  | a :: r => if a.k ≠ 1 ∨ reserved a.x = true then none else match r with
    | [] => some ⟨a.x, false, [], false, []⟩
    | b :: q => if b.s then (if valid false false [] (b :: q) then some ⟨a.x, false, [], false, bodyOf (b :: q)⟩ else none)
      else if isP b [[40]] then match params (b :: q) with
        | none => none
        | some (ps, v, n) => if valid true v ps ((b :: q).drop n) then some ⟨a.x, true, ps, v, bodyOf ((b :: q).drop n)⟩ else none
      else none
def commas : List T → T
  | [] => []
  | [a] => a
  | a :: b :: r => a ++ 44 :: commas (b :: r)
def bdGo : Bool → List PTok → T
  | _, [] => []
  | f, t :: r => (if f || t.s then [32] else []) ++ t.x ++ bdGo false r
def lineOf (m : Mac) : T :=
  [35, 100, 101, 102, 105, 110, 101, 32] ++ m.n ++
  (if m.f then 40 :: (commas m.ps ++ ((if m.v && !m.ps.isEmpty then [44] else []) ++ ((if m.v then [46, 46, 46] else []) ++ [41]))) else []) ++
  bdGo true m.b ++ [10]
def text (m : Mac) : T × Int :=
  let s := spell (lineOf m)
  if s.2 ≠ 0 then ([], 50) else
  let k := scan s.1
  if k.2 ≠ 0 then ([], 50) else match rows k.1 with
  | [r] => if define (says r) = some m then (s.1, 0) else ([], 50)
  | _ => ([], 50)

def exM : Mac := ⟨[88], false, [], false, [⟨2, [49], false, []⟩]⟩
theorem ex_define : ((rows (scan exT).1).head?.map fun r => define (says r)) = some (some exM) := by kernel_rfl
theorem ex_text : text exM = ([35, 100, 101, 102, 105, 110, 101, 32, 88, 32, 49, 10], 0) := by kernel_rfl

end Tp
end Go.Proofs.YtffjblamfbmoeaaGreatDoor
