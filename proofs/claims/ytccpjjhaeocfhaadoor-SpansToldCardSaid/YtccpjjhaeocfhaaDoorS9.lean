/- Walks: the program's own functions of lines; the iterator's make; what the iterator gives, collected. -/
import Derived.Test.YtccpjjhaeocfhaaDoorS8Or
import Derived.Test.YtccpjjhaeocfhaaDoorS8And
import Derived.Test.YtccpjjhaeocfhaaDoorS8Not
import Derived.Test.YtccpjjhaeocfhaaDoorS8Of
set_option linter.unusedVariables false
set_option linter.unusedSimpArgs false
namespace Go.Proofs.YtccpjjhaeocfhaaDoor
open Go Go.RowKit

set_option maxHeartbeats 400000 in
theorem Or1_any (b1 b2 : Nat) (A B : Option Addr) (N c M d : Nat) (F G : Nat → Bool) (i : Nat) (w : World) (x1 : Bx w b1 53 (.slice A N c)) (x2 : Bx w b2 53 (.slice B M d)) (r1 : Rd w 1 A N (bls (fl F N))) (r2 : Rd w 1 B M (bls (fl G M))) (h1 : i < N) (h2 : i < M) :
    Calls Tryd.prog 39 #[.int .i64 i, .pointer (some ⟨b1, 0, none⟩), .pointer (some ⟨b2, 0, none⟩)] w fun e w' => e = .returned (.bool (F i || G i)) ∧ w = w' := by
  have c1 := x1.cell
  have c2 := x2.cell
  obtain ⟨p1, o1, rfl, _, d1⟩ := r1.bl (fl_at F h1)
  obtain ⟨p2, o2, rfl, _, d2⟩ := r2.bl (fl_at G h2)
  cases hF : F i <;> cases hG : G i
  all_goals
    rw [hF] at d1
    rw [hG] at d2
    clear hF hG
    go_enter Tryd.func39, Tryd.ntmps39
    go_wp2
    go_ret
    exact ⟨rfl, rfl⟩
set_option maxHeartbeats 400000 in
theorem And1_any (b1 b2 : Nat) (A B : Option Addr) (N c M d : Nat) (F G : Nat → Bool) (i : Nat) (w : World) (x1 : Bx w b1 53 (.slice A N c)) (x2 : Bx w b2 53 (.slice B M d)) (r1 : Rd w 1 A N (bls (fl F N))) (r2 : Rd w 1 B M (bls (fl G M))) (h1 : i < N) (h2 : i < M) :
    Calls Tryd.prog 40 #[.int .i64 i, .pointer (some ⟨b1, 0, none⟩), .pointer (some ⟨b2, 0, none⟩)] w fun e w' => e = .returned (.bool (F i && G i)) ∧ w = w' := by
  have c1 := x1.cell
  have c2 := x2.cell
  obtain ⟨p1, o1, rfl, _, d1⟩ := r1.bl (fl_at F h1)
  obtain ⟨p2, o2, rfl, _, d2⟩ := r2.bl (fl_at G h2)
  cases hF : F i <;> cases hG : G i
  all_goals
    rw [hF] at d1
    rw [hG] at d2
    clear hF hG
    go_enter Tryd.func40, Tryd.ntmps40
    go_wp2
    go_ret
    exact ⟨rfl, rfl⟩
set_option maxHeartbeats 400000 in
theorem Not1_any (b1 : Nat) (A : Option Addr) (N c : Nat) (F : Nat → Bool) (i : Nat) (w : World) (x1 : Bx w b1 53 (.slice A N c)) (r1 : Rd w 1 A N (bls (fl F N))) (h1 : i < N) :
    Calls Tryd.prog 41 #[.int .i64 i, .pointer (some ⟨b1, 0, none⟩)] w fun e w' => e = .returned (.bool (!(F i))) ∧ w = w' := by
  have c1 := x1.cell
  obtain ⟨p1, o1, rfl, _, d1⟩ := r1.bl (fl_at F h1)
  cases hF : F i
  all_goals
    rw [hF] at d1
    clear hF
    go_enter Tryd.func41, Tryd.ntmps41
    go_wp2
    go_ret
    exact ⟨rfl, rfl⟩
set_option maxHeartbeats 400000 in
theorem Of1_any (b1 : Nat) (A : Option Addr) (N c : Nat) (F : Nat → Bool) (i : Nat) (w : World) (x1 : Bx w b1 53 (.slice A N c)) (r1 : Rd w 1 A N (bls (fl F N))) (h1 : i < N) :
    Calls Tryd.prog 37 #[.int .i64 i, .pointer (some ⟨b1, 0, none⟩)] w fun e w' => e = .returned (.bool (F i)) ∧ w = w' := by
  have c1 := x1.cell
  obtain ⟨p1, o1, rfl, _, d1⟩ := r1.bl (fl_at F h1)
  cases hF : F i
  all_goals
    rw [hF] at d1
    clear hF
    go_enter Tryd.func37, Tryd.ntmps37
    go_wp2
    go_ret
    exact ⟨rfl, rfl⟩

theorem Bx.keepN {w w' : World} {b : Nat} {T : TypeId} {v : Value} (h : Bx w b T v) (g : Keep w.heap.size w w') : Bx w' b T v := h.keep g h.lt

theorem says_Or {b1 b2 : Nat} {A B : Option Addr} {N c M d : Nat} {F G : Nat → Bool} {n : Nat} {w : World} (x1 : Bx w b1 53 (.slice A N c)) (x2 : Bx w b2 53 (.slice B M d)) (r1 : Rd w 1 A N (bls (fl F N))) (r2 : Rd w 1 B M (bls (fl G M))) (h1 : n ≤ N) (h2 : n ≤ M) :
    Says 39 #[.pointer (some ⟨b1, 0, none⟩), .pointer (some ⟨b2, 0, none⟩)] (fun i => F i || G i) n w.heap.size w :=
  fun W' hk i hi => Or1_any b1 b2 A B N c M d F G i W' (x1.keepN hk) (x2.keepN hk) (r1.keep hk) (r2.keep hk) (by omega) (by omega)
theorem says_And {b1 b2 : Nat} {A B : Option Addr} {N c M d : Nat} {F G : Nat → Bool} {n : Nat} {w : World} (x1 : Bx w b1 53 (.slice A N c)) (x2 : Bx w b2 53 (.slice B M d)) (r1 : Rd w 1 A N (bls (fl F N))) (r2 : Rd w 1 B M (bls (fl G M))) (h1 : n ≤ N) (h2 : n ≤ M) :
    Says 40 #[.pointer (some ⟨b1, 0, none⟩), .pointer (some ⟨b2, 0, none⟩)] (fun i => F i && G i) n w.heap.size w :=
  fun W' hk i hi => And1_any b1 b2 A B N c M d F G i W' (x1.keepN hk) (x2.keepN hk) (r1.keep hk) (r2.keep hk) (by omega) (by omega)
theorem says_Not {b1 : Nat} {A : Option Addr} {N c : Nat} {F : Nat → Bool} {n : Nat} {w : World} (x1 : Bx w b1 53 (.slice A N c)) (r1 : Rd w 1 A N (bls (fl F N))) (h1 : n ≤ N) :
    Says 41 #[.pointer (some ⟨b1, 0, none⟩)] (fun i => !(F i)) n w.heap.size w :=
  fun W' hk i hi => Not1_any b1 A N c F i W' (x1.keepN hk) (r1.keep hk) (by omega)
theorem says_Of {b1 : Nat} {A : Option Addr} {N c : Nat} {F : Nat → Bool} {n : Nat} {w : World} (x1 : Bx w b1 53 (.slice A N c)) (r1 : Rd w 1 A N (bls (fl F N))) (h1 : n ≤ N) :
    Says 37 #[.pointer (some ⟨b1, 0, none⟩)] (fun i => F i) n w.heap.size w :=
  fun W' hk i hi => Of1_any b1 A N c F i W' (x1.keepN hk) (r1.keep hk) (by omega)

set_option maxHeartbeats 400000 in
theorem ranges_any (n : Int) (k : Nat) (lbk : Array Value) (w : World) :
    Calls Tryd.prog 25 #[.int .i64 n, .func (.func k) #[] lbk] w fun e w' => e = .returned (.func (.func 45) #[] #[.pointer (some ⟨w.heap.size, 0, none⟩), .pointer (some ⟨w.heap.size + 1, 0, none⟩)]) ∧
      w' = (w.alloc (.cells #[.int .i64 n] 3)).alloc (.cells #[.func (.func k) #[] lbk] 58) := by
  go_enter Tryd.func25, Tryd.ntmps25
  go_wp2
  go_ret
  exact ⟨by simp, rfl⟩

theorem two_boxes (w : World) (v0 v1 : Value) (T0 T1 : TypeId) :
    Bx ((w.alloc (.cells #[v0] T0)).alloc (.cells #[v1] T1)) w.heap.size T0 v0 ∧ Bx ((w.alloc (.cells #[v0] T0)).alloc (.cells #[v1] T1)) (w.heap.size + 1) T1 v1 := by
  have h0 := Bx.new w T0 v0
  have h1 := Bx.new (w.alloc (.cells #[v0] T0)) T1 v1
  simp only [World.size_alloc] at h1
  exact ⟨(Below.heap_alloc _ _ _ h0.lt).trans h0, h1⟩
theorem two_keep (w : World) (o1 o2 : Obj) : Below w.heap.size w ((w.alloc o1).alloc o2) := ((Below.refl _ w).alloc (Nat.le_refl _) _).alloc (by simp) _

theorem collect_Or {b1 b2 : Nat} {f : Nat → Bool} {n : Nat} {z : Int} {w : World} (hn : n ≤ 65536) (hz : z = (n : Int)) (hP : Says 39 #[.pointer (some ⟨b1, 0, none⟩), .pointer (some ⟨b2, 0, none⟩)] f n w.heap.size w) :
    Calls Tryd.prog 24 #[.func (.func 45) #[] #[.pointer (some ⟨w.heap.size, 0, none⟩), .pointer (some ⟨w.heap.size + 1, 0, none⟩)]] ((w.alloc (.cells #[.int .i64 z] 3)).alloc (.cells #[.func (.func 39) #[] #[.pointer (some ⟨b1, 0, none⟩), .pointer (some ⟨b2, 0, none⟩)]] 58))
      (RgRes (Sp.setOf f n) ((w.alloc (.cells #[.int .i64 z] 3)).alloc (.cells #[.func (.func 39) #[] #[.pointer (some ⟨b1, 0, none⟩), .pointer (some ⟨b2, 0, none⟩)]] 58))) := by
  subst hz
  obtain ⟨x0, x1⟩ := two_boxes w (.int .i64 n) (.func (.func 39) #[] #[.pointer (some ⟨b1, 0, none⟩), .pointer (some ⟨b2, 0, none⟩)]) 3 58
  have hk := two_keep w (.cells #[.int .i64 n] 3) (.cells #[.func (.func 39) #[] #[.pointer (some ⟨b1, 0, none⟩), .pointer (some ⟨b2, 0, none⟩)]] 58)
  refine Collect_any _ _ _ _ (by have := Sp.setOf_length f n; omega) (enters_of Tryd.func45 (by kernel_rfl) rfl) (fun W1 hk1 => ?_)
  exact rangesOf_Or _ _ b1 b2 f n _ W1 hn (x0.keepN hk1) (x1.keepN hk1) x0.lt x1.lt (((hP.keep (Keep.below hk (Nat.le_refl _))).mono hk.size).keep hk1)

theorem collect_And {b1 b2 : Nat} {f : Nat → Bool} {n : Nat} {z : Int} {w : World} (hn : n ≤ 65536) (hz : z = (n : Int)) (hP : Says 40 #[.pointer (some ⟨b1, 0, none⟩), .pointer (some ⟨b2, 0, none⟩)] f n w.heap.size w) :
    Calls Tryd.prog 24 #[.func (.func 45) #[] #[.pointer (some ⟨w.heap.size, 0, none⟩), .pointer (some ⟨w.heap.size + 1, 0, none⟩)]] ((w.alloc (.cells #[.int .i64 z] 3)).alloc (.cells #[.func (.func 40) #[] #[.pointer (some ⟨b1, 0, none⟩), .pointer (some ⟨b2, 0, none⟩)]] 58))
      (RgRes (Sp.setOf f n) ((w.alloc (.cells #[.int .i64 z] 3)).alloc (.cells #[.func (.func 40) #[] #[.pointer (some ⟨b1, 0, none⟩), .pointer (some ⟨b2, 0, none⟩)]] 58))) := by
  subst hz
  obtain ⟨x0, x1⟩ := two_boxes w (.int .i64 n) (.func (.func 40) #[] #[.pointer (some ⟨b1, 0, none⟩), .pointer (some ⟨b2, 0, none⟩)]) 3 58
  have hk := two_keep w (.cells #[.int .i64 n] 3) (.cells #[.func (.func 40) #[] #[.pointer (some ⟨b1, 0, none⟩), .pointer (some ⟨b2, 0, none⟩)]] 58)
  refine Collect_any _ _ _ _ (by have := Sp.setOf_length f n; omega) (enters_of Tryd.func45 (by kernel_rfl) rfl) (fun W1 hk1 => ?_)
  exact rangesOf_And _ _ b1 b2 f n _ W1 hn (x0.keepN hk1) (x1.keepN hk1) x0.lt x1.lt (((hP.keep (Keep.below hk (Nat.le_refl _))).mono hk.size).keep hk1)

theorem collect_Not {b1 : Nat} {f : Nat → Bool} {n : Nat} {z : Int} {w : World} (hn : n ≤ 65536) (hz : z = (n : Int)) (hP : Says 41 #[.pointer (some ⟨b1, 0, none⟩)] f n w.heap.size w) :
    Calls Tryd.prog 24 #[.func (.func 45) #[] #[.pointer (some ⟨w.heap.size, 0, none⟩), .pointer (some ⟨w.heap.size + 1, 0, none⟩)]] ((w.alloc (.cells #[.int .i64 z] 3)).alloc (.cells #[.func (.func 41) #[] #[.pointer (some ⟨b1, 0, none⟩)]] 58))
      (RgRes (Sp.setOf f n) ((w.alloc (.cells #[.int .i64 z] 3)).alloc (.cells #[.func (.func 41) #[] #[.pointer (some ⟨b1, 0, none⟩)]] 58))) := by
  subst hz
  obtain ⟨x0, x1⟩ := two_boxes w (.int .i64 n) (.func (.func 41) #[] #[.pointer (some ⟨b1, 0, none⟩)]) 3 58
  have hk := two_keep w (.cells #[.int .i64 n] 3) (.cells #[.func (.func 41) #[] #[.pointer (some ⟨b1, 0, none⟩)]] 58)
  refine Collect_any _ _ _ _ (by have := Sp.setOf_length f n; omega) (enters_of Tryd.func45 (by kernel_rfl) rfl) (fun W1 hk1 => ?_)
  exact rangesOf_Not _ _ b1 f n _ W1 hn (x0.keepN hk1) (x1.keepN hk1) x0.lt x1.lt (((hP.keep (Keep.below hk (Nat.le_refl _))).mono hk.size).keep hk1)

theorem collect_Of {b1 : Nat} {f : Nat → Bool} {n : Nat} {z : Int} {w : World} (hn : n ≤ 65536) (hz : z = (n : Int)) (hP : Says 37 #[.pointer (some ⟨b1, 0, none⟩)] f n w.heap.size w) :
    Calls Tryd.prog 24 #[.func (.func 45) #[] #[.pointer (some ⟨w.heap.size, 0, none⟩), .pointer (some ⟨w.heap.size + 1, 0, none⟩)]] ((w.alloc (.cells #[.int .i64 z] 3)).alloc (.cells #[.func (.func 37) #[] #[.pointer (some ⟨b1, 0, none⟩)]] 58))
      (RgRes (Sp.setOf f n) ((w.alloc (.cells #[.int .i64 z] 3)).alloc (.cells #[.func (.func 37) #[] #[.pointer (some ⟨b1, 0, none⟩)]] 58))) := by
  subst hz
  obtain ⟨x0, x1⟩ := two_boxes w (.int .i64 n) (.func (.func 37) #[] #[.pointer (some ⟨b1, 0, none⟩)]) 3 58
  have hk := two_keep w (.cells #[.int .i64 n] 3) (.cells #[.func (.func 37) #[] #[.pointer (some ⟨b1, 0, none⟩)]] 58)
  refine Collect_any _ _ _ _ (by have := Sp.setOf_length f n; omega) (enters_of Tryd.func45 (by kernel_rfl) rfl) (fun W1 hk1 => ?_)
  exact rangesOf_Of _ _ b1 f n _ W1 hn (x0.keepN hk1) (x1.keepN hk1) x0.lt x1.lt (((hP.keep (Keep.below hk (Nat.le_refl _))).mono hk.size).keep hk1)

end Go.Proofs.YtccpjjhaeocfhaaDoor
