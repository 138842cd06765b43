/- Walks: the document's digits of a number. -/
import Derived.Test.YtccpjjhaeocfhaaDoorSpE
import Derived.Test.YtccpjjhaeocfhaaDoorP4
import Derived.Laws.IdiomStrings
set_option linter.unusedVariables false
set_option linter.unusedSimpArgs false
namespace Go.Proofs.YtccpjjhaeocfhaaDoor
open Go Go.RowKit

theorem bs_cat (x y : List UInt8) : bs x ++ bs y = bs (x ++ y) := by
  apply ByteArray.ext
  simp [bs]

/-- What is left to be written of a number, behind which acc stands. -/
def dgLeft (m : Nat) (acc : Sp.T) : Sp.T := if m = 0 ∧ acc ≠ [] then [] else Lib.decDigits m
theorem dgLeft_step {m : Nat} {acc : Sp.T} (h : ¬ (m = 0 ∧ acc ≠ [])) : dgLeft m acc ++ acc = dgLeft (m / 10) (UInt8.ofNat (48 + m % 10) :: acc) ++ (UInt8.ofNat (48 + m % 10) :: acc) := by
  unfold dgLeft
  rw [if_neg h]
  by_cases h2 : m < 10
  · rw [if_pos ⟨by omega, by simp⟩, Sp.dd_small h2, Nat.mod_eq_of_lt h2]
    simp
  · rw [if_neg (by rintro ⟨h3, _⟩; omega), Sp.dd_big h2]
    simp
theorem dgLeft_end {m : Nat} {acc : Sp.T} (h : m = 0 ∧ acc ≠ []) : dgLeft m acc ++ acc = acc := by unfold dgLeft; rw [if_pos h]; rfl
theorem dgLeft_start (m : Nat) : dgLeft m [] ++ [] = Lib.decDigits m := by unfold dgLeft; rw [if_neg (by simp)]; simp
theorem dg_lt {m k : Nat} (h : m < 10 ^ (6 - k)) (hk : k < 6) : m / 10 < 10 ^ (6 - (k + 1)) := by
  rw [show 6 - k = (6 - (k + 1)) + 1 by omega, Nat.pow_succ] at h
  omega
theorem dg_byte {q : Nat} (h : q < 10) : ((UInt8.ofNat (48 + q)).toNat : Int) = 48 + (q : Int) := by
  rw [UInt8.toNat_ofNat']
  omega

set_option maxRecDepth 100000 in
set_option maxHeartbeats 4000000 in
theorem refdigits_any (m0 : Nat) (w : World) (h0 : m0 < 1000000) :
    Calls Tryd.prog 36 #[.int .i64 (m0 : Int)] w fun e w' => e = .returned (.string (bs (Lib.decDigits m0))) ∧ Below w.heap.size w w' := by
  go_enter Tryd.func36, Tryd.ntmps36
  go_wp2
  go_loopw [0, 3, 4] (fun n s i wr => ∃ (k m : Nat) (acc : Sp.T), k ≤ 6 ∧ n = .int .i64 m ∧ s = .string (bs acc) ∧ i = .int .i64 k ∧ Hid (Lib.decDigits m0 = dgLeft m acc ++ acc) ∧ Hid (m < 10 ^ (6 - k)) ∧ (0 < k → 0 < acc.length) ∧ acc.length ≤ k ∧ Below w.heap.size w wr) (fun _ _ i _ => 6 - (intOf i).toNat)
  case atStart => exact ⟨0, m0, [], by omega, rfl, rfl, rfl, Lib.hid (dgLeft_start m0).symm, Lib.hid (by simpa using h0), by simp, by simp, Below.refl _ _⟩
  case round =>
    obtain ⟨k, m, acc, hk, rfl, rfl, rfl, HD, HM, hka, hak, hbw⟩ := hrel
    obtain ⟨wo, rfl⟩ : ∃ wo : World, wo = wr := ⟨_, rfl⟩
    have hsz : (bs acc).size = acc.length := bs_size acc
    have hm6 : m < 1000000 := Nat.lt_of_lt_of_le HM.out (by have := Nat.pow_le_pow_right (n := 10) (by omega) (show 6 - k ≤ 6 by omega); simpa using this)
    by_cases hend : m = 0 ∧ acc ≠ []
    · have hp : 0 < acc.length := List.length_pos_iff.2 hend.2
      have HE := Lib.hid (show Lib.decDigits m0 = acc by rw [HD.out, dgLeft_end hend])
      have t1 : ¬ (bs acc).toList = [] := by rw [bs_toList]; exact hend.2
      have t2 : (bs acc).toList.isEmpty = false := by rw [List.isEmpty_eq_false_iff]; exact t1
      have t3 : (((bs acc).size : Int) == 0) = false := by rw [beq_eq_false_iff_ne, hsz]; omega
      obtain ⟨rfl, _⟩ := hend
      clear hsz hm6
      by_cases hk6 : k < 6
      · go_wp2
        go_ret
        exact ⟨by rw [HE.out]; rfl, hbw⟩
      · go_wp2
        go_ret
        exact ⟨by rw [HE.out]; rfl, hbw⟩
    · have hk6 : k < 6 := by
        rcases Nat.lt_or_ge k 6 with h | h
        · exact h
        · exfalso
          have hm := HM.out
          rw [show 6 - k = 0 by omega] at hm
          apply hend
          refine ⟨by omega, ?_⟩
          intro e
          have := hka (by omega)
          rw [e] at this
          simp at this
      have HD2 := Lib.hid (show Lib.decDigits m0 = _ by rw [HD.out, dgLeft_step hend])
      have HM2 := Lib.hid (dg_lt HM.out hk6)
      have HB := Lib.hid (dg_byte (q := m % 10) (Nat.mod_lt _ (by omega)))
      have hmi : ((m % 10 : Nat) : Int) = (m : Int) % 10 := by omega
      rw [hmi] at HB
      have hcv : (convert 63 9 (.slice (some ⟨wo.heap.size, 0, none⟩) 1 1)).run Tryd.prog (wo.alloc (.cells #[.int .u8 (48 + (m : Int) % 10)] 5)) = .ok (.string (bs [UInt8.ofNat (48 + m % 10)])) (wo.alloc (.cells #[.int .u8 (48 + (m : Int) % 10)] 5)) :=
        run_convert_bytes_back (P := Tryd.prog) (wo.alloc (.cells #[.int .u8 (48 + (m : Int) % 10)] 5)) 63 9 5 ⟨wo.heap.size, 0, none⟩ 1 [UInt8.ofNat (48 + m % 10)] Tryd.underlying63 Tryd.underlying5 Tryd.underlying9 (fun j hj => by
        simp only [List.length_cons, List.length_nil] at hj
        obtain rfl : j = 0 := by omega
        have := Lib.cell_of_heap (heap_alloc_new wo (.cells #[.int .u8 (48 + (m : Int) % 10)] 5)) 0
        rw [show ([UInt8.ofNat (48 + m % 10)][0]'(by simp)) = UInt8.ofNat (48 + m % 10) from rfl, HB.out]
        exact this)
      have hmm : IntKind.u8.wrap (48 + (m : Int) % 10) = 48 + (m : Int) % 10 := by
        have := Nat.mod_lt m (show 0 < 10 by omega)
        rw [← hmi]
        generalize m % 10 = q at *
        have : q = 0 ∨ q = 1 ∨ q = 2 ∨ q = 3 ∨ q = 4 ∨ q = 5 ∨ q = 6 ∨ q = 7 ∨ q = 8 ∨ q = 9 := by omega
        rcases this with rfl | rfl | rfl | rfl | rfl | rfl | rfl | rfl | rfl | rfl <;> rfl
      clear hmi
      have hq1 : (bs acc).size ≤ 10 := by rw [bs_size]; omega
      have hq2 : (bs [UInt8.ofNat (48 + m % 10)]).size ≤ 10 := by rw [bs_size]; simp
      generalize UInt8.ofNat (48 + m % 10) = d at *
      by_cases hm0 : 0 < m
      · clear hsz hend
        go_wp2
        go_roundw
        case rel => exact ⟨k + 1, m / 10, d :: acc, by omega, by go_num, by rw [bs_cat]; rfl, by go_num, HD2, HM2, by simp, by simp; omega, hbw.alloc hbw.size _⟩
        case measure => simp [intOf]; omega
      · have hacc : acc = [] := by
          rcases acc with _ | ⟨a, r⟩
          · rfl
          · exact absurd ⟨by omega, by simp⟩ hend
        subst hacc
        have t1 : (bs []).toList = [] := bs_toList []
        have t2 : (bs []).toList.isEmpty = true := by rw [t1]; rfl
        clear hsz hend
        go_wp2
        go_roundw
        case rel => exact ⟨k + 1, m / 10, [d], by omega, by go_num, by rw [bs_cat]; rfl, by go_num, HD2, HM2, by simp, by simp, hbw.alloc hbw.size _⟩
        case measure => simp [intOf]; omega

end Go.Proofs.YtccpjjhaeocfhaaDoor
