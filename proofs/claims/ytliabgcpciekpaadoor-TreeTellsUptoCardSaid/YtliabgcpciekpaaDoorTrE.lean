/- Walks: names and paths (the program's). -/
import Derived.Test.YtliabgcpciekpaaDoorTrB
import Derived.Test.YtliabgcpciekpaaDoorTrD
import Derived.Test.YtliabgcpciekpaaDoorYeE
set_option linter.unusedVariables false
set_option linter.unusedSimpArgs false
namespace Go.Proofs.YtliabgcpciekpaaDoor
open Go Go.RowKit
attribute [local go_sem] Oper.semAt_some

namespace Tr
theorem isName_iff (t : T) : isName t = true ↔ t ≠ [] ∧ t.length ≤ 32 ∧ t ≠ [46] ∧ t ≠ [46, 46] ∧ t.all okc = true := by
  unfold isName; simp only [Bool.and_eq_true, decide_eq_true_eq]
theorem isName_no {t : T} (h : ¬ (t ≠ [] ∧ t.length ≤ 32 ∧ t ≠ [46] ∧ t ≠ [46, 46] ∧ t.all okc = true)) : isName t = false := by
  rw [← isName_iff] at h; simpa using h
theorem isName_bad {t : T} {k : Nat} {c : UInt8} (h : t[k]? = some c) (hc : okc c = false) : isName t = false := isName_no fun h2 => by
  rw [List.all_eq_true.1 h2.2.2.2.2 c (List.mem_of_getElem? h)] at hc; cases hc
theorem okc_iff (c : UInt8) : okc c = true ↔ 33 ≤ c.toNat ∧ c.toNat ≤ 126 ∧ c.toNat ≠ 47 := by
  unfold okc
  simp only [Bool.and_eq_true, decide_eq_true_eq, ne_eq, ← UInt8.toNat_inj]
  exact Iff.rfl
theorem okc_no {c : UInt8} (h : ¬ (33 ≤ c.toNat ∧ c.toNat ≤ 126 ∧ c.toNat ≠ 47)) : okc c = false := by rw [← okc_iff] at h; simpa using h
theorem all_snoc {t : T} {k : Nat} {c : UInt8} (h : t[k]? = some c) (ha : (t.take k).all okc = true) (hc : okc c = true) : (t.take (k + 1)).all okc = true := by
  rw [List.take_add_one, h, List.all_append, ha]; simp [hc]
end Tr

set_option maxRecDepth 100000 in
set_option maxHeartbeats 2000000 in
theorem name_bs (t : St.T) (w : World) (hl : t.length ≤ 140737488355328) :
    Calls Tryd.prog 56 #[.string (bs t)] w fun e w' => e = .returned (.bool (Tr.isName t)) ∧ w' = w := by
  have hts : (bs t).size = t.length := bs_size t
  have htl : (bs t).toList = t := bs_toList t
  by_cases h0 : t = []
  · have HN := Lib.hid (Tr.isName_no (t := t) (fun h => h.1 h0))
    subst h0
    go_enter Tryd.func56, Tryd.ntmps56
    go_wp2
    go_ret
    exact ⟨by rw [HN.out]; rfl, rfl⟩
  have b0 : (t == []) = false := beq_eq_false_iff_ne.2 h0
  have c0 : t.isEmpty = false := by rw [List.isEmpty_eq_false_iff]; exact h0
  by_cases h1 : 32 < t.length
  · have HN := Lib.hid (Tr.isName_no (t := t) (fun h => by omega))
    go_enter Tryd.func56, Tryd.ntmps56
    go_wp2
    go_ret
    exact ⟨by rw [HN.out]; rfl, rfl⟩
  by_cases h2 : t = [46]
  · have HN := Lib.hid (Tr.isName_no (t := t) (fun h => h.2.2.1 h2))
    subst h2
    go_enter Tryd.func56, Tryd.ntmps56
    go_wp2
    go_ret
    exact ⟨by rw [HN.out]; rfl, rfl⟩
  have b2 : (t == [46]) = false := beq_eq_false_iff_ne.2 h2
  by_cases h3 : t = [46, 46]
  · have HN := Lib.hid (Tr.isName_no (t := t) (fun h => h.2.2.2.1 h3))
    subst h3
    go_enter Tryd.func56, Tryd.ntmps56
    go_wp2
    go_ret
    exact ⟨by rw [HN.out]; rfl, rfl⟩
  have b3 : (t == [46, 46]) = false := beq_eq_false_iff_ne.2 h3
  have HY := Lib.hid (fun ha => (Tr.isName_iff t).2 ⟨h0, by omega, h2, h3, ha⟩)
  go_enter Tryd.func56, Tryd.ntmps56
  go_wp2
  clear b0 c0 b2 b3 h0 h2 h3
  go_loop [21] (fun i => ∃ k : Nat, k ≤ t.length ∧ i = .int .i64 k ∧ Hid ((t.take k).all Tr.okc = true)) (fun i => t.length - (intOf i).toNat)
  case atStart => exact ⟨0, Nat.zero_le _, rfl, Lib.hid rfl⟩
  case round =>
    obtain ⟨k, hk, rfl, HA⟩ := hrel
    by_cases hlt : k < t.length
    · have hks : k < (bs t).size := by omega
      have hgk := ba_get (bs t) k hks
      rw [bs_data] at hgk
      by_cases c1 : (bs t)[k].toNat < 33
      · have HN := Lib.hid (Tr.isName_bad hgk (Tr.okc_no (by omega)))
        clear hgk
        go_wp2
        go_ret
        exact ⟨by rw [HN.out]; rfl, rfl⟩
      by_cases c2 : 126 < (bs t)[k].toNat
      · have HN := Lib.hid (Tr.isName_bad hgk (Tr.okc_no (by omega)))
        clear hgk
        go_wp2
        go_ret
        exact ⟨by rw [HN.out]; rfl, rfl⟩
      by_cases c3 : (bs t)[k].toNat = 47
      · have HN := Lib.hid (Tr.isName_bad hgk (Tr.okc_no (by omega)))
        have c3I : (((bs t)[k]).toNat : Int) = 47 := by omega
        clear hgk
        go_wp2
        go_ret
        exact ⟨by rw [HN.out]; rfl, rfl⟩
      have c3I : ¬ (((bs t)[k]).toNat : Int) = 47 := by omega
      have c3B : ((((bs t)[k]).toNat : Int) == 47) = false := beq_eq_false_iff_ne.2 c3I
      have c3N : (((bs t)[k]).toNat == 47) = false := beq_eq_false_iff_ne.2 c3
      have HA2 := Lib.hid (Tr.all_snoc hgk HA.out ((Tr.okc_iff _).2 ⟨by omega, by omega, c3⟩))
      clear hgk
      go_wp2
      go_round
      case rel => exact ⟨k + 1, by omega, by go_num, HA2⟩
      case measure => simp [intOf]; omega
    · obtain rfl : k = t.length := by omega
      have HN := Lib.hid (HY.out (by have := HA.out; rwa [List.take_length] at this))
      go_wp2
      go_ret
      exact ⟨by rw [HN.out]; rfl, rfl⟩

end Go.Proofs.YtliabgcpciekpaaDoor
