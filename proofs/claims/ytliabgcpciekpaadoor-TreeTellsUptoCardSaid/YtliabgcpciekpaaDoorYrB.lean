/- Walks: white space around a text (the library's, at blank, tab and return). -/
import Derived.Test.YtliabgcpciekpaaDoorYrA
import Derived.Test.YtliabgcpciekpaaDoorYBld
import Derived.Lib.AsciiSet
import Derived.Lib.LazyBuf
import Derived.Deep.MidRow
set_option linter.unusedVariables false
set_option linter.unusedSimpArgs false
namespace Go.Proofs.YtliabgcpciekpaaDoor
open Go Go.RowKit

def vlen : Value → Nat
  | .string t => t.size
  | _ => 0
theorem ba_get (s : ByteArray) (k : Nat) (h : k < s.size) : s.data.toList[k]? = some s[k] := by
  rw [List.getElem?_eq_getElem (by rw [← Lib.size_eq]; exact h)]; rfl
theorem ba_cons {s : ByteArray} (h : 0 < s.size) : s.data.toList = s[0] :: (s.extract 1 s.size).data.toList := by
  have h1 : (s.extract 1 s.size).data.toList = s.data.toList.drop 1 := by
    rw [Lib.extract_data, Lib.size_eq]; exact List.take_of_length_le (by simp)
  rw [h1]
  have h2 := ba_get s 0 h
  cases hl : s.data.toList with
  | nil => rw [hl] at h2; simp at h2
  | cons a r => rw [hl] at h2; simp at h2; rw [h2]; rfl
theorem ba_snoc {s : ByteArray} (h : 0 < s.size) : s.data.toList = (s.extract 0 (s.size - 1)).data.toList ++ [s[s.size - 1]] := by
  have h1 : (s.extract 0 (s.size - 1)).data.toList = s.data.toList.take (s.size - 1) := by rw [Lib.extract_data]; simp
  rw [h1]
  have hl : s.size - 1 < s.data.toList.length := by rw [← Lib.size_eq]; omega
  have h2 := List.take_succ_eq_append_getElem hl
  have h3 : s.data.toList.take (s.size - 1 + 1) = s.data.toList := List.take_of_length_le (by rw [← Lib.size_eq]; omega)
  rw [h3] at h2
  exact h2
theorem ba_snoc2 {s : ByteArray} {m : Nat} (h : s.size = m + 1) (hm : m < s.size) : s.data.toList = (s.extract 0 m).data.toList ++ [s[m]] := by
  have h1 := ba_snoc (s := s) (by omega)
  have e : s.size - 1 = m := by omega
  simp only [e] at h1
  exact h1
theorem ba_nil {s : ByteArray} (h : s.size = 0) : s.data.toList = [] := List.eq_nil_of_length_eq_zero (by rw [← Lib.size_eq]; exact h)

/-- The set of blank, tab and return lies in the block b. -/
def Wht (w : World) (b : Nat) : Prop := ∀ x : UInt8, w.cell? ⟨b, x.toNat, none⟩ = some (.bool (St.blk x))

set_option maxRecDepth 100000 in
set_option maxHeartbeats 2000000 in
theorem trimLeftASCII_any (s : ByteArray) (b : Nat) (w : World) (hc : Wht w b) :
    Calls Tryd.prog 72 #[.string s, .pointer (some ⟨b, 0, none⟩)] w fun e w' => e = .returned (.string (bs (St.trimL s.data.toList))) ∧ w = w' := by
  have HC := Lib.hid hc
  clear hc
  go_enter Tryd.func72, Tryd.ntmps72
  go_wp2
  go_loop [0] (fun v => ∃ t : ByteArray, v = .string t ∧ Hid (St.trimL t.data.toList = St.trimL s.data.toList)) (fun v => vlen v)
  case atStart => exact ⟨s, rfl, Lib.hid rfl⟩
  case round =>
    obtain ⟨t, rfl, HT⟩ := hrel
    by_cases h0 : 0 < t.size
    · have hs := ba_cons h0
      have K := Lib.hid (Tryd.asciiSet_contains b (t[0]'h0) (St.blk (t[0]'h0)) w (HC.out _))
      cases hb : St.blk (t[0]'h0)
      · rw [hb] at K
        have HR := Lib.hid (show St.trimL s.data.toList = t.data.toList by rw [← HT.out, hs, St.trimL_no hb])
        clear hs hb
        go_wp2_with (go_at_call 90; (with_reducible refine K.out.mono ?_); rintro e w' ⟨rfl, rfl⟩)
        go_ret
        exact ⟨by rw [HR.out, bs_of]; rfl, rfl⟩
      · rw [hb] at K
        have HR := Lib.hid (show St.trimL (t.extract 1 t.size).data.toList = St.trimL s.data.toList by rw [← HT.out, hs, St.trimL_yes hb])
        have hz : (t.extract 1 t.size).size < t.size := by rw [Lib.size_eq, Lib.extract_data]; simp; omega
        clear hs hb
        go_wp2_with (go_at_call 90; (with_reducible refine K.out.mono ?_); rintro e w' ⟨rfl, rfl⟩)
        go_round
        case rel => exact ⟨_, rfl, HR⟩
        case measure => simpa [vlen] using hz
    · have hz : t.size = 0 := by omega
      have HR := Lib.hid (show St.trimL s.data.toList = t.data.toList by rw [← HT.out, ba_nil hz, St.trimL_nil])
      clear hz
      go_wp2
      go_ret
      exact ⟨by rw [HR.out, bs_of]; rfl, rfl⟩

set_option maxRecDepth 100000 in
set_option maxHeartbeats 2000000 in
theorem trimRightASCII_any (s : ByteArray) (b : Nat) (w : World) (hsz : s.size ≤ 1000000000) (hc : Wht w b) :
    Calls Tryd.prog 75 #[.string s, .pointer (some ⟨b, 0, none⟩)] w fun e w' => e = .returned (.string (bs (St.trimR s.data.toList))) ∧ w = w' := by
  have HC := Lib.hid hc
  clear hc
  go_enter Tryd.func75, Tryd.ntmps75
  go_wp2
  go_loop [0] (fun v => ∃ t : ByteArray, v = .string t ∧ t.size ≤ 1000000000 ∧ Hid (St.trimR t.data.toList = St.trimR s.data.toList)) (fun v => vlen v)
  case atStart => exact ⟨s, rfl, hsz, Lib.hid rfl⟩
  case round =>
    obtain ⟨t, rfl, hts, HT⟩ := hrel
    by_cases h0 : 0 < t.size
    · obtain ⟨m, hml, hsz1⟩ : ∃ m : Nat, m < t.size ∧ t.size = m + 1 := ⟨t.size - 1, by omega, by omega⟩
      have hs := ba_snoc2 hsz1 hml
      have hmI : (t.size : Int) - 1 = (m : Int) := by omega
      have K := Tryd.asciiSet_contains b (t[m]'hml) (St.blk (t[m]'hml)) w (HC.out _)
      clear hsz1
      have hwr : IntKind.i64.wrap ((t.size : Int) - 1) = (m : Int) := by rw [hmI]; exact IntWalk.i64_in _ (by omega)
      have K := Lib.hid K
      cases hb : St.blk (t[m]'hml)
      · rw [hb] at K
        have HR := Lib.hid (show St.trimR s.data.toList = t.data.toList by rw [← HT.out, hs, St.trimR_no hb])
        clear hs hb
        go_wp2_with (go_at_call 90; (with_reducible refine K.out.mono ?_); rintro e w' ⟨rfl, rfl⟩)
        go_ret
        exact ⟨by rw [HR.out, bs_of]; rfl, rfl⟩
      · rw [hb] at K
        have HR := Lib.hid (show St.trimR (t.extract 0 m).data.toList = St.trimR s.data.toList by rw [← HT.out, hs, St.trimR_yes hb])
        have hz : (t.extract 0 m).size < t.size := by rw [Lib.size_eq, Lib.extract_data]; simp; omega
        clear hs hb
        go_wp2_with (go_at_call 90; (with_reducible refine K.out.mono ?_); rintro e w' ⟨rfl, rfl⟩)
        go_round
        case rel => exact ⟨_, rfl, by omega, HR⟩
        case measure => simpa [vlen] using hz
    · have hz : t.size = 0 := by omega
      have HR := Lib.hid (show St.trimR s.data.toList = t.data.toList by rw [← HT.out, ba_nil hz, St.trimR_nil])
      clear hz
      go_wp2
      go_ret
      exact ⟨by rw [HR.out, bs_of]; rfl, rfl⟩

end Go.Proofs.YtliabgcpciekpaaDoor
