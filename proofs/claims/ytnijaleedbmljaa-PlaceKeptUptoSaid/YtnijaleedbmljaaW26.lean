/- Walks: are these more than statements go through? -/
import Derived.Test.YtnijaleedbmljaaAl20
import Derived.Test.YtnijaleedbmljaaW24
import Derived.Test.YtnijaleedbmljaaPlK
set_option linter.unusedVariables false
set_option linter.unusedSimpArgs false
namespace Go.Proofs.Ytnijaleedbmljaa
open Go Go.RowKit

def grt (n : Nat) (l : List Pl.Ed) : Nat := n + (l.map fun e => 10 + e.x.length).sum
theorem grt_snoc (n : Nat) (l : List Pl.Ed) (e : Pl.Ed) : grt n (l ++ [e]) = grt n l + 10 + e.x.length := by simp [grt]; omega
theorem grt_len (n : Nat) (l : List Pl.Ed) : n + l.length * 10 ≤ grt n l := by
  induction l with
  | nil => simp [grt]
  | cons e r ih => simp [grt] at ih ⊢; omega
theorem grt_mem {n : Nat} {l : List Pl.Ed} {e : Pl.Ed} (h : e ∈ l) : n + e.x.length ≤ grt n l := by
  induction l with
  | nil => cases h
  | cons a r ih =>
    simp [grt] at ih ⊢
    rcases List.mem_cons.1 h with rfl | h
    · omega
    · have := ih h; omega
theorem grt_bd {n : Nat} : ∀ {l : List Pl.Ed}, (∀ e ∈ l, e.x.length ≤ 1048576) → grt n l ≤ n + l.length * 1048586 := by
  intro l
  induction l with
  | nil => intro _; simp [grt]
  | cons a r ih =>
    intro h
    have h1 := ih (fun e he => h e (by simp [he]))
    have h2 := h a (by simp)
    simp [grt] at h1 ⊢
    omega
/-- What is not great. -/
theorem small_of {n : Nat} {l : List Pl.Ed} (h : grt n l ≤ 2000) : n ≤ 2000 ∧ Sm l ∧ l.length ≤ 200 ∧ ∀ e ∈ l, e.x.length ≤ 2000 := by
  have h1 := grt_len n l
  have h2 : ∀ e ∈ l, e.x.length ≤ 2000 := fun e he => by have := grt_mem (n := n) he; omega
  exact ⟨by omega, ⟨by omega, fun e he => by have := h2 e he; omega⟩, by omega, h2⟩

set_option maxRecDepth 100000 in
set_option maxHeartbeats 1000000 in
theorem great_any (s : ByteArray) (A : Option Addr) (c : Nat) (l : List Pl.Ed) (w : World) (hs : s.size ≤ 9223372036854775 ) (hl : l.length ≤ 1048576) (hx : ∀ e ∈ l, e.x.length ≤ 1048576) (h : Rd w 3 A l.length (edcs l)) (d : Bool) (hd : decide (2000 < grt s.size l) = d) :
    Calls Try.prog 17 #[.string s, .slice A l.length c] w fun e w' => e = .returned (.bool d) ∧ w = w' := by
  have HD := Lib.hid hd; clear hd
  go_enter Try.func17, Try.ntmps17
  go_wp2
  go_loop [5, 6] (fun n i => ∃ k m : Nat, k ≤ l.length ∧ i = .int .i64 k ∧ n = .int .i64 m ∧ m ≤ s.size + k * 1048586 ∧ Hid (m = grt s.size (l.take k))) (fun _ i => l.length - (intOf i).toNat)
  case atStart => exact ⟨0, s.size, Nat.zero_le _, rfl, rfl, by omega, Lib.hid (by simp [grt])⟩
  case round =>
    obtain ⟨k, m, hk, rfl, rfl, hm, HM⟩ := hrel
    by_cases hlt : k < l.length
    · have hek := List.getElem?_eq_getElem hlt
      have hq := hx l[k] (List.getElem_mem hlt)
      have htk : l.take (k + 1) = l.take k ++ [l[k]] := List.take_succ_eq_append_getElem hlt
      generalize l[k] = e at hek hq htk
      have H2 : Hid (m + 10 + e.x.length = grt s.size (l.take (k + 1))) := Lib.hid (by rw [htk, grt_snoc, HM.out])
      obtain ⟨b1, o1, rfl, hbk1, c1, c2, c3⟩ := h.ed hek
      have hz : (bs e.x).size = e.x.length := bs_size _
      generalize e.x.length = xl at *
      clear hek htk
      go_wp2
      refine ⟨⟨k + 1, m + 10 + xl, by omega, by go_num, by go_num, by omega, H2⟩, by simp [intOf]; omega⟩
    · obtain rfl : k = l.length := by omega
      have HE : Hid (m = grt s.size l) := Lib.hid (by have := HM.out; rwa [List.take_length] at this)
      have hdd : decide ((2000 : Int) < (m : Int)) = d := by
        rw [← HD.out, ← HE.out, decide_eq_decide]; omega
      clear HM
      go_wp2
      go_ret
      exact ⟨rfl, rfl⟩

end Go.Proofs.Ytnijaleedbmljaa
