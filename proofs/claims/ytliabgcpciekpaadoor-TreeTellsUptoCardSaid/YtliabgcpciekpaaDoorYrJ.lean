/- Walks: a style as it is at first (the document's). -/
import Derived.Test.YtliabgcpciekpaaDoorYrH
import Derived.Test.YtliabgcpciekpaaDoorYeH
set_option linter.unusedVariables false
set_option linter.unusedSimpArgs false
namespace Go.Proofs.YtliabgcpciekpaaDoor
open Go Go.RowKit

theorem fld3 (a : ByteArray) (b c d : Int) (w : World) : (Instr.field 90 (.agg #[.string a, .int .i64 b, .int .i64 c, .int .i64 d]) 3).run Tryd.prog w = .ok (.int .i64 d) w := by kernel_rfl
theorem intInfo : (Tryd.prog.info? 3).map (fun i => (i.zero, i.size, i.bytes)) = some (some (.int .i64 0), 1, 8) := by kernel_rfl
def firsts (k : Nat) : List Value := (List.range k).map fun i => .int .i64 (St.first i)
theorem firsts_succ (k : Nat) : firsts k ++ [.int .i64 (St.first k)] = firsts (k + 1) := by simp [firsts, List.range_succ]
theorem firsts_vals : firsts 18 = vals (fv 18) := by rfl
theorem own_slice {W : World} {base : Nat} {e : TypeId} {sz n : Nat} {v : Value} {xs : List Value} (h : W.ownsRow base e sz v n xs) (hn : 0 < n) : ∃ g cap, v = .slice (some ⟨g, 0, none⟩) n cap := by
  rcases h.2 with ⟨_, h0⟩ | ⟨g, cap, cur, hv, _⟩
  · omega
  · exact ⟨g, cap, hv⟩
theorem one_new (w : World) (x : Value) (t : TypeId) : ∀ j u, [x][j]? = some u → (w.alloc (.cells #[x] t)).cell? ((⟨w.heap.size, 0, none⟩ : Addr).add j) = some u := by
  intro j u hj
  match j, hj with
  | 0, hj => simp at hj; subst hj; simp [Addr.add]

set_option maxRecDepth 100000 in
set_option maxHeartbeats 4000000 in
theorem refFirst_any (w : World) :
    Calls Tryd.prog 20 #[] w fun e w' => e = .returned (.agg (St.stv (fv 18)).toArray) ∧ Below w.heap.size w w' := by
  obtain ⟨i0, hi, hz0, hz1, hz2⟩ := info_parts intInfo
  have hf3 := fld3
  go_enter Tryd.func20, Tryd.ntmps20
  go_wp2
  refine gen_world (Q := fun W => Code.wp _ _ _ _ W) (fun W => Sty W w.heap.size (fv 0) ∧ Below w.heap.size w W ∧ W.heap.size = w.heap.size + 1) ⟨Sty.new w (fv 0), (Below.refl _ _).alloc (Nat.le_refl _) _, by simp⟩ ?_
  rintro w1 ⟨S1, b1, hs1⟩
  have HS1 := Lib.hid S1
  have HZ := Lib.hid hs1
  clear S1 hs1
  go_wp2
  go_loopw [1, 2] (fun n i wr => ∃ k : Nat, k ≤ 18 ∧ i = .int .i64 k ∧ wr.ownsRow w1.heap.size 3 1 n k (firsts k) ∧ Below w1.heap.size w1 wr) (fun _ i _ => 18 - (intOf i).toNat)
  case atStart => exact ⟨0, by omega, rfl, World.ownsRow_nil _ _ _ _, Below.refl _ _⟩
  case round =>
    obtain ⟨k, hk, rfl, hown, hbw⟩ := hrel
    obtain ⟨wo, rfl⟩ : ∃ wo : World, wo = wr := ⟨_, rfl⟩
    by_cases hlt : k < 18
    · have E := Lib.hid (fun W => refentry_any k hlt W)
      have hkI : (k : Int) < 18 := by omega
      have HF := Lib.hid (firsts_succ k)
      generalize St.first k = x at *
      go_wp2_with (first
        | (go_at_call 44; (with_reducible refine (E.out _).mono ?_); rintro e w2 ⟨rfl, b2⟩; have hown2 := own_later hown b2; have hbw2 := hbw.trans (b2.mono hbw.size); have hw2 := hbw2.size)
        | (at_builtin; refine wpList_append_own _ rfl _ _ 87 rfl w1.heap.size 3 i0 _ 1 8 Tryd.underlying87 hi hz0 hz1 hz2 rfl (by decide) _ _ _ rfl (hown2.alloc _) ⟨w2.heap.size, 0, none⟩ 1 1 [.int .i64 x] rfl rfl (one_new _ _ _) (by simp [Value.oneCell']) (by unfold maxLen; omega) (by omega) (by simp; omega) ?_; intro v' w4 hown4 hgrow _)
        | go_in)
      have hb4 := (hbw2.alloc hbw2.size (.cells #[.int .i64 x] 3)).grown hgrow (by have := hbw2.size; simp; omega) (fun j hj => by have := (hown2.lt j hj).1; omega)
      go_roundw
      case rel => exact ⟨k + 1, by omega, by go_num, by rw [HF.out] at hown4; exact hown4, hb4⟩
      case measure => simp [intOf]; omega
    · obtain rfl : k = 18 := by omega
      obtain ⟨g, cap, hv⟩ := own_slice hown (by omega)
      subst hv
      have hrd := Rd.of_own hown
      rw [firsts_vals] at hrd
      have OF := Lib.hid (of_any (fv 18) g cap wo hrd)
      have hlen := St.stv_len (fv 18)
      have hinfo : (Tryd.prog.info? 23).map (·.size) = some (St.stv (fv 18)).length := by rw [hlen]; kernel_rfl
      have hinfo2 : (Tryd.prog.info? 23).map (·.size) = some (St.stv (fv 18)).toArray.size := by rw [List.size_toArray]; exact hinfo
      have hone : (St.stv (fv 18)).toArray.all (·.oneCell') = true := all_oneCell_toArray (fun u hu => by
        obtain ⟨i, hi, rfl⟩ := List.mem_map.1 hu
        unfold St.cellN
        split <;> rfl)
      have HTH := Lib.hid (fun W (hb : Below w1.heap.size w1 W) => (show W.there w.heap.size 0 (St.stv (fv 18)).toArray.size from by
        intro j hj
        have h2 := HS1.out.below hb (by rw [HZ.out]; omega)
        rw [List.size_toArray, hlen] at hj
        rw [Nat.zero_add]
        exact ⟨by rw [h2.cell hj]; rfl, h2.frozen j⟩))
      clear hlen hrd
      go_wp2_with (first
        | (go_at_call 52; (with_reducible refine OF.out.mono ?_); rintro e w2 ⟨rfl, b2⟩; have hbw2 := hbw.trans (b2.mono hbw.size); have hth := HTH.out _ hbw2)
        | (refine wpList_store_mid rfl _ _ _ rfl _ _ (St.stv (fv 18)).toArray rfl rfl hth hinfo2 hone ?_))
      have hth2 : w2.there w.heap.size 0 (St.stv (fv 18)).length := by simpa using hth
      have HR := World.rangeAt_setCells_same w2 w.heap.size 0 (St.stv (fv 18)) hth2
      have HB := below_setCells (B := w.heap.size) (b := w.heap.size) (Nat.le_refl _) (St.stv (fv 18)) 0 w2 (b1.trans (hbw2.mono b1.size))
      refine bodyPost_ret (results_cell_mid Tryd.results20 _ _ w.heap.size (St.stv (fv 18)) _ rfl HR Tryd.underlying23 rfl hinfo) rfl ⟨rfl, HB⟩

end Go.Proofs.YtliabgcpciekpaaDoor
