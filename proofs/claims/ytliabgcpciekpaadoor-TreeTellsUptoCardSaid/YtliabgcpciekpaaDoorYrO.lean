/- Styles, in plain Lean: what is printed of a style is read as it; what is read may be printed; in which order lines stand makes no difference. -/
import Derived.Test.YtliabgcpciekpaaDoorYrK
set_option linter.unusedVariables false
set_option linter.unusedSimpArgs false
namespace Go.Proofs.YtliabgcpciekpaaDoor
namespace St
open Go

/-! ### Numbers -/
theorem dec_small {u : Nat} (h : u < 10) : Lib.decDigits u = [UInt8.ofNat (48 + u)] := by
  rw [Lib.decDigits, dif_pos h]
theorem dec_great {u : Nat} (h : ¬ u < 10) : Lib.decDigits u = Lib.decDigits (u / 10) ++ [UInt8.ofNat (48 + u % 10)] := by
  rw [Lib.decDigits, dif_neg h]
theorem dig_val {d : Nat} (h : d < 10) : ((UInt8.ofNat (48 + d)).toNat : Int) - 48 = (d : Int) := by
  rw [UInt8.toNat_ofNat', Nat.mod_eq_of_lt (by omega)]; omega
theorem dig_is {d : Nat} (h : d < 10) : isDig (UInt8.ofNat (48 + d)) = true := by
  unfold isDig
  rw [UInt8.toNat_ofNat', Nat.mod_eq_of_lt (by omega)]
  simp; omega
theorem dec_worth (u : Nat) : worth (Lib.decDigits u) = (u : Int) := by
  induction u using Nat.strongRecOn with
  | ind u ih =>
    by_cases h : u < 10
    · rw [dec_small h]
      have := dig_val h
      simp only [worth, List.foldl_cons, List.foldl_nil]
      omega
    · rw [dec_great h, worth_snoc, ih (u / 10) (by omega), dig_val (Nat.mod_lt _ (by omega))]
      omega
theorem dec_digs (u : Nat) : (Lib.decDigits u).all isDig = true := by
  induction u using Nat.strongRecOn with
  | ind u ih =>
    by_cases h : u < 10
    · rw [dec_small h, List.all_cons, dig_is h]; rfl
    · rw [dec_great h, List.all_append, ih (u / 10) (by omega), List.all_cons, dig_is (Nat.mod_lt u (by omega))]; rfl
theorem dec_len : ∀ (k u : Nat), u < 10 ^ (k + 1) → 1 ≤ (Lib.decDigits u).length ∧ (Lib.decDigits u).length ≤ k + 1 := by
  intro k
  induction k with
  | zero => intro u h; rw [dec_small (by simpa using h)]; simp
  | succ k ih =>
    intro u h
    by_cases h1 : u < 10
    · rw [dec_small h1]; simp
    · rw [dec_great h1]
      have := ih (u / 10) (by rw [Nat.pow_succ] at h; omega)
      simp only [List.length_append, List.length_cons, List.length_nil]
      omega
theorem itoa_num {x : Int} (h0 : 0 ≤ x) (h1 : x ≤ 1000000) : isNum (Lib.itoa x) = true ∧ worth (Lib.itoa x) = x := by
  have e : Lib.itoa x = Lib.decDigits x.toNat := by unfold Lib.itoa; rw [if_neg (by omega)]
  rw [e]
  have hl := dec_len 6 x.toNat (by omega)
  refine ⟨?_, by rw [dec_worth]; omega⟩
  unfold isNum
  rw [dec_digs, decide_eq_true hl.1, decide_eq_true (by omega)]
  rfl
theorem dig_not {c : UInt8} (h : isDig c = true) : blk c = false ∧ c ≠ 10 ∧ c ≠ 61 := by
  simp only [isDig, Bool.and_eq_true, decide_eq_true_eq] at h
  refine ⟨?_, ?_, ?_⟩
  · unfold blk
    rw [decide_eq_false (by rintro rfl; simp at h), decide_eq_false (by rintro rfl; simp at h), decide_eq_false (by rintro rfl; simp at h)]
    rfl
  · rintro rfl; simp at h
  · rintro rfl; simp at h

/-! ### A line that is printed -/
theorem nm_good : ∀ i, i < 18 → ((nm i).all fun c => !blk c && (c != 61 && (c != 10 && c != 35))) = true ∧ nm i ≠ [] := below18 (by decide)
theorem nm_all {i : Nat} (hi : i < 18) {c : UInt8} (hc : c ∈ nm i) : blk c = false ∧ c ≠ 61 ∧ c ≠ 10 ∧ c ≠ 35 := by
  have := List.all_eq_true.1 (nm_good i hi).1 c hc
  simpa using this
theorem trimL_all {t : T} (h : ∀ c ∈ t, blk c = false) : trimL t = t := by
  cases t with
  | nil => rfl
  | cons c r => exact trimL_no (h c (by simp))
theorem trimR_all {t : T} (h : ∀ c ∈ t, blk c = false) : trimR t = t := by
  rcases List.eq_nil_or_concat t with rfl | ⟨r, c, rfl⟩
  · rfl
  · rw [List.concat_eq_append] at *; exact trimR_no (h c (by simp))
/-- A line of a style's text without its end. -/
def lnT (v : Nat → Int) (i : Nat) : T := nm i ++ [32] ++ 61 :: 32 :: Lib.itoa (v i)
theorem ln_eq (v : Nat → Int) (i : Nat) : ln v i = lnT v i ++ [10] := by simp [ln, lnT]
theorem itoa_all {x : Int} (h0 : 0 ≤ x) (h1 : x ≤ 1000000) {c : UInt8} (hc : c ∈ Lib.itoa x) : isDig c = true := by
  have := (itoa_num h0 h1).1
  unfold isNum at this
  rw [Bool.and_eq_true] at this
  exact List.all_eq_true.1 this.2 c hc
section
variable {v : Nat → Int} {i : Nat}
theorem lnT_facts (hi : i < 18) (hr : low i ≤ v i ∧ v i ≤ high i) : line (lnT v i) = lnT v i ∧ dull (lnT v i) = false ∧ 10 ∉ lnT v i ∧ sd (lnT v i) = some (i, v i) := by
  have b1 := low_bd i
  have b2 := high_bd i hi
  have h0 : 0 ≤ v i := by omega
  have h1 : v i ≤ 1000000 := by omega
  obtain ⟨n1, n2⟩ := itoa_num h0 h1
  have hdig := @itoa_all (v i) h0 h1
  have hne : Lib.itoa (v i) ≠ [] := by
    intro e
    rw [e] at n1
    simp [isNum] at n1
  obtain ⟨c, r, hcr⟩ := List.exists_cons_of_ne_nil (nm_good i hi).2
  have hc := nm_all hi (c := c) (by rw [hcr]; simp)
  obtain ⟨q, d, hqd⟩ := List.eq_nil_or_concat (Lib.itoa (v i)) |>.resolve_left hne
  rw [List.concat_eq_append] at hqd
  have hd := dig_not (hdig (c := d) (by rw [hqd]; simp))
  have e1 : lnT v i = c :: (r ++ [32] ++ 61 :: 32 :: Lib.itoa (v i)) := by unfold lnT; rw [hcr]; rfl
  have e2 : lnT v i = (nm i ++ [32] ++ 61 :: 32 :: q) ++ [d] := by unfold lnT; rw [hqd]; simp
  have hL : trimL (lnT v i) = lnT v i := by rw [e1]; exact trimL_no hc.1
  have hR : trimR (lnT v i) = lnT v i := by rw [e2]; exact trimR_no hd.1
  have hline : line (lnT v i) = lnT v i := by unfold line; rw [hL, hR]
  have hA : 61 ∉ (lnT v i).take ((nm i).length + 1) := by
    have : (lnT v i).take ((nm i).length + 1) = nm i ++ [32] := by
      unfold lnT
      rw [List.take_left' (by simp)]
    rw [this, List.mem_append, not_or]
    exact ⟨fun h => (nm_all hi h).2.1 rfl, by simp⟩
  have hB : (lnT v i)[(nm i).length + 1]? = some 61 := by
    unfold lnT
    rw [List.getElem?_append_right (by simp)]
    simp
  obtain ⟨c1, c2, c3⟩ := cut_yes hA hB
  have c2' : cutA (lnT v i) = nm i ++ [32] := by
    rw [c2]; unfold lnT; rw [List.take_left' (by simp)]
  have c3' : cutB (lnT v i) = 32 :: Lib.itoa (v i) := by
    rw [c3]
    have e3 : lnT v i = (nm i ++ [32, 61]) ++ 32 :: Lib.itoa (v i) := by unfold lnT; simp
    rw [e3, List.drop_left' (by simp)]
  refine ⟨hline, ?_, ?_, ?_⟩
  · unfold dull
    rw [hline, e1]
    simp [hc.2.2.2]
  · unfold lnT
    simp only [List.mem_append, List.mem_cons, not_or]
    refine ⟨⟨fun h => (nm_all hi h).2.2.1 rfl, by simp⟩, by decide, by decide, fun h => (dig_not (hdig h)).2.1 rfl⟩
  · have t1 : trimR (trimL (cutA (lnT v i))) = nm i := by
      rw [c2']
      have : trimL (nm i ++ [32]) = nm i ++ [32] := by rw [hcr]; exact trimL_no hc.1
      rw [this, trimR_yes (by decide)]
      exact trimR_all (fun c h => (nm_all hi h).1)
    have t2 : trimR (trimL (cutB (lnT v i))) = Lib.itoa (v i) := by
      rw [c3', trimL_yes (by decide), trimL_all (fun c h => (dig_not (hdig h)).1), trimR_all (fun c h => (dig_not (hdig h)).1)]
    rw [sd_yes c1 (by rw [t2]; exact n1), t1, t2, n2]
    exact fnd_name hi rfl hr.1 hr.2
end

/-! ### The whole text -/
theorem lns_line {l : T} (h : 10 ∉ l) (a : Nat) (r : T) : lns a (l ++ 10 :: r) = (a, l) :: lns (a + l.length + 1) r := by
  have := lns_at (t := l ++ 10 :: r) (a := a) (j := l.length) (by simp) (by rw [List.take_left' rfl]; exact h) (by simp)
  rw [this, List.take_left' rfl]
  congr 2
  rw [show l.length + 1 = l.length + 1 from rfl, ← List.drop_drop, List.drop_left' rfl]
  rfl
def after (s : S) (v : Nat → Int) (is : List Nat) : S := (fun j => if j ∈ is then v j else s.1 j, fun j => if j ∈ is then true else s.2 j)
theorem run_txt {v : Nat → Int} (hv : ∀ i, i < 18 → low i ≤ v i ∧ v i ≤ high i) : ∀ (is : List Nat) (a : Nat) (s : S), (∀ i ∈ is, i < 18) → is.Nodup → (∀ i ∈ is, s.2 i = false) → run s (lns a (is.flatMap (ln v))) = .ok (after s v is) := by
  intro is
  induction is with
  | nil => intro a s _ _ _; simp [lns, run, after]
  | cons i r ih =>
    intro a s h1 h2 h3
    have hi := h1 i (by simp)
    obtain ⟨f1, f2, f3, f4⟩ := lnT_facts hi (hv i hi)
    rw [List.flatMap_cons, ln_eq, List.append_assoc, List.singleton_append, lns_line f3, run, step_set (x := (a, lnT v i)) f2 (by rw [f1]; exact f4) (h3 i (by simp))]
    simp only
    rw [List.nodup_cons] at h2
    rw [ih _ _ (fun j hj => h1 j (by simp [hj])) h2.2 (fun j hj => by
      have : j ≠ i := fun e => h2.1 (e ▸ hj)
      simp only [had, if_neg this]
      exact h3 j (by simp [hj]))]
    congr 1
    unfold after
    congr 1
    · funext j
      simp only [List.mem_cons, sput]
      by_cases hj : j ∈ r
      · simp [hj]
      · by_cases e : j = i
        · simp [hj, e]
        · simp [hj, e]
    · funext j
      simp only [List.mem_cons, had]
      by_cases hj : j ∈ r
      · simp [hj]
      · by_cases e : j = i
        · simp [hj, e]
        · simp [hj, e]
theorem ln_short {v : Nat → Int} {i : Nat} (hi : i < 18) (h : low i ≤ v i ∧ v i ≤ high i) : (ln v i).length ≤ 18 := by
  have h1 := nm_len i hi
  have h2 := low_bd i
  have h3 := high_bd i hi
  have h4 := (itoa_num (x := v i) (by omega) (by omega)).1
  unfold isNum at h4
  simp only [Bool.and_eq_true, decide_eq_true_eq] at h4
  simp only [ln, List.length_append, List.length_cons, List.length_nil]
  omega
theorem txt_short {v : Nat → Int} (hv : ∀ i, i < 18 → low i ≤ v i ∧ v i ≤ high i) : ∀ n, n ≤ 18 → (txt v n).length ≤ 18 * n := by
  intro n
  induction n with
  | zero => intro _; simp [txt]
  | succ n ih =>
    intro h
    have h1 := ih (by omega)
    have h2 := ln_short (v := v) (i := n) (by omega) (hv n (by omega))
    rw [txt_succ, List.length_append]
    omega
theorem stv_congr {v u : Nat → Int} (h : ∀ i, i < 18 → v i = u i) : stv v = stv u := by
  unfold stv
  apply List.map_congr_left
  intro i hi
  rw [h i (List.mem_range.1 hi)]
/-- What is printed of a style is read as it. -/
theorem ps_txt {v : Nat → Int} (h : chk v = true) : stv (psV (txt v 18)) = stv v ∧ psE (txt v 18) = 0 := by
  have hv := (chk_iff v).1 h
  have hl := txt_short hv 18 (by omega)
  have hr : run s0 (lns 0 (txt v 18)) = .ok (after s0 v (List.range 18)) := run_txt hv (List.range 18) 0 s0 (fun i hi => List.mem_range.1 hi) List.nodup_range (fun i _ => rfl)
  obtain ⟨a, b, c⟩ := ps_good (by omega) hr
  refine ⟨?_, c⟩
  rw [a]
  apply stv_congr
  intro i hi
  simp [after, hi]

theorem step_chk {s s' : S} {x : Nat × T} (h : step s x = .ok s') (hf : chk s.1 = true) : chk s'.1 = true := by
  unfold step at h
  split at h
  · cases h; exact hf
  · cases hs : sd (line x.2) with
    | none => rw [hs] at h; cases h
    | some q =>
      obtain ⟨i, n⟩ := q
      rw [hs] at h
      simp only at h
      split at h
      · cases h
      · cases h
        obtain ⟨h1, h2, h3⟩ := sd_spec hs
        rw [chk_iff] at hf ⊢
        intro j hj
        simp only [sput]
        split
        · next e => subst e; exact ⟨h2, h3⟩
        · exact hf j hj
theorem run_chk {l : List (Nat × T)} : ∀ {s s' : S}, run s l = .ok s' → chk s.1 = true → chk s'.1 = true := by
  induction l with
  | nil => intro s s' h hf; cases h; exact hf
  | cons x r ih =>
    intro s s' h hf
    rw [run] at h
    cases hs : step s x with
    | error p => rw [hs] at h; cases h
    | ok q => rw [hs] at h; exact ih h (step_chk hs hf)
theorem chk_first : chk (fv 18) = true := by decide
/-- What is read may be printed. -/
theorem ps_chk {t : T} (h : psE t = 0) : chk (psV t) = true := by
  by_cases hl : 65536 < t.length
  · rw [(ps_long hl).2.2] at h; omega
  · cases hr : run s0 (lns 0 t) with
    | error p => rw [(ps_bad hl hr).2.2] at h; omega
    | ok s => rw [(ps_good hl hr).1]; exact run_chk hr chk_first
theorem psV_fl (t : T) : Fl (psV t) := by
  by_cases hl : 65536 < t.length
  · rw [(ps_long hl).1]; exact fv_fl 0
  · cases hr : run s0 (lns 0 t) with
    | error p => rw [(ps_bad hl hr).1]; exact fv_fl 0
    | ok s => rw [(ps_good hl hr).1]; exact run_fl hr (fv_fl 18)

/-! ### In whichever order -/
def stepT (o : Option S) (t : T) : Option S := match o with
  | none => none
  | some s => match step s (0, t) with
    | .error _ => none
    | .ok s' => some s'
theorem step_pos (s : S) (x : Nat × T) : (match step s x with
    | .error _ => none
    | .ok s' => some s') = stepT (some s) x.2 := by
  unfold stepT
  simp only
  by_cases hd : dull x.2 = true
  · rw [step_dull hd, step_dull (x := (0, x.2)) hd]
  · have hd' : dull x.2 = false := by simpa using hd
    cases hs : sd (line x.2) with
    | none => rw [step_none hd' hs, step_none (x := (0, x.2)) hd' hs]
    | some q =>
      obtain ⟨i, n⟩ := q
      cases h3 : s.2 i
      · rw [step_set hd' hs h3, step_set (x := (0, x.2)) hd' hs h3]
      · rw [step_twice hd' hs h3, step_twice (x := (0, x.2)) hd' hs h3]
theorem foldl_none (l : List T) : l.foldl stepT none = none := by
  induction l with
  | nil => rfl
  | cons x r ih => exact ih
theorem run_fold (l : List (Nat × T)) : ∀ s, (match run s l with
    | .error _ => none
    | .ok s' => some s') = (l.map (·.2)).foldl stepT (some s) := by
  induction l with
  | nil => intro s; rfl
  | cons x r ih =>
    intro s
    rw [List.map_cons, List.foldl_cons, run, ← step_pos]
    cases step s x with
    | error p => simp only; rw [foldl_none]
    | ok s' => exact ih s'
theorem sput_comm {v : Nat → Int} {i j : Nat} {x y : Int} (h : i ≠ j) : sput (sput v i x) j y = sput (sput v j y) i x := by
  funext k
  simp only [sput]
  by_cases e : k = j
  · subst e; simp [Ne.symm h]
  · simp [e]
theorem had_comm {h : Nat → Bool} {i j : Nat} : had (had h i) j = had (had h j) i := by
  funext k
  simp only [had]
  by_cases e : k = j
  · subst e; simp
  · simp [e]
/-- What a text's line does, its white space off. -/
inductive Act0 | skip | bad | put (i : Nat) (n : Int)
def what (t : T) : Act0 := if dull t = true then .skip else match sd (line t) with
  | none => .bad
  | some (i, n) => .put i n
def app (o : Option S) : Act0 → Option S
  | .skip => o
  | .bad => none
  | .put i n => match o with
    | none => none
    | some s => if s.2 i = true then none else some (sput s.1 i n, had s.2 i)
theorem stepT_app (o : Option S) (t : T) : stepT o t = app o (what t) := by
  cases o with
  | none =>
    unfold what
    split
    · rfl
    · cases sd (line t) <;> rfl
  | some s =>
    unfold stepT what
    simp only
    by_cases hd : dull t = true
    · rw [step_dull (x := (0, t)) hd, if_pos hd]; rfl
    · have hd' : dull t = false := by simpa using hd
      rw [if_neg hd]
      cases hs : sd (line t) with
      | none => rw [step_none (x := (0, t)) hd' hs]; rfl
      | some q =>
        obtain ⟨i, n⟩ := q
        cases h3 : s.2 i
        · rw [step_set (x := (0, t)) hd' hs h3]; simp [app, h3]
        · rw [step_twice (x := (0, t)) hd' hs h3]; simp [app, h3]
theorem app_comm (o : Option S) (a b : Act0) : app (app o a) b = app (app o b) a := by
  cases a with
  | skip => cases b <;> rfl
  | bad => cases b with
    | skip => rfl
    | bad => rfl
    | put j y => rfl
  | put i x => cases b with
    | skip => rfl
    | bad => rfl
    | put j y =>
      cases o with
      | none => rfl
      | some s =>
        simp only [app]
        cases hi : s.2 i <;> cases hj : s.2 j
        · simp only [Bool.false_eq_true, if_false]
          by_cases e : i = j
          · subst e; simp [had]
          · have e' : ¬ j = i := fun h => e h.symm
            simp only [had, if_neg e, if_neg e', hi, hj, Bool.false_eq_true, if_false]
            rw [sput_comm e]
            rw [had_comm (h := s.2) (i := i) (j := j)]
        · simp [had, hj]
        · simp [had, hi]
        · simp
/-- The lines of a text, as they stand one behind the other, each with its end. -/
def joinL (l : List T) : T := l.flatMap fun t => t ++ [10]
theorem lns_join (l : List T) (h : ∀ t ∈ l, 10 ∉ t) : ∀ a, (lns a (joinL l)).map (·.2) = l := by
  induction l with
  | nil => intro a; rfl
  | cons t r ih =>
    intro a
    unfold joinL
    rw [List.flatMap_cons, List.append_assoc, List.singleton_append, lns_line (h t (by simp))]
    rw [List.map_cons]
    congr 1
    exact ih (fun u hu => h u (by simp [hu])) _
theorem fold_perm {l m : List T} (h : l.Perm m) (o : Option S) : l.foldl stepT o = m.foldl stepT o := by
  refine h.foldl_eq' (fun x _ y _ z => ?_) o
  rw [stepT_app, stepT_app, stepT_app, stepT_app, app_comm]
/-- Lines, in another order: the same style, or as none. -/
theorem ps_perm {l m : List T} (h : l.Perm m) (hn : ∀ t ∈ l, 10 ∉ t) (hl : (joinL l).length ≤ 65536) : psV (joinL l) = psV (joinL m) ∧ psE (joinL l) = psE (joinL m) := by
  have hm : (joinL m).length = (joinL l).length := by
    unfold joinL
    exact (h.flatMap_right _).length_eq.symm
  have hnm : ∀ t ∈ m, 10 ∉ t := fun t ht => hn t (h.mem_iff.2 ht)
  have e1 := run_fold (lns 0 (joinL l)) s0
  have e2 := run_fold (lns 0 (joinL m)) s0
  rw [lns_join l hn] at e1
  rw [lns_join m hnm, ← fold_perm h, ← e1] at e2
  cases hr : run s0 (lns 0 (joinL l)) with
  | error p =>
    cases hq : run s0 (lns 0 (joinL m)) with
    | error q =>
      obtain ⟨a, _, c⟩ := ps_bad (by omega) hr
      obtain ⟨a', _, c'⟩ := ps_bad (t := joinL m) (by omega) hq
      rw [a, a', c, c']; exact ⟨rfl, rfl⟩
    | ok q => rw [hr, hq] at e2; cases e2
  | ok s =>
    cases hq : run s0 (lns 0 (joinL m)) with
    | error q => rw [hr, hq] at e2; cases e2
    | ok q =>
      rw [hr, hq] at e2
      simp only [Option.some.injEq] at e2
      obtain ⟨a, _, c⟩ := ps_good (by omega) hr
      obtain ⟨a', _, c'⟩ := ps_good (t := joinL m) (by omega) hq
      rw [a, a', c, c', e2]; exact ⟨rfl, rfl⟩

end St
end Go.Proofs.YtliabgcpciekpaaDoor
