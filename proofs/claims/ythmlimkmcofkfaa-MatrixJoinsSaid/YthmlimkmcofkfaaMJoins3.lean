/- For any three matrices: products may be put together in any way. (Part 4 of 4.) -/
import Derived.Test.YthmlimkmcofkfaaMJoins0
import Derived.Test.YthmlimkmcofkfaaMJoins1
import Derived.Test.YthmlimkmcofkfaaMJoins2
/- MatrixTurns, told of lists: what an inverse and its matrix make is the one, on either side. -/
namespace Go.Proofs.Ythmlimkmcofkfaa.L
open Go.RowKit Go.Proofs.YthmlimkmcofkfaaW.PrintWords Go.Proofs.Ythmlimkmcofkfaa.E Go.Proofs.Ythmlimkmcofkfaa.B
set_option linter.unusedVariables false

theorem check_of {l : List (List Int)} {m : Nat} (h1 : 0 < l.length) (h2 : l.length ≤ 32) (h3 : 0 < m) (h4 : m ≤ 32) (hr : Rect m l) : check l = 0 := by
  have r0 := hr 0 h1
  have hmem : ∀ x ∈ l, x.length = m := by
    intro x hx
    obtain ⟨i, hi, rfl⟩ := List.getElem_of_mem hx
    have := hr i hi
    rw [rdL_nat] at this
    simpa [hi] using this
  unfold check
  rw [if_neg, if_neg]
  · rintro (h | h)
    · omega
    · obtain ⟨x, hx, hp⟩ := List.any_eq_true.1 h
      have := hmem x hx
      have r0' : (rd_L1 l 0).length = m := r0
      simp [P2, r0', this] at hp
      omega
  · rintro (h | h)
    · omega
    · obtain ⟨x, hx, hp⟩ := List.any_eq_true.1 h
      have := hmem x hx
      simp [P1, this] at hp
      omega
theorem okB_of {l : List (List Int)} {m : Nat} (hr : Rect m l) (hb : Bytes l.length m (entry l)) : okB l = true := by
  unfold okB
  rw [List.all_eq_true]
  intro x hx
  obtain ⟨i, hi, rfl⟩ := List.getElem_of_mem hx
  have hl := hr i hi
  have e : rd_L1 l i = l[i] := by rw [rdL_nat]; simp [hi]
  rw [e] at hl
  rw [List.all_eq_true]
  intro y hy
  obtain ⟨j, hj, rfl⟩ := List.getElem_of_mem hy
  have := hb i j hi (by omega)
  unfold entry at this
  rw [e, rd_nat] at this
  simp [hj] at this
  simpa [Byte] using this
theorem rightL_len (S : Nat → Nat → Int) (n : Nat) : (rightL S n).length = n := by simp [rightL]
theorem rightL_row {S : Nat → Nat → Int} {n i : Nat} (h : i < n) : rd_L1 (rightL S n) i = rightRow S n i := by rw [rdL_nat]; simp [rightL, h]
theorem rightL_rect (S : Nat → Nat → Int) (n : Nat) : Rect n (rightL S n) := fun i hi => by rw [rightL_len] at hi; rw [rightL_row hi, rightRow_len]
theorem rightL_entry {S : Nat → Nat → Int} {n i j : Nat} (hi : i < n) (hj : j < n) : entry (rightL S n) i j = S i (n + j) := by unfold entry; rw [rightL_row hi, rd_nat]; simp [rightRow, hj]
theorem idRow_tab {n i : Nat} : idRow n i = tab n (one i) := by
  apply List.ext_getElem
  · simp [idRow, tab]
  · intro j h1 h2
    simp [tab] at h2
    by_cases e : i = j
    · subst e; simp [idRow, tab, one]
    · simp [idRow, tab, one, e]
theorem mulL_id {A Bm : List (List Int)} {n : Nat} (hA : A.length = n) (hB : Bm.length = n) (hr : Rect n Bm) (h0 : 0 < n) (h : ∀ i j, i < n → j < n → gsum n (fun t => gmul (entry A i t) (entry Bm t j)) = one i j) : mulL A Bm = idL n := by
  unfold mulL idL
  rw [hA, ← List.range_eq_range']
  refine List.map_congr_left (fun i hi => ?_)
  have hi' : i < n := List.mem_range.1 hi
  rw [idRow_tab]
  unfold mulRow
  have e0 : (rd_L1 Bm 0).length = n := hr 0 (by omega)
  rw [e0, hB]
  exact tab_congr (fun j hj => h i j hi' hj)
theorem aug_Aug {l : List (List Int)} {n : Nat} : Aug n (entry l) (augM l n) := fun i hi => ⟨fun j hj => by unfold augM; rw [if_pos hj], fun j hj => by
  unfold augM one
  rw [if_neg (by omega), show n + j - n = j by omega]
  by_cases e : j = i
  · rw [if_pos e, if_pos e.symm]
  · rw [if_neg e, if_neg (fun h => e h.symm)]⟩

theorem turns_j1 {l : List (List Int)} {n : Nat} (hn : l.length = n) (hr : Rect n l) (h0 : 0 < n) (h32 : n ≤ 32) (ok : okB l = true) :
    Ev (fun k => P.stowagelaw02_MatrixTurns.j1 k l true (invertV l).1 (invertV l).2 (((invertV l).2 == 0) != (((rankV l).1) == (l.length : Int)))) true := by
  have hc : check l = 0 := check_of (by omega) (by omega) h0 h32 (by rw [← hn] at hr ⊢; exact hr)
  have hr0 : (rd_L1 l 0).length = n := hr 0 (by omega)
  have hbe : Bytes n n (entry l) := by have := okB_entry ok hr; rwa [hn] at this
  have hag := (sweep_agree (n := n) (q := n) (M := entry l) (M' := augM l n) (fun i j hi hj => by unfold augM; rw [if_pos hj]) n (Nat.le_refl _)).1
  have hrk : rankV l = ((((sweepM n n (0, augM l n)).1 : Nat) : Int), (0 : Int)) := by
    unfold rankV
    rw [if_neg (by simp [hc]), hr0, hn, hag]
  have hiv : invertV l = if (sweepM n n (0, augM l n)).1 < n then ([], 120) else (rightL (sweepM n n (0, augM l n)).2 n, 0) := by
    unfold invertV invS
    rw [if_neg (by simp [hc]), if_neg (by omega), hn]
  have hle := rank_le (n := n) (augM l n) n
  rw [hrk, hiv]
  by_cases e : (sweepM n n (0, augM l n)).1 < n
  · rw [if_pos e]
    refine Ev.step (f := fun _ => some true) (fun k => ?_) (Ev.now _)
    have h1 : (((sweepM n n (0, augM l n)).1 : Int) == (l.length : Int)) = false := by simp; omega
    simp only [P.stowagelaw02_MatrixTurns.j1]
    rw [h1]
    rfl
  · rw [if_neg e]
    have e' : (sweepM n n (0, augM l n)).1 = n := by omega
    obtain ⟨i1, i2, i3⟩ := inverse (aug_Aug (l := l)) hbe e'
    have h1 : (((sweepM n n (0, augM l n)).1 : Int) == (l.length : Int)) = true := by simp; omega
    rw [h1]
    generalize (sweepM n n (0, augM l n)).2 = S at *
    have rB := rightL_rect S n
    have lB := rightL_len S n
    have cB : check (rightL S n) = 0 := check_of (by omega) (by omega) h0 h32 rB
    have bB : Bytes (rightL S n).length n (entry (rightL S n)) := fun i j hi hj => by rw [lB] at hi; rw [rightL_entry hi hj]; exact i1 i j hi hj
    have oB := okB_of rB bB
    have m1 : mulL l (rightL S n) = idL n := mulL_id hn lB rB h0 (fun i j hi hj => by
      rw [gsum_congr (fun t ht => by rw [rightL_entry ht hj])]; exact i3 i j hi hj)
    have m2 : mulL (rightL S n) l = idL n := mulL_id lB hn hr h0 (fun i j hi hj => by
      rw [gsum_congr (fun t ht => by rw [rightL_entry hi ht])]; exact i2 i j hi hj)
    have v1 := Mul_ok hc cB (by omega) ok oB
    have v2 := Mul_ok cB hc (by have := rB 0 (by omega); rw [hn]; exact this.symm) oB ok
    rw [m1] at v1
    rw [m2] at v2
    have vone := one_ev n h0 h32
    rw [← hn] at vone
    have vmk := makes_self (idL n) (by rw [idL_len]; omega)
    rw [hn] at vone
    refine Ev.step (f := fun k => (matrix_One.f k (l.length : Int)).bind fun bt303 => ((P.matrix_Mul.f k l (rightL S n)).bind fun bt307 => ((P.matrix_Mul.f k (rightL S n) l).bind fun bt311 => (if true = true then (if bt303.2 = 0 then ((stowagelaw02_makes.f k bt307.1 bt307.2 bt303.1).bind fun t315 => (if t315 = true then ((stowagelaw02_makes.f k bt311.1 bt311.2 bt303.1).bind fun t316 => (some t316)) else (some false))) else (some false)) else (some false))))) (fun k => ?_) ?_
    · simp only [P.stowagelaw02_MatrixTurns.j1]
      rfl
    · rw [hn]
      refine Ev.bind vone ?_
      refine Ev.bind v1 ?_
      refine Ev.bind v2 ?_
      refine Ev.congr (fun k => if_pos rfl) ?_
      refine Ev.congr (fun k => if_pos rfl) ?_
      refine Ev.bind vmk ?_
      refine Ev.congr (fun k => if_pos rfl) ?_
      exact Ev.bind vmk (Ev.now _)
theorem turns_j0 {l : List (List Int)} (ok : okB l = true) (b : Bool) (h : b = false → check l = 0 ∧ (rd_L1 l 0).length = l.length) : Ev (fun k => P.stowagelaw02_MatrixTurns.j0 k l true b) true := by
  cases b with
  | true => exact Ev.step (f := fun _ => some true) (fun k => by simp only [P.stowagelaw02_MatrixTurns.j0]; rfl) (Ev.now _)
  | false =>
    obtain ⟨hc, hsq⟩ := h rfl
    obtain ⟨g1, g2, g3, g4, g5⟩ := check_ok hc
    have hj := turns_j1 (l := l) rfl (by rw [← hsq]; exact g5) g1 g2 ok
    have hrk : 0 ≤ (rankV l).1 ∧ (rankV l).1 ≤ l.length ∧ (rankV l).2 = 0 := by
      have h1 := rank_le (n := l.length) (entry l) (rd_L1 l 0).length
      unfold rankV
      rw [if_neg (by simp [hc])]
      exact ⟨by simp, by simp; exact h1, rfl⟩
    refine Ev.step (f := fun k => P.stowagelaw02_MatrixTurns.j1 k l true (invertV l).1 (invertV l).2 (((invertV l).2 == 0) != (((rankV l).1) == (l.length : Int)))) (fun k => ?_) hj
    simp only [P.stowagelaw02_MatrixTurns.j0, matrix_Rank.f, matrix_Invert.f]
    rw [if_neg (by decide), if_pos ok, if_pos ok]
    simp only [Option.bind_some]
    rw [if_pos hrk.2.2, if_neg (by omega), if_neg (by omega)]
theorem turns_pure (l : List (List Int)) (ok : okB l = true) : ∃ k, P.stowagelaw02_MatrixTurns.f k l = some true := by
  refine Ev.rounds (g := fun k => P.stowagelaw02_MatrixTurns.f k l) ?_
  unfold P.stowagelaw02_MatrixTurns.f
  refine Ev.bind known_ev ?_
  obtain ⟨b, hb⟩ := large_ev l
  refine Ev.bind hb ?_
  cases b with
  | true =>
    refine Ev.congr (fun k => if_pos rfl) ?_
    exact turns_j0 ok true (fun h => by cases h)
  | false =>
    refine Ev.congr (fun k => if_neg (by decide)) ?_
    refine Ev.bind (a := check l) (evc rfl) ?_
    by_cases hc : check l = 0
    · obtain ⟨g1, _⟩ := check_ok hc
      refine Ev.congr (fun k => if_pos hc) ?_
      refine Ev.congr (fun k => if_pos (by omega)) ?_
      refine turns_j0 ok _ (fun h => ⟨hc, ?_⟩)
      rw [rdP] at h
      simp at h
      omega
    · refine Ev.congr (fun k => if_neg hc) ?_
      exact turns_j0 ok true (fun h => by cases h)
end Go.Proofs.Ythmlimkmcofkfaa.L

/- Contracts of functions of the program, written by a program of this session. -/
namespace Go.Proofs.Ythmlimkmcofkfaa.P
open Go.RowKit Go.Proofs.YthmlimkmcofkfaaW.PrintWords Go.Proofs.YthmlimkmcofkfaaW.PrintLast Go.Proofs.YthmlimkmcofkfaaW.PrintMore
attribute [local go_sem] max2_int min2_int max_two min_two max_three min_three max_four min_four   -- for this text's walks alone
open Go.Proofs.Ythmlimkmcofkfaa.B Go.Proofs.Ythmlimkmcofkfaa.E
set_option linter.unusedVariables false
set_option linter.unusedSimpArgs false

/-! ### stowagelaw02_MatrixJoins: function 6 -/
mutual
def stowagelaw02_MatrixJoins.j0 : Nat → List (List Int) → List (List Int) → List (List Int) → Bool → Bool → Option (Bool)
  | 0, _, _, _, _, _ => none
  | k + 1, x0, x1, x2, x7, x26 => if x26 = true then (some x7) else ((matrix_Mul.f k x0 x1).bind fun bt321 => ((matrix_Mul.f k x1 x2).bind fun bt325 => (if bt321.2 = 0 then (stowagelaw02_MatrixJoins.j1 k x0 x2 x7 bt321.1 bt325.1 (bt325.2 != 0)) else (stowagelaw02_MatrixJoins.j1 k x0 x2 x7 bt321.1 bt325.1 true))))
def stowagelaw02_MatrixJoins.j1 : Nat → List (List Int) → List (List Int) → Bool → List (List Int) → List (List Int) → Bool → Option (Bool)
  | 0, _, _, _, _, _, _ => none
  | k + 1, x0, x2, x7, x8, x10, x45 => if x45 = true then (some x7) else ((matrix_Mul.f k x8 x2).bind fun bt329 => ((matrix_Mul.f k x0 x10).bind fun bt333 => (if x7 = true then (if bt329.2 = 0 then (if bt333.2 = 0 then ((stowagekit_SameLists.f k bt329.1 bt333.1).bind fun t337 => (some t337)) else (some false)) else (some false)) else (some false))))
end
def stowagelaw02_MatrixJoins.f (k : Nat) (l0 : List (List Int)) (l1 : List (List Int)) (l2 : List (List Int)) : Option (Bool) := (stowagelaw02_MatrixKnown.f k).bind fun t317 => ((stowagelaw02_Large.f k l0).bind fun t318 => (if t318 = true then (stowagelaw02_MatrixJoins.j0 k l0 l1 l2 t317 true) else ((stowagelaw02_Large.f k l1).bind fun t319 => (if t319 = true then (stowagelaw02_MatrixJoins.j0 k l0 l1 l2 t317 true) else ((stowagelaw02_Large.f k l2).bind fun t320 => (stowagelaw02_MatrixJoins.j0 k l0 l1 l2 t317 t320))))))
theorem stowagelaw02_MatrixJoins.mono_l : ∀ k, (∀ y0 y1 y2 y3 y4, LeO (stowagelaw02_MatrixJoins.j0 k y0 y1 y2 y3 y4) (stowagelaw02_MatrixJoins.j0 (k + 1) y0 y1 y2 y3 y4)) ∧ (∀ y0 y1 y2 y3 y4 y5, LeO (stowagelaw02_MatrixJoins.j1 k y0 y1 y2 y3 y4 y5) (stowagelaw02_MatrixJoins.j1 (k + 1) y0 y1 y2 y3 y4 y5))
  | 0 => ⟨fun _ _ _ _ _ r h => by simp [stowagelaw02_MatrixJoins.j0] at h, fun _ _ _ _ _ _ r h => by simp [stowagelaw02_MatrixJoins.j1] at h⟩
  | k + 1 => by
    obtain ⟨ih0, ih1⟩ := stowagelaw02_MatrixJoins.mono_l k
    refine ⟨?_, ?_⟩
    · intro y0 y1 y2 y3 y4
      unfold stowagelaw02_MatrixJoins.j0
      repeat' first
      | (with_reducible exact ih0 _ _ _ _ _)
      | (with_reducible exact ih1 _ _ _ _ _ _)
      | (with_reducible exact matrix_Mul.mono _ _ _)
      | (with_reducible exact stowagekit_SameLists.mono _ _ _)
      | (with_reducible exact stowagelaw02_Large.mono _ _)
      | (with_reducible exact stowagelaw02_MatrixKnown.mono _)
      | (with_reducible exact LeO.refl _)
      | (with_reducible exact LeO.none _)
      | (with_reducible refine LeO.ite ?_ ?_)
      | (with_reducible refine LeO.bind ?_ (fun _ => ?_))
      | exact ih0 _ _ _ _ _
      | exact ih1 _ _ _ _ _ _
      | exact matrix_Mul.mono _ _ _
      | exact stowagekit_SameLists.mono _ _ _
      | exact stowagelaw02_Large.mono _ _
      | exact stowagelaw02_MatrixKnown.mono _
      | exact LeO.none _
      | refine LeO.ite ?_ ?_
      | refine LeO.bind ?_ (fun _ => ?_)
    · intro y0 y1 y2 y3 y4 y5
      unfold stowagelaw02_MatrixJoins.j1
      repeat' first
      | (with_reducible exact ih0 _ _ _ _ _)
      | (with_reducible exact ih1 _ _ _ _ _ _)
      | (with_reducible exact matrix_Mul.mono _ _ _)
      | (with_reducible exact stowagekit_SameLists.mono _ _ _)
      | (with_reducible exact stowagelaw02_Large.mono _ _)
      | (with_reducible exact stowagelaw02_MatrixKnown.mono _)
      | (with_reducible exact LeO.refl _)
      | (with_reducible exact LeO.none _)
      | (with_reducible refine LeO.ite ?_ ?_)
      | (with_reducible refine LeO.bind ?_ (fun _ => ?_))
      | exact ih0 _ _ _ _ _
      | exact ih1 _ _ _ _ _ _
      | exact matrix_Mul.mono _ _ _
      | exact stowagekit_SameLists.mono _ _ _
      | exact stowagelaw02_Large.mono _ _
      | exact stowagelaw02_MatrixKnown.mono _
      | exact LeO.none _
      | refine LeO.ite ?_ ?_
      | refine LeO.bind ?_ (fun _ => ?_)
theorem stowagelaw02_MatrixJoins.mono : ∀ a0 a1 a2 k, LeO (stowagelaw02_MatrixJoins.f k a0 a1 a2) (stowagelaw02_MatrixJoins.f (k + 1) a0 a1 a2) := by
  intro a0 a1 a2 k
  obtain ⟨ih0, ih1⟩ := stowagelaw02_MatrixJoins.mono_l k
  unfold stowagelaw02_MatrixJoins.f
  repeat' first
      | (with_reducible exact ih0 _ _ _ _ _)
      | (with_reducible exact ih1 _ _ _ _ _ _)
      | (with_reducible exact matrix_Mul.mono _ _ _)
      | (with_reducible exact stowagekit_SameLists.mono _ _ _)
      | (with_reducible exact stowagelaw02_Large.mono _ _)
      | (with_reducible exact stowagelaw02_MatrixKnown.mono _)
      | (with_reducible exact LeO.refl _)
      | (with_reducible exact LeO.none _)
      | (with_reducible refine LeO.ite ?_ ?_)
      | (with_reducible refine LeO.bind ?_ (fun _ => ?_))
      | exact ih0 _ _ _ _ _
      | exact ih1 _ _ _ _ _ _
      | exact matrix_Mul.mono _ _ _
      | exact stowagekit_SameLists.mono _ _ _
      | exact stowagelaw02_Large.mono _ _
      | exact stowagelaw02_MatrixKnown.mono _
      | exact LeO.none _
      | refine LeO.ite ?_ ?_
      | refine LeO.bind ?_ (fun _ => ?_)
set_option maxHeartbeats 8000000 in
set_option maxRecDepth 100000 in
theorem stowagelaw02_MatrixJoins.calls (k : Nat) (A0 : Option Addr) (c0 : Nat) (l0 : List (List Int)) (A1 : Option Addr) (c1 : Nat) (l1 : List (List Int)) (A2 : Option Addr) (c2 : Nat) (l2 : List (List Int)) (r : Bool) (w : World) (hr0 : Kd.C (Kd.slice 5 (Kd.int .u8)) w A0 l0.length l0) (hc0 : l0.length ≤ c0) (hr1 : Kd.C (Kd.slice 5 (Kd.int .u8)) w A1 l1.length l1) (hc1 : l1.length ≤ c1) (hr2 : Kd.C (Kd.slice 5 (Kd.int .u8)) w A2 l2.length l2) (hc2 : l2.length ≤ c2) (h : stowagelaw02_MatrixJoins.f k l0 l1 l2 = some r) :
    Calls Try.prog 6 #[.slice A0 l0.length c0, .slice A1 l1.length c1, .slice A2 l2.length c2] w fun e w' => e = .returned (.bool r) ∧ Below w.heap.size w w' := by
  have HR0 := Aside0.mk hr0
  have HC0 := Aside0.mk hc0
  clear hr0 hc0
  have HR1 := Aside0.mk hr1
  have HC1 := Aside0.mk hc1
  clear hr1 hc1
  have HR2 := Aside0.mk hr2
  have HC2 := Aside0.mk hc2
  clear hr2 hc2
  have HB := Aside0.mk (Below.refl w.heap.size w)
  have H : ((stowagelaw02_MatrixKnown.f k).bind fun t317 => ((stowagelaw02_Large.f k l0).bind fun t318 => (if t318 = true then (stowagelaw02_MatrixJoins.j0 k l0 l1 l2 t317 true) else ((stowagelaw02_Large.f k l1).bind fun t319 => (if t319 = true then (stowagelaw02_MatrixJoins.j0 k l0 l1 l2 t317 true) else ((stowagelaw02_Large.f k l2).bind fun t320 => (stowagelaw02_MatrixJoins.j0 k l0 l1 l2 t317 t320))))))) = some r := h
  clear h
  replace H := Option.bind_eq_some_iff.mp H
  obtain ⟨t317, A40, H⟩ := H
  replace H : ((stowagelaw02_Large.f k l0).bind fun t318 => (if t318 = true then (stowagelaw02_MatrixJoins.j0 k l0 l1 l2 t317 true) else ((stowagelaw02_Large.f k l1).bind fun t319 => (if t319 = true then (stowagelaw02_MatrixJoins.j0 k l0 l1 l2 t317 true) else ((stowagelaw02_Large.f k l2).bind fun t320 => (stowagelaw02_MatrixJoins.j0 k l0 l1 l2 t317 t320)))))) = some r := H
  have A4 := Aside0.mk A40
  clear A40
  have HC5 := Aside0.mk H
  clear H
  go_enter Try.func6, Try.ntmps6
  go_upto_region 2 with (first | ((with_reducible refine gate_callee (f := 35) rfl ?_); refine goesL_ (some 16) rfl rfl Try.func35 (by kernel_rfl) rfl #[] rfl (by (try simp only [List.map_toArray, List.map_cons, List.map_nil]); first | done | rfl | (simp only [List.length_drop, List.length_take]; rfl)) ?_; (with_reducible refine (stowagelaw02_MatrixKnown.calls k  t317 _ A4.out).mono ?_); rintro e w6 ⟨rfl, hb⟩; refine ⟨_, rfl, ?_⟩; have n0_ := Aside0.mk (below_step (by repeat (first | (with_reducible first | exact HB.out | apply below_alloc | apply pw_below_drewN | apply below_drew1) | exact HB.out)) hb); clear HB; have HB := n0_; clear n0_; (try clear hb); (try clear hb2); (try clear hk); (try clear hi)))
  (try simp only [Act.put, List.setIfInBounds_toArray, List.set_cons_zero, List.set_cons_succ])
  go_cut [26] (fun v26 wc => ∃ (kq : Nat) (x26_4 : Bool), v26 = .bool x26_4 ∧ Aside0 (stowagelaw02_MatrixJoins.j0 kq l0 l1 l2 t317 x26_4 = some r) ∧ Aside0 (kq ≤ k) ∧ Aside0 (Below w.heap.size w wc))
  case first =>
    have H := HC5.out
    clear HC5
    replace H := Option.bind_eq_some_iff.mp H
    obtain ⟨t318, A70, H⟩ := H
    replace H : (if t318 = true then (stowagelaw02_MatrixJoins.j0 k l0 l1 l2 t317 true) else ((stowagelaw02_Large.f k l1).bind fun t319 => (if t319 = true then (stowagelaw02_MatrixJoins.j0 k l0 l1 l2 t317 true) else ((stowagelaw02_Large.f k l2).bind fun t320 => (stowagelaw02_MatrixJoins.j0 k l0 l1 l2 t317 t320))))) = some r := H
    have A7 := Aside0.mk A70
    clear A70
    by_cases c8 : t318 = true
    · subst c8
      have H1 : (stowagelaw02_MatrixJoins.j0 k l0 l1 l2 t317 true) = some r := by rw [if_pos rfl] at H; exact H
      clear H
      have H := H1
      clear H1
      have H' := Aside0.mk H
      clear H
      go_wp2_with (first | ((with_reducible refine gate_callee (f := 13) rfl ?_); refine goesL_ (some 18) rfl rfl Try.func13 (by kernel_rfl) rfl #[.slice A0 l0.length c0] rfl (by (try simp only [List.map_toArray, List.map_cons, List.map_nil]); first | done | rfl | (simp only [List.length_drop, List.length_take]; rfl)) ?_; (with_reducible refine (stowagelaw02_Large.calls k _ _ l0 true _ ?side1 ?side2 A7.out).mono ?_); (case side1 => repeat (first | exact (Kd.C_below HR0.out HB.out) | (with_reducible refine Kd.C_alloc ?_ _) | (with_reducible refine Kd.C_drewN ?_ _) | (with_reducible refine Kd.C_drew ?_))); (case side2 => exact HC0.out); rintro e w' ⟨rfl, ⟨nd, rfl⟩⟩; refine ⟨_, rfl, ?_⟩))
      go_meet
      case rel => exact ⟨_, (true), (by first | rfl | (simp; done) | (simp [*]; done)), H', ⟨by first | omega | exact Nat.le_refl _⟩, ⟨by repeat (first | (with_reducible first | exact HB.out | apply below_alloc | apply pw_below_drewN | apply below_drew1) | exact HB.out)⟩⟩
    · replace c8 := Bool.eq_false_iff.mpr c8
      subst c8
      have H1 : ((stowagelaw02_Large.f k l1).bind fun t319 => (if t319 = true then (stowagelaw02_MatrixJoins.j0 k l0 l1 l2 t317 true) else ((stowagelaw02_Large.f k l2).bind fun t320 => (stowagelaw02_MatrixJoins.j0 k l0 l1 l2 t317 t320)))) = some r := by rw [if_neg (show ¬ (false = true) by decide)] at H; exact H
      clear H
      have H := H1
      clear H1
      replace H := Option.bind_eq_some_iff.mp H
      obtain ⟨t319, A90, H⟩ := H
      replace H : (if t319 = true then (stowagelaw02_MatrixJoins.j0 k l0 l1 l2 t317 true) else ((stowagelaw02_Large.f k l2).bind fun t320 => (stowagelaw02_MatrixJoins.j0 k l0 l1 l2 t317 t320))) = some r := H
      have A9 := Aside0.mk A90
      clear A90
      by_cases c10 : t319 = true
      · subst c10
        have H1 : (stowagelaw02_MatrixJoins.j0 k l0 l1 l2 t317 true) = some r := by rw [if_pos rfl] at H; exact H
        clear H
        have H := H1
        clear H1
        have H' := Aside0.mk H
        clear H
        go_wp2_with (first | ((with_reducible refine gate_callee (f := 13) rfl ?_); refine goesL_ (some 18) rfl rfl Try.func13 (by kernel_rfl) rfl #[.slice A0 l0.length c0] rfl (by (try simp only [List.map_toArray, List.map_cons, List.map_nil]); first | done | rfl | (simp only [List.length_drop, List.length_take]; rfl)) ?_; (with_reducible refine (stowagelaw02_Large.calls k _ _ l0 false _ ?side1 ?side2 A7.out).mono ?_); (case side1 => repeat (first | exact (Kd.C_below HR0.out HB.out) | (with_reducible refine Kd.C_alloc ?_ _) | (with_reducible refine Kd.C_drewN ?_ _) | (with_reducible refine Kd.C_drew ?_))); (case side2 => exact HC0.out); rintro e w' ⟨rfl, ⟨nd, rfl⟩⟩; refine ⟨_, rfl, ?_⟩) | (go_at_call 13; (with_reducible refine (stowagelaw02_Large.calls k _ _ l1 true _ ?side1 ?side2 A9.out).mono ?_); (case side1 => repeat (first | exact (Kd.C_below HR1.out (by repeat (first | (with_reducible first | exact HB.out | apply below_alloc | apply pw_below_drewN | apply below_drew1) | exact HB.out))) | (with_reducible refine Kd.C_alloc ?_ _) | (with_reducible refine Kd.C_drewN ?_ _) | (with_reducible refine Kd.C_drew ?_))); (case side2 => exact HC1.out); rintro e w' ⟨rfl, ⟨nd, rfl⟩⟩))
        go_meet
        case rel => exact ⟨_, (true), (by first | rfl | (simp; done) | (simp [*]; done)), H', ⟨by first | omega | exact Nat.le_refl _⟩, ⟨by repeat (first | (with_reducible first | exact HB.out | apply below_alloc | apply pw_below_drewN | apply below_drew1) | exact HB.out)⟩⟩
      · replace c10 := Bool.eq_false_iff.mpr c10
        subst c10
        have H1 : ((stowagelaw02_Large.f k l2).bind fun t320 => (stowagelaw02_MatrixJoins.j0 k l0 l1 l2 t317 t320)) = some r := by rw [if_neg (show ¬ (false = true) by decide)] at H; exact H
        clear H
        have H := H1
        clear H1
        replace H := Option.bind_eq_some_iff.mp H
        obtain ⟨t320, A110, H⟩ := H
        replace H : (stowagelaw02_MatrixJoins.j0 k l0 l1 l2 t317 t320) = some r := H
        have A11 := Aside0.mk A110
        clear A110
        have H' := Aside0.mk H
        clear H
        go_wp2_with (first | ((with_reducible refine gate_callee (f := 13) rfl ?_); refine goesL_ (some 18) rfl rfl Try.func13 (by kernel_rfl) rfl #[.slice A0 l0.length c0] rfl (by (try simp only [List.map_toArray, List.map_cons, List.map_nil]); first | done | rfl | (simp only [List.length_drop, List.length_take]; rfl)) ?_; (with_reducible refine (stowagelaw02_Large.calls k _ _ l0 false _ ?side1 ?side2 A7.out).mono ?_); (case side1 => repeat (first | exact (Kd.C_below HR0.out HB.out) | (with_reducible refine Kd.C_alloc ?_ _) | (with_reducible refine Kd.C_drewN ?_ _) | (with_reducible refine Kd.C_drew ?_))); (case side2 => exact HC0.out); rintro e w' ⟨rfl, ⟨nd, rfl⟩⟩; refine ⟨_, rfl, ?_⟩) | (go_at_call 13; (with_reducible refine (stowagelaw02_Large.calls k _ _ l1 false _ ?side1 ?side2 A9.out).mono ?_); (case side1 => repeat (first | exact (Kd.C_below HR1.out (by repeat (first | (with_reducible first | exact HB.out | apply below_alloc | apply pw_below_drewN | apply below_drew1) | exact HB.out))) | (with_reducible refine Kd.C_alloc ?_ _) | (with_reducible refine Kd.C_drewN ?_ _) | (with_reducible refine Kd.C_drew ?_))); (case side2 => exact HC1.out); rintro e w' ⟨rfl, ⟨nd, rfl⟩⟩) | (go_at_call 13; (with_reducible refine (stowagelaw02_Large.calls k _ _ l2 t320 _ ?side1 ?side2 A11.out).mono ?_); (case side1 => repeat (first | exact (Kd.C_below HR2.out (by repeat (first | (with_reducible first | exact HB.out | apply below_alloc | apply pw_below_drewN | apply below_drew1) | exact HB.out))) | (with_reducible refine Kd.C_alloc ?_ _) | (with_reducible refine Kd.C_drewN ?_ _) | (with_reducible refine Kd.C_drew ?_))); (case side2 => exact HC2.out); rintro e w' ⟨rfl, ⟨nd, rfl⟩⟩))
        go_meet
        case rel => exact ⟨_, (t320), (by first | rfl | (simp; done) | (simp [*]; done)), H', ⟨by first | omega | exact Nat.le_refl _⟩, ⟨by repeat (first | (with_reducible first | exact HB.out | apply below_alloc | apply pw_below_drewN | apply below_drew1) | exact HB.out)⟩⟩
  case rest =>
    clear HC5
    try clear c1
    try clear c2
    try clear p2
    try clear c3
    try clear c6
    try clear c8
    try clear c10
    obtain ⟨kq, x26_4, rfl, HA, HJ4, HB⟩ := hcut
    cases kq with
    | zero => exact absurd HA.out (by simp [stowagelaw02_MatrixJoins.j0])
    | succ kj4 =>
      have H := HA.out
      clear HA
      simp only [stowagelaw02_MatrixJoins.j0] at H
      by_cases c12 : x26_4 = true
      · subst c12
        have H1 : (some t317) = some r := by rw [if_pos rfl] at H; exact H
        clear H
        have H := H1
        clear H1
        obtain rfl := Option.some.inj H
        go_wp2
        go_ret
        exact ⟨by first | rfl | (simp [errW_none, errW_some] <;> rfl) | (simp [*, errW_none, errW_some] <;> rfl), by repeat (first | (with_reducible first | exact HB.out | apply below_alloc | apply pw_below_drewN | apply below_drew1) | exact HB.out)⟩
      · replace c12 := Bool.eq_false_iff.mpr c12
        subst c12
        have H1 : ((matrix_Mul.f kj4 l0 l1).bind fun bt321 => ((matrix_Mul.f kj4 l1 l2).bind fun bt325 => (if bt321.2 = 0 then (stowagelaw02_MatrixJoins.j1 kj4 l0 l2 t317 bt321.1 bt325.1 (bt325.2 != 0)) else (stowagelaw02_MatrixJoins.j1 kj4 l0 l2 t317 bt321.1 bt325.1 true)))) = some r := by rw [if_neg (show ¬ (false = true) by decide)] at H; exact H
        clear H
        have H := H1
        clear H1
        replace H := Option.bind_eq_some_iff.mp H
        obtain ⟨⟨t321, t322⟩, A130, H⟩ := H
        replace H : ((matrix_Mul.f kj4 l1 l2).bind fun bt325 => (if t322 = 0 then (stowagelaw02_MatrixJoins.j1 kj4 l0 l2 t317 t321 bt325.1 (bt325.2 != 0)) else (stowagelaw02_MatrixJoins.j1 kj4 l0 l2 t317 t321 bt325.1 true))) = some r := H
        have A13 := Aside0.mk A130
        clear A130
        replace H := Option.bind_eq_some_iff.mp H
        obtain ⟨⟨t325, t326⟩, A140, H⟩ := H
        replace H : (if t322 = 0 then (stowagelaw02_MatrixJoins.j1 kj4 l0 l2 t317 t321 t325 (t326 != 0)) else (stowagelaw02_MatrixJoins.j1 kj4 l0 l2 t317 t321 t325 true)) = some r := H
        have A14 := Aside0.mk A140
        clear A140
        have HC15 := Aside0.mk H
        clear H
        go_upto_region 6 with (first | ((with_reducible refine gate_callee (f := 27) rfl ?_); refine goesL_ (some 31) rfl rfl Try.func27 (by kernel_rfl) rfl #[.slice A0 l0.length c0, .slice A1 l1.length c1] rfl (by (try simp only [List.map_toArray, List.map_cons, List.map_nil]); first | done | rfl | (simp only [List.length_drop, List.length_take]; rfl)) ?_; (with_reducible refine (matrix_Mul.calls kj4 _ _ l0 _ _ l1 t321 t322 _ ?side1 ?side2 ?side3 ?side4 A13.out).mono ?_); (case side1 => repeat (first | exact (Kd.C_below HR0.out HB.out) | (with_reducible refine Kd.C_alloc ?_ _) | (with_reducible refine Kd.C_drewN ?_ _) | (with_reducible refine Kd.C_drew ?_))); (case side2 => exact HC0.out); (case side3 => repeat (first | exact (Kd.C_below HR1.out HB.out) | (with_reducible refine Kd.C_alloc ?_ _) | (with_reducible refine Kd.C_drewN ?_ _) | (with_reducible refine Kd.C_drew ?_))); (case side4 => exact HC1.out); rintro e w16 ⟨v323, rfl, ho0, hb⟩; refine ⟨_, rfl, ?_⟩; have n0_ := Aside0.mk (Kd.S_lower ho0 (below_size (by repeat (first | (with_reducible first | exact HB.out | apply below_alloc | apply pw_below_drewN | apply below_drew1) | exact HB.out)))); have n1_ := Aside0.mk (below_step (by repeat (first | (with_reducible first | exact HB.out | apply below_alloc | apply pw_below_drewN | apply below_drew1) | exact HB.out)) hb); clear HB; have HO324 := n0_; have HB := n1_; clear n0_ n1_; (try clear hb); (try clear hb2); (try clear hk); (try clear hi); (try clear ho0)) | ((with_reducible refine gate_callee (f := 27) rfl ?_); refine goesL_ (some 37) rfl rfl Try.func27 (by kernel_rfl) rfl #[.slice A1 l1.length c1, .slice A2 l2.length c2] rfl (by (try simp only [List.map_toArray, List.map_cons, List.map_nil]); first | done | rfl | (simp only [List.length_drop, List.length_take]; rfl)) ?_; (with_reducible refine (matrix_Mul.calls kj4 _ _ l1 _ _ l2 t325 t326 _ ?side1 ?side2 ?side3 ?side4 A14.out).mono ?_); (case side1 => repeat (first | exact (Kd.C_below HR1.out HB.out) | (with_reducible refine Kd.C_alloc ?_ _) | (with_reducible refine Kd.C_drewN ?_ _) | (with_reducible refine Kd.C_drew ?_))); (case side2 => exact HC1.out); (case side3 => repeat (first | exact (Kd.C_below HR2.out HB.out) | (with_reducible refine Kd.C_alloc ?_ _) | (with_reducible refine Kd.C_drewN ?_ _) | (with_reducible refine Kd.C_drew ?_))); (case side4 => exact HC2.out); rintro e w17 ⟨v327, rfl, ho0, hb⟩; refine ⟨_, rfl, ?_⟩; have n0_ := Aside0.mk (Kd.S_elder' (by (with_reducible repeat (first | apply Kd.S_alloc | apply Kd.S_drewN | apply Kd.S_drew)); exact HO324.out) (Kd.S_base ho0) hb); have n1_ := Aside0.mk (Kd.S_lower (Kd.S_new' ho0 (Kd.S_lt (by (with_reducible repeat (first | apply Kd.S_alloc | apply Kd.S_drewN | apply Kd.S_drew)); exact HO324.out))) (below_size (by repeat (first | (with_reducible first | exact HB.out | apply below_alloc | apply pw_below_drewN | apply below_drew1) | exact HB.out)))); have n2_ := Aside0.mk (below_step (by repeat (first | (with_reducible first | exact HB.out | apply below_alloc | apply pw_below_drewN | apply below_drew1) | exact HB.out)) hb); clear HO324; clear HB; have HO324 := n0_; have HO328 := n1_; have HB := n2_; clear n0_ n1_ n2_; (try clear hb); (try clear hb2); (try clear hk); (try clear hi); (try clear ho0)))
        (try simp only [Act.put, List.setIfInBounds_toArray, List.set_cons_zero, List.set_cons_succ])
        go_cut [45] (fun v45 wc => ∃ (kq : Nat) (x45_14 : Bool), v45 = .bool x45_14 ∧ Aside0 (stowagelaw02_MatrixJoins.j1 kq l0 l2 t317 t321 t325 x45_14 = some r) ∧ Aside0 (kq ≤ kj4) ∧ Aside0 (Kd.S (Kd.slice 5 (Kd.int .u8)) 41 wc w.heap.size (fun k_ => some k_ ≠ (v327 : Value).ownBlock) v323 t321) ∧ Aside0 (Kd.S (Kd.slice 5 (Kd.int .u8)) 41 wc w.heap.size (fun k_ => some k_ ≠ (v323 : Value).ownBlock) v327 t325) ∧ Aside0 (Below w.heap.size w wc))
        case first =>
          have H := HC15.out
          clear HC15
          by_cases c18 : t322 = 0
          · rw [if_pos c18] at H
            have c18b0 : (t322 == 0) = true := beq_iff_eq.mpr c18
            have c18b1 : (t322 != 0) = false := bne_eq_false_iff_eq.mpr c18
            clear c18
            (first | rw [c18b0] | (simp only [i64_w, i32_w]; rw [c18b0]) | skip)
            have H' := Aside0.mk H
            clear H
            go_wp2
            go_meet
            case rel => exact ⟨_, ((t326 != 0)), (by first | rfl | (simp; done) | (simp [*]; done)), H', ⟨by have := HJ4.out; first | omega | exact Nat.le_refl _⟩, ⟨by (with_reducible repeat (first | apply Kd.S_alloc | apply Kd.S_drewN | apply Kd.S_drew)); exact Kd.S_mono HO324.out (fun _ hk => hk.2)⟩, ⟨by (with_reducible repeat (first | apply Kd.S_alloc | apply Kd.S_drewN | apply Kd.S_drew)); exact Kd.S_mono HO328.out (fun _ hk => hk.2)⟩, ⟨by repeat (first | (with_reducible first | exact HB.out | apply below_alloc | apply pw_below_drewN | apply below_drew1) | exact HB.out)⟩⟩
          · rw [if_neg c18] at H
            have c18b0 : (t322 == 0) = false := beq_eq_false_iff_ne.mpr c18
            have c18b1 : (t322 != 0) = true := bne_iff_ne.mpr c18
            (first | rw [c18b0] | (simp only [i64_w, i32_w]; rw [c18b0]) | skip)
            have H' := Aside0.mk H
            clear H
            go_wp2
            go_meet
            case rel => exact ⟨_, (true), (by first | rfl | (simp; done) | (simp [*]; done)), H', ⟨by have := HJ4.out; first | omega | exact Nat.le_refl _⟩, ⟨by (with_reducible repeat (first | apply Kd.S_alloc | apply Kd.S_drewN | apply Kd.S_drew)); exact Kd.S_mono HO324.out (fun _ hk => hk.2)⟩, ⟨by (with_reducible repeat (first | apply Kd.S_alloc | apply Kd.S_drewN | apply Kd.S_drew)); exact Kd.S_mono HO328.out (fun _ hk => hk.2)⟩, ⟨by repeat (first | (with_reducible first | exact HB.out | apply below_alloc | apply pw_below_drewN | apply below_drew1) | exact HB.out)⟩⟩
        case rest =>
          clear HC15
          try clear c1
          try clear c2
          try clear p2
          try clear c3
          try clear c6
          try clear c8
          try clear c10
          try clear c12
          try clear c13
          try clear c18
          try clear c18b0
          try clear c18b1
          try clear p2
          obtain ⟨kq, x45_14, rfl, HA, HJ14, HO_8, HO_10, HB⟩ := hcut
          cases kq with
          | zero => exact absurd HA.out (by simp [stowagelaw02_MatrixJoins.j1])
          | succ kj14 =>
            have H := HA.out
            clear HA
            simp only [stowagelaw02_MatrixJoins.j1] at H
            by_cases c19 : x45_14 = true
            · subst c19
              have H1 : (some t317) = some r := by rw [if_pos rfl] at H; exact H
              clear H
              have H := H1
              clear H1
              obtain rfl := Option.some.inj H
              go_wp2
              go_ret
              exact ⟨by first | rfl | (simp [errW_none, errW_some] <;> rfl) | (simp [*, errW_none, errW_some] <;> rfl), by repeat (first | (with_reducible first | exact HB.out | apply below_alloc | apply pw_below_drewN | apply below_drew1) | exact HB.out)⟩
            · replace c19 := Bool.eq_false_iff.mpr c19
              subst c19
              have H1 : ((matrix_Mul.f kj14 t321 l2).bind fun bt329 => ((matrix_Mul.f kj14 l0 t325).bind fun bt333 => (if t317 = true then (if bt329.2 = 0 then (if bt333.2 = 0 then ((stowagekit_SameLists.f kj14 bt329.1 bt333.1).bind fun t337 => (some t337)) else (some false)) else (some false)) else (some false)))) = some r := by rw [if_neg (show ¬ (false = true) by decide)] at H; exact H
              clear H
              have H := H1
              clear H1
              replace H := Option.bind_eq_some_iff.mp H
              obtain ⟨⟨t329, t330⟩, A200, H⟩ := H
              replace H : ((matrix_Mul.f kj14 l0 t325).bind fun bt333 => (if t317 = true then (if t330 = 0 then (if bt333.2 = 0 then ((stowagekit_SameLists.f kj14 t329 bt333.1).bind fun t337 => (some t337)) else (some false)) else (some false)) else (some false))) = some r := H
              have A20 := Aside0.mk A200
              clear A200
              replace H := Option.bind_eq_some_iff.mp H
              obtain ⟨⟨t333, t334⟩, A210, H⟩ := H
              replace H : (if t317 = true then (if t330 = 0 then (if t334 = 0 then ((stowagekit_SameLists.f kj14 t329 t333).bind fun t337 => (some t337)) else (some false)) else (some false)) else (some false)) = some r := H
              have A21 := Aside0.mk A210
              clear A210
              by_cases c22 : t317 = true
              · subst c22
                have H1 : (if t330 = 0 then (if t334 = 0 then ((stowagekit_SameLists.f kj14 t329 t333).bind fun t337 => (some t337)) else (some false)) else (some false)) = some r := by rw [if_pos rfl] at H; exact H
                clear H
                have H := H1
                clear H1
                by_cases c23 : t330 = 0
                · rw [if_pos c23] at H
                  have c23b0 : (t330 == 0) = true := beq_iff_eq.mpr c23
                  have c23b1 : (t330 != 0) = false := bne_eq_false_iff_eq.mpr c23
                  clear c23
                  by_cases c24 : t334 = 0
                  · rw [if_pos c24] at H
                    have c24b0 : (t334 == 0) = true := beq_iff_eq.mpr c24
                    have c24b1 : (t334 != 0) = false := bne_eq_false_iff_eq.mpr c24
                    clear c24
                    replace H := Option.bind_eq_some_iff.mp H
                    obtain ⟨t337, A250, H⟩ := H
                    replace H : (some t337) = some r := H
                    have A25 := Aside0.mk A250
                    clear A250
                    obtain rfl := Option.some.inj H
                    obtain ⟨Ao26, co26, eo26⟩ := Kd.S_slice HO_8.out
                    subst eo26
                    go_wp2_with (first | ((with_reducible refine gate_callee (f := 27) rfl ?_); refine goesL_ (some 50) rfl rfl Try.func27 (by kernel_rfl) rfl #[.slice Ao26 t321.length co26, .slice A2 l2.length c2] rfl (by (try simp only [List.map_toArray, List.map_cons, List.map_nil]); first | done | rfl | (simp only [List.length_drop, List.length_take]; rfl)) ?_; (with_reducible refine (matrix_Mul.calls kj14 _ _ t321 _ _ l2 t329 t330 _ ?side1 ?side2 ?side3 ?side4 A20.out).mono ?_); (case side1 => repeat (first | exact (Kd.S_reads' HO_8.out).2.2 | (with_reducible refine Kd.C_alloc ?_ _) | (with_reducible refine Kd.C_drewN ?_ _) | (with_reducible refine Kd.C_drew ?_))); (case side2 => exact (Kd.S_reads' HO_8.out).2.1); (case side3 => repeat (first | exact (Kd.C_below HR2.out HB.out) | (with_reducible refine Kd.C_alloc ?_ _) | (with_reducible refine Kd.C_drewN ?_ _) | (with_reducible refine Kd.C_drew ?_))); (case side4 => exact HC2.out); rintro e w27 ⟨v331, rfl, ho0, hb⟩; refine ⟨_, rfl, ?_⟩; have n0_ := Aside0.mk (Kd.S_elder' (by (with_reducible repeat (first | apply Kd.S_alloc | apply Kd.S_drewN | apply Kd.S_drew)); exact HO_8.out) (Kd.S_base ho0) hb); have n1_ := Aside0.mk (Kd.S_elder' (by (with_reducible repeat (first | apply Kd.S_alloc | apply Kd.S_drewN | apply Kd.S_drew)); exact HO_10.out) (Kd.S_base ho0) hb); have n2_ := Aside0.mk (Kd.S_lower (Kd.S_new' (Kd.S_new' ho0 (Kd.S_lt (by (with_reducible repeat (first | apply Kd.S_alloc | apply Kd.S_drewN | apply Kd.S_drew)); exact HO_8.out))) (Kd.S_lt (by (with_reducible repeat (first | apply Kd.S_alloc | apply Kd.S_drewN | apply Kd.S_drew)); exact HO_10.out))) (below_size (by repeat (first | (with_reducible first | exact HB.out | apply below_alloc | apply pw_below_drewN | apply below_drew1) | exact HB.out)))); have n3_ := Aside0.mk (below_step (by repeat (first | (with_reducible first | exact HB.out | apply below_alloc | apply pw_below_drewN | apply below_drew1) | exact HB.out)) hb); clear HO_8; clear HO_10; clear HB; have HO_8 := n0_; have HO_10 := n1_; have HO332 := n2_; have HB := n3_; clear n0_ n1_ n2_ n3_; (try clear hb); (try clear hb2); (try clear hk); (try clear hi); (try clear ho0); obtain ⟨Ao28, co28, eo28⟩ := Kd.S_slice HO_10.out; subst eo28) | ((with_reducible refine gate_callee (f := 27) rfl ?_); refine goesL_ (some 56) rfl rfl Try.func27 (by kernel_rfl) rfl #[.slice A0 l0.length c0, .slice Ao28 t325.length co28] rfl (by (try simp only [List.map_toArray, List.map_cons, List.map_nil]); first | done | rfl | (simp only [List.length_drop, List.length_take]; rfl)) ?_; (with_reducible refine (matrix_Mul.calls kj14 _ _ l0 _ _ t325 t333 t334 _ ?side1 ?side2 ?side3 ?side4 A21.out).mono ?_); (case side1 => repeat (first | exact (Kd.C_below HR0.out HB.out) | (with_reducible refine Kd.C_alloc ?_ _) | (with_reducible refine Kd.C_drewN ?_ _) | (with_reducible refine Kd.C_drew ?_))); (case side2 => exact HC0.out); (case side3 => repeat (first | exact (Kd.S_reads' HO_10.out).2.2 | (with_reducible refine Kd.C_alloc ?_ _) | (with_reducible refine Kd.C_drewN ?_ _) | (with_reducible refine Kd.C_drew ?_))); (case side4 => exact (Kd.S_reads' HO_10.out).2.1); rintro e w29 ⟨v335, rfl, ho0, hb⟩; refine ⟨_, rfl, ?_⟩; have n0_ := Aside0.mk (Kd.S_elder' (by (with_reducible repeat (first | apply Kd.S_alloc | apply Kd.S_drewN | apply Kd.S_drew)); exact HO_8.out) (Kd.S_base ho0) hb); have n1_ := Aside0.mk (Kd.S_elder' (by (with_reducible repeat (first | apply Kd.S_alloc | apply Kd.S_drewN | apply Kd.S_drew)); exact HO_10.out) (Kd.S_base ho0) hb); have n2_ := Aside0.mk (Kd.S_elder' (by (with_reducible repeat (first | apply Kd.S_alloc | apply Kd.S_drewN | apply Kd.S_drew)); exact HO332.out) (Kd.S_base ho0) hb); have n3_ := Aside0.mk (Kd.S_lower (Kd.S_new' (Kd.S_new' (Kd.S_new' ho0 (Kd.S_lt (by (with_reducible repeat (first | apply Kd.S_alloc | apply Kd.S_drewN | apply Kd.S_drew)); exact HO_8.out))) (Kd.S_lt (by (with_reducible repeat (first | apply Kd.S_alloc | apply Kd.S_drewN | apply Kd.S_drew)); exact HO_10.out))) (Kd.S_lt (by (with_reducible repeat (first | apply Kd.S_alloc | apply Kd.S_drewN | apply Kd.S_drew)); exact HO332.out))) (below_size (by repeat (first | (with_reducible first | exact HB.out | apply below_alloc | apply pw_below_drewN | apply below_drew1) | exact HB.out)))); have n4_ := Aside0.mk (below_step (by repeat (first | (with_reducible first | exact HB.out | apply below_alloc | apply pw_below_drewN | apply below_drew1) | exact HB.out)) hb); clear HO_8; clear HO_10; clear HO332; clear HB; have HO_8 := n0_; have HO_10 := n1_; have HO332 := n2_; have HO336 := n3_; have HB := n4_; clear n0_ n1_ n2_ n3_ n4_; (try clear hb); (try clear hb2); (try clear hk); (try clear hi); (try clear ho0); obtain ⟨Ao30, co30, eo30⟩ := Kd.S_slice HO332.out; subst eo30; obtain ⟨Ao31, co31, eo31⟩ := Kd.S_slice HO336.out; subst eo31) | (go_at_call 22; (with_reducible refine (stowagekit_SameLists.calls kj14 _ _ t329 _ _ t333 t337 _ ?side1 ?side2 ?side3 ?side4 A25.out).mono ?_); (case side1 => repeat (first | exact (Kd.S_reads' HO332.out).2.2 | (with_reducible refine Kd.C_alloc ?_ _) | (with_reducible refine Kd.C_drewN ?_ _) | (with_reducible refine Kd.C_drew ?_))); (case side2 => exact (Kd.S_reads' HO332.out).2.1); (case side3 => repeat (first | exact (Kd.S_reads' HO336.out).2.2 | (with_reducible refine Kd.C_alloc ?_ _) | (with_reducible refine Kd.C_drewN ?_ _) | (with_reducible refine Kd.C_drew ?_))); (case side4 => exact (Kd.S_reads' HO336.out).2.1); rintro e w' ⟨rfl, ⟨nd, rfl⟩⟩))
                    go_ret
                    exact ⟨by first | rfl | (simp [errW_none, errW_some] <;> rfl) | (simp [*, errW_none, errW_some] <;> rfl), by repeat (first | (with_reducible first | exact HB.out | apply below_alloc | apply pw_below_drewN | apply below_drew1) | exact HB.out)⟩
                  · rw [if_neg c24] at H
                    have c24b0 : (t334 == 0) = false := beq_eq_false_iff_ne.mpr c24
                    have c24b1 : (t334 != 0) = true := bne_iff_ne.mpr c24
                    obtain rfl := Option.some.inj H
                    obtain ⟨Ao32, co32, eo32⟩ := Kd.S_slice HO_8.out
                    subst eo32
                    go_wp2_with (first | ((with_reducible refine gate_callee (f := 27) rfl ?_); refine goesL_ (some 50) rfl rfl Try.func27 (by kernel_rfl) rfl #[.slice Ao32 t321.length co32, .slice A2 l2.length c2] rfl (by (try simp only [List.map_toArray, List.map_cons, List.map_nil]); first | done | rfl | (simp only [List.length_drop, List.length_take]; rfl)) ?_; (with_reducible refine (matrix_Mul.calls kj14 _ _ t321 _ _ l2 t329 t330 _ ?side1 ?side2 ?side3 ?side4 A20.out).mono ?_); (case side1 => repeat (first | exact (Kd.S_reads' HO_8.out).2.2 | (with_reducible refine Kd.C_alloc ?_ _) | (with_reducible refine Kd.C_drewN ?_ _) | (with_reducible refine Kd.C_drew ?_))); (case side2 => exact (Kd.S_reads' HO_8.out).2.1); (case side3 => repeat (first | exact (Kd.C_below HR2.out HB.out) | (with_reducible refine Kd.C_alloc ?_ _) | (with_reducible refine Kd.C_drewN ?_ _) | (with_reducible refine Kd.C_drew ?_))); (case side4 => exact HC2.out); rintro e w33 ⟨v331, rfl, ho0, hb⟩; refine ⟨_, rfl, ?_⟩; have n0_ := Aside0.mk (Kd.S_elder' (by (with_reducible repeat (first | apply Kd.S_alloc | apply Kd.S_drewN | apply Kd.S_drew)); exact HO_8.out) (Kd.S_base ho0) hb); have n1_ := Aside0.mk (Kd.S_elder' (by (with_reducible repeat (first | apply Kd.S_alloc | apply Kd.S_drewN | apply Kd.S_drew)); exact HO_10.out) (Kd.S_base ho0) hb); have n2_ := Aside0.mk (Kd.S_lower (Kd.S_new' (Kd.S_new' ho0 (Kd.S_lt (by (with_reducible repeat (first | apply Kd.S_alloc | apply Kd.S_drewN | apply Kd.S_drew)); exact HO_8.out))) (Kd.S_lt (by (with_reducible repeat (first | apply Kd.S_alloc | apply Kd.S_drewN | apply Kd.S_drew)); exact HO_10.out))) (below_size (by repeat (first | (with_reducible first | exact HB.out | apply below_alloc | apply pw_below_drewN | apply below_drew1) | exact HB.out)))); have n3_ := Aside0.mk (below_step (by repeat (first | (with_reducible first | exact HB.out | apply below_alloc | apply pw_below_drewN | apply below_drew1) | exact HB.out)) hb); clear HO_8; clear HO_10; clear HB; have HO_8 := n0_; have HO_10 := n1_; have HO332 := n2_; have HB := n3_; clear n0_ n1_ n2_ n3_; (try clear hb); (try clear hb2); (try clear hk); (try clear hi); (try clear ho0); obtain ⟨Ao34, co34, eo34⟩ := Kd.S_slice HO_10.out; subst eo34) | ((with_reducible refine gate_callee (f := 27) rfl ?_); refine goesL_ (some 56) rfl rfl Try.func27 (by kernel_rfl) rfl #[.slice A0 l0.length c0, .slice Ao34 t325.length co34] rfl (by (try simp only [List.map_toArray, List.map_cons, List.map_nil]); first | done | rfl | (simp only [List.length_drop, List.length_take]; rfl)) ?_; (with_reducible refine (matrix_Mul.calls kj14 _ _ l0 _ _ t325 t333 t334 _ ?side1 ?side2 ?side3 ?side4 A21.out).mono ?_); (case side1 => repeat (first | exact (Kd.C_below HR0.out HB.out) | (with_reducible refine Kd.C_alloc ?_ _) | (with_reducible refine Kd.C_drewN ?_ _) | (with_reducible refine Kd.C_drew ?_))); (case side2 => exact HC0.out); (case side3 => repeat (first | exact (Kd.S_reads' HO_10.out).2.2 | (with_reducible refine Kd.C_alloc ?_ _) | (with_reducible refine Kd.C_drewN ?_ _) | (with_reducible refine Kd.C_drew ?_))); (case side4 => exact (Kd.S_reads' HO_10.out).2.1); rintro e w35 ⟨v335, rfl, ho0, hb⟩; refine ⟨_, rfl, ?_⟩; have n0_ := Aside0.mk (Kd.S_elder' (by (with_reducible repeat (first | apply Kd.S_alloc | apply Kd.S_drewN | apply Kd.S_drew)); exact HO_8.out) (Kd.S_base ho0) hb); have n1_ := Aside0.mk (Kd.S_elder' (by (with_reducible repeat (first | apply Kd.S_alloc | apply Kd.S_drewN | apply Kd.S_drew)); exact HO_10.out) (Kd.S_base ho0) hb); have n2_ := Aside0.mk (Kd.S_elder' (by (with_reducible repeat (first | apply Kd.S_alloc | apply Kd.S_drewN | apply Kd.S_drew)); exact HO332.out) (Kd.S_base ho0) hb); have n3_ := Aside0.mk (Kd.S_lower (Kd.S_new' (Kd.S_new' (Kd.S_new' ho0 (Kd.S_lt (by (with_reducible repeat (first | apply Kd.S_alloc | apply Kd.S_drewN | apply Kd.S_drew)); exact HO_8.out))) (Kd.S_lt (by (with_reducible repeat (first | apply Kd.S_alloc | apply Kd.S_drewN | apply Kd.S_drew)); exact HO_10.out))) (Kd.S_lt (by (with_reducible repeat (first | apply Kd.S_alloc | apply Kd.S_drewN | apply Kd.S_drew)); exact HO332.out))) (below_size (by repeat (first | (with_reducible first | exact HB.out | apply below_alloc | apply pw_below_drewN | apply below_drew1) | exact HB.out)))); have n4_ := Aside0.mk (below_step (by repeat (first | (with_reducible first | exact HB.out | apply below_alloc | apply pw_below_drewN | apply below_drew1) | exact HB.out)) hb); clear HO_8; clear HO_10; clear HO332; clear HB; have HO_8 := n0_; have HO_10 := n1_; have HO332 := n2_; have HO336 := n3_; have HB := n4_; clear n0_ n1_ n2_ n3_ n4_; (try clear hb); (try clear hb2); (try clear hk); (try clear hi); (try clear ho0)))
                    go_ret
                    exact ⟨by first | rfl | (simp [errW_none, errW_some] <;> rfl) | (simp [*, errW_none, errW_some] <;> rfl), by repeat (first | (with_reducible first | exact HB.out | apply below_alloc | apply pw_below_drewN | apply below_drew1) | exact HB.out)⟩
                · rw [if_neg c23] at H
                  have c23b0 : (t330 == 0) = false := beq_eq_false_iff_ne.mpr c23
                  have c23b1 : (t330 != 0) = true := bne_iff_ne.mpr c23
                  obtain rfl := Option.some.inj H
                  obtain ⟨Ao36, co36, eo36⟩ := Kd.S_slice HO_8.out
                  subst eo36
                  go_wp2_with (first | ((with_reducible refine gate_callee (f := 27) rfl ?_); refine goesL_ (some 50) rfl rfl Try.func27 (by kernel_rfl) rfl #[.slice Ao36 t321.length co36, .slice A2 l2.length c2] rfl (by (try simp only [List.map_toArray, List.map_cons, List.map_nil]); first | done | rfl | (simp only [List.length_drop, List.length_take]; rfl)) ?_; (with_reducible refine (matrix_Mul.calls kj14 _ _ t321 _ _ l2 t329 t330 _ ?side1 ?side2 ?side3 ?side4 A20.out).mono ?_); (case side1 => repeat (first | exact (Kd.S_reads' HO_8.out).2.2 | (with_reducible refine Kd.C_alloc ?_ _) | (with_reducible refine Kd.C_drewN ?_ _) | (with_reducible refine Kd.C_drew ?_))); (case side2 => exact (Kd.S_reads' HO_8.out).2.1); (case side3 => repeat (first | exact (Kd.C_below HR2.out HB.out) | (with_reducible refine Kd.C_alloc ?_ _) | (with_reducible refine Kd.C_drewN ?_ _) | (with_reducible refine Kd.C_drew ?_))); (case side4 => exact HC2.out); rintro e w37 ⟨v331, rfl, ho0, hb⟩; refine ⟨_, rfl, ?_⟩; have n0_ := Aside0.mk (Kd.S_elder' (by (with_reducible repeat (first | apply Kd.S_alloc | apply Kd.S_drewN | apply Kd.S_drew)); exact HO_8.out) (Kd.S_base ho0) hb); have n1_ := Aside0.mk (Kd.S_elder' (by (with_reducible repeat (first | apply Kd.S_alloc | apply Kd.S_drewN | apply Kd.S_drew)); exact HO_10.out) (Kd.S_base ho0) hb); have n2_ := Aside0.mk (Kd.S_lower (Kd.S_new' (Kd.S_new' ho0 (Kd.S_lt (by (with_reducible repeat (first | apply Kd.S_alloc | apply Kd.S_drewN | apply Kd.S_drew)); exact HO_8.out))) (Kd.S_lt (by (with_reducible repeat (first | apply Kd.S_alloc | apply Kd.S_drewN | apply Kd.S_drew)); exact HO_10.out))) (below_size (by repeat (first | (with_reducible first | exact HB.out | apply below_alloc | apply pw_below_drewN | apply below_drew1) | exact HB.out)))); have n3_ := Aside0.mk (below_step (by repeat (first | (with_reducible first | exact HB.out | apply below_alloc | apply pw_below_drewN | apply below_drew1) | exact HB.out)) hb); clear HO_8; clear HO_10; clear HB; have HO_8 := n0_; have HO_10 := n1_; have HO332 := n2_; have HB := n3_; clear n0_ n1_ n2_ n3_; (try clear hb); (try clear hb2); (try clear hk); (try clear hi); (try clear ho0); obtain ⟨Ao38, co38, eo38⟩ := Kd.S_slice HO_10.out; subst eo38) | ((with_reducible refine gate_callee (f := 27) rfl ?_); refine goesL_ (some 56) rfl rfl Try.func27 (by kernel_rfl) rfl #[.slice A0 l0.length c0, .slice Ao38 t325.length co38] rfl (by (try simp only [List.map_toArray, List.map_cons, List.map_nil]); first | done | rfl | (simp only [List.length_drop, List.length_take]; rfl)) ?_; (with_reducible refine (matrix_Mul.calls kj14 _ _ l0 _ _ t325 t333 t334 _ ?side1 ?side2 ?side3 ?side4 A21.out).mono ?_); (case side1 => repeat (first | exact (Kd.C_below HR0.out HB.out) | (with_reducible refine Kd.C_alloc ?_ _) | (with_reducible refine Kd.C_drewN ?_ _) | (with_reducible refine Kd.C_drew ?_))); (case side2 => exact HC0.out); (case side3 => repeat (first | exact (Kd.S_reads' HO_10.out).2.2 | (with_reducible refine Kd.C_alloc ?_ _) | (with_reducible refine Kd.C_drewN ?_ _) | (with_reducible refine Kd.C_drew ?_))); (case side4 => exact (Kd.S_reads' HO_10.out).2.1); rintro e w39 ⟨v335, rfl, ho0, hb⟩; refine ⟨_, rfl, ?_⟩; have n0_ := Aside0.mk (Kd.S_elder' (by (with_reducible repeat (first | apply Kd.S_alloc | apply Kd.S_drewN | apply Kd.S_drew)); exact HO_8.out) (Kd.S_base ho0) hb); have n1_ := Aside0.mk (Kd.S_elder' (by (with_reducible repeat (first | apply Kd.S_alloc | apply Kd.S_drewN | apply Kd.S_drew)); exact HO_10.out) (Kd.S_base ho0) hb); have n2_ := Aside0.mk (Kd.S_elder' (by (with_reducible repeat (first | apply Kd.S_alloc | apply Kd.S_drewN | apply Kd.S_drew)); exact HO332.out) (Kd.S_base ho0) hb); have n3_ := Aside0.mk (Kd.S_lower (Kd.S_new' (Kd.S_new' (Kd.S_new' ho0 (Kd.S_lt (by (with_reducible repeat (first | apply Kd.S_alloc | apply Kd.S_drewN | apply Kd.S_drew)); exact HO_8.out))) (Kd.S_lt (by (with_reducible repeat (first | apply Kd.S_alloc | apply Kd.S_drewN | apply Kd.S_drew)); exact HO_10.out))) (Kd.S_lt (by (with_reducible repeat (first | apply Kd.S_alloc | apply Kd.S_drewN | apply Kd.S_drew)); exact HO332.out))) (below_size (by repeat (first | (with_reducible first | exact HB.out | apply below_alloc | apply pw_below_drewN | apply below_drew1) | exact HB.out)))); have n4_ := Aside0.mk (below_step (by repeat (first | (with_reducible first | exact HB.out | apply below_alloc | apply pw_below_drewN | apply below_drew1) | exact HB.out)) hb); clear HO_8; clear HO_10; clear HO332; clear HB; have HO_8 := n0_; have HO_10 := n1_; have HO332 := n2_; have HO336 := n3_; have HB := n4_; clear n0_ n1_ n2_ n3_ n4_; (try clear hb); (try clear hb2); (try clear hk); (try clear hi); (try clear ho0)))
                  go_ret
                  exact ⟨by first | rfl | (simp [errW_none, errW_some] <;> rfl) | (simp [*, errW_none, errW_some] <;> rfl), by repeat (first | (with_reducible first | exact HB.out | apply below_alloc | apply pw_below_drewN | apply below_drew1) | exact HB.out)⟩
              · replace c22 := Bool.eq_false_iff.mpr c22
                subst c22
                have H1 : (some false) = some r := by rw [if_neg (show ¬ (false = true) by decide)] at H; exact H
                clear H
                have H := H1
                clear H1
                obtain rfl := Option.some.inj H
                obtain ⟨Ao40, co40, eo40⟩ := Kd.S_slice HO_8.out
                subst eo40
                go_wp2_with (first | ((with_reducible refine gate_callee (f := 27) rfl ?_); refine goesL_ (some 50) rfl rfl Try.func27 (by kernel_rfl) rfl #[.slice Ao40 t321.length co40, .slice A2 l2.length c2] rfl (by (try simp only [List.map_toArray, List.map_cons, List.map_nil]); first | done | rfl | (simp only [List.length_drop, List.length_take]; rfl)) ?_; (with_reducible refine (matrix_Mul.calls kj14 _ _ t321 _ _ l2 t329 t330 _ ?side1 ?side2 ?side3 ?side4 A20.out).mono ?_); (case side1 => repeat (first | exact (Kd.S_reads' HO_8.out).2.2 | (with_reducible refine Kd.C_alloc ?_ _) | (with_reducible refine Kd.C_drewN ?_ _) | (with_reducible refine Kd.C_drew ?_))); (case side2 => exact (Kd.S_reads' HO_8.out).2.1); (case side3 => repeat (first | exact (Kd.C_below HR2.out HB.out) | (with_reducible refine Kd.C_alloc ?_ _) | (with_reducible refine Kd.C_drewN ?_ _) | (with_reducible refine Kd.C_drew ?_))); (case side4 => exact HC2.out); rintro e w41 ⟨v331, rfl, ho0, hb⟩; refine ⟨_, rfl, ?_⟩; have n0_ := Aside0.mk (Kd.S_elder' (by (with_reducible repeat (first | apply Kd.S_alloc | apply Kd.S_drewN | apply Kd.S_drew)); exact HO_8.out) (Kd.S_base ho0) hb); have n1_ := Aside0.mk (Kd.S_elder' (by (with_reducible repeat (first | apply Kd.S_alloc | apply Kd.S_drewN | apply Kd.S_drew)); exact HO_10.out) (Kd.S_base ho0) hb); have n2_ := Aside0.mk (Kd.S_lower (Kd.S_new' (Kd.S_new' ho0 (Kd.S_lt (by (with_reducible repeat (first | apply Kd.S_alloc | apply Kd.S_drewN | apply Kd.S_drew)); exact HO_8.out))) (Kd.S_lt (by (with_reducible repeat (first | apply Kd.S_alloc | apply Kd.S_drewN | apply Kd.S_drew)); exact HO_10.out))) (below_size (by repeat (first | (with_reducible first | exact HB.out | apply below_alloc | apply pw_below_drewN | apply below_drew1) | exact HB.out)))); have n3_ := Aside0.mk (below_step (by repeat (first | (with_reducible first | exact HB.out | apply below_alloc | apply pw_below_drewN | apply below_drew1) | exact HB.out)) hb); clear HO_8; clear HO_10; clear HB; have HO_8 := n0_; have HO_10 := n1_; have HO332 := n2_; have HB := n3_; clear n0_ n1_ n2_ n3_; (try clear hb); (try clear hb2); (try clear hk); (try clear hi); (try clear ho0); obtain ⟨Ao42, co42, eo42⟩ := Kd.S_slice HO_10.out; subst eo42) | ((with_reducible refine gate_callee (f := 27) rfl ?_); refine goesL_ (some 56) rfl rfl Try.func27 (by kernel_rfl) rfl #[.slice A0 l0.length c0, .slice Ao42 t325.length co42] rfl (by (try simp only [List.map_toArray, List.map_cons, List.map_nil]); first | done | rfl | (simp only [List.length_drop, List.length_take]; rfl)) ?_; (with_reducible refine (matrix_Mul.calls kj14 _ _ l0 _ _ t325 t333 t334 _ ?side1 ?side2 ?side3 ?side4 A21.out).mono ?_); (case side1 => repeat (first | exact (Kd.C_below HR0.out HB.out) | (with_reducible refine Kd.C_alloc ?_ _) | (with_reducible refine Kd.C_drewN ?_ _) | (with_reducible refine Kd.C_drew ?_))); (case side2 => exact HC0.out); (case side3 => repeat (first | exact (Kd.S_reads' HO_10.out).2.2 | (with_reducible refine Kd.C_alloc ?_ _) | (with_reducible refine Kd.C_drewN ?_ _) | (with_reducible refine Kd.C_drew ?_))); (case side4 => exact (Kd.S_reads' HO_10.out).2.1); rintro e w43 ⟨v335, rfl, ho0, hb⟩; refine ⟨_, rfl, ?_⟩; have n0_ := Aside0.mk (Kd.S_elder' (by (with_reducible repeat (first | apply Kd.S_alloc | apply Kd.S_drewN | apply Kd.S_drew)); exact HO_8.out) (Kd.S_base ho0) hb); have n1_ := Aside0.mk (Kd.S_elder' (by (with_reducible repeat (first | apply Kd.S_alloc | apply Kd.S_drewN | apply Kd.S_drew)); exact HO_10.out) (Kd.S_base ho0) hb); have n2_ := Aside0.mk (Kd.S_elder' (by (with_reducible repeat (first | apply Kd.S_alloc | apply Kd.S_drewN | apply Kd.S_drew)); exact HO332.out) (Kd.S_base ho0) hb); have n3_ := Aside0.mk (Kd.S_lower (Kd.S_new' (Kd.S_new' (Kd.S_new' ho0 (Kd.S_lt (by (with_reducible repeat (first | apply Kd.S_alloc | apply Kd.S_drewN | apply Kd.S_drew)); exact HO_8.out))) (Kd.S_lt (by (with_reducible repeat (first | apply Kd.S_alloc | apply Kd.S_drewN | apply Kd.S_drew)); exact HO_10.out))) (Kd.S_lt (by (with_reducible repeat (first | apply Kd.S_alloc | apply Kd.S_drewN | apply Kd.S_drew)); exact HO332.out))) (below_size (by repeat (first | (with_reducible first | exact HB.out | apply below_alloc | apply pw_below_drewN | apply below_drew1) | exact HB.out)))); have n4_ := Aside0.mk (below_step (by repeat (first | (with_reducible first | exact HB.out | apply below_alloc | apply pw_below_drewN | apply below_drew1) | exact HB.out)) hb); clear HO_8; clear HO_10; clear HO332; clear HB; have HO_8 := n0_; have HO_10 := n1_; have HO332 := n2_; have HO336 := n3_; have HB := n4_; clear n0_ n1_ n2_ n3_ n4_; (try clear hb); (try clear hb2); (try clear hk); (try clear hi); (try clear ho0)))
                go_ret
                exact ⟨by first | rfl | (simp [errW_none, errW_some] <;> rfl) | (simp [*, errW_none, errW_some] <;> rfl), by repeat (first | (with_reducible first | exact HB.out | apply below_alloc | apply pw_below_drewN | apply below_drew1) | exact HB.out)⟩

end Go.Proofs.Ythmlimkmcofkfaa.P

/- MatrixJoins, told of lists: products may be put together in any way. -/
namespace Go.Proofs.Ythmlimkmcofkfaa.L
open Go.RowKit Go.Proofs.YthmlimkmcofkfaaW.PrintWords Go.Proofs.Ythmlimkmcofkfaa.E Go.Proofs.Ythmlimkmcofkfaa.B
set_option linter.unusedVariables false

/-- May two be multiplied? -/
def May (A Bm : List (List Int)) : Prop := check A = 0 ∧ check Bm = 0 ∧ Bm.length = (rd_L1 A 0).length
theorem Mul_any {A Bm : List (List Int)} (oA : okB A = true) (oB : okB Bm = true) : (May A Bm ∧ Ev (fun k => P.matrix_Mul.f k A Bm) (mulL A Bm, 0)) ∨ ∃ e, e ≠ 0 ∧ Ev (fun k => P.matrix_Mul.f k A Bm) ([], e) := by
  by_cases h1 : check A = 0
  · by_cases h2 : check Bm = 0
    · by_cases h3 : Bm.length = (rd_L1 A 0).length
      · exact .inl ⟨⟨h1, h2, h3⟩, Mul_ok h1 h2 h3 oA oB⟩
      · refine .inr ⟨2, by decide, Ev.congr (f := fun _ => some ([], 2)) (fun k => ?_) (Ev.now _)⟩
        obtain ⟨g1, _⟩ := check_ok h1
        simp only [P.matrix_Mul.f, matrix_Check.f, Option.bind_some]
        rw [if_pos h1, if_pos h2, if_pos (by omega), if_neg (by rw [rdP]; omega)]
    · refine .inr ⟨check Bm, h2, Ev.congr (f := fun _ => some ([], check Bm)) (fun k => ?_) (Ev.now _)⟩
      simp only [P.matrix_Mul.f, matrix_Check.f, Option.bind_some]
      rw [if_pos h1, if_neg h2]
  · refine .inr ⟨check A, h1, Ev.congr (f := fun _ => some ([], check A)) (fun k => ?_) (Ev.now _)⟩
    simp only [P.matrix_Mul.f, matrix_Check.f, Option.bind_some]
    rw [if_neg h1]
theorem mulL_len (A Bm : List (List Int)) : (mulL A Bm).length = A.length := by simp [mulL]
theorem mulL_row {A Bm : List (List Int)} {i : Nat} (h : i < A.length) : rd_L1 (mulL A Bm) i = mulRow A Bm i := by rw [rdL_nat]; simp [mulL, h]
theorem mulL_rect {A Bm : List (List Int)} {m : Nat} (hm : (rd_L1 Bm 0).length = m) : Rect m (mulL A Bm) := fun i hi => by
  rw [mulL_len] at hi; rw [mulL_row hi]; unfold mulRow; rw [tab_len, hm]
theorem mulL_entry {A Bm : List (List Int)} {m i j : Nat} (hm : (rd_L1 Bm 0).length = m) (hi : i < A.length) (hj : j < m) : entry (mulL A Bm) i j = prod Bm.length (entry A) (entry Bm) i j := by
  unfold entry; rw [mulL_row hi]; unfold mulRow; rw [tab_rd (by omega)]; rfl
theorem mul_may {A Bm : List (List Int)} (h : May A Bm) (oA : okB A = true) : check (mulL A Bm) = 0 ∧ okB (mulL A Bm) = true ∧ (rd_L1 (mulL A Bm) 0).length = (rd_L1 Bm 0).length ∧ Rect (rd_L1 Bm 0).length (mulL A Bm) := by
  obtain ⟨h1, h2, h3⟩ := h
  obtain ⟨a1, a2, a3, a4, a5⟩ := check_ok h1
  obtain ⟨b1, b2, b3, b4, b5⟩ := check_ok h2
  have hr := mulL_rect (A := A) (Bm := Bm) rfl
  refine ⟨check_of (by rw [mulL_len]; exact a1) (by rw [mulL_len]; exact a2) b3 b4 hr, okB_of hr (fun i j hi hj => ?_), hr 0 (by rw [mulL_len]; exact a1), hr⟩
  rw [mulL_len] at hi
  rw [mulL_entry rfl hi hj]
  exact gsum_byte (fun t ht => gmul_byte (okB_entry oA a5 i t hi (by omega)))
theorem mulL_assoc {A Bm C : List (List Int)} (h1 : May A Bm) (h2 : May Bm C) (oA : okB A = true) (oB : okB Bm = true) (oC : okB C = true) : mulL (mulL A Bm) C = mulL A (mulL Bm C) := by
  obtain ⟨a1, a2, a3, a4, a5⟩ := check_ok h1.1
  obtain ⟨b1, b2, b3, b4, b5⟩ := check_ok h1.2.1
  obtain ⟨c1, c2, c3, c4, c5⟩ := check_ok h2.2.1
  obtain ⟨m1, m2, m3, m4⟩ := mul_may h1 oA
  obtain ⟨n1, n2, n3, n4⟩ := mul_may h2 oB
  have e1 : (mulL (mulL A Bm) C) = (List.range A.length).map (mulRow (mulL A Bm) C) := by unfold mulL; simp
  have e2 : (mulL A (mulL Bm C)) = (List.range A.length).map (mulRow A (mulL Bm C)) := rfl
  rw [e1, e2]
  refine List.map_congr_left (fun i hi => ?_)
  have hi' : i < A.length := List.mem_range.1 hi
  unfold mulRow
  rw [n3, mulL_len]
  refine tab_congr (fun j hj => ?_)
  have bA := okB_entry oA a5
  have bB := okB_entry oB b5
  have bC := okB_entry oC c5
  have hq : Bm.length = (rd_L1 A 0).length := h1.2.2
  have hm : C.length = (rd_L1 Bm 0).length := h2.2.2
  have f1 : ∀ t, t < C.length → gmul (entry (mulL A Bm) i t) (entry C t j) = gmul (prod Bm.length (entry A) (entry Bm) i t) (entry C t j) := fun t ht => by rw [mulL_entry (m := C.length) hm.symm hi' ht]
  have f2 : ∀ t, t < Bm.length → gmul (entry A i t) (entry (mulL Bm C) t j) = gmul (entry A i t) (prod C.length (entry Bm) (entry C) t j) := fun t ht => by rw [mulL_entry rfl ht hj]
  have f3 := prod_assoc (p := A.length) (n := Bm.length) (m := C.length) (q := (rd_L1 C 0).length) (A := entry A) (B := entry Bm) (C := entry C) (by rw [hq]; exact bA) (by rw [hm]; exact bB) bC hi' hj
  exact (gsum_congr f1).trans (f3.trans (gsum_congr f2).symm)

theorem joins_j0 {A Bm C : List (List Int)} (oA : okB A = true) (oB : okB Bm = true) (oC : okB C = true) (b : Bool) : Ev (fun k => P.stowagelaw02_MatrixJoins.j0 k A Bm C true b) true := by
  have j1t : ∀ (x y : List (List Int)), Ev (fun k => P.stowagelaw02_MatrixJoins.j1 k A C true x y true) true := fun x y =>
    Ev.step (f := fun _ => some true) (fun k => by simp only [P.stowagelaw02_MatrixJoins.j1]; rfl) (Ev.now _)
  cases b with
  | true => exact Ev.step (f := fun _ => some true) (fun k => by simp only [P.stowagelaw02_MatrixJoins.j0]; rfl) (Ev.now _)
  | false =>
    refine Ev.step (f := fun k => (P.matrix_Mul.f k A Bm).bind fun bt321 => ((P.matrix_Mul.f k Bm C).bind fun bt325 => (if bt321.2 = 0 then (P.stowagelaw02_MatrixJoins.j1 k A C true bt321.1 bt325.1 (bt325.2 != 0)) else (P.stowagelaw02_MatrixJoins.j1 k A C true bt321.1 bt325.1 true)))) (fun k => ?_) ?_
    · simp only [P.stowagelaw02_MatrixJoins.j0]; rfl
    rcases Mul_any oA oB with ⟨m1, e1⟩ | ⟨x, hx, e1⟩
    · rcases Mul_any oB oC with ⟨m2, e2⟩ | ⟨y, hy, e2⟩
      · refine Ev.bind e1 ?_
        refine Ev.bind e2 ?_
        refine Ev.congr (fun k => if_pos rfl) ?_
        obtain ⟨p1, p2, p3, p4⟩ := mul_may m1 oA
        obtain ⟨q1, q2, q3, q4⟩ := mul_may m2 oB
        have v1 := Mul_ok p1 m2.2.1 (by rw [p3]; exact m2.2.2) p2 oC
        have v2 := Mul_ok m1.1 q1 (by rw [mulL_len]; exact m1.2.2) oA q2
        rw [mulL_assoc m1 m2 oA oB oC] at v1
        obtain ⟨a1, a2, _⟩ := check_ok m1.1
        refine Ev.step (f := fun k => (P.matrix_Mul.f k (mulL A Bm) C).bind fun bt329 => ((P.matrix_Mul.f k A (mulL Bm C)).bind fun bt333 => (if true = true then (if bt329.2 = 0 then (if bt333.2 = 0 then ((stowagekit_SameLists.f k bt329.1 bt333.1).bind fun t337 => (some t337)) else (some false)) else (some false)) else (some false)))) (fun k => ?_) ?_
        · simp only [P.stowagelaw02_MatrixJoins.j1]; rfl
        refine Ev.bind v1 ?_
        refine Ev.bind v2 ?_
        refine Ev.congr (fun k => if_pos rfl) ?_
        refine Ev.congr (fun k => if_pos rfl) ?_
        refine Ev.congr (fun k => if_pos rfl) ?_
        exact Ev.bind (same_self _ (by rw [mulL_len]; omega)) (Ev.now _)
      · refine Ev.bind e1 ?_
        refine Ev.bind e2 ?_
        refine Ev.congr (fun k => if_pos rfl) ?_
        have : (y != 0) = true := by simp [hy]
        simp only [this]
        exact j1t _ _
    · refine Ev.bind e1 ?_
      rcases Mul_any oB oC with ⟨m2, e2⟩ | ⟨y, hy, e2⟩
      · refine Ev.bind e2 ?_
        refine Ev.congr (fun k => if_neg hx) ?_
        exact j1t _ _
      · refine Ev.bind e2 ?_
        refine Ev.congr (fun k => if_neg hx) ?_
        exact j1t _ _
theorem joins_pure (A Bm C : List (List Int)) (oA : okB A = true) (oB : okB Bm = true) (oC : okB C = true) : ∃ k, P.stowagelaw02_MatrixJoins.f k A Bm C = some true := by
  refine Ev.rounds (g := fun k => P.stowagelaw02_MatrixJoins.f k A Bm C) ?_
  unfold P.stowagelaw02_MatrixJoins.f
  refine Ev.bind known_ev ?_
  obtain ⟨b, hb⟩ := large_ev A
  refine Ev.bind hb ?_
  cases b with
  | true => exact Ev.congr (fun k => if_pos rfl) (joins_j0 oA oB oC true)
  | false =>
    refine Ev.congr (fun k => if_neg (by decide)) ?_
    obtain ⟨b, hb⟩ := large_ev Bm
    refine Ev.bind hb ?_
    cases b with
    | true => exact Ev.congr (fun k => if_pos rfl) (joins_j0 oA oB oC true)
    | false =>
      refine Ev.congr (fun k => if_neg (by decide)) ?_
      obtain ⟨b, hb⟩ := large_ev C
      exact Ev.bind hb (joins_j0 oA oB oC b)
end Go.Proofs.Ythmlimkmcofkfaa.L

/- The row of MatrixJoins: whatever the input, it returns true, and each argument reads afterwards as before. -/
namespace Go.Proofs.Ythmlimkmcofkfaa.matrixJoins
open Go.ChangeShapes Go.WideShapes Go.ChangeAt Go.RowKit Go.Proofs.YthmlimkmcofkfaaW.PrintWords Go.Proofs.Ythmlimkmcofkfaa.E Go.Proofs.Ythmlimkmcofkfaa.B Go.Proofs.Ythmlimkmcofkfaa.R
set_option linter.unusedVariables false
set_option maxRecDepth 100000 in
theorem lifted (os : Os) (started : os.Started) (H : Type) (enc : TypeId × Value → H) :
    ReturnsInHanded {} Try.checked os 6 .any (Rows.matrixJoinsSpec.pre6 enc Try.prog Try.f6 Rows.matrixJoinsRow.domain false) (Rows.matrixJoinsSpec.post enc Try.prog Try.f6 false true false false) := by
  refine returnsInHanded_of_change_sized (C := Try.checked) own started (by kernel_rfl) Try.func6
    (ChangeSpec.witness6 (enc := enc) (C := Try.checked) false ⟨#[], #[.slice none 0 0, .slice none 0 0, .slice none 0 0], []⟩ 8 (by kernel_rfl) (by kernel_rfl) (by kernel_rfl) (by kernel_rfl)) ?_
  intro W base args ds gs before hval0 hW hcnd hsz0 _
  have hval : ∀ (j : Nat) t v, Try.f6.params[j]? = some t → args[j]? = some v → Value.okWide Try.prog W .any base t v := hval0
  have hW' := hW
  obtain ⟨p, q, hA0, hV, rfl, hfz, hnd⟩ := hW
  have hA : DataW.TrodAll enc Try.prog W 0 (fun _ => true) true Try.f6.params.toList args.toList ds p := hA0
  rw [Try.params6] at hA hval
  obtain ⟨v0, vs0, d0, ds0, p0, q0, hargs, rfl, rfl, h0, r0⟩ := trodAll_cons hA
  obtain ⟨v1, vs1, d1, ds1, p1, q1, rfl, rfl, rfl, h1, r1⟩ := trodAll_cons r0
  obtain ⟨v2, vs2, d2, ds2, p2, q2, rfl, rfl, rfl, h2, r2⟩ := trodAll_cons r1
  obtain ⟨rfl, rfl, rfl⟩ := trodAll_nil r2
  obtain rfl : args = #[v0, v1, v2] := by cases args; simp_all
  obtain ⟨rfl, rfl⟩ := trodVars_none hV
  have k0 := h0
  have lt0 : ∀ x ∈ p0, x.block < W.heap.size := by obtain ⟨m, hm⟩ := k0; exact DataW.trod_lt m _ _ _ hm
  obtain ⟨a0, len0, cap0, l0, rfl, rfl, c0, hr0, ok0⟩ := open_lists (hval 0 22 v0 rfl rfl) h0
  have k1 := h1
  have lt1 : ∀ x ∈ p1, x.block < W.heap.size := by obtain ⟨m, hm⟩ := k1; exact DataW.trod_lt m _ _ _ hm
  obtain ⟨a1, len1, cap1, l1, rfl, rfl, c1, hr1, ok1⟩ := open_lists (hval 1 22 v1 rfl rfl) h1
  have k2 := h2
  have lt2 : ∀ x ∈ p2, x.block < W.heap.size := by obtain ⟨m, hm⟩ := k2; exact DataW.trod_lt m _ _ _ hm
  obtain ⟨a2, len2, cap2, l2, rfl, rfl, c2, hr2, ok2⟩ := open_lists (hval 2 22 v2 rfl rfl) h2
  clear hA0 hval0 hsz0
  obtain ⟨k, hk⟩ := L.joins_pure l0 l1 l2 ok0 ok1 ok2
  refine (P.stowagelaw02_MatrixJoins.calls k _ _ l0 _ _ l1 _ _ l2 true W hr0 c0 hr1 c1 hr2 c2 hk).mono fun e W' ⟨he, bel⟩ => ?_
  subst he
  exact ⟨_, rfl, _, _, _, [], _, [], hW', trodAll_mk1 (shut_bool Try.underlying4 _), (trodAll_cons_mk (Below.trod laidOut (by kernel_rfl) (of_decide_eq_true (by kernel_rfl)) k0 bel lt0) (trodAll_cons_mk (Below.trod laidOut (by kernel_rfl) (of_decide_eq_true (by kernel_rfl)) k1 bel lt1) (trodAll_cons_mk (Below.trod laidOut (by kernel_rfl) (of_decide_eq_true (by kernel_rfl)) k2 bel lt2) trodAll_mk0))), rfl, bel.frame _, fun h => by cases h⟩
theorem over : Rows.matrixJoinsRow.holds Try.pinned (OpenSpec.ofChange Rows.matrixJoinsSpec) :=
  OpenClaim.holds_of_wide 6 Try.f6 rfl rfl rfl rfl rfl rfl rfl ⟨rfl, rfl, rfl, rfl, rfl⟩ rfl rfl rfl rfl rfl (by kernel_rfl) Try.func6 (by kernel_rfl)
    (of_decide_eq_true (by kernel_rfl)) (by unfold Func.isWrapper; first | (rw [if_pos (by decide +kernel)]; kernel_rfl) | (rw [if_neg (by decide +kernel)]; exact ⟨rfl, rfl⟩))
    (fun os started H enc _ => lifted os started H enc)
theorem proved : Rows.MatrixJoinsSaid := over
#print axioms proved
end Go.Proofs.Ythmlimkmcofkfaa.matrixJoins
namespace Go.Proofs.Ythmlimkmcofkfaa
/-- The row, under a short name, for the claim. -/
theorem matrixJoins_holds : Rows.MatrixJoinsSaid := matrixJoins.proved
end Go.Proofs.Ythmlimkmcofkfaa
