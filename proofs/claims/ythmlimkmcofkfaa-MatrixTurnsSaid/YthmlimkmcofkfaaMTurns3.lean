/- For every matrix: what an inverse and its matrix make is the one, on either side; a square matrix has an inverse just if its rank is full. (Part 4 of 4.) -/
import Derived.Test.YthmlimkmcofkfaaMTurns0
import Derived.Test.YthmlimkmcofkfaaMTurns2
/- MatrixTurns, told of lists: what an inverse and its matrix make is the one, on either side. -/
namespace Go.Proofs.Ythmlimkmcofkfaa.L
open Go.RowKit Go.Proofs.YthmlimkmcofkfaaW.PrintWords Go.Proofs.Ythmlimkmcofkfaa.E Go.Proofs.Ythmlimkmcofkfaa.B
set_option linter.unusedVariables false

theorem check_of {l : List (List Int)} {m : Nat} (h1 : 0 < l.length) (h2 : l.length ≤ 32) (h3 : 0 < m) (h4 : m ≤ 32) (hr : Rect m l) : check l = 0 := by
  have r0 := hr 0 h1
  have hmem : ∀ x ∈ l, x.length = m := by
    intro x hx
    obtain ⟨i, hi, rfl⟩ := List.getElem_of_mem hx
    have := hr i hi
    rw [rdL_nat] at this
    simpa [hi] using this
  unfold check
  rw [if_neg, if_neg]
  · rintro (h | h)
    · omega
    · obtain ⟨x, hx, hp⟩ := List.any_eq_true.1 h
      have := hmem x hx
      have r0' : (rd_L1 l 0).length = m := r0
      simp [P2, r0', this] at hp
      omega
  · rintro (h | h)
    · omega
    · obtain ⟨x, hx, hp⟩ := List.any_eq_true.1 h
      have := hmem x hx
      simp [P1, this] at hp
      omega
theorem okB_of {l : List (List Int)} {m : Nat} (hr : Rect m l) (hb : Bytes l.length m (entry l)) : okB l = true := by
  unfold okB
  rw [List.all_eq_true]
  intro x hx
  obtain ⟨i, hi, rfl⟩ := List.getElem_of_mem hx
  have hl := hr i hi
  have e : rd_L1 l i = l[i] := by rw [rdL_nat]; simp [hi]
  rw [e] at hl
  rw [List.all_eq_true]
  intro y hy
  obtain ⟨j, hj, rfl⟩ := List.getElem_of_mem hy
  have := hb i j hi (by omega)
  unfold entry at this
  rw [e, rd_nat] at this
  simp [hj] at this
  simpa [Byte] using this
theorem rightL_len (S : Nat → Nat → Int) (n : Nat) : (rightL S n).length = n := by simp [rightL]
theorem rightL_row {S : Nat → Nat → Int} {n i : Nat} (h : i < n) : rd_L1 (rightL S n) i = rightRow S n i := by rw [rdL_nat]; simp [rightL, h]
theorem rightL_rect (S : Nat → Nat → Int) (n : Nat) : Rect n (rightL S n) := fun i hi => by rw [rightL_len] at hi; rw [rightL_row hi, rightRow_len]
theorem rightL_entry {S : Nat → Nat → Int} {n i j : Nat} (hi : i < n) (hj : j < n) : entry (rightL S n) i j = S i (n + j) := by unfold entry; rw [rightL_row hi, rd_nat]; simp [rightRow, hj]
theorem idRow_tab {n i : Nat} : idRow n i = tab n (one i) := by
  apply List.ext_getElem
  · simp [idRow, tab]
  · intro j h1 h2
    simp [tab] at h2
    by_cases e : i = j
    · subst e; simp [idRow, tab, one]
    · simp [idRow, tab, one, e]
theorem mulL_id {A Bm : List (List Int)} {n : Nat} (hA : A.length = n) (hB : Bm.length = n) (hr : Rect n Bm) (h0 : 0 < n) (h : ∀ i j, i < n → j < n → gsum n (fun t => gmul (entry A i t) (entry Bm t j)) = one i j) : mulL A Bm = idL n := by
  unfold mulL idL
  rw [hA, ← List.range_eq_range']
  refine List.map_congr_left (fun i hi => ?_)
  have hi' : i < n := List.mem_range.1 hi
  rw [idRow_tab]
  unfold mulRow
  have e0 : (rd_L1 Bm 0).length = n := hr 0 (by omega)
  rw [e0, hB]
  exact tab_congr (fun j hj => h i j hi' hj)
theorem aug_Aug {l : List (List Int)} {n : Nat} : Aug n (entry l) (augM l n) := fun i hi => ⟨fun j hj => by unfold augM; rw [if_pos hj], fun j hj => by
  unfold augM one
  rw [if_neg (by omega), show n + j - n = j by omega]
  by_cases e : j = i
  · rw [if_pos e, if_pos e.symm]
  · rw [if_neg e, if_neg (fun h => e h.symm)]⟩

theorem turns_j1 {l : List (List Int)} {n : Nat} (hn : l.length = n) (hr : Rect n l) (h0 : 0 < n) (h32 : n ≤ 32) (ok : okB l = true) :
    Ev (fun k => P.stowagelaw02_MatrixTurns.j1 k l true (invertV l).1 (invertV l).2 (((invertV l).2 == 0) != (((rankV l).1) == (l.length : Int)))) true := by
  have hc : check l = 0 := check_of (by omega) (by omega) h0 h32 (by rw [← hn] at hr ⊢; exact hr)
  have hr0 : (rd_L1 l 0).length = n := hr 0 (by omega)
  have hbe : Bytes n n (entry l) := by have := okB_entry ok hr; rwa [hn] at this
  have hag := (sweep_agree (n := n) (q := n) (M := entry l) (M' := augM l n) (fun i j hi hj => by unfold augM; rw [if_pos hj]) n (Nat.le_refl _)).1
  have hrk : rankV l = ((((sweepM n n (0, augM l n)).1 : Nat) : Int), (0 : Int)) := by
    unfold rankV
    rw [if_neg (by simp [hc]), hr0, hn, hag]
  have hiv : invertV l = if (sweepM n n (0, augM l n)).1 < n then ([], 120) else (rightL (sweepM n n (0, augM l n)).2 n, 0) := by
    unfold invertV invS
    rw [if_neg (by simp [hc]), if_neg (by omega), hn]
  have hle := rank_le (n := n) (augM l n) n
  rw [hrk, hiv]
  by_cases e : (sweepM n n (0, augM l n)).1 < n
  · rw [if_pos e]
    refine Ev.step (f := fun _ => some true) (fun k => ?_) (Ev.now _)
    have h1 : (((sweepM n n (0, augM l n)).1 : Int) == (l.length : Int)) = false := by simp; omega
    simp only [P.stowagelaw02_MatrixTurns.j1]
    rw [h1]
    rfl
  · rw [if_neg e]
    have e' : (sweepM n n (0, augM l n)).1 = n := by omega
    obtain ⟨i1, i2, i3⟩ := inverse (aug_Aug (l := l)) hbe e'
    have h1 : (((sweepM n n (0, augM l n)).1 : Int) == (l.length : Int)) = true := by simp; omega
    rw [h1]
    generalize (sweepM n n (0, augM l n)).2 = S at *
    have rB := rightL_rect S n
    have lB := rightL_len S n
    have cB : check (rightL S n) = 0 := check_of (by omega) (by omega) h0 h32 rB
    have bB : Bytes (rightL S n).length n (entry (rightL S n)) := fun i j hi hj => by rw [lB] at hi; rw [rightL_entry hi hj]; exact i1 i j hi hj
    have oB := okB_of rB bB
    have m1 : mulL l (rightL S n) = idL n := mulL_id hn lB rB h0 (fun i j hi hj => by
      rw [gsum_congr (fun t ht => by rw [rightL_entry ht hj])]; exact i3 i j hi hj)
    have m2 : mulL (rightL S n) l = idL n := mulL_id lB hn hr h0 (fun i j hi hj => by
      rw [gsum_congr (fun t ht => by rw [rightL_entry hi ht])]; exact i2 i j hi hj)
    have v1 := Mul_ok hc cB (by omega) ok oB
    have v2 := Mul_ok cB hc (by have := rB 0 (by omega); rw [hn]; exact this.symm) oB ok
    rw [m1] at v1
    rw [m2] at v2
    have vone := one_ev n h0 h32
    rw [← hn] at vone
    have vmk := makes_self (idL n) (by rw [idL_len]; omega)
    rw [hn] at vone
    refine Ev.step (f := fun k => (matrix_One.f k (l.length : Int)).bind fun bt303 => ((P.matrix_Mul.f k l (rightL S n)).bind fun bt307 => ((P.matrix_Mul.f k (rightL S n) l).bind fun bt311 => (if true = true then (if bt303.2 = 0 then ((stowagelaw02_makes.f k bt307.1 bt307.2 bt303.1).bind fun t315 => (if t315 = true then ((stowagelaw02_makes.f k bt311.1 bt311.2 bt303.1).bind fun t316 => (some t316)) else (some false))) else (some false)) else (some false))))) (fun k => ?_) ?_
    · simp only [P.stowagelaw02_MatrixTurns.j1]
      rfl
    · rw [hn]
      refine Ev.bind vone ?_
      refine Ev.bind v1 ?_
      refine Ev.bind v2 ?_
      refine Ev.congr (fun k => if_pos rfl) ?_
      refine Ev.congr (fun k => if_pos rfl) ?_
      refine Ev.bind vmk ?_
      refine Ev.congr (fun k => if_pos rfl) ?_
      exact Ev.bind vmk (Ev.now _)
theorem turns_j0 {l : List (List Int)} (ok : okB l = true) (b : Bool) (h : b = false → check l = 0 ∧ (rd_L1 l 0).length = l.length) : Ev (fun k => P.stowagelaw02_MatrixTurns.j0 k l true b) true := by
  cases b with
  | true => exact Ev.step (f := fun _ => some true) (fun k => by simp only [P.stowagelaw02_MatrixTurns.j0]; rfl) (Ev.now _)
  | false =>
    obtain ⟨hc, hsq⟩ := h rfl
    obtain ⟨g1, g2, g3, g4, g5⟩ := check_ok hc
    have hj := turns_j1 (l := l) rfl (by rw [← hsq]; exact g5) g1 g2 ok
    have hrk : 0 ≤ (rankV l).1 ∧ (rankV l).1 ≤ l.length ∧ (rankV l).2 = 0 := by
      have h1 := rank_le (n := l.length) (entry l) (rd_L1 l 0).length
      unfold rankV
      rw [if_neg (by simp [hc])]
      exact ⟨by simp, by simp; exact h1, rfl⟩
    refine Ev.step (f := fun k => P.stowagelaw02_MatrixTurns.j1 k l true (invertV l).1 (invertV l).2 (((invertV l).2 == 0) != (((rankV l).1) == (l.length : Int)))) (fun k => ?_) hj
    simp only [P.stowagelaw02_MatrixTurns.j0, matrix_Rank.f, matrix_Invert.f]
    rw [if_neg (by decide), if_pos ok, if_pos ok]
    simp only [Option.bind_some]
    rw [if_pos hrk.2.2, if_neg (by omega), if_neg (by omega)]
theorem turns_pure (l : List (List Int)) (ok : okB l = true) : ∃ k, P.stowagelaw02_MatrixTurns.f k l = some true := by
  refine Ev.rounds (g := fun k => P.stowagelaw02_MatrixTurns.f k l) ?_
  unfold P.stowagelaw02_MatrixTurns.f
  refine Ev.bind known_ev ?_
  obtain ⟨b, hb⟩ := large_ev l
  refine Ev.bind hb ?_
  cases b with
  | true =>
    refine Ev.congr (fun k => if_pos rfl) ?_
    exact turns_j0 ok true (fun h => by cases h)
  | false =>
    refine Ev.congr (fun k => if_neg (by decide)) ?_
    refine Ev.bind (a := check l) (evc rfl) ?_
    by_cases hc : check l = 0
    · obtain ⟨g1, _⟩ := check_ok hc
      refine Ev.congr (fun k => if_pos hc) ?_
      refine Ev.congr (fun k => if_pos (by omega)) ?_
      refine turns_j0 ok _ (fun h => ⟨hc, ?_⟩)
      rw [rdP] at h
      simp at h
      omega
    · refine Ev.congr (fun k => if_neg hc) ?_
      exact turns_j0 ok true (fun h => by cases h)
end Go.Proofs.Ythmlimkmcofkfaa.L

/- The row of MatrixTurns: whatever the input, it returns true, and each argument reads afterwards as before. -/
namespace Go.Proofs.Ythmlimkmcofkfaa.matrixTurns
open Go.ChangeShapes Go.WideShapes Go.ChangeAt Go.RowKit Go.Proofs.YthmlimkmcofkfaaW.PrintWords Go.Proofs.Ythmlimkmcofkfaa.E Go.Proofs.Ythmlimkmcofkfaa.B Go.Proofs.Ythmlimkmcofkfaa.R
set_option linter.unusedVariables false
set_option maxRecDepth 100000 in
theorem lifted (os : Os) (started : os.Started) (H : Type) (enc : TypeId × Value → H) :
    ReturnsInHanded {} Try.checked os 5 .any (Rows.matrixTurnsSpec.pre6 enc Try.prog Try.f5 Rows.matrixTurnsRow.domain false) (Rows.matrixTurnsSpec.post enc Try.prog Try.f5 false true false false) := by
  refine returnsInHanded_of_change_sized (C := Try.checked) own started (by kernel_rfl) Try.func5
    (ChangeSpec.witness6 (enc := enc) (C := Try.checked) false ⟨#[], #[.slice none 0 0], []⟩ 8 (by kernel_rfl) (by kernel_rfl) (by kernel_rfl) (by kernel_rfl)) ?_
  intro W base args ds gs before hval0 hW hcnd hsz0 _
  have hval : ∀ (j : Nat) t v, Try.f5.params[j]? = some t → args[j]? = some v → Value.okWide Try.prog W .any base t v := hval0
  have hW' := hW
  obtain ⟨p, q, hA0, hV, rfl, hfz, hnd⟩ := hW
  have hA : DataW.TrodAll enc Try.prog W 0 (fun _ => true) true Try.f5.params.toList args.toList ds p := hA0
  rw [Try.params5] at hA hval
  obtain ⟨v0, vs0, d0, ds0, p0, q0, hargs, rfl, rfl, h0, r0⟩ := trodAll_cons hA
  obtain ⟨rfl, rfl, rfl⟩ := trodAll_nil r0
  obtain rfl : args = #[v0] := by cases args; simp_all
  obtain ⟨rfl, rfl⟩ := trodVars_none hV
  have k0 := h0
  have lt0 : ∀ x ∈ p0, x.block < W.heap.size := by obtain ⟨m, hm⟩ := k0; exact DataW.trod_lt m _ _ _ hm
  obtain ⟨a0, len0, cap0, l0, rfl, rfl, c0, hr0, ok0⟩ := open_lists (hval 0 22 v0 rfl rfl) h0
  clear hA0 hval0 hsz0
  obtain ⟨k, hk⟩ := L.turns_pure l0 ok0
  refine (P.stowagelaw02_MatrixTurns.calls k _ _ l0 true W hr0 c0 hk).mono fun e W' ⟨he, bel⟩ => ?_
  subst he
  exact ⟨_, rfl, _, _, _, [], _, [], hW', trodAll_mk1 (shut_bool Try.underlying4 _), (trodAll_cons_mk (Below.trod laidOut (by kernel_rfl) (of_decide_eq_true (by kernel_rfl)) k0 bel lt0) trodAll_mk0), rfl, bel.frame _, fun h => by cases h⟩
theorem over : Rows.matrixTurnsRow.holds Try.pinned (OpenSpec.ofChange Rows.matrixTurnsSpec) :=
  OpenClaim.holds_of_wide 5 Try.f5 rfl rfl rfl rfl rfl rfl rfl ⟨rfl, rfl, rfl, rfl, rfl⟩ rfl rfl rfl rfl rfl (by kernel_rfl) Try.func5 (by kernel_rfl)
    (of_decide_eq_true (by kernel_rfl)) (by unfold Func.isWrapper; first | (rw [if_pos (by decide +kernel)]; kernel_rfl) | (rw [if_neg (by decide +kernel)]; exact ⟨rfl, rfl⟩))
    (fun os started H enc _ => lifted os started H enc)
theorem proved : Rows.MatrixTurnsSaid := over
#print axioms proved
end Go.Proofs.Ythmlimkmcofkfaa.matrixTurns
namespace Go.Proofs.Ythmlimkmcofkfaa
/-- The row, under a short name, for the claim. -/
theorem matrixTurns_holds : Rows.MatrixTurnsSaid := matrixTurns.proved
end Go.Proofs.Ythmlimkmcofkfaa
