/- Proof that any k unlike rows of the code have an inverse, merged from this session's texts. (Part 4 of 5.) -/
import Derived.Test.YthmlimkmcofkfaaMAny0
import Derived.Test.YthmlimkmcofkfaaMAny1
import Derived.Test.YthmlimkmcofkfaaMAny2
/- Contracts of functions of the program, written by a program of this session. -/
namespace Go.Proofs.Ythmlimkmcofkfaa.P
open Go.RowKit Go.Proofs.YthmlimkmcofkfaaW.PrintWords Go.Proofs.YthmlimkmcofkfaaW.PrintLast Go.Proofs.YthmlimkmcofkfaaW.PrintMore
attribute [local go_sem] max2_int min2_int max_two min_two max_three min_three max_four min_four   -- for this text's walks alone
open Go.Proofs.Ythmlimkmcofkfaa.B Go.Proofs.Ythmlimkmcofkfaa.E
set_option linter.unusedVariables false
set_option linter.unusedSimpArgs false

theorem wrap64_one_ : wrap64 1 = 1 := by unfold wrap64; omega
attribute [local go_sem] wrap64_one_
/-! ### stowagelaw02_MatrixAny: function 7 -/
mutual
def stowagelaw02_MatrixAny.j0 : Nat → Int → Int → List Int → Bool → List (List Int) → Bool → Option (Bool)
  | 0, _, _, _, _, _, _ => none
  | k + 1, x0, x1, x2, x7, x8, x32 => if x32 = true then (some x7) else (if x0 < 1 then (stowagelaw02_MatrixAny.j1 k x0 x1 x2 x7 x8 true) else (if x1 < 1 then (stowagelaw02_MatrixAny.j1 k x0 x1 x2 x7 x8 true) else (if (wrap64 (x0 + x1)) > 16 then (stowagelaw02_MatrixAny.j1 k x0 x1 x2 x7 x8 true) else (stowagelaw02_MatrixAny.j1 k x0 x1 x2 x7 x8 ((x8.length : Int) != (wrap64 (x0 + x1)))))))
def stowagelaw02_MatrixAny.j1 : Nat → Int → Int → List Int → Bool → List (List Int) → Bool → Option (Bool)
  | 0, _, _, _, _, _, _ => none
  | k + 1, x0, x1, x2, x7, x8, x53 => if x53 = true then (some false) else (stowagelaw02_MatrixAny.l0 k x0 x1 x2 x7 x8 ([] : List Int) 0)
def stowagelaw02_MatrixAny.l0 : Nat → Int → Int → List Int → Bool → List (List Int) → List Int → Int → Option (Bool)
  | 0, _, _, _, _, _, _, _ => none
  | k + 1, x0, x1, x2, x7, x8, x10, x12 => if x12 < (wrap64 (x0 + x1)) then (if x10.length < 17592186044416 then (stowagelaw02_MatrixAny.l0 k x0 x1 x2 x7 x8 (x10 ++ [x12]) (wrap64 (x12 + 1))) else (none)) else (stowagelaw02_MatrixAny.l1 k x0 x2 x7 x8 x10 ([] : List Int) 0)
def stowagelaw02_MatrixAny.l1 : Nat → Int → List Int → Bool → List (List Int) → List Int → List Int → Int → Option (Bool)
  | 0, _, _, _, _, _, _, _ => none
  | k + 1, x0, x2, x7, x8, x10, x11, x13 => if x13 < x0 then (if x13 < (x2.length : Int) then (if 0 ≤ x13 then ((stowagekit_Pick.f (rd x2 x13) (x10.length : Int)).bind fun t347 => (if 0 ≤ t347 then (if t347 < (x10.length : Int) then (if x11.length < 17592186044416 then ((some (([] : List Int) : List Int)).bind fun y352 => (if t347 ≤ (x10.length : Int) then ((some (x10.take (t347 : Int).toNat : List Int)).bind fun y355 => (if y352.length + y355.length < 17592186044416 then ((some (y352 ++ y355 : List Int)).bind fun y359 => (if 0 ≤ (wrap64 (t347 + 1)) then (if (wrap64 (t347 + 1)) ≤ (x10.length : Int) then ((some (x10.drop ((wrap64 (t347 + 1)) : Int).toNat : List Int)).bind fun y362 => (if y359.length + y362.length < 17592186044416 then (stowagelaw02_MatrixAny.l1 k x0 x2 x7 x8 (y359 ++ y362) (x11 ++ [rd x10 t347]) (wrap64 (x13 + 1))) else (none))) else (none)) else (none))) else (none))) else (none))) else (none)) else (none)) else (none))) else (none)) else (if 0 < (x10.length : Int) then (if x11.length < 17592186044416 then ((some (([] : List Int) : List Int)).bind fun y373 => (if 0 ≤ (x10.length : Int) then ((some (x10.take 0 : List Int)).bind fun y376 => (if y373.length + y376.length < 17592186044416 then ((some (y373 ++ y376 : List Int)).bind fun y380 => (if 1 ≤ (x10.length : Int) then ((some (x10.drop 1 : List Int)).bind fun y383 => (if y380.length + y383.length < 17592186044416 then (stowagelaw02_MatrixAny.l1 k x0 x2 x7 x8 (y380 ++ y383) (x11 ++ [rd x10 0]) (wrap64 (x13 + 1))) else (none))) else (none))) else (none))) else (none))) else (none)) else (none))) else ((matrix_Pick.f k x8 x11).bind fun bt390 => ((matrix_Invert.f bt390.1).bind fun bt394 => (if x7 = true then (if bt390.2 = 0 then (some (bt394.2 == 0)) else (some false)) else (some false))))
end
def stowagelaw02_MatrixAny.f (k : Nat) (a0 : Int) (a1 : Int) (l2 : List Int) : Option (Bool) := (stowagelaw02_MatrixKnown.f k).bind fun t338 => ((matrix_Code.f k a0 a1).bind fun bt339 => (if bt339.2 = 0 then (stowagelaw02_MatrixAny.j0 k a0 a1 l2 t338 bt339.1 (decide ((l2.length : Int) > 100))) else (stowagelaw02_MatrixAny.j0 k a0 a1 l2 t338 bt339.1 true)))
theorem stowagelaw02_MatrixAny.mono_l : ∀ k, (∀ y0 y1 y2 y3 y4 y5, LeO (stowagelaw02_MatrixAny.j0 k y0 y1 y2 y3 y4 y5) (stowagelaw02_MatrixAny.j0 (k + 1) y0 y1 y2 y3 y4 y5)) ∧ (∀ y0 y1 y2 y3 y4 y5, LeO (stowagelaw02_MatrixAny.j1 k y0 y1 y2 y3 y4 y5) (stowagelaw02_MatrixAny.j1 (k + 1) y0 y1 y2 y3 y4 y5)) ∧ (∀ y0 y1 y2 y3 y4 y5 y6, LeO (stowagelaw02_MatrixAny.l0 k y0 y1 y2 y3 y4 y5 y6) (stowagelaw02_MatrixAny.l0 (k + 1) y0 y1 y2 y3 y4 y5 y6)) ∧ (∀ y0 y1 y2 y3 y4 y5 y6, LeO (stowagelaw02_MatrixAny.l1 k y0 y1 y2 y3 y4 y5 y6) (stowagelaw02_MatrixAny.l1 (k + 1) y0 y1 y2 y3 y4 y5 y6))
  | 0 => ⟨fun _ _ _ _ _ _ r h => by simp [stowagelaw02_MatrixAny.j0] at h, fun _ _ _ _ _ _ r h => by simp [stowagelaw02_MatrixAny.j1] at h, fun _ _ _ _ _ _ _ r h => by simp [stowagelaw02_MatrixAny.l0] at h, fun _ _ _ _ _ _ _ r h => by simp [stowagelaw02_MatrixAny.l1] at h⟩
  | k + 1 => by
    obtain ⟨ih0, ih1, ih2, ih3⟩ := stowagelaw02_MatrixAny.mono_l k
    refine ⟨?_, ?_, ?_, ?_⟩
    · intro y0 y1 y2 y3 y4 y5
      unfold stowagelaw02_MatrixAny.j0
      repeat' first
      | (with_reducible exact ih0 _ _ _ _ _ _)
      | (with_reducible exact ih1 _ _ _ _ _ _)
      | (with_reducible exact ih2 _ _ _ _ _ _ _)
      | (with_reducible exact ih3 _ _ _ _ _ _ _)
      | (with_reducible exact matrix_Code.mono _ _ _)
      | (with_reducible exact matrix_Pick.mono _ _ _)
      | (with_reducible exact stowagelaw02_MatrixKnown.mono _)
      | (with_reducible exact LeO.refl _)
      | (with_reducible exact LeO.none _)
      | (with_reducible refine LeO.ite ?_ ?_)
      | (with_reducible refine LeO.bind ?_ (fun _ => ?_))
      | exact ih0 _ _ _ _ _ _
      | exact ih1 _ _ _ _ _ _
      | exact ih2 _ _ _ _ _ _ _
      | exact ih3 _ _ _ _ _ _ _
      | exact matrix_Code.mono _ _ _
      | exact matrix_Pick.mono _ _ _
      | exact stowagelaw02_MatrixKnown.mono _
      | exact LeO.none _
      | refine LeO.ite ?_ ?_
      | refine LeO.bind ?_ (fun _ => ?_)
    · intro y0 y1 y2 y3 y4 y5
      unfold stowagelaw02_MatrixAny.j1
      repeat' first
      | (with_reducible exact ih0 _ _ _ _ _ _)
      | (with_reducible exact ih1 _ _ _ _ _ _)
      | (with_reducible exact ih2 _ _ _ _ _ _ _)
      | (with_reducible exact ih3 _ _ _ _ _ _ _)
      | (with_reducible exact matrix_Code.mono _ _ _)
      | (with_reducible exact matrix_Pick.mono _ _ _)
      | (with_reducible exact stowagelaw02_MatrixKnown.mono _)
      | (with_reducible exact LeO.refl _)
      | (with_reducible exact LeO.none _)
      | (with_reducible refine LeO.ite ?_ ?_)
      | (with_reducible refine LeO.bind ?_ (fun _ => ?_))
      | exact ih0 _ _ _ _ _ _
      | exact ih1 _ _ _ _ _ _
      | exact ih2 _ _ _ _ _ _ _
      | exact ih3 _ _ _ _ _ _ _
      | exact matrix_Code.mono _ _ _
      | exact matrix_Pick.mono _ _ _
      | exact stowagelaw02_MatrixKnown.mono _
      | exact LeO.none _
      | refine LeO.ite ?_ ?_
      | refine LeO.bind ?_ (fun _ => ?_)
    · intro y0 y1 y2 y3 y4 y5 y6
      unfold stowagelaw02_MatrixAny.l0
      repeat' first
      | (with_reducible exact ih0 _ _ _ _ _ _)
      | (with_reducible exact ih1 _ _ _ _ _ _)
      | (with_reducible exact ih2 _ _ _ _ _ _ _)
      | (with_reducible exact ih3 _ _ _ _ _ _ _)
      | (with_reducible exact matrix_Code.mono _ _ _)
      | (with_reducible exact matrix_Pick.mono _ _ _)
      | (with_reducible exact stowagelaw02_MatrixKnown.mono _)
      | (with_reducible exact LeO.refl _)
      | (with_reducible exact LeO.none _)
      | (with_reducible refine LeO.ite ?_ ?_)
      | (with_reducible refine LeO.bind ?_ (fun _ => ?_))
      | exact ih0 _ _ _ _ _ _
      | exact ih1 _ _ _ _ _ _
      | exact ih2 _ _ _ _ _ _ _
      | exact ih3 _ _ _ _ _ _ _
      | exact matrix_Code.mono _ _ _
      | exact matrix_Pick.mono _ _ _
      | exact stowagelaw02_MatrixKnown.mono _
      | exact LeO.none _
      | refine LeO.ite ?_ ?_
      | refine LeO.bind ?_ (fun _ => ?_)
    · intro y0 y1 y2 y3 y4 y5 y6
      unfold stowagelaw02_MatrixAny.l1
      repeat' first
      | (with_reducible exact ih0 _ _ _ _ _ _)
      | (with_reducible exact ih1 _ _ _ _ _ _)
      | (with_reducible exact ih2 _ _ _ _ _ _ _)
      | (with_reducible exact ih3 _ _ _ _ _ _ _)
      | (with_reducible exact matrix_Code.mono _ _ _)
      | (with_reducible exact matrix_Pick.mono _ _ _)
      | (with_reducible exact stowagelaw02_MatrixKnown.mono _)
      | (with_reducible exact LeO.refl _)
      | (with_reducible exact LeO.none _)
      | (with_reducible refine LeO.ite ?_ ?_)
      | (with_reducible refine LeO.bind ?_ (fun _ => ?_))
      | exact ih0 _ _ _ _ _ _
      | exact ih1 _ _ _ _ _ _
      | exact ih2 _ _ _ _ _ _ _
      | exact ih3 _ _ _ _ _ _ _
      | exact matrix_Code.mono _ _ _
      | exact matrix_Pick.mono _ _ _
      | exact stowagelaw02_MatrixKnown.mono _
      | exact LeO.none _
      | refine LeO.ite ?_ ?_
      | refine LeO.bind ?_ (fun _ => ?_)
theorem stowagelaw02_MatrixAny.mono : ∀ a0 a1 a2 k, LeO (stowagelaw02_MatrixAny.f k a0 a1 a2) (stowagelaw02_MatrixAny.f (k + 1) a0 a1 a2) := by
  intro a0 a1 a2 k
  obtain ⟨ih0, ih1, ih2, ih3⟩ := stowagelaw02_MatrixAny.mono_l k
  unfold stowagelaw02_MatrixAny.f
  repeat' first
      | (with_reducible exact ih0 _ _ _ _ _ _)
      | (with_reducible exact ih1 _ _ _ _ _ _)
      | (with_reducible exact ih2 _ _ _ _ _ _ _)
      | (with_reducible exact ih3 _ _ _ _ _ _ _)
      | (with_reducible exact matrix_Code.mono _ _ _)
      | (with_reducible exact matrix_Pick.mono _ _ _)
      | (with_reducible exact stowagelaw02_MatrixKnown.mono _)
      | (with_reducible exact LeO.refl _)
      | (with_reducible exact LeO.none _)
      | (with_reducible refine LeO.ite ?_ ?_)
      | (with_reducible refine LeO.bind ?_ (fun _ => ?_))
      | exact ih0 _ _ _ _ _ _
      | exact ih1 _ _ _ _ _ _
      | exact ih2 _ _ _ _ _ _ _
      | exact ih3 _ _ _ _ _ _ _
      | exact matrix_Code.mono _ _ _
      | exact matrix_Pick.mono _ _ _
      | exact stowagelaw02_MatrixKnown.mono _
      | exact LeO.none _
      | refine LeO.ite ?_ ?_
      | refine LeO.bind ?_ (fun _ => ?_)
def stowagelaw02_MatrixAny.T19 : Bool × List (List Nat × List Nat) := (true, [([], []), ([], []), ([], []), ([1, 2], [1, 2]), ([0, 3], [0, 3]), ([], []), ([], []), ([6], [6]), ([5, 7], [5, 7]), ([4, 8, 4], [4, 8]), ([9, 9, 0, 1, 2, 3, 4, 5, 6, 7, 8, 9], [1, 5, 9])])
def stowagelaw02_MatrixAny.B19 : List Nat := [0, 0, 0, 6, 15, 0, 0, 64, 224, 511, 1023]
theorem stowagelaw02_MatrixAny.tab19 : rtab .any (opsOf Try.f7 19) = stowagelaw02_MatrixAny.T19 := by kernel_rfl
theorem stowagelaw02_MatrixAny.bits19 : waitsOk stowagelaw02_MatrixAny.T19.2 stowagelaw02_MatrixAny.B19 = true := by kernel_rfl
set_option maxHeartbeats 8000000 in
set_option maxRecDepth 100000 in
theorem stowagelaw02_MatrixAny.calls (k : Nat) (a0 : Int) (a1 : Int) (A2 : Option Addr) (c2 : Nat) (l2 : List Int) (r : Bool) (w : World) (hr2 : Kd.C (Kd.int .i64) w A2 l2.length l2) (hc2 : l2.length ≤ c2) (h : stowagelaw02_MatrixAny.f k a0 a1 l2 = some r) :
    Calls Try.prog 7 #[.int .i64 a0, .int .i64 a1, .slice A2 l2.length c2] w fun e w' => e = .returned (.bool r) ∧ Below w.heap.size w w' := by
  have HR2 := Aside0.mk hr2
  have HC2 := Aside0.mk hc2
  clear hr2 hc2
  have HB := Aside0.mk (Below.refl w.heap.size w)
  have H : ((stowagelaw02_MatrixKnown.f k).bind fun t338 => ((matrix_Code.f k a0 a1).bind fun bt339 => (if bt339.2 = 0 then (stowagelaw02_MatrixAny.j0 k a0 a1 l2 t338 bt339.1 (decide ((l2.length : Int) > 100))) else (stowagelaw02_MatrixAny.j0 k a0 a1 l2 t338 bt339.1 true)))) = some r := h
  clear h
  replace H := Option.bind_eq_some_iff.mp H
  obtain ⟨t338, A40, H⟩ := H
  replace H : ((matrix_Code.f k a0 a1).bind fun bt339 => (if bt339.2 = 0 then (stowagelaw02_MatrixAny.j0 k a0 a1 l2 t338 bt339.1 (decide ((l2.length : Int) > 100))) else (stowagelaw02_MatrixAny.j0 k a0 a1 l2 t338 bt339.1 true))) = some r := H
  have A4 := Aside0.mk A40
  clear A40
  replace H := Option.bind_eq_some_iff.mp H
  obtain ⟨⟨t339, t340⟩, A50, H⟩ := H
  replace H : (if t340 = 0 then (stowagelaw02_MatrixAny.j0 k a0 a1 l2 t338 t339 (decide ((l2.length : Int) > 100))) else (stowagelaw02_MatrixAny.j0 k a0 a1 l2 t338 t339 true)) = some r := H
  have A5 := Aside0.mk A50
  clear A50
  have HC6 := Aside0.mk H
  clear H
  go_enter Try.func7, Try.ntmps7
  go_upto_region 3 with (first | ((with_reducible refine gate_callee (f := 35) rfl ?_); refine goesL_ (some 19) rfl rfl Try.func35 (by kernel_rfl) rfl #[] rfl (by (try simp only [List.map_toArray, List.map_cons, List.map_nil]); first | done | rfl | (simp only [List.length_drop, List.length_take]; rfl)) ?_; (with_reducible refine (stowagelaw02_MatrixKnown.calls k  t338 _ A4.out).mono ?_); rintro e w7 ⟨rfl, hb⟩; refine ⟨_, rfl, ?_⟩; have n0_ := Aside0.mk (below_step (by repeat (first | (with_reducible first | exact HB.out | apply below_alloc | apply pw_below_drewN | apply below_drew1) | exact HB.out)) hb); clear HB; have HB := n0_; clear n0_; (try clear hb); (try clear hb2); (try clear hk); (try clear hi)) | ((with_reducible refine gate_callee (f := 20) rfl ?_); refine goesL_ (some 23) rfl rfl Try.func20 (by kernel_rfl) rfl #[.int .i64 a0, .int .i64 a1] rfl (by (try simp only [List.map_toArray, List.map_cons, List.map_nil]); first | done | rfl | (simp only [List.length_drop, List.length_take]; rfl)) ?_; (with_reducible refine (matrix_Code.calls k a0 a1 t339 t340 _ A5.out).mono ?_); rintro e w8 ⟨v341, rfl, ho0, hb⟩; refine ⟨_, rfl, ?_⟩; have n0_ := Aside0.mk (Kd.S_lower ho0 (below_size (by repeat (first | (with_reducible first | exact HB.out | apply below_alloc | apply pw_below_drewN | apply below_drew1) | exact HB.out)))); have n1_ := Aside0.mk (below_step (by repeat (first | (with_reducible first | exact HB.out | apply below_alloc | apply pw_below_drewN | apply below_drew1) | exact HB.out)) hb); clear HB; have HO342 := n0_; have HB := n1_; clear n0_ n1_; (try clear hb); (try clear hb2); (try clear hk); (try clear hi); (try clear ho0)))
  (try simp only [Act.put, List.setIfInBounds_toArray, List.set_cons_zero, List.set_cons_succ])
  go_cut [32] (fun v32 wc => ∃ (kq : Nat) (x32_5 : Bool), v32 = .bool x32_5 ∧ Aside0 (stowagelaw02_MatrixAny.j0 kq a0 a1 l2 t338 t339 x32_5 = some r) ∧ Aside0 (kq ≤ k) ∧ Aside0 (Kd.S (Kd.slice 5 (Kd.int .u8)) 41 wc w.heap.size (fun _ => True) v341 t339) ∧ Aside0 (Below w.heap.size w wc))
  case first =>
    have H := HC6.out
    clear HC6
    by_cases c9 : t340 = 0
    · rw [if_pos c9] at H
      have c9b0 : (t340 == 0) = true := beq_iff_eq.mpr c9
      have c9b1 : (t340 != 0) = false := bne_eq_false_iff_eq.mpr c9
      clear c9
      (first | rw [c9b0] | (simp only [i64_w, i32_w]; rw [c9b0]) | skip)
      have H' := Aside0.mk H
      clear H
      go_wp2
      go_meet
      case rel => exact ⟨_, (decide ((l2.length : Int) > 100)), (by first | rfl | (simp; done) | (simp [*]; done)), H', ⟨by first | omega | exact Nat.le_refl _⟩, ⟨by (with_reducible repeat (first | apply Kd.S_alloc | apply Kd.S_drewN | apply Kd.S_drew)); exact HO342.out⟩, ⟨by repeat (first | (with_reducible first | exact HB.out | apply below_alloc | apply pw_below_drewN | apply below_drew1) | exact HB.out)⟩⟩
    · rw [if_neg c9] at H
      have c9b0 : (t340 == 0) = false := beq_eq_false_iff_ne.mpr c9
      have c9b1 : (t340 != 0) = true := bne_iff_ne.mpr c9
      (first | rw [c9b0] | (simp only [i64_w, i32_w]; rw [c9b0]) | skip)
      have H' := Aside0.mk H
      clear H
      go_wp2
      go_meet
      case rel => exact ⟨_, (true), (by first | rfl | (simp; done) | (simp [*]; done)), H', ⟨by first | omega | exact Nat.le_refl _⟩, ⟨by (with_reducible repeat (first | apply Kd.S_alloc | apply Kd.S_drewN | apply Kd.S_drew)); exact HO342.out⟩, ⟨by repeat (first | (with_reducible first | exact HB.out | apply below_alloc | apply pw_below_drewN | apply below_drew1) | exact HB.out)⟩⟩
  case rest =>
    clear HC6
    try clear c2
    try clear p2
    try clear c3
    try clear c7
    try clear c9
    try clear c9b0
    try clear c9b1
    obtain ⟨kq, x32_5, rfl, HA, HJ5, HO_8, HB⟩ := hcut
    cases kq with
    | zero => exact absurd HA.out (by simp [stowagelaw02_MatrixAny.j0])
    | succ kj5 =>
      have H := HA.out
      clear HA
      simp only [stowagelaw02_MatrixAny.j0] at H
      by_cases c10 : x32_5 = true
      · subst c10
        have H1 : (some t338) = some r := by rw [if_pos rfl] at H; exact H
        clear H
        have H := H1
        clear H1
        obtain rfl := Option.some.inj H
        go_wp2
        go_ret
        exact ⟨by first | rfl | (simp [errW_none, errW_some] <;> rfl) | (simp [*, errW_none, errW_some] <;> rfl), by repeat (first | (with_reducible first | exact HB.out | apply below_alloc | apply pw_below_drewN | apply below_drew1) | exact HB.out)⟩
      · replace c10 := Bool.eq_false_iff.mpr c10
        subst c10
        have H1 : (if a0 < 1 then (stowagelaw02_MatrixAny.j1 kj5 a0 a1 l2 t338 t339 true) else (if a1 < 1 then (stowagelaw02_MatrixAny.j1 kj5 a0 a1 l2 t338 t339 true) else (if (wrap64 (a0 + a1)) > 16 then (stowagelaw02_MatrixAny.j1 kj5 a0 a1 l2 t338 t339 true) else (stowagelaw02_MatrixAny.j1 kj5 a0 a1 l2 t338 t339 ((t339.length : Int) != (wrap64 (a0 + a1))))))) = some r := by rw [if_neg (show ¬ (false = true) by decide)] at H; exact H
        clear H
        have H := H1
        clear H1
        have HC11 := Aside0.mk H
        clear H
        go_upto_region 5 with (fail)
        go_cut [53] (fun v53 wc => ∃ (kq : Nat) (x53_10 : Bool), v53 = .bool x53_10 ∧ Aside0 (stowagelaw02_MatrixAny.j1 kq a0 a1 l2 t338 t339 x53_10 = some r) ∧ Aside0 (kq ≤ kj5) ∧ Aside0 (Kd.S (Kd.slice 5 (Kd.int .u8)) 41 wc w.heap.size (fun _ => True) v341 t339) ∧ Aside0 (Below w.heap.size w wc))
        case first =>
          have H := HC11.out
          clear HC11
          by_cases c12 : a0 < 1
          · rw [if_pos c12] at H
            have c12b0 : decide (a0 < 1) = true := decide_eq_true c12
            clear c12
            (first | rw [c12b0] | (simp only [i64_w, i32_w]; rw [c12b0]) | skip)
            have H' := Aside0.mk H
            clear H
            go_wp2
            go_meet
            case rel => exact ⟨_, (true), (by first | rfl | (simp; done) | (simp [*]; done)), H', ⟨by have := HJ5.out; first | omega | exact Nat.le_refl _⟩, ⟨by (with_reducible repeat (first | apply Kd.S_alloc | apply Kd.S_drewN | apply Kd.S_drew)); exact HO_8.out⟩, ⟨by repeat (first | (with_reducible first | exact HB.out | apply below_alloc | apply pw_below_drewN | apply below_drew1) | exact HB.out)⟩⟩
          · rw [if_neg c12] at H
            have c12b0 : decide (a0 < 1) = false := decide_eq_false c12
            clear c12
            (first | rw [c12b0] | (simp only [i64_w, i32_w]; rw [c12b0]) | skip)
            by_cases c13 : a1 < 1
            · rw [if_pos c13] at H
              have c13b0 : decide (a1 < 1) = true := decide_eq_true c13
              clear c13
              have H' := Aside0.mk H
              clear H
              go_wp2
              go_meet
              case rel => exact ⟨_, (true), (by first | rfl | (simp; done) | (simp [*]; done)), H', ⟨by have := HJ5.out; first | omega | exact Nat.le_refl _⟩, ⟨by (with_reducible repeat (first | apply Kd.S_alloc | apply Kd.S_drewN | apply Kd.S_drew)); exact HO_8.out⟩, ⟨by repeat (first | (with_reducible first | exact HB.out | apply below_alloc | apply pw_below_drewN | apply below_drew1) | exact HB.out)⟩⟩
            · rw [if_neg c13] at H
              have c13b0 : decide (a1 < 1) = false := decide_eq_false c13
              clear c13
              by_cases c14 : (wrap64 (a0 + a1)) > 16
              · rw [if_pos c14] at H
                have c14b0 : decide (16 < (wrap64 (a0 + a1))) = true := decide_eq_true c14
                clear c14
                have H' := Aside0.mk H
                clear H
                go_wp2
                go_meet
                case rel => exact ⟨_, (true), (by first | rfl | (simp; done) | (simp [*]; done)), H', ⟨by have := HJ5.out; first | omega | exact Nat.le_refl _⟩, ⟨by (with_reducible repeat (first | apply Kd.S_alloc | apply Kd.S_drewN | apply Kd.S_drew)); exact HO_8.out⟩, ⟨by repeat (first | (with_reducible first | exact HB.out | apply below_alloc | apply pw_below_drewN | apply below_drew1) | exact HB.out)⟩⟩
              · rw [if_neg c14] at H
                have c14b0 : decide (16 < (wrap64 (a0 + a1))) = false := decide_eq_false c14
                clear c14
                have H' := Aside0.mk H
                clear H
                obtain ⟨Ao15, co15, eo15⟩ := Kd.S_slice HO_8.out
                subst eo15
                go_wp2
                go_meet
                case rel => exact ⟨_, (((t339.length : Int) != (wrap64 (a0 + a1)))), (by first | rfl | (simp; done) | (simp [*]; done)), H', ⟨by have := HJ5.out; first | omega | exact Nat.le_refl _⟩, ⟨by (with_reducible repeat (first | apply Kd.S_alloc | apply Kd.S_drewN | apply Kd.S_drew)); exact HO_8.out⟩, ⟨by repeat (first | (with_reducible first | exact HB.out | apply below_alloc | apply pw_below_drewN | apply below_drew1) | exact HB.out)⟩⟩
        case rest =>
          clear HC11
          try clear c1
          try clear c2
          try clear p2
          try clear c3
          try clear p6
          try clear c7
          try clear c9
          try clear c9b0
          try clear c9b1
          try clear c10
          try clear c12
          try clear c12b0
          try clear c13
          try clear c13b0
          try clear c14
          try clear c14b0
          try clear p2
          obtain ⟨kq, x53_10, rfl, HA, HJ10, HO_8, HB⟩ := hcut
          cases kq with
          | zero => exact absurd HA.out (by simp [stowagelaw02_MatrixAny.j1])
          | succ kj10 =>
            have H := HA.out
            clear HA
            simp only [stowagelaw02_MatrixAny.j1] at H
            by_cases c16 : x53_10 = true
            · subst c16
              have H1 : (some false) = some r := by rw [if_pos rfl] at H; exact H
              clear H
              have H := H1
              clear H1
              obtain rfl := Option.some.inj H
              go_wp2
              go_ret
              exact ⟨by first | rfl | (simp [errW_none, errW_some] <;> rfl) | (simp [*, errW_none, errW_some] <;> rfl), by repeat (first | (with_reducible first | exact HB.out | apply below_alloc | apply pw_below_drewN | apply below_drew1) | exact HB.out)⟩
            · replace c16 := Bool.eq_false_iff.mpr c16
              subst c16
              have H1 : (stowagelaw02_MatrixAny.l0 kj10 a0 a1 l2 t338 t339 ([] : List Int) 0) = some r := by rw [if_neg (show ¬ (false = true) by decide)] at H; exact H
              clear H
              have H := H1
              clear H1
              have H' := Aside0.mk H
              clear H
              go_wp2
              go_loopg [10, 12] kj10 (fun kq v10 v12 w' => ∃ (x10_3 : List Int) (x12_3 : Int), v12 = .int .i64 x12_3 ∧ Aside0 (stowagelaw02_MatrixAny.l0 kq a0 a1 l2 t338 t339 x10_3 x12_3 = some r) ∧ Aside0 (kq ≤ kj10) ∧ Aside0 (Kd.S (Kd.slice 5 (Kd.int .u8)) 41 w' w.heap.size (fun _ => True) v341 t339) ∧ Aside0 (Kd.R (Kd.int .i64) 3 w' w.heap.size (fun _ => True) v10 x10_3) ∧ Aside0 (Below w.heap.size w w'))
              case atStart => exact ⟨(([] : List Int)), (0), (by first | rfl | (simp; done) | (simp [*]; done)), H', ⟨Nat.le_refl _⟩, ⟨by (with_reducible repeat (first | apply Kd.S_alloc | apply Kd.S_drewN | apply Kd.S_drew)); exact HO_8.out⟩, ⟨by first | exact Kd.R_nil _ _ _ _ _ | exact Kd.N_nil _ _ _ _ _ | exact Kd.V_nil _ _ _ _ _ | exact Kd.Q_nil _ _ _ _ _ | exact Kd.S_nil _ _ _ _ _⟩, ⟨by repeat (first | (with_reducible first | exact HB.out | apply below_alloc | apply pw_below_drewN | apply below_drew1) | exact HB.out)⟩⟩
              case round =>
                clear H'
                try clear c1
                try clear c2
                try clear p2
                try clear c3
                try clear p6
                try clear c7
                try clear c9
                try clear c9b0
                try clear c9b1
                try clear c10
                try clear c12
                try clear c12b0
                try clear c13
                try clear c13b0
                try clear c14
                try clear c14b0
                try clear c16
                try clear p2
                try clear p6
                obtain ⟨x10_3, x12_3, rfl, HA, HK3, HO_8, HO_10, HB⟩ := hrel
                cases gk with
                | zero => exact absurd HA.out (by simp [stowagelaw02_MatrixAny.l0])
                | succ k3 =>
                  have H := HA.out
                  clear HA
                  simp only [stowagelaw02_MatrixAny.l0] at H
                  by_cases c17 : x12_3 < (wrap64 (a0 + a1))
                  · rw [if_pos c17] at H
                    have c17b0 : decide (x12_3 < (wrap64 (a0 + a1))) = true := decide_eq_true c17
                    clear c17
                    by_cases c18 : x10_3.length < 17592186044416
                    · rw [if_pos c18] at H
                      have LMc18 := Aside0.mk c18
                      clear c18
                      obtain ⟨y343, hy343⟩ : ∃ y_ : List Int, y_ = (x10_3 ++ [x12_3]) := ⟨_, rfl⟩
                      replace H : (stowagelaw02_MatrixAny.l0 k3 a0 a1 l2 t338 t339 y343 (wrap64 (x12_3 + 1))) = some r := by first | (rw [hy343]; with_reducible exact H) | (have H2_ := (Option.bind_some _ _).symm.trans H; rw [hy343]; with_reducible exact H2_) | (have H2_ := (Option.bind_some _ _).symm.trans H; with_reducible exact H2_) | with_reducible exact H | (rw [hy343]; exact H) | exact H
                      have Ny343 := Aside0.mk hy343
                      clear hy343
                      have H' := Aside0.mk H
                      clear H
                      go_wp2_with (first | ((with_reducible refine gate_builtin (b := .append) (xs := #[.tmp 61, .tmp 63]) rfl ?_); (try (refine gate_guard (by rfl) ?_; dsimp only)); at_builtin; refine Kd.R_append (Kd.int .i64) (w0 := w) w.heap.size rfl (.tmp 61) (.tmp 63) 23 3 (.int .i64 0) 8 rfl Try.underlying23 info3 rfl (by decide) (by omega) u10 x10_3 x12_3 [.int .i64 x12_3] (fun _ => True) (fun _ => False) rfl rfl ?aP (fun _ hk => hk.elim) ?aF ?aO ?aB ?aS ?aL ?_; (case aP => exact rfl); (case aB => exact (by repeat (first | (with_reducible first | exact HB.out | apply below_alloc | apply pw_below_drewN | apply below_drew1) | exact HB.out))); (case aF => exact (fun _ _ => trivial)); (case aO => exact (by (with_reducible repeat (first | apply Kd.R_alloc | apply Kd.R_drewN | apply Kd.R_drew)); exact HO_10.out)); (case aS => exact (below_size (by repeat (first | (with_reducible first | exact HB.out | apply below_alloc | apply pw_below_drewN | apply below_drew1) | exact HB.out)))); (case aL => have := LMc18.out; omega); intro v344 w19 ho hb hg hat; rw [← Ny343.out] at ho; have n0_ := Aside0.mk (Kd.S_over' (by (with_reducible repeat (first | apply Kd.S_alloc | apply Kd.S_drewN | apply Kd.S_drew)); exact HO_8.out) (Kd.R_typed (by (with_reducible repeat (first | apply Kd.R_alloc | apply Kd.R_drewN | apply Kd.R_drew)); exact HO_10.out)) (by decide) hg); have n1_ := Aside0.mk (hb); have n2_ := Aside0.mk (ho); clear HO_8; clear HB; clear HO_10; have HO_8 := n0_; have HB := n1_; have HO345 := n2_; clear n0_ n1_ n2_; clear ho hb hg hat))
                      go_roundg k3
                      case measure => have := HJ5.out; have := HJ10.out; have := HK3.out; omega
                      case rel => exact ⟨(y343), (wrap64 (x12_3 + 1)), (by first | rfl | (simp; done) | (simp [*]; done)), H', ⟨by have := HJ5.out; have := HJ10.out; have := HK3.out; omega⟩, ⟨by (with_reducible repeat (first | apply Kd.S_alloc | apply Kd.S_drewN | apply Kd.S_drew)); exact HO_8.out⟩, ⟨by (with_reducible repeat (first | apply Kd.R_alloc | apply Kd.R_drewN | apply Kd.R_drew)); exact HO345.out⟩, ⟨by repeat (first | (with_reducible first | exact HB.out | apply below_alloc | apply pw_below_drewN | apply below_drew1) | exact HB.out)⟩⟩
                    · rw [if_neg c18] at H
                      exact absurd H (by simp)
                  · rw [if_neg c17] at H
                    have c17b0 : decide (x12_3 < (wrap64 (a0 + a1))) = false := decide_eq_false c17
                    clear c17
                    have H' := Aside0.mk H
                    clear H
                    go_wp2
                    go_loopg [10, 11, 13] k3 (fun kq v10 v11 v13 w' => ∃ (x10_4 : List Int) (x11_4 : List Int) (x13_4 : Int), v13 = .int .i64 x13_4 ∧ Aside0 (stowagelaw02_MatrixAny.l1 kq a0 l2 t338 t339 x10_4 x11_4 x13_4 = some r) ∧ Aside0 (kq ≤ k3) ∧ Aside0 (Kd.S (Kd.slice 5 (Kd.int .u8)) 41 w' w.heap.size (fun _ => True) v341 t339) ∧ Aside0 (Kd.R (Kd.int .i64) 3 w' w.heap.size (fun k_ => some k_ ≠ (v11 : Value).ownBlock) v10 x10_4) ∧ Aside0 (Kd.R (Kd.int .i64) 3 w' w.heap.size (fun k_ => some k_ ≠ (v10 : Value).ownBlock) v11 x11_4) ∧ Aside0 (Below w.heap.size w w'))
                    case atStart => exact ⟨(x10_3), (([] : List Int)), (0), (by first | rfl | (simp; done) | (simp [*]; done)), H', ⟨Nat.le_refl _⟩, ⟨by (with_reducible repeat (first | apply Kd.S_alloc | apply Kd.S_drewN | apply Kd.S_drew)); exact HO_8.out⟩, ⟨by (with_reducible repeat (first | apply Kd.R_alloc | apply Kd.R_drewN | apply Kd.R_drew)); exact Kd.R_mono HO_10.out (fun _ hk => (by simp [Value.ownBlock]))⟩, ⟨by first | exact Kd.R_nil _ _ _ _ _ | exact Kd.N_nil _ _ _ _ _ | exact Kd.V_nil _ _ _ _ _ | exact Kd.Q_nil _ _ _ _ _ | exact Kd.S_nil _ _ _ _ _⟩, ⟨by repeat (first | (with_reducible first | exact HB.out | apply below_alloc | apply pw_below_drewN | apply below_drew1) | exact HB.out)⟩⟩
                    case round =>
                      clear H'
                      try clear c1
                      try clear c2
                      try clear p2
                      try clear c3
                      try clear p6
                      try clear c7
                      try clear c9
                      try clear c9b0
                      try clear c9b1
                      try clear c10
                      try clear c12
                      try clear c12b0
                      try clear c13
                      try clear c13b0
                      try clear c14
                      try clear c14b0
                      try clear c16
                      try clear c17
                      try clear c17b0
                      try clear c18
                      try clear p2
                      try clear p6
                      obtain ⟨x10_4, x11_4, x13_4, rfl, HA, HK4, HO_8, HO_10, HO_11, HB⟩ := hrel
                      cases gk with
                      | zero => exact absurd HA.out (by simp [stowagelaw02_MatrixAny.l1])
                      | succ k4 =>
                        have H := HA.out
                        clear HA
                        simp only [stowagelaw02_MatrixAny.l1] at H
                        by_cases c20 : x13_4 < a0
                        · rw [if_pos c20] at H
                          have c20b0 : decide (x13_4 < a0) = true := decide_eq_true c20
                          clear c20
                          by_cases c21 : x13_4 < (l2.length : Int)
                          · rw [if_pos c21] at H
                            have c21b0 : decide (x13_4 < (l2.length : Int)) = true := decide_eq_true c21
                            clear c21
                            by_cases c22 : 0 ≤ x13_4
                            · rw [if_pos c22] at H
                              have c22b0 : decide (0 ≤ x13_4) = true := decide_eq_true c22
                              clear c22
                              replace H := Option.bind_eq_some_iff.mp H
                              obtain ⟨t347, A230, H⟩ := H
                              replace H : (if 0 ≤ t347 then (if t347 < (x10_4.length : Int) then (if x11_4.length < 17592186044416 then ((some (([] : List Int) : List Int)).bind fun y352 => (if t347 ≤ (x10_4.length : Int) then ((some (x10_4.take (t347 : Int).toNat : List Int)).bind fun y355 => (if y352.length + y355.length < 17592186044416 then ((some (y352 ++ y355 : List Int)).bind fun y359 => (if 0 ≤ (wrap64 (t347 + 1)) then (if (wrap64 (t347 + 1)) ≤ (x10_4.length : Int) then ((some (x10_4.drop ((wrap64 (t347 + 1)) : Int).toNat : List Int)).bind fun y362 => (if y359.length + y362.length < 17592186044416 then (stowagelaw02_MatrixAny.l1 k4 a0 l2 t338 t339 (y359 ++ y362) (x11_4 ++ [rd x10_4 t347]) (wrap64 (x13_4 + 1))) else (none))) else (none)) else (none))) else (none))) else (none))) else (none)) else (none)) else (none)) = some r := H
                              have A23 := Aside0.mk A230
                              clear A230
                              by_cases c24 : 0 ≤ t347
                              · rw [if_pos c24] at H
                                have c24b0 : decide (0 ≤ t347) = true := decide_eq_true c24
                                clear c24
                                by_cases c25 : t347 < (x10_4.length : Int)
                                · rw [if_pos c25] at H
                                  have c25b0 : decide (t347 < (x10_4.length : Int)) = true := decide_eq_true c25
                                  clear c25
                                  by_cases c26 : x11_4.length < 17592186044416
                                  · rw [if_pos c26] at H
                                    have LMc26 := Aside0.mk c26
                                    clear c26
                                    obtain ⟨y349, hy349⟩ : ∃ y_ : List Int, y_ = (x11_4 ++ [rd x10_4 t347]) := ⟨_, rfl⟩
                                    replace H : ((some (([] : List Int) : List Int)).bind fun y352 => (if t347 ≤ (x10_4.length : Int) then ((some (x10_4.take (t347 : Int).toNat : List Int)).bind fun y355 => (if y352.length + y355.length < 17592186044416 then ((some (y352 ++ y355 : List Int)).bind fun y359 => (if 0 ≤ (wrap64 (t347 + 1)) then (if (wrap64 (t347 + 1)) ≤ (x10_4.length : Int) then ((some (x10_4.drop ((wrap64 (t347 + 1)) : Int).toNat : List Int)).bind fun y362 => (if y359.length + y362.length < 17592186044416 then (stowagelaw02_MatrixAny.l1 k4 a0 l2 t338 t339 (y359 ++ y362) y349 (wrap64 (x13_4 + 1))) else (none))) else (none)) else (none))) else (none))) else (none))) = some r := by first | (rw [hy349]; with_reducible exact H) | (have H2_ := (Option.bind_some _ _).symm.trans H; rw [hy349]; with_reducible exact H2_) | (have H2_ := (Option.bind_some _ _).symm.trans H; with_reducible exact H2_) | with_reducible exact H | (rw [hy349]; exact H) | exact H
                                    have Ny349 := Aside0.mk hy349
                                    clear hy349
                                    obtain ⟨y352, hy352⟩ : ∃ y_ : List Int, y_ = (([] : List Int)) := ⟨_, rfl⟩
                                    replace H : (if t347 ≤ (x10_4.length : Int) then ((some (x10_4.take (t347 : Int).toNat : List Int)).bind fun y355 => (if y352.length + y355.length < 17592186044416 then ((some (y352 ++ y355 : List Int)).bind fun y359 => (if 0 ≤ (wrap64 (t347 + 1)) then (if (wrap64 (t347 + 1)) ≤ (x10_4.length : Int) then ((some (x10_4.drop ((wrap64 (t347 + 1)) : Int).toNat : List Int)).bind fun y362 => (if y359.length + y362.length < 17592186044416 then (stowagelaw02_MatrixAny.l1 k4 a0 l2 t338 t339 (y359 ++ y362) y349 (wrap64 (x13_4 + 1))) else (none))) else (none)) else (none))) else (none))) else (none)) = some r := by first | (rw [hy352]; with_reducible exact H) | (have H2_ := (Option.bind_some _ _).symm.trans H; rw [hy352]; with_reducible exact H2_) | (have H2_ := (Option.bind_some _ _).symm.trans H; with_reducible exact H2_) | with_reducible exact H | (rw [hy352]; exact H) | exact H
                                    have Ny352 := Aside0.mk hy352
                                    clear hy352
                                    have c27b0 := eq_true (of_decide_eq_true (by first | (with_reducible assumption) | assumption) : 0 ≤ t347)
                                    by_cases c28 : t347 ≤ (x10_4.length : Int)
                                    · rw [if_pos c28] at H
                                      have c28b0 := eq_true c28
                                      have c28b1 : decide (t347 ≤ (x10_4.length : Int)) = true := decide_eq_true c28
                                      clear c28
                                      obtain ⟨y355, hy355⟩ : ∃ y_ : List Int, y_ = (x10_4.take (t347 : Int).toNat) := ⟨_, rfl⟩
                                      replace H : (if y352.length + y355.length < 17592186044416 then ((some (y352 ++ y355 : List Int)).bind fun y359 => (if 0 ≤ (wrap64 (t347 + 1)) then (if (wrap64 (t347 + 1)) ≤ (x10_4.length : Int) then ((some (x10_4.drop ((wrap64 (t347 + 1)) : Int).toNat : List Int)).bind fun y362 => (if y359.length + y362.length < 17592186044416 then (stowagelaw02_MatrixAny.l1 k4 a0 l2 t338 t339 (y359 ++ y362) y349 (wrap64 (x13_4 + 1))) else (none))) else (none)) else (none))) else (none)) = some r := by first | (rw [hy355]; with_reducible exact H) | (have H2_ := (Option.bind_some _ _).symm.trans H; rw [hy355]; with_reducible exact H2_) | (have H2_ := (Option.bind_some _ _).symm.trans H; with_reducible exact H2_) | with_reducible exact H | (rw [hy355]; exact H) | exact H
                                      have Ny355 := Aside0.mk hy355
                                      clear hy355
                                      by_cases c29 : y352.length + y355.length < 17592186044416
                                      · rw [if_pos c29] at H
                                        have LMc29 := Aside0.mk c29
                                        clear c29
                                        obtain ⟨y359, hy359⟩ : ∃ y_ : List Int, y_ = (y352 ++ y355) := ⟨_, rfl⟩
                                        replace H : (if 0 ≤ (wrap64 (t347 + 1)) then (if (wrap64 (t347 + 1)) ≤ (x10_4.length : Int) then ((some (x10_4.drop ((wrap64 (t347 + 1)) : Int).toNat : List Int)).bind fun y362 => (if y359.length + y362.length < 17592186044416 then (stowagelaw02_MatrixAny.l1 k4 a0 l2 t338 t339 (y359 ++ y362) y349 (wrap64 (x13_4 + 1))) else (none))) else (none)) else (none)) = some r := by first | (rw [hy359]; with_reducible exact H) | (have H2_ := (Option.bind_some _ _).symm.trans H; rw [hy359]; with_reducible exact H2_) | (have H2_ := (Option.bind_some _ _).symm.trans H; with_reducible exact H2_) | with_reducible exact H | (rw [hy359]; exact H) | exact H
                                        have Ny359 := Aside0.mk hy359
                                        clear hy359
                                        obtain ⟨ji30, hji30⟩ : ∃ j_ : Int, (wrap64 (t347 + 1)) = j_ := ⟨_, rfl⟩
                                        replace H : (if 0 ≤ (ji30) then (if (ji30) ≤ (x10_4.length : Int) then ((some (x10_4.drop ((ji30) : Int).toNat : List Int)).bind fun y362 => (if y359.length + y362.length < 17592186044416 then (stowagelaw02_MatrixAny.l1 k4 a0 l2 t338 t339 (y359 ++ y362) y349 (wrap64 (x13_4 + 1))) else (none))) else (none)) else (none)) = some r := by first | (rw [hji30] at H; exact H) | (simp only [hji30] at H ⊢; exact H)
                                        (try rw [hji30] at A23)
                                        have hji30w : (IntKind.i64.wrap (t347 + 1)) = ji30 := (i64_w _).trans hji30
                                        by_cases c31 : 0 ≤ (ji30)
                                        · rw [if_pos c31] at H
                                          have c31b0 := eq_true c31
                                          have c31b1 : decide (0 ≤ (ji30)) = true := decide_eq_true c31
                                          clear c31
                                          by_cases c32 : (ji30) ≤ (x10_4.length : Int)
                                          · rw [if_pos c32] at H
                                            have c32b0 := eq_true c32
                                            have c32b1 : decide ((ji30) ≤ (x10_4.length : Int)) = true := decide_eq_true c32
                                            clear c32
                                            obtain ⟨y362, hy362⟩ : ∃ y_ : List Int, y_ = (x10_4.drop ((ji30) : Int).toNat) := ⟨_, rfl⟩
                                            replace H : (if y359.length + y362.length < 17592186044416 then (stowagelaw02_MatrixAny.l1 k4 a0 l2 t338 t339 (y359 ++ y362) y349 (wrap64 (x13_4 + 1))) else (none)) = some r := by first | (rw [hy362]; with_reducible exact H) | (have H2_ := (Option.bind_some _ _).symm.trans H; rw [hy362]; with_reducible exact H2_) | (have H2_ := (Option.bind_some _ _).symm.trans H; with_reducible exact H2_) | with_reducible exact H | (rw [hy362]; exact H) | exact H
                                            have Ny362 := Aside0.mk hy362
                                            clear hy362
                                            by_cases c33 : y359.length + y362.length < 17592186044416
                                            · rw [if_pos c33] at H
                                              have LMc33 := Aside0.mk c33
                                              clear c33
                                              obtain ⟨y366, hy366⟩ : ∃ y_ : List Int, y_ = (y359 ++ y362) := ⟨_, rfl⟩
                                              replace H : (stowagelaw02_MatrixAny.l1 k4 a0 l2 t338 t339 y366 y349 (wrap64 (x13_4 + 1))) = some r := by first | (rw [hy366]; with_reducible exact H) | (have H2_ := (Option.bind_some _ _).symm.trans H; rw [hy366]; with_reducible exact H2_) | (have H2_ := (Option.bind_some _ _).symm.trans H; with_reducible exact H2_) | with_reducible exact H | (rw [hy366]; exact H) | exact H
                                              have Ny366 := Aside0.mk hy366
                                              clear hy366
                                              have H' := Aside0.mk H
                                              clear H
                                              have p346 : 0 ≤ (x13_4 : Int) := of_decide_eq_true (by first | (with_reducible assumption) | assumption)
                                              have q346 : x13_4 < (l2.length : Int) := of_decide_eq_true (by first | (with_reducible assumption) | assumption)
                                              obtain ⟨ad346, e346, hx346_0⟩ := Kd.at_int HR2.out x13_4 p346 q346
                                              cases e346
                                              replace hx346_0 := (HB.out.cell (World.block_lt_of_cell? w _ hx346_0)).trans hx346_0
                                              replace p346 := eq_true p346
                                              replace q346 := eq_true q346
                                              obtain ⟨Ao34, co34, eo34⟩ := Kd.R_slice HO_10.out
                                              subst eo34
                                              try go_wp2_with (first | ((with_reducible refine gate_callee (f := 37) rfl ?_); refine goesL_ (some 80) rfl rfl Try.func37 (by kernel_rfl) rfl #[.int .i64 (rd l2 x13_4), .int .i64 (x10_4.length : Int)] rfl (by (try simp only [List.map_toArray, List.map_cons, List.map_nil]); first | done | rfl | (simp only [List.length_drop, List.length_take]; rfl)) ?_; (with_reducible refine (stowagekit_Pick.calls (rd l2 x13_4) (x10_4.length : Int) t347 _ A23.out).mono ?_); rintro e w' ⟨rfl, ⟨nd, rfl⟩⟩; refine ⟨_, rfl, ?_⟩; have p348 : 0 ≤ (t347 : Int) := of_decide_eq_true (by first | (with_reducible assumption) | assumption); have q348 : t347 < (x10_4.length : Int) := of_decide_eq_true (by first | (with_reducible assumption) | assumption); obtain ⟨ad348, e348, hx348_0⟩ := Kd.at_int (Kd.R_reads' HO_10.out).2.2 t347 p348 q348; cases e348; replace p348 := eq_true p348; replace q348 := eq_true q348) | ((with_reducible refine gate_builtin (b := .append) (xs := #[.tmp 81, .tmp 86]) rfl ?_); (try (refine gate_guard (by rfl) ?_; dsimp only)); at_builtin; refine Kd.R_append (Kd.int .i64) (w0 := w) w.heap.size rfl (.tmp 81) (.tmp 86) 23 3 (.int .i64 0) 8 rfl Try.underlying23 info3 rfl (by decide) (by omega) u11 x11_4 (rd x10_4 t347) [.int .i64 (rd x10_4 t347)] (fun k_ => some k_ ≠ (.slice (some ad348) x10_4.length co34 : Value).ownBlock) (fun _ => False) rfl rfl ?aP (fun _ hk => hk.elim) ?aF ?aO ?aB ?aS ?aL ?_; (case aP => exact rfl); (case aB => exact (by repeat (first | (with_reducible first | exact HB.out | apply below_alloc | apply pw_below_drewN | apply below_drew1) | exact HB.out))); (case aF => exact (fun k_ hk => Kd.fresh' (Kd.R_lt (by (with_reducible repeat (first | apply Kd.R_alloc | apply Kd.R_drewN | apply Kd.R_drew)); exact HO_10.out)) k_ hk)); (case aO => exact (by (with_reducible repeat (first | apply Kd.R_alloc | apply Kd.R_drewN | apply Kd.R_drew)); exact HO_11.out)); (case aS => exact (below_size (by repeat (first | (with_reducible first | exact HB.out | apply below_alloc | apply pw_below_drewN | apply below_drew1) | exact HB.out)))); (case aL => have := LMc26.out; omega); intro v350 w35 ho hb hg hat; rw [← Ny349.out] at ho; have n0_ := Aside0.mk (Kd.S_over' (by (with_reducible repeat (first | apply Kd.S_alloc | apply Kd.S_drewN | apply Kd.S_drew)); exact HO_8.out) (Kd.R_typed (by (with_reducible repeat (first | apply Kd.R_alloc | apply Kd.R_drewN | apply Kd.R_drew)); exact HO_11.out)) (by decide) hg); have n1_ := Aside0.mk (Kd.R_after (ok := (fun _ => True)) (by (with_reducible repeat (first | apply Kd.R_alloc | apply Kd.R_drewN | apply Kd.R_drew)); exact Kd.R_mono HO_10.out (fun _ hk => ⟨trivial, hk⟩)) hg hat); have n2_ := Aside0.mk (hb); have n3_ := Aside0.mk (ho); clear HO_8; clear HO_10; clear HB; clear HO_11; have HO_8 := n0_; have HO_10 := n1_; have HB := n2_; have HO351 := n3_; clear n0_ n1_ n2_ n3_; clear ho hb hg hat))
                                              have n0_ := Aside0.mk (Kd.S_drew HO_8.out)
                                              have n1_ := Aside0.mk (Kd.R_drew HO_10.out)
                                              have n2_ := Aside0.mk (Kd.R_drew HO351.out)
                                              have n3_ := Aside0.mk (below_drew1 HB.out)
                                              clear HO_8
                                              clear HO_10
                                              clear HO351
                                              clear HB
                                              have HO_8 := n0_
                                              have HO_10 := n1_
                                              have HO351 := n2_
                                              have HB := n3_
                                              clear n0_ n1_ n2_ n3_
                                              have q37 : (t347 : Int) ≤ ((x10_4.length : Int) : Int) := of_decide_eq_true (by first | (with_reducible assumption) | assumption)
                                              obtain ⟨i037, hi037, _, hsz37, _⟩ := info_parts info3
                                              have hroom37 : x10_4.length ≤ co34 := (Kd.R_reads' HO_10.out).2.1
                                              have hC37 : Kd.C (Kd.int .i64) _ (some ad348) x10_4.length x10_4 := (Kd.R_reads' HO_10.out).2.2
                                              have hcut37 := cut_to (P := Try.prog) 23 3 .i64 Try.underlying23 hi037 (some ad348) x10_4.length co34 t347 (of_decide_eq_true (by first | (with_reducible assumption) | assumption)) q37 hroom37
                                              have hr37 := Kd.C_take (m := (t347 : Int).toNat) hC37 (by omega)
                                              have hy37 : y355.length = (t347 : Int).toNat := (by rw [Ny355.out, List.length_take]; omega)
                                              rw [← Ny355.out] at hr37
                                              rw [← hy37] at hcut37
                                              have HR358 := Aside0.mk hr37
                                              have HC358 := Aside0.mk (show y355.length ≤ co34 from by omega)
                                              clear hr37 hC37 hroom37 hi037 hsz37
                                              have KY37 := Aside0.mk hy37
                                              clear hy37
                                              have KL37 := Aside0.mk (show (t347 : Int).toNat ≤ x10_4.length from by omega)
                                              replace q37 := eq_true q37
                                              have q38 : ((ji30) : Int) ≤ ((x10_4.length : Int) : Int) := of_decide_eq_true (by first | (with_reducible assumption) | assumption)
                                              obtain ⟨i038, hi038, _, hsz38, _⟩ := info_parts info3
                                              have hroom38 : x10_4.length ≤ co34 := (Kd.R_reads' HO_10.out).2.1
                                              have hC38 : Kd.C (Kd.int .i64) _ (some ad348) x10_4.length x10_4 := (Kd.R_reads' HO_10.out).2.2
                                              have q038 : (0 : Int) ≤ ((ji30) : Int) := of_decide_eq_true (by first | (with_reducible assumption) | assumption)
                                              have hcut38 := cut_from (P := Try.prog) 23 3 .i64 Try.underlying23 hi038 1 hsz38 (some ad348) x10_4.length co34 (ji30) q038 q38
                                              have hr38 := Kd.C_drop (m := ((ji30) : Int).toNat) (c := co34) hC38 (by omega) hroom38
                                              obtain ⟨A38, hA38⟩ : ∃ A1, A1 = (if co34 = ((ji30) : Int).toNat then (some ad348) else ((some ad348) : Option Addr).map (·.add (((ji30) : Int).toNat * 1))) := ⟨_, rfl⟩
                                              obtain ⟨c38, hc38⟩ : ∃ c1, c1 = co34 - ((ji30) : Int).toNat := ⟨_, rfl⟩
                                              have hy38 : y362.length = x10_4.length - ((ji30) : Int).toNat := (by rw [Ny362.out, List.length_drop] <;> omega)
                                              rw [show (x10_4).drop ((ji30) : Int).toNat = y362 from Ny362.out.symm] at hr38
                                              replace hr38 : Kd.C (Kd.int .i64) _ A38 y362.length y362 := (by rw [hA38]; exact hr38)
                                              rw [← hy38, ← hA38, ← hc38] at hcut38
                                              have HR365 := Aside0.mk hr38
                                              have HC365 := Aside0.mk (show y362.length ≤ c38 from by rw [hy38, hc38]; exact Nat.sub_le_sub_right hroom38 _)
                                              clear hr38 hC38 hroom38 hi038 hsz38 hc38
                                              have KY38 := Aside0.mk hy38
                                              have KA38 := Aside0.mk hA38
                                              clear hy38 hA38
                                              have KL38 := Aside0.mk (show ((ji30) : Int).toNat ≤ x10_4.length from by omega)
                                              replace q38 := eq_true q38
                                              refine start_ (n := 11) (S := fun w' => True) (ds := []) #[false, false, false, false, false, false, false, false, false, false, false] (by kernel_rfl) rfl rfl trivial (fun hHeld => ?_); refine with_tabW stowagelaw02_MatrixAny.tab19 stowagelaw02_MatrixAny.bits19 (fun HT_ HW_ => ?_)
                                              generalize w35.drew = w36 at HO_8 HO_10 HO351 HB HR358 HR365 hHeld ⊢
                                              refine pure_ (i := 1) (N := some 89) (v := ?_) (a' := ?_) #[false, true, false, false, false, false, false, false, false, false, false] rfl rfl (any_of HT_.out (by kernel_rfl)) (fun _ _ _ h => h) (Or.inl ⟨by rfl, ?_⟩) ?_ ?_
                                              rotate_left
                                              · intro w'
                                                go_simp
                                                with_reducible rfl
                                              rotate_left
                                              · simp only [Act.put, List.setIfInBounds_toArray, List.set_cons_zero, List.set_cons_succ, i64_w, i32_w]
                                                rfl
                                              refine pure_ (i := 2) (N := some 90) (v := ?_) (a' := ?_) #[false, true, true, false, false, false, false, false, false, false, false] rfl rfl (any_of HT_.out (by kernel_rfl)) (fun _ _ _ h => h) (Or.inl ⟨by rfl, ?_⟩) ?_ ?_
                                              rotate_left
                                              · intro w'
                                                go_simp
                                                with_reducible rfl
                                              rotate_left
                                              · simp only [Act.put, List.setIfInBounds_toArray, List.set_cons_zero, List.set_cons_succ, i64_w, i32_w]
                                                rfl
                                              refine pure_ (i := 3) (N := some 91) (v := ?_) (a' := ?_) #[false, true, true, true, false, false, false, false, false, false, false] rfl rfl (any_of HT_.out (by kernel_rfl)) (fun _ _ _ h => h) (Or.inl ⟨by rfl, ?_⟩) ?_ ?_
                                              rotate_left
                                              · intro w'
                                                go_simp
                                                with_reducible rfl
                                              rotate_left
                                              · simp only [Act.put, List.setIfInBounds_toArray, List.set_cons_zero, List.set_cons_succ, i64_w, i32_w]
                                                rfl
                                              refine pure_ (i := 5) (N := some 93) (v := ?_) (a' := ?_) #[false, true, true, true, false, true, false, false, false, false, false] rfl rfl (any_of HT_.out (by kernel_rfl)) (fun _ _ _ h => h) (Or.inl ⟨by rfl, ?_⟩) ?_ ?_
                                              rotate_left
                                              · intro w'
                                                go_simp
                                                with_reducible rfl
                                              rotate_left
                                              · simp only [Act.put, List.setIfInBounds_toArray, List.set_cons_zero, List.set_cons_succ, i64_w, i32_w]
                                                rfl
                                              refine pure_ (i := 6) (N := some 94) (v := ?_) (a' := ?_) #[false, true, true, true, false, true, true, false, false, false, false] rfl rfl (any_of HT_.out (by kernel_rfl)) (fun _ _ _ h => h) (Or.inl ⟨by rfl, ?_⟩) ?_ ?_
                                              rotate_left
                                              · intro w'
                                                go_simp
                                                with_reducible rfl
                                              rotate_left
                                              · simp only [Act.put, List.setIfInBounds_toArray, List.set_cons_zero, List.set_cons_succ, i64_w, i32_w]
                                                rfl
                                              refine pure_ (i := 7) (N := some 95) (v := ?_) (a' := ?_) #[false, true, true, true, false, true, true, true, false, false, false] rfl rfl (any_of HT_.out (by kernel_rfl)) (fun _ _ _ h => h) (Or.inl ⟨by rfl, ?_⟩) ?_ ?_
                                              rotate_left
                                              · intro w'
                                                go_simp
                                                with_reducible rfl
                                              rotate_left
                                              · simp only [Act.put, List.setIfInBounds_toArray, List.set_cons_zero, List.set_cons_succ, i64_w, i32_w]
                                                rfl
                                              refine pure_ (i := 8) (N := some 96) (v := ?_) (a' := ?_) #[false, true, true, true, false, true, true, true, true, false, false] rfl rfl (any_of HT_.out (by kernel_rfl)) (fun _ _ _ h => h) (Or.inl ⟨by rfl, ?_⟩) ?_ ?_
                                              rotate_left
                                              · intro w'
                                                go_simp
                                                with_reducible rfl
                                              rotate_left
                                              · simp only [Act.put, List.setIfInBounds_toArray, List.set_cons_zero, List.set_cons_succ, i64_w, i32_w]
                                                rfl
                                              refine one_ (i := 0) (N := some 88) #[true, true, true, true, false, true, true, true, true, false, false] rfl rfl (one_of HT_.out (by kernel_rfl)) (by decide) (fun K hK => ?_)
                                              refine Kd.R_lit_step (Kd.int .i64) _ 3 ?hg (N := 88) ?hd (xs := ([] : List Int)) (inner := []) (ok := fun _ => True) (okp := fun _ => True) ?hr ?hp (fun _ hk => hk) trivial (Below.refl _ _) (Nat.le_refl _) (by simp) ?_; (case hd => rfl); (case hg => rfl); (case hr => first | (go_simp; done) | (go_simp; rfl)); (case hp => exact (Reps.none _ _))
                                              intro v353 w39 ho40 hb hg_ hnew_
                                              clear hg_ hnew_
                                              (first | rw [← Ny352.out] at ho40 | (simp only [Int.reduceToNat] at ho40; rw [← Ny352.out] at ho40))
                                              have n0_ := Aside0.mk (Kd.S_below (by (with_reducible repeat (first | apply Kd.S_alloc | apply Kd.S_drewN | apply Kd.S_drew)); exact HO_8.out) hb)
                                              have n1_ := Aside0.mk (Kd.R_elder' (by (with_reducible repeat (first | apply Kd.R_alloc | apply Kd.R_drewN | apply Kd.R_drew)); exact HO_10.out) (Kd.R_base ho40) hb)
                                              have n2_ := Aside0.mk (Kd.R_elder' (by (with_reducible repeat (first | apply Kd.R_alloc | apply Kd.R_drewN | apply Kd.R_drew)); exact HO351.out) (Kd.R_base ho40) hb)
                                              have n3_ := Aside0.mk (Kd.R_lower (Kd.R_new' (Kd.R_new' ho40 (Kd.R_lt (by (with_reducible repeat (first | apply Kd.R_alloc | apply Kd.R_drewN | apply Kd.R_drew)); exact HO_10.out))) (Kd.R_lt (by (with_reducible repeat (first | apply Kd.R_alloc | apply Kd.R_drewN | apply Kd.R_drew)); exact HO351.out))) (below_size (by repeat (first | (with_reducible first | exact HB.out | apply below_alloc | apply pw_below_drewN | apply below_drew1) | exact HB.out))))
                                              have n4_ := Aside0.mk (Kd.C_below (by repeat (first | (with_reducible exact HR358.out) | (with_reducible refine Kd.C_alloc ?_ _) | (with_reducible refine Kd.C_drewN ?_ _) | (with_reducible refine Kd.C_drew ?_) | exact HR358.out)) hb)
                                              have n5_ := Aside0.mk (Kd.C_below (by repeat (first | (with_reducible exact HR365.out) | (with_reducible refine Kd.C_alloc ?_ _) | (with_reducible refine Kd.C_drewN ?_ _) | (with_reducible refine Kd.C_drew ?_) | exact HR365.out)) hb)
                                              have n6_ := Aside0.mk (below_step (by repeat (first | (with_reducible first | exact HB.out | apply below_alloc | apply pw_below_drewN | apply below_drew1) | exact HB.out)) hb)
                                              clear HO_8
                                              clear HO_10
                                              clear HO351
                                              clear HR358
                                              clear HR365
                                              clear HB
                                              have HO_8 := n0_
                                              have HO_10 := n1_
                                              have HO351 := n2_
                                              have HO354 := n3_
                                              have HR358 := n4_
                                              have HR365 := n5_
                                              have HB := n6_
                                              clear n0_ n1_ n2_ n3_ n4_ n5_ n6_
                                              clear hb ho40
                                              refine hK.out _ _ trivial (fun hHeld => ?_)
                                              clear hK K
                                              refine norm_ (a' := ?_) ?_ ?_
                                              rotate_left
                                              · show Act.put _ (some 88) _ = _
                                                simp only [Act.put, List.setIfInBounds_toArray, List.set_cons_zero, List.set_cons_succ, i64_w, i32_w]
                                                rfl
                                              refine one_ (i := 4) (N := some 92) #[true, true, true, true, true, true, true, true, true, false, false] rfl rfl (one_of HT_.out (by kernel_rfl)) (by decide) (fun K hK => ?_)
                                              refine Kd.R_append_rows_step (Kd.int .i64) (w0 := w) w.heap.size (by rfl) (.tmp 88) (.tmp 91) 23 3 (.int .i64 0) 8 rfl Try.underlying23 info3 rfl (by decide) (by omega) v353 y352 y355 _ _ _ (fun k_ => some k_ ≠ (.slice (some ad348) x10_4.length co34 : Value).ownBlock ∧ some k_ ≠ (v350 : Value).ownBlock) (fun _ => False) rfl rfl ?aO ?aR (fun _ _ h => h) (fun _ h => h.elim) ?aF ?aB ?aS ?aL ?_
                                              (case aR => repeat (first | exact (by repeat (first | (with_reducible exact HR358.out) | (with_reducible refine Kd.C_alloc ?_ _) | (with_reducible refine Kd.C_drewN ?_ _) | (with_reducible refine Kd.C_drew ?_) | exact HR358.out)) | (with_reducible refine Kd.C_alloc ?_ _) | (with_reducible refine Kd.C_drewN ?_ _) | (with_reducible refine Kd.C_drew ?_)))
                                              (case aB => exact (by repeat (first | (with_reducible first | exact HB.out | apply below_alloc | apply pw_below_drewN | apply below_drew1) | exact HB.out)))
                                              (case aF => exact (fun k_ hk => ⟨Kd.fresh' (Kd.R_lt (by (with_reducible repeat (first | apply Kd.R_alloc | apply Kd.R_drewN | apply Kd.R_drew)); exact HO_10.out)) k_ hk, Kd.fresh' (Kd.R_lt (by (with_reducible repeat (first | apply Kd.R_alloc | apply Kd.R_drewN | apply Kd.R_drew)); exact HO351.out)) k_ hk⟩))
                                              (case aO => exact (by (with_reducible repeat (first | apply Kd.R_alloc | apply Kd.R_drewN | apply Kd.R_drew)); exact Kd.R_mono HO354.out (fun _ hk => ⟨hk.1.2, hk.2⟩)))
                                              (case aS => exact (below_size (by repeat (first | (with_reducible first | exact HB.out | apply below_alloc | apply pw_below_drewN | apply below_drew1) | exact HB.out))))
                                              (case aL => have := LMc29.out; omega)
                                              intro v360 w41 ho hb hg hat
                                              rw [← Ny359.out] at ho
                                              have n0_ := Aside0.mk (Kd.S_over' (by (with_reducible repeat (first | apply Kd.S_alloc | apply Kd.S_drewN | apply Kd.S_drew)); exact HO_8.out) (Kd.R_typed (by (with_reducible repeat (first | apply Kd.R_alloc | apply Kd.R_drewN | apply Kd.R_drew)); exact HO354.out)) (by decide) hg)
                                              have n1_ := Aside0.mk (Kd.R_after (ok := (fun k_ => some k_ ≠ (v350 : Value).ownBlock)) (by (with_reducible repeat (first | apply Kd.R_alloc | apply Kd.R_drewN | apply Kd.R_drew)); exact Kd.R_mono HO_10.out (fun _ hk => ⟨hk.1.2, hk.2⟩)) hg hat)
                                              have n2_ := Aside0.mk (Kd.R_after (ok := (fun k_ => some k_ ≠ (.slice (some ad348) x10_4.length co34 : Value).ownBlock)) (by (with_reducible repeat (first | apply Kd.R_alloc | apply Kd.R_drewN | apply Kd.R_drew)); exact HO351.out) hg hat)
                                              have n3_ := Aside0.mk (hb)
                                              have n4_ := Aside0.mk ((show Kd.C (Kd.int .i64) w41 (some ad348) y355.length y355 from by rw [Ny355.out]; exact Kd.C_take (m := (t347 : Int).toNat) ((Kd.R_reads' (Kd.R_after (ok := (fun k_ => some k_ ≠ (v350 : Value).ownBlock)) (by (with_reducible repeat (first | apply Kd.R_alloc | apply Kd.R_drewN | apply Kd.R_drew)); exact Kd.R_mono HO_10.out (fun _ hk => ⟨hk.1.2, hk.2⟩)) hg hat)).2.2) KL37.out))
                                              have n5_ := Aside0.mk ((show Kd.C (Kd.int .i64) w41 A38 y362.length y362 from by rw [Ny362.out, KA38.out]; exact Kd.C_drop (m := ((ji30) : Int).toNat) (c := co34) ((Kd.R_reads' (Kd.R_after (ok := (fun k_ => some k_ ≠ (v350 : Value).ownBlock)) (by (with_reducible repeat (first | apply Kd.R_alloc | apply Kd.R_drewN | apply Kd.R_drew)); exact Kd.R_mono HO_10.out (fun _ hk => ⟨hk.1.2, hk.2⟩)) hg hat)).2.2) KL38.out ((Kd.R_reads' (Kd.R_after (ok := (fun k_ => some k_ ≠ (v350 : Value).ownBlock)) (by (with_reducible repeat (first | apply Kd.R_alloc | apply Kd.R_drewN | apply Kd.R_drew)); exact Kd.R_mono HO_10.out (fun _ hk => ⟨hk.1.2, hk.2⟩)) hg hat)).2.1)))
                                              have n6_ := Aside0.mk (ho)
                                              clear HO_8
                                              clear HO_10
                                              clear HO351
                                              clear HB
                                              clear HR358
                                              clear HR365
                                              clear HO354
                                              have HO_8 := n0_
                                              have HO_10 := n1_
                                              have HO351 := n2_
                                              have HB := n3_
                                              have HR358 := n4_
                                              have HR365 := n5_
                                              have HO361 := n6_
                                              clear n0_ n1_ n2_ n3_ n4_ n5_ n6_
                                              clear ho hb hg hat
                                              refine hK.out _ _ trivial (fun hHeld => ?_)
                                              clear hK K
                                              refine norm_ (a' := ?_) ?_ ?_
                                              rotate_left
                                              · show Act.put _ (some 92) _ = _
                                                simp only [Act.put, List.setIfInBounds_toArray, List.set_cons_zero, List.set_cons_succ, i64_w, i32_w]
                                                rfl
                                              refine one_ (i := 9) (N := some 97) #[true, true, true, true, true, true, true, true, true, true, false] rfl rfl (one_of HT_.out (by kernel_rfl)) (by decide) (fun K hK => ?_)
                                              refine Kd.R_append_rows_step (Kd.int .i64) (w0 := w) w.heap.size (by rfl) (.tmp 92) (.tmp 96) 23 3 (.int .i64 0) 8 rfl Try.underlying23 info3 rfl (by decide) (by omega) v360 y359 y362 _ _ _ (fun k_ => some k_ ≠ (.slice (some ad348) x10_4.length co34 : Value).ownBlock ∧ some k_ ≠ (v350 : Value).ownBlock) (fun _ => False) rfl rfl ?aO ?aR (fun _ _ h => h) (fun _ h => h.elim) ?aF ?aB ?aS ?aL ?_
                                              (case aR => repeat (first | exact (by repeat (first | (with_reducible exact HR365.out) | (with_reducible refine Kd.C_alloc ?_ _) | (with_reducible refine Kd.C_drewN ?_ _) | (with_reducible refine Kd.C_drew ?_) | exact HR365.out)) | (with_reducible refine Kd.C_alloc ?_ _) | (with_reducible refine Kd.C_drewN ?_ _) | (with_reducible refine Kd.C_drew ?_)))
                                              (case aB => exact (by repeat (first | (with_reducible first | exact HB.out | apply below_alloc | apply pw_below_drewN | apply below_drew1) | exact HB.out)))
                                              (case aF => exact (fun k_ hk => ⟨Kd.fresh' (Kd.R_lt (by (with_reducible repeat (first | apply Kd.R_alloc | apply Kd.R_drewN | apply Kd.R_drew)); exact HO_10.out)) k_ hk, Kd.fresh' (Kd.R_lt (by (with_reducible repeat (first | apply Kd.R_alloc | apply Kd.R_drewN | apply Kd.R_drew)); exact HO351.out)) k_ hk⟩))
                                              (case aO => exact (by (with_reducible repeat (first | apply Kd.R_alloc | apply Kd.R_drewN | apply Kd.R_drew)); exact HO361.out))
                                              (case aS => exact (below_size (by repeat (first | (with_reducible first | exact HB.out | apply below_alloc | apply pw_below_drewN | apply below_drew1) | exact HB.out))))
                                              (case aL => have := LMc33.out; omega)
                                              intro v367 w42 ho hb hg hat
                                              rw [← Ny366.out] at ho
                                              have n0_ := Aside0.mk (Kd.S_over' (by (with_reducible repeat (first | apply Kd.S_alloc | apply Kd.S_drewN | apply Kd.S_drew)); exact HO_8.out) (Kd.R_typed (by (with_reducible repeat (first | apply Kd.R_alloc | apply Kd.R_drewN | apply Kd.R_drew)); exact HO361.out)) (by decide) hg)
                                              have n1_ := Aside0.mk (Kd.R_after (ok := (fun k_ => some k_ ≠ (v350 : Value).ownBlock)) (by (with_reducible repeat (first | apply Kd.R_alloc | apply Kd.R_drewN | apply Kd.R_drew)); exact HO_10.out) hg hat)
                                              have n2_ := Aside0.mk (Kd.R_after (ok := (fun k_ => some k_ ≠ (.slice (some ad348) x10_4.length co34 : Value).ownBlock)) (by (with_reducible repeat (first | apply Kd.R_alloc | apply Kd.R_drewN | apply Kd.R_drew)); exact HO351.out) hg hat)
                                              have n3_ := Aside0.mk (hb)
                                              have n4_ := Aside0.mk ((show Kd.C (Kd.int .i64) w42 (some ad348) y355.length y355 from by rw [Ny355.out]; exact Kd.C_take (m := (t347 : Int).toNat) ((Kd.R_reads' (Kd.R_after (ok := (fun k_ => some k_ ≠ (v350 : Value).ownBlock)) (by (with_reducible repeat (first | apply Kd.R_alloc | apply Kd.R_drewN | apply Kd.R_drew)); exact HO_10.out) hg hat)).2.2) KL37.out))
                                              have n5_ := Aside0.mk ((show Kd.C (Kd.int .i64) w42 A38 y362.length y362 from by rw [Ny362.out, KA38.out]; exact Kd.C_drop (m := ((ji30) : Int).toNat) (c := co34) ((Kd.R_reads' (Kd.R_after (ok := (fun k_ => some k_ ≠ (v350 : Value).ownBlock)) (by (with_reducible repeat (first | apply Kd.R_alloc | apply Kd.R_drewN | apply Kd.R_drew)); exact HO_10.out) hg hat)).2.2) KL38.out ((Kd.R_reads' (Kd.R_after (ok := (fun k_ => some k_ ≠ (v350 : Value).ownBlock)) (by (with_reducible repeat (first | apply Kd.R_alloc | apply Kd.R_drewN | apply Kd.R_drew)); exact HO_10.out) hg hat)).2.1)))
                                              have n6_ := Aside0.mk (ho)
                                              clear HO_8
                                              clear HO_10
                                              clear HO351
                                              clear HB
                                              clear HR358
                                              clear HR365
                                              clear HO361
                                              have HO_8 := n0_
                                              have HO_10 := n1_
                                              have HO351 := n2_
                                              have HB := n3_
                                              have HR358 := n4_
                                              have HR365 := n5_
                                              have HO368 := n6_
                                              clear n0_ n1_ n2_ n3_ n4_ n5_ n6_
                                              clear ho hb hg hat
                                              refine hK.out _ _ trivial (fun hHeld => ?_)
                                              clear hK K
                                              refine norm_ (a' := ?_) ?_ ?_
                                              rotate_left
                                              · show Act.put _ (some 97) _ = _
                                                simp only [Act.put, List.setIfInBounds_toArray, List.set_cons_zero, List.set_cons_succ, i64_w, i32_w]
                                                rfl
                                              refine pure_ (i := 10) (N := some 10) (v := ?_) (a' := ?_) #[true, true, true, true, true, true, true, true, true, true, true] rfl rfl (any_of HT_.out (by kernel_rfl)) (fun _ _ _ h => h) (Or.inl ⟨by rfl, ?_⟩) ?_ ?_
                                              rotate_left
                                              · intro w'
                                                go_simp
                                                with_reducible rfl
                                              rotate_left
                                              · simp only [Act.put, List.setIfInBounds_toArray, List.set_cons_zero, List.set_cons_succ, i64_w, i32_w]
                                                rfl
                                              refine done_ (done_of HT_.out (by kernel_rfl)) ?_
                                              try go_wp2
                                              go_roundg k4
                                              case measure => have := HJ5.out; have := HJ10.out; have := HK3.out; have := HK4.out; omega
                                              case rel => exact ⟨(y366), (y349), (wrap64 (x13_4 + 1)), (by first | rfl | (simp; done) | (simp [*]; done)), H', ⟨by have := HJ5.out; have := HJ10.out; have := HK3.out; have := HK4.out; omega⟩, ⟨by (with_reducible repeat (first | apply Kd.S_alloc | apply Kd.S_drewN | apply Kd.S_drew)); exact HO_8.out⟩, ⟨by (with_reducible repeat (first | apply Kd.R_alloc | apply Kd.R_drewN | apply Kd.R_drew)); exact Kd.R_mono HO368.out (fun _ hk => hk.2)⟩, ⟨by (with_reducible repeat (first | apply Kd.R_alloc | apply Kd.R_drewN | apply Kd.R_drew)); exact Kd.R_mono HO351.out (fun _ hk => hk.2)⟩, ⟨by repeat (first | (with_reducible first | exact HB.out | apply below_alloc | apply pw_below_drewN | apply below_drew1) | exact HB.out)⟩⟩
                                            · rw [if_neg c33] at H
                                              exact absurd H (by simp)
                                          · rw [if_neg c32] at H
                                            exact absurd H (by simp)
                                        · rw [if_neg c31] at H
                                          exact absurd H (by simp)
                                      · rw [if_neg c29] at H
                                        exact absurd H (by simp)
                                    · rw [if_neg c28] at H
                                      exact absurd H (by simp)
                                  · rw [if_neg c26] at H
                                    exact absurd H (by simp)
                                · rw [if_neg c25] at H
                                  exact absurd H (by simp)
                              · rw [if_neg c24] at H
                                exact absurd H (by simp)
                            · rw [if_neg c22] at H
                              exact absurd H (by simp)
                          · rw [if_neg c21] at H
                            have c21b0 : decide (x13_4 < (l2.length : Int)) = false := decide_eq_false c21
                            clear c21
                            by_cases c43 : 0 < (x10_4.length : Int)
                            · rw [if_pos c43] at H
                              have c43b0 : decide (0 < (x10_4.length : Int)) = true := decide_eq_true c43
                              have c43b1 : decide (0 < x10_4.length) = true := decide_eq_true (by omega)
                              clear c43
                              by_cases c44 : x11_4.length < 17592186044416
                              · rw [if_pos c44] at H
                                have LMc44 := Aside0.mk c44
                                clear c44
                                obtain ⟨y370, hy370⟩ : ∃ y_ : List Int, y_ = (x11_4 ++ [rd x10_4 0]) := ⟨_, rfl⟩
                                replace H : ((some (([] : List Int) : List Int)).bind fun y373 => (if 0 ≤ (x10_4.length : Int) then ((some (x10_4.take 0 : List Int)).bind fun y376 => (if y373.length + y376.length < 17592186044416 then ((some (y373 ++ y376 : List Int)).bind fun y380 => (if 1 ≤ (x10_4.length : Int) then ((some (x10_4.drop 1 : List Int)).bind fun y383 => (if y380.length + y383.length < 17592186044416 then (stowagelaw02_MatrixAny.l1 k4 a0 l2 t338 t339 (y380 ++ y383) y370 (wrap64 (x13_4 + 1))) else (none))) else (none))) else (none))) else (none))) = some r := by first | (rw [hy370]; with_reducible exact H) | (have H2_ := (Option.bind_some _ _).symm.trans H; rw [hy370]; with_reducible exact H2_) | (have H2_ := (Option.bind_some _ _).symm.trans H; with_reducible exact H2_) | with_reducible exact H | (rw [hy370]; exact H) | exact H
                                have Ny370 := Aside0.mk hy370
                                clear hy370
                                obtain ⟨y373, hy373⟩ : ∃ y_ : List Int, y_ = (([] : List Int)) := ⟨_, rfl⟩
                                replace H : (if 0 ≤ (x10_4.length : Int) then ((some (x10_4.take 0 : List Int)).bind fun y376 => (if y373.length + y376.length < 17592186044416 then ((some (y373 ++ y376 : List Int)).bind fun y380 => (if 1 ≤ (x10_4.length : Int) then ((some (x10_4.drop 1 : List Int)).bind fun y383 => (if y380.length + y383.length < 17592186044416 then (stowagelaw02_MatrixAny.l1 k4 a0 l2 t338 t339 (y380 ++ y383) y370 (wrap64 (x13_4 + 1))) else (none))) else (none))) else (none))) else (none)) = some r := by first | (rw [hy373]; with_reducible exact H) | (have H2_ := (Option.bind_some _ _).symm.trans H; rw [hy373]; with_reducible exact H2_) | (have H2_ := (Option.bind_some _ _).symm.trans H; with_reducible exact H2_) | with_reducible exact H | (rw [hy373]; exact H) | exact H
                                have Ny373 := Aside0.mk hy373
                                clear hy373
                                by_cases c45 : 0 ≤ (x10_4.length : Int)
                                · rw [if_pos c45] at H
                                  have c45b0 := eq_true c45
                                  have c45b1 : decide (0 ≤ (x10_4.length : Int)) = true := decide_eq_true c45
                                  clear c45
                                  obtain ⟨y376, hy376⟩ : ∃ y_ : List Int, y_ = (x10_4.take 0) := ⟨_, rfl⟩
                                  replace H : (if y373.length + y376.length < 17592186044416 then ((some (y373 ++ y376 : List Int)).bind fun y380 => (if 1 ≤ (x10_4.length : Int) then ((some (x10_4.drop 1 : List Int)).bind fun y383 => (if y380.length + y383.length < 17592186044416 then (stowagelaw02_MatrixAny.l1 k4 a0 l2 t338 t339 (y380 ++ y383) y370 (wrap64 (x13_4 + 1))) else (none))) else (none))) else (none)) = some r := by first | (rw [hy376]; with_reducible exact H) | (have H2_ := (Option.bind_some _ _).symm.trans H; rw [hy376]; with_reducible exact H2_) | (have H2_ := (Option.bind_some _ _).symm.trans H; with_reducible exact H2_) | with_reducible exact H | (rw [hy376]; exact H) | exact H
                                  have Ny376 := Aside0.mk hy376
                                  clear hy376
                                  by_cases c46 : y373.length + y376.length < 17592186044416
                                  · rw [if_pos c46] at H
                                    have LMc46 := Aside0.mk c46
                                    clear c46
                                    obtain ⟨y380, hy380⟩ : ∃ y_ : List Int, y_ = (y373 ++ y376) := ⟨_, rfl⟩
                                    replace H : (if 1 ≤ (x10_4.length : Int) then ((some (x10_4.drop 1 : List Int)).bind fun y383 => (if y380.length + y383.length < 17592186044416 then (stowagelaw02_MatrixAny.l1 k4 a0 l2 t338 t339 (y380 ++ y383) y370 (wrap64 (x13_4 + 1))) else (none))) else (none)) = some r := by first | (rw [hy380]; with_reducible exact H) | (have H2_ := (Option.bind_some _ _).symm.trans H; rw [hy380]; with_reducible exact H2_) | (have H2_ := (Option.bind_some _ _).symm.trans H; with_reducible exact H2_) | with_reducible exact H | (rw [hy380]; exact H) | exact H
                                    have Ny380 := Aside0.mk hy380
                                    clear hy380
                                    by_cases c47 : 1 ≤ (x10_4.length : Int)
                                    · rw [if_pos c47] at H
                                      have c47b0 := eq_true c47
                                      have c47b1 : decide (1 ≤ (x10_4.length : Int)) = true := decide_eq_true c47
                                      clear c47
                                      obtain ⟨y383, hy383⟩ : ∃ y_ : List Int, y_ = (x10_4.drop 1) := ⟨_, rfl⟩
                                      replace H : (if y380.length + y383.length < 17592186044416 then (stowagelaw02_MatrixAny.l1 k4 a0 l2 t338 t339 (y380 ++ y383) y370 (wrap64 (x13_4 + 1))) else (none)) = some r := by first | (rw [hy383]; with_reducible exact H) | (have H2_ := (Option.bind_some _ _).symm.trans H; rw [hy383]; with_reducible exact H2_) | (have H2_ := (Option.bind_some _ _).symm.trans H; with_reducible exact H2_) | with_reducible exact H | (rw [hy383]; exact H) | exact H
                                      have Ny383 := Aside0.mk hy383
                                      clear hy383
                                      by_cases c48 : y380.length + y383.length < 17592186044416
                                      · rw [if_pos c48] at H
                                        have LMc48 := Aside0.mk c48
                                        clear c48
                                        obtain ⟨y387, hy387⟩ : ∃ y_ : List Int, y_ = (y380 ++ y383) := ⟨_, rfl⟩
                                        replace H : (stowagelaw02_MatrixAny.l1 k4 a0 l2 t338 t339 y387 y370 (wrap64 (x13_4 + 1))) = some r := by first | (rw [hy387]; with_reducible exact H) | (have H2_ := (Option.bind_some _ _).symm.trans H; rw [hy387]; with_reducible exact H2_) | (have H2_ := (Option.bind_some _ _).symm.trans H; with_reducible exact H2_) | with_reducible exact H | (rw [hy387]; exact H) | exact H
                                        have Ny387 := Aside0.mk hy387
                                        clear hy387
                                        have H' := Aside0.mk H
                                        clear H
                                        obtain ⟨Ao49, co49, eo49⟩ := Kd.R_slice HO_10.out
                                        subst eo49
                                        have p369 : 0 ≤ (0 : Int) := (by omega)
                                        have q369 : 0 < (x10_4.length : Int) := of_decide_eq_true (by first | (with_reducible assumption) | assumption)
                                        obtain ⟨ad369, e369, hx369_0⟩ := Kd.at_int (Kd.R_reads' HO_10.out).2.2 0 p369 q369
                                        cases e369
                                        have qi369 : (0 < x10_4.length) = True := eq_true (by omega)
                                        (try rw [show ((0 : Int)).toNat = 0 from rfl] at hx369_0)
                                        (try rw [Addr.add_zero'] at hx369_0)
                                        replace p369 := eq_true p369
                                        replace q369 := eq_true q369
                                        try go_wp2_with (first | ((with_reducible refine gate_builtin (b := .append) (xs := #[.tmp 81, .tmp 86]) rfl ?_); (try (refine gate_guard (by rfl) ?_; dsimp only)); at_builtin; refine Kd.R_append (Kd.int .i64) (w0 := w) w.heap.size rfl (.tmp 81) (.tmp 86) 23 3 (.int .i64 0) 8 rfl Try.underlying23 info3 rfl (by decide) (by omega) u11 x11_4 (rd x10_4 0) [.int .i64 (rd x10_4 0)] (fun k_ => some k_ ≠ (.slice (some ad369) x10_4.length co49 : Value).ownBlock) (fun _ => False) rfl rfl ?aP (fun _ hk => hk.elim) ?aF ?aO ?aB ?aS ?aL ?_; (case aP => exact rfl); (case aB => exact (by repeat (first | (with_reducible first | exact HB.out | apply below_alloc | apply pw_below_drewN | apply below_drew1) | exact HB.out))); (case aF => exact (fun k_ hk => Kd.fresh' (Kd.R_lt (by (with_reducible repeat (first | apply Kd.R_alloc | apply Kd.R_drewN | apply Kd.R_drew)); exact HO_10.out)) k_ hk)); (case aO => exact (by (with_reducible repeat (first | apply Kd.R_alloc | apply Kd.R_drewN | apply Kd.R_drew)); exact HO_11.out)); (case aS => exact (below_size (by repeat (first | (with_reducible first | exact HB.out | apply below_alloc | apply pw_below_drewN | apply below_drew1) | exact HB.out)))); (case aL => have := LMc44.out; omega); intro v371 w50 ho hb hg hat; rw [← Ny370.out] at ho; have n0_ := Aside0.mk (Kd.S_over' (by (with_reducible repeat (first | apply Kd.S_alloc | apply Kd.S_drewN | apply Kd.S_drew)); exact HO_8.out) (Kd.R_typed (by (with_reducible repeat (first | apply Kd.R_alloc | apply Kd.R_drewN | apply Kd.R_drew)); exact HO_11.out)) (by decide) hg); have n1_ := Aside0.mk (Kd.R_after (ok := (fun _ => True)) (by (with_reducible repeat (first | apply Kd.R_alloc | apply Kd.R_drewN | apply Kd.R_drew)); exact Kd.R_mono HO_10.out (fun _ hk => ⟨trivial, hk⟩)) hg hat); have n2_ := Aside0.mk (hb); have n3_ := Aside0.mk (ho); clear HO_8; clear HO_10; clear HB; clear HO_11; have HO_8 := n0_; have HO_10 := n1_; have HB := n2_; have HO372 := n3_; clear n0_ n1_ n2_ n3_; clear ho hb hg hat))
                                        have n0_ := Aside0.mk (Kd.S_drew HO_8.out)
                                        have n1_ := Aside0.mk (Kd.R_drew HO_10.out)
                                        have n2_ := Aside0.mk (Kd.R_drew HO372.out)
                                        have n3_ := Aside0.mk (below_drew1 HB.out)
                                        clear HO_8
                                        clear HO_10
                                        clear HO372
                                        clear HB
                                        have HO_8 := n0_
                                        have HO_10 := n1_
                                        have HO372 := n2_
                                        have HB := n3_
                                        clear n0_ n1_ n2_ n3_
                                        have q52 : (0 : Int) ≤ ((x10_4.length : Int) : Int) := of_decide_eq_true (by first | (with_reducible assumption) | assumption)
                                        obtain ⟨i052, hi052, _, hsz52, _⟩ := info_parts info3
                                        have hroom52 : x10_4.length ≤ co49 := (Kd.R_reads' HO_10.out).2.1
                                        have hC52 : Kd.C (Kd.int .i64) _ (some ad369) x10_4.length x10_4 := (Kd.R_reads' HO_10.out).2.2
                                        have hcut52 := cut_to (P := Try.prog) 23 3 .i64 Try.underlying23 hi052 (some ad369) x10_4.length co49 0 (by omega) q52 hroom52
                                        have hr52 := Kd.C_take (m := 0) hC52 (by omega)
                                        have hy52 : y376.length = (0 : Int).toNat := (by rw [Ny376.out, List.length_take]; omega)
                                        rw [← Ny376.out] at hr52
                                        rw [← hy52] at hcut52
                                        have HR379 := Aside0.mk hr52
                                        have HC379 := Aside0.mk (show y376.length ≤ co49 from by omega)
                                        clear hr52 hC52 hroom52 hi052 hsz52
                                        have KY52 := Aside0.mk hy52
                                        clear hy52
                                        have KL52 := Aside0.mk (show 0 ≤ x10_4.length from by omega)
                                        replace q52 := eq_true q52
                                        have q53 : (1 : Int) ≤ ((x10_4.length : Int) : Int) := of_decide_eq_true (by first | (with_reducible assumption) | assumption)
                                        obtain ⟨i053, hi053, _, hsz53, _⟩ := info_parts info3
                                        have hroom53 : x10_4.length ≤ co49 := (Kd.R_reads' HO_10.out).2.1
                                        have hC53 : Kd.C (Kd.int .i64) _ (some ad369) x10_4.length x10_4 := (Kd.R_reads' HO_10.out).2.2
                                        have hcut53 := cut_from (P := Try.prog) 23 3 .i64 Try.underlying23 hi053 1 hsz53 (some ad369) x10_4.length co49 1 (by omega) q53
                                        have hr53 := Kd.C_drop (m := (1 : Int).toNat) (c := co49) hC53 (by omega) hroom53
                                        obtain ⟨A53, hA53⟩ : ∃ A1, A1 = (if co49 = (1 : Int).toNat then (some ad369) else ((some ad369) : Option Addr).map (·.add ((1 : Int).toNat * 1))) := ⟨_, rfl⟩
                                        obtain ⟨c53, hc53⟩ : ∃ c1, c1 = co49 - (1 : Int).toNat := ⟨_, rfl⟩
                                        have hy53 : y383.length = x10_4.length - (1 : Int).toNat := (by rw [Ny383.out, List.length_drop] <;> omega)
                                        rw [show (x10_4).drop (1 : Int).toNat = y383 from Ny383.out.symm] at hr53
                                        replace hr53 : Kd.C (Kd.int .i64) _ A53 y383.length y383 := (by rw [hA53]; exact hr53)
                                        rw [← hy53, ← hA53, ← hc53] at hcut53
                                        have HR386 := Aside0.mk hr53
                                        have HC386 := Aside0.mk (show y383.length ≤ c53 from by rw [hy53, hc53]; exact Nat.sub_le_sub_right hroom53 _)
                                        clear hr53 hC53 hroom53 hi053 hsz53 hc53
                                        have KY53 := Aside0.mk hy53
                                        have KA53 := Aside0.mk hA53
                                        clear hy53 hA53
                                        have KL53 := Aside0.mk (show 1 ≤ x10_4.length from by omega)
                                        replace q53 := eq_true q53
                                        refine start_ (n := 11) (S := fun w' => True) (ds := []) #[false, false, false, false, false, false, false, false, false, false, false] (by kernel_rfl) rfl rfl trivial (fun hHeld => ?_); refine with_tabW stowagelaw02_MatrixAny.tab19 stowagelaw02_MatrixAny.bits19 (fun HT_ HW_ => ?_)
                                        generalize w50.drew = w51 at HO_8 HO_10 HO372 HB HR379 HR386 hHeld ⊢
                                        refine pure_ (i := 1) (N := some 89) (v := ?_) (a' := ?_) #[false, true, false, false, false, false, false, false, false, false, false] rfl rfl (any_of HT_.out (by kernel_rfl)) (fun _ _ _ h => h) (Or.inl ⟨by rfl, ?_⟩) ?_ ?_
                                        rotate_left
                                        · intro w'
                                          go_simp
                                          with_reducible rfl
                                        rotate_left
                                        · simp only [Act.put, List.setIfInBounds_toArray, List.set_cons_zero, List.set_cons_succ, i64_w, i32_w]
                                          rfl
                                        refine pure_ (i := 2) (N := some 90) (v := ?_) (a' := ?_) #[false, true, true, false, false, false, false, false, false, false, false] rfl rfl (any_of HT_.out (by kernel_rfl)) (fun _ _ _ h => h) (Or.inl ⟨by rfl, ?_⟩) ?_ ?_
                                        rotate_left
                                        · intro w'
                                          go_simp
                                          with_reducible rfl
                                        rotate_left
                                        · simp only [Act.put, List.setIfInBounds_toArray, List.set_cons_zero, List.set_cons_succ, i64_w, i32_w]
                                          rfl
                                        refine pure_ (i := 3) (N := some 91) (v := ?_) (a' := ?_) #[false, true, true, true, false, false, false, false, false, false, false] rfl rfl (any_of HT_.out (by kernel_rfl)) (fun _ _ _ h => h) (Or.inl ⟨by rfl, ?_⟩) ?_ ?_
                                        rotate_left
                                        · intro w'
                                          go_simp
                                          with_reducible rfl
                                        rotate_left
                                        · simp only [Act.put, List.setIfInBounds_toArray, List.set_cons_zero, List.set_cons_succ, i64_w, i32_w]
                                          rfl
                                        refine pure_ (i := 5) (N := some 93) (v := ?_) (a' := ?_) #[false, true, true, true, false, true, false, false, false, false, false] rfl rfl (any_of HT_.out (by kernel_rfl)) (fun _ _ _ h => h) (Or.inl ⟨by rfl, ?_⟩) ?_ ?_
                                        rotate_left
                                        · intro w'
                                          go_simp
                                          with_reducible rfl
                                        rotate_left
                                        · simp only [Act.put, List.setIfInBounds_toArray, List.set_cons_zero, List.set_cons_succ, i64_w, i32_w]
                                          rfl
                                        refine pure_ (i := 6) (N := some 94) (v := ?_) (a' := ?_) #[false, true, true, true, false, true, true, false, false, false, false] rfl rfl (any_of HT_.out (by kernel_rfl)) (fun _ _ _ h => h) (Or.inl ⟨by rfl, ?_⟩) ?_ ?_
                                        rotate_left
                                        · intro w'
                                          go_simp
                                          with_reducible rfl
                                        rotate_left
                                        · simp only [Act.put, List.setIfInBounds_toArray, List.set_cons_zero, List.set_cons_succ, i64_w, i32_w]
                                          rfl
                                        refine pure_ (i := 7) (N := some 95) (v := ?_) (a' := ?_) #[false, true, true, true, false, true, true, true, false, false, false] rfl rfl (any_of HT_.out (by kernel_rfl)) (fun _ _ _ h => h) (Or.inl ⟨by rfl, ?_⟩) ?_ ?_
                                        rotate_left
                                        · intro w'
                                          go_simp
                                          with_reducible rfl
                                        rotate_left
                                        · simp only [Act.put, List.setIfInBounds_toArray, List.set_cons_zero, List.set_cons_succ, i64_w, i32_w]
                                          rfl
                                        refine pure_ (i := 8) (N := some 96) (v := ?_) (a' := ?_) #[false, true, true, true, false, true, true, true, true, false, false] rfl rfl (any_of HT_.out (by kernel_rfl)) (fun _ _ _ h => h) (Or.inl ⟨by rfl, ?_⟩) ?_ ?_
                                        rotate_left
                                        · intro w'
                                          go_simp
                                          with_reducible rfl
                                        rotate_left
                                        · simp only [Act.put, List.setIfInBounds_toArray, List.set_cons_zero, List.set_cons_succ, i64_w, i32_w]
                                          rfl
                                        refine one_ (i := 0) (N := some 88) #[true, true, true, true, false, true, true, true, true, false, false] rfl rfl (one_of HT_.out (by kernel_rfl)) (by decide) (fun K hK => ?_)
                                        refine Kd.R_lit_step (Kd.int .i64) _ 3 ?hg (N := 88) ?hd (xs := ([] : List Int)) (inner := []) (ok := fun _ => True) (okp := fun _ => True) ?hr ?hp (fun _ hk => hk) trivial (Below.refl _ _) (Nat.le_refl _) (by simp) ?_; (case hd => rfl); (case hg => rfl); (case hr => first | (go_simp; done) | (go_simp; rfl)); (case hp => exact (Reps.none _ _))
                                        intro v374 w54 ho55 hb hg_ hnew_
                                        clear hg_ hnew_
                                        (first | rw [← Ny373.out] at ho55 | (simp only [Int.reduceToNat] at ho55; rw [← Ny373.out] at ho55))
                                        have n0_ := Aside0.mk (Kd.S_below (by (with_reducible repeat (first | apply Kd.S_alloc | apply Kd.S_drewN | apply Kd.S_drew)); exact HO_8.out) hb)
                                        have n1_ := Aside0.mk (Kd.R_elder' (by (with_reducible repeat (first | apply Kd.R_alloc | apply Kd.R_drewN | apply Kd.R_drew)); exact HO_10.out) (Kd.R_base ho55) hb)
                                        have n2_ := Aside0.mk (Kd.R_elder' (by (with_reducible repeat (first | apply Kd.R_alloc | apply Kd.R_drewN | apply Kd.R_drew)); exact HO372.out) (Kd.R_base ho55) hb)
                                        have n3_ := Aside0.mk (Kd.R_lower (Kd.R_new' (Kd.R_new' ho55 (Kd.R_lt (by (with_reducible repeat (first | apply Kd.R_alloc | apply Kd.R_drewN | apply Kd.R_drew)); exact HO_10.out))) (Kd.R_lt (by (with_reducible repeat (first | apply Kd.R_alloc | apply Kd.R_drewN | apply Kd.R_drew)); exact HO372.out))) (below_size (by repeat (first | (with_reducible first | exact HB.out | apply below_alloc | apply pw_below_drewN | apply below_drew1) | exact HB.out))))
                                        have n4_ := Aside0.mk (Kd.C_below (by repeat (first | (with_reducible exact HR379.out) | (with_reducible refine Kd.C_alloc ?_ _) | (with_reducible refine Kd.C_drewN ?_ _) | (with_reducible refine Kd.C_drew ?_) | exact HR379.out)) hb)
                                        have n5_ := Aside0.mk (Kd.C_below (by repeat (first | (with_reducible exact HR386.out) | (with_reducible refine Kd.C_alloc ?_ _) | (with_reducible refine Kd.C_drewN ?_ _) | (with_reducible refine Kd.C_drew ?_) | exact HR386.out)) hb)
                                        have n6_ := Aside0.mk (below_step (by repeat (first | (with_reducible first | exact HB.out | apply below_alloc | apply pw_below_drewN | apply below_drew1) | exact HB.out)) hb)
                                        clear HO_8
                                        clear HO_10
                                        clear HO372
                                        clear HR379
                                        clear HR386
                                        clear HB
                                        have HO_8 := n0_
                                        have HO_10 := n1_
                                        have HO372 := n2_
                                        have HO375 := n3_
                                        have HR379 := n4_
                                        have HR386 := n5_
                                        have HB := n6_
                                        clear n0_ n1_ n2_ n3_ n4_ n5_ n6_
                                        clear hb ho55
                                        refine hK.out _ _ trivial (fun hHeld => ?_)
                                        clear hK K
                                        refine norm_ (a' := ?_) ?_ ?_
                                        rotate_left
                                        · show Act.put _ (some 88) _ = _
                                          simp only [Act.put, List.setIfInBounds_toArray, List.set_cons_zero, List.set_cons_succ, i64_w, i32_w]
                                          rfl
                                        refine one_ (i := 4) (N := some 92) #[true, true, true, true, true, true, true, true, true, false, false] rfl rfl (one_of HT_.out (by kernel_rfl)) (by decide) (fun K hK => ?_)
                                        refine Kd.R_append_rows_step (Kd.int .i64) (w0 := w) w.heap.size (by rfl) (.tmp 88) (.tmp 91) 23 3 (.int .i64 0) 8 rfl Try.underlying23 info3 rfl (by decide) (by omega) v374 y373 y376 _ _ _ (fun k_ => some k_ ≠ (.slice (some ad369) x10_4.length co49 : Value).ownBlock ∧ some k_ ≠ (v371 : Value).ownBlock) (fun _ => False) rfl rfl ?aO ?aR (fun _ _ h => h) (fun _ h => h.elim) ?aF ?aB ?aS ?aL ?_
                                        (case aR => repeat (first | exact (by repeat (first | (with_reducible exact HR379.out) | (with_reducible refine Kd.C_alloc ?_ _) | (with_reducible refine Kd.C_drewN ?_ _) | (with_reducible refine Kd.C_drew ?_) | exact HR379.out)) | (with_reducible refine Kd.C_alloc ?_ _) | (with_reducible refine Kd.C_drewN ?_ _) | (with_reducible refine Kd.C_drew ?_)))
                                        (case aB => exact (by repeat (first | (with_reducible first | exact HB.out | apply below_alloc | apply pw_below_drewN | apply below_drew1) | exact HB.out)))
                                        (case aF => exact (fun k_ hk => ⟨Kd.fresh' (Kd.R_lt (by (with_reducible repeat (first | apply Kd.R_alloc | apply Kd.R_drewN | apply Kd.R_drew)); exact HO_10.out)) k_ hk, Kd.fresh' (Kd.R_lt (by (with_reducible repeat (first | apply Kd.R_alloc | apply Kd.R_drewN | apply Kd.R_drew)); exact HO372.out)) k_ hk⟩))
                                        (case aO => exact (by (with_reducible repeat (first | apply Kd.R_alloc | apply Kd.R_drewN | apply Kd.R_drew)); exact Kd.R_mono HO375.out (fun _ hk => ⟨hk.1.2, hk.2⟩)))
                                        (case aS => exact (below_size (by repeat (first | (with_reducible first | exact HB.out | apply below_alloc | apply pw_below_drewN | apply below_drew1) | exact HB.out))))
                                        (case aL => have := LMc46.out; omega)
                                        intro v381 w56 ho hb hg hat
                                        rw [← Ny380.out] at ho
                                        have n0_ := Aside0.mk (Kd.S_over' (by (with_reducible repeat (first | apply Kd.S_alloc | apply Kd.S_drewN | apply Kd.S_drew)); exact HO_8.out) (Kd.R_typed (by (with_reducible repeat (first | apply Kd.R_alloc | apply Kd.R_drewN | apply Kd.R_drew)); exact HO375.out)) (by decide) hg)
                                        have n1_ := Aside0.mk (Kd.R_after (ok := (fun k_ => some k_ ≠ (v371 : Value).ownBlock)) (by (with_reducible repeat (first | apply Kd.R_alloc | apply Kd.R_drewN | apply Kd.R_drew)); exact Kd.R_mono HO_10.out (fun _ hk => ⟨hk.1.2, hk.2⟩)) hg hat)
                                        have n2_ := Aside0.mk (Kd.R_after (ok := (fun k_ => some k_ ≠ (.slice (some ad369) x10_4.length co49 : Value).ownBlock)) (by (with_reducible repeat (first | apply Kd.R_alloc | apply Kd.R_drewN | apply Kd.R_drew)); exact HO372.out) hg hat)
                                        have n3_ := Aside0.mk (hb)
                                        have n4_ := Aside0.mk ((show Kd.C (Kd.int .i64) w56 (some ad369) y376.length y376 from by rw [Ny376.out]; exact Kd.C_take (m := 0) ((Kd.R_reads' (Kd.R_after (ok := (fun k_ => some k_ ≠ (v371 : Value).ownBlock)) (by (with_reducible repeat (first | apply Kd.R_alloc | apply Kd.R_drewN | apply Kd.R_drew)); exact Kd.R_mono HO_10.out (fun _ hk => ⟨hk.1.2, hk.2⟩)) hg hat)).2.2) KL52.out))
                                        have n5_ := Aside0.mk ((show Kd.C (Kd.int .i64) w56 A53 y383.length y383 from by rw [Ny383.out, KA53.out]; exact Kd.C_drop (m := 1) (c := co49) ((Kd.R_reads' (Kd.R_after (ok := (fun k_ => some k_ ≠ (v371 : Value).ownBlock)) (by (with_reducible repeat (first | apply Kd.R_alloc | apply Kd.R_drewN | apply Kd.R_drew)); exact Kd.R_mono HO_10.out (fun _ hk => ⟨hk.1.2, hk.2⟩)) hg hat)).2.2) KL53.out ((Kd.R_reads' (Kd.R_after (ok := (fun k_ => some k_ ≠ (v371 : Value).ownBlock)) (by (with_reducible repeat (first | apply Kd.R_alloc | apply Kd.R_drewN | apply Kd.R_drew)); exact Kd.R_mono HO_10.out (fun _ hk => ⟨hk.1.2, hk.2⟩)) hg hat)).2.1)))
                                        have n6_ := Aside0.mk (ho)
                                        clear HO_8
                                        clear HO_10
                                        clear HO372
                                        clear HB
                                        clear HR379
                                        clear HR386
                                        clear HO375
                                        have HO_8 := n0_
                                        have HO_10 := n1_
                                        have HO372 := n2_
                                        have HB := n3_
                                        have HR379 := n4_
                                        have HR386 := n5_
                                        have HO382 := n6_
                                        clear n0_ n1_ n2_ n3_ n4_ n5_ n6_
                                        clear ho hb hg hat
                                        refine hK.out _ _ trivial (fun hHeld => ?_)
                                        clear hK K
                                        refine norm_ (a' := ?_) ?_ ?_
                                        rotate_left
                                        · show Act.put _ (some 92) _ = _
                                          simp only [Act.put, List.setIfInBounds_toArray, List.set_cons_zero, List.set_cons_succ, i64_w, i32_w]
                                          rfl
                                        refine one_ (i := 9) (N := some 97) #[true, true, true, true, true, true, true, true, true, true, false] rfl rfl (one_of HT_.out (by kernel_rfl)) (by decide) (fun K hK => ?_)
                                        refine Kd.R_append_rows_step (Kd.int .i64) (w0 := w) w.heap.size (by rfl) (.tmp 92) (.tmp 96) 23 3 (.int .i64 0) 8 rfl Try.underlying23 info3 rfl (by decide) (by omega) v381 y380 y383 _ _ _ (fun k_ => some k_ ≠ (.slice (some ad369) x10_4.length co49 : Value).ownBlock ∧ some k_ ≠ (v371 : Value).ownBlock) (fun _ => False) rfl rfl ?aO ?aR (fun _ _ h => h) (fun _ h => h.elim) ?aF ?aB ?aS ?aL ?_
                                        (case aR => repeat (first | exact (by repeat (first | (with_reducible exact HR386.out) | (with_reducible refine Kd.C_alloc ?_ _) | (with_reducible refine Kd.C_drewN ?_ _) | (with_reducible refine Kd.C_drew ?_) | exact HR386.out)) | (with_reducible refine Kd.C_alloc ?_ _) | (with_reducible refine Kd.C_drewN ?_ _) | (with_reducible refine Kd.C_drew ?_)))
                                        (case aB => exact (by repeat (first | (with_reducible first | exact HB.out | apply below_alloc | apply pw_below_drewN | apply below_drew1) | exact HB.out)))
                                        (case aF => exact (fun k_ hk => ⟨Kd.fresh' (Kd.R_lt (by (with_reducible repeat (first | apply Kd.R_alloc | apply Kd.R_drewN | apply Kd.R_drew)); exact HO_10.out)) k_ hk, Kd.fresh' (Kd.R_lt (by (with_reducible repeat (first | apply Kd.R_alloc | apply Kd.R_drewN | apply Kd.R_drew)); exact HO372.out)) k_ hk⟩))
                                        (case aO => exact (by (with_reducible repeat (first | apply Kd.R_alloc | apply Kd.R_drewN | apply Kd.R_drew)); exact HO382.out))
                                        (case aS => exact (below_size (by repeat (first | (with_reducible first | exact HB.out | apply below_alloc | apply pw_below_drewN | apply below_drew1) | exact HB.out))))
                                        (case aL => have := LMc48.out; omega)
                                        intro v388 w57 ho hb hg hat
                                        rw [← Ny387.out] at ho
                                        have n0_ := Aside0.mk (Kd.S_over' (by (with_reducible repeat (first | apply Kd.S_alloc | apply Kd.S_drewN | apply Kd.S_drew)); exact HO_8.out) (Kd.R_typed (by (with_reducible repeat (first | apply Kd.R_alloc | apply Kd.R_drewN | apply Kd.R_drew)); exact HO382.out)) (by decide) hg)
                                        have n1_ := Aside0.mk (Kd.R_after (ok := (fun k_ => some k_ ≠ (v371 : Value).ownBlock)) (by (with_reducible repeat (first | apply Kd.R_alloc | apply Kd.R_drewN | apply Kd.R_drew)); exact HO_10.out) hg hat)
                                        have n2_ := Aside0.mk (Kd.R_after (ok := (fun k_ => some k_ ≠ (.slice (some ad369) x10_4.length co49 : Value).ownBlock)) (by (with_reducible repeat (first | apply Kd.R_alloc | apply Kd.R_drewN | apply Kd.R_drew)); exact HO372.out) hg hat)
                                        have n3_ := Aside0.mk (hb)
                                        have n4_ := Aside0.mk ((show Kd.C (Kd.int .i64) w57 (some ad369) y376.length y376 from by rw [Ny376.out]; exact Kd.C_take (m := 0) ((Kd.R_reads' (Kd.R_after (ok := (fun k_ => some k_ ≠ (v371 : Value).ownBlock)) (by (with_reducible repeat (first | apply Kd.R_alloc | apply Kd.R_drewN | apply Kd.R_drew)); exact HO_10.out) hg hat)).2.2) KL52.out))
                                        have n5_ := Aside0.mk ((show Kd.C (Kd.int .i64) w57 A53 y383.length y383 from by rw [Ny383.out, KA53.out]; exact Kd.C_drop (m := 1) (c := co49) ((Kd.R_reads' (Kd.R_after (ok := (fun k_ => some k_ ≠ (v371 : Value).ownBlock)) (by (with_reducible repeat (first | apply Kd.R_alloc | apply Kd.R_drewN | apply Kd.R_drew)); exact HO_10.out) hg hat)).2.2) KL53.out ((Kd.R_reads' (Kd.R_after (ok := (fun k_ => some k_ ≠ (v371 : Value).ownBlock)) (by (with_reducible repeat (first | apply Kd.R_alloc | apply Kd.R_drewN | apply Kd.R_drew)); exact HO_10.out) hg hat)).2.1)))
                                        have n6_ := Aside0.mk (ho)
                                        clear HO_8
                                        clear HO_10
                                        clear HO372
                                        clear HB
                                        clear HR379
                                        clear HR386
                                        clear HO382
                                        have HO_8 := n0_
                                        have HO_10 := n1_
                                        have HO372 := n2_
                                        have HB := n3_
                                        have HR379 := n4_
                                        have HR386 := n5_
                                        have HO389 := n6_
                                        clear n0_ n1_ n2_ n3_ n4_ n5_ n6_
                                        clear ho hb hg hat
                                        refine hK.out _ _ trivial (fun hHeld => ?_)
                                        clear hK K
                                        refine norm_ (a' := ?_) ?_ ?_
                                        rotate_left
                                        · show Act.put _ (some 97) _ = _
                                          simp only [Act.put, List.setIfInBounds_toArray, List.set_cons_zero, List.set_cons_succ, i64_w, i32_w]
                                          rfl
                                        refine pure_ (i := 10) (N := some 10) (v := ?_) (a' := ?_) #[true, true, true, true, true, true, true, true, true, true, true] rfl rfl (any_of HT_.out (by kernel_rfl)) (fun _ _ _ h => h) (Or.inl ⟨by rfl, ?_⟩) ?_ ?_
                                        rotate_left
                                        · intro w'
                                          go_simp
                                          with_reducible rfl
                                        rotate_left
                                        · simp only [Act.put, List.setIfInBounds_toArray, List.set_cons_zero, List.set_cons_succ, i64_w, i32_w]
                                          rfl
                                        refine done_ (done_of HT_.out (by kernel_rfl)) ?_
                                        try go_wp2
                                        go_roundg k4
                                        case measure => have := HJ5.out; have := HJ10.out; have := HK3.out; have := HK4.out; omega
                                        case rel => exact ⟨(y387), (y370), (wrap64 (x13_4 + 1)), (by first | rfl | (simp; done) | (simp [*]; done)), H', ⟨by have := HJ5.out; have := HJ10.out; have := HK3.out; have := HK4.out; omega⟩, ⟨by (with_reducible repeat (first | apply Kd.S_alloc | apply Kd.S_drewN | apply Kd.S_drew)); exact HO_8.out⟩, ⟨by (with_reducible repeat (first | apply Kd.R_alloc | apply Kd.R_drewN | apply Kd.R_drew)); exact Kd.R_mono HO389.out (fun _ hk => hk.2)⟩, ⟨by (with_reducible repeat (first | apply Kd.R_alloc | apply Kd.R_drewN | apply Kd.R_drew)); exact Kd.R_mono HO372.out (fun _ hk => hk.2)⟩, ⟨by repeat (first | (with_reducible first | exact HB.out | apply below_alloc | apply pw_below_drewN | apply below_drew1) | exact HB.out)⟩⟩
                                      · rw [if_neg c48] at H
                                        exact absurd H (by simp)
                                    · rw [if_neg c47] at H
                                      exact absurd H (by simp)
                                  · rw [if_neg c46] at H
                                    exact absurd H (by simp)
                                · rw [if_neg c45] at H
                                  exact absurd H (by simp)
                              · rw [if_neg c44] at H
                                exact absurd H (by simp)
                            · rw [if_neg c43] at H
                              exact absurd H (by simp)
                        · rw [if_neg c20] at H
                          have c20b0 : decide (x13_4 < a0) = false := decide_eq_false c20
                          clear c20
                          replace H := Option.bind_eq_some_iff.mp H
                          obtain ⟨⟨t390, t391⟩, A580, H⟩ := H
                          replace H : ((matrix_Invert.f t390).bind fun bt394 => (if t338 = true then (if t391 = 0 then (some (bt394.2 == 0)) else (some false)) else (some false))) = some r := H
                          have A58 := Aside0.mk A580
                          clear A580
                          replace H := Option.bind_eq_some_iff.mp H
                          obtain ⟨⟨t394, t395⟩, A590, H⟩ := H
                          replace H : (if t338 = true then (if t391 = 0 then (some (t395 == 0)) else (some false)) else (some false)) = some r := H
                          have A59 := Aside0.mk A590
                          clear A590
                          by_cases c60 : t338 = true
                          · subst c60
                            have H1 : (if t391 = 0 then (some (t395 == 0)) else (some false)) = some r := by rw [if_pos rfl] at H; exact H
                            clear H
                            have H := H1
                            clear H1
                            by_cases c61 : t391 = 0
                            · rw [if_pos c61] at H
                              have c61b0 : (t391 == 0) = true := beq_iff_eq.mpr c61
                              have c61b1 : (t391 != 0) = false := bne_eq_false_iff_eq.mpr c61
                              clear c61
                              obtain rfl := Option.some.inj H
                              obtain ⟨Ao62, co62, eo62⟩ := Kd.S_slice HO_8.out
                              subst eo62
                              obtain ⟨Ao63, co63, eo63⟩ := Kd.R_slice HO_11.out
                              subst eo63
                              go_wp2_with (first | ((with_reducible refine gate_callee (f := 16) rfl ?_); refine goesL_ (some 101) rfl rfl Try.func16 (by kernel_rfl) rfl #[.slice Ao62 t339.length co62, .slice Ao63 x11_4.length co63] rfl (by (try simp only [List.map_toArray, List.map_cons, List.map_nil]); first | done | rfl | (simp only [List.length_drop, List.length_take]; rfl)) ?_; (with_reducible refine (matrix_Pick.calls k4 _ _ t339 _ _ x11_4 t390 t391 _ ?side1 ?side2 ?side3 ?side4 A58.out).mono ?_); (case side1 => repeat (first | exact (Kd.S_reads' HO_8.out).2.2 | (with_reducible refine Kd.C_alloc ?_ _) | (with_reducible refine Kd.C_drewN ?_ _) | (with_reducible refine Kd.C_drew ?_))); (case side2 => exact (Kd.S_reads' HO_8.out).2.1); (case side3 => repeat (first | exact (Kd.R_reads' HO_11.out).2.2 | (with_reducible refine Kd.C_alloc ?_ _) | (with_reducible refine Kd.C_drewN ?_ _) | (with_reducible refine Kd.C_drew ?_))); (case side4 => exact (Kd.R_reads' HO_11.out).2.1); rintro e w64 ⟨v392, rfl, ho0, hb⟩; refine ⟨_, rfl, ?_⟩; have n0_ := Aside0.mk (Kd.S_elder' (by (with_reducible repeat (first | apply Kd.S_alloc | apply Kd.S_drewN | apply Kd.S_drew)); exact HO_8.out) (Kd.S_base ho0) hb); have n1_ := Aside0.mk (Kd.R_below (by (with_reducible repeat (first | apply Kd.R_alloc | apply Kd.R_drewN | apply Kd.R_drew)); exact HO_10.out) hb); have n2_ := Aside0.mk (Kd.R_below (by (with_reducible repeat (first | apply Kd.R_alloc | apply Kd.R_drewN | apply Kd.R_drew)); exact HO_11.out) hb); have n3_ := Aside0.mk (Kd.S_lower (Kd.S_new' ho0 (Kd.S_lt (by (with_reducible repeat (first | apply Kd.S_alloc | apply Kd.S_drewN | apply Kd.S_drew)); exact HO_8.out))) (below_size (by repeat (first | (with_reducible first | exact HB.out | apply below_alloc | apply pw_below_drewN | apply below_drew1) | exact HB.out)))); have n4_ := Aside0.mk (below_step (by repeat (first | (with_reducible first | exact HB.out | apply below_alloc | apply pw_below_drewN | apply below_drew1) | exact HB.out)) hb); clear HO_8; clear HO_10; clear HO_11; clear HB; have HO_8 := n0_; have HO_10 := n1_; have HO_11 := n2_; have HO393 := n3_; have HB := n4_; clear n0_ n1_ n2_ n3_ n4_; (try clear hb); (try clear hb2); (try clear hk); (try clear hi); (try clear ho0); obtain ⟨Ao65, co65, eo65⟩ := Kd.S_slice HO393.out; subst eo65) | ((with_reducible refine gate_callee (f := 29) rfl ?_); refine goesL_ (some 106) rfl rfl Try.func29 (by kernel_rfl) rfl #[.slice Ao65 t390.length co65] rfl (by (try simp only [List.map_toArray, List.map_cons, List.map_nil]); first | done | rfl | (simp only [List.length_drop, List.length_take]; rfl)) ?_; (with_reducible refine (matrix_Invert.calls _ _ t390 t394 t395 _ ?side1 ?side2 A59.out).mono ?_); (case side1 => repeat (first | exact (Kd.S_reads' HO393.out).2.2 | (with_reducible refine Kd.C_alloc ?_ _) | (with_reducible refine Kd.C_drewN ?_ _) | (with_reducible refine Kd.C_drew ?_))); (case side2 => exact (Kd.S_reads' HO393.out).2.1); rintro e w66 ⟨v396, rfl, ho0, hb⟩; refine ⟨_, rfl, ?_⟩; have n0_ := Aside0.mk (Kd.S_elder' (by (with_reducible repeat (first | apply Kd.S_alloc | apply Kd.S_drewN | apply Kd.S_drew)); exact HO_8.out) (Kd.S_base ho0) hb); have n1_ := Aside0.mk (Kd.R_below (by (with_reducible repeat (first | apply Kd.R_alloc | apply Kd.R_drewN | apply Kd.R_drew)); exact HO_10.out) hb); have n2_ := Aside0.mk (Kd.R_below (by (with_reducible repeat (first | apply Kd.R_alloc | apply Kd.R_drewN | apply Kd.R_drew)); exact HO_11.out) hb); have n3_ := Aside0.mk (Kd.S_elder' (by (with_reducible repeat (first | apply Kd.S_alloc | apply Kd.S_drewN | apply Kd.S_drew)); exact HO393.out) (Kd.S_base ho0) hb); have n4_ := Aside0.mk (Kd.S_lower (Kd.S_new' (Kd.S_new' ho0 (Kd.S_lt (by (with_reducible repeat (first | apply Kd.S_alloc | apply Kd.S_drewN | apply Kd.S_drew)); exact HO_8.out))) (Kd.S_lt (by (with_reducible repeat (first | apply Kd.S_alloc | apply Kd.S_drewN | apply Kd.S_drew)); exact HO393.out))) (below_size (by repeat (first | (with_reducible first | exact HB.out | apply below_alloc | apply pw_below_drewN | apply below_drew1) | exact HB.out)))); have n5_ := Aside0.mk (below_step (by repeat (first | (with_reducible first | exact HB.out | apply below_alloc | apply pw_below_drewN | apply below_drew1) | exact HB.out)) hb); clear HO_8; clear HO_10; clear HO_11; clear HO393; clear HB; have HO_8 := n0_; have HO_10 := n1_; have HO_11 := n2_; have HO393 := n3_; have HO397 := n4_; have HB := n5_; clear n0_ n1_ n2_ n3_ n4_ n5_; (try clear hb); (try clear hb2); (try clear hk); (try clear hi); (try clear ho0)))
                              go_ret
                              exact ⟨by first | rfl | (simp [errW_none, errW_some] <;> rfl) | (simp [*, errW_none, errW_some] <;> rfl), by repeat (first | (with_reducible first | exact HB.out | apply below_alloc | apply pw_below_drewN | apply below_drew1) | exact HB.out)⟩
                            · rw [if_neg c61] at H
                              have c61b0 : (t391 == 0) = false := beq_eq_false_iff_ne.mpr c61
                              have c61b1 : (t391 != 0) = true := bne_iff_ne.mpr c61
                              obtain rfl := Option.some.inj H
                              obtain ⟨Ao67, co67, eo67⟩ := Kd.S_slice HO_8.out
                              subst eo67
                              obtain ⟨Ao68, co68, eo68⟩ := Kd.R_slice HO_11.out
                              subst eo68
                              go_wp2_with (first | ((with_reducible refine gate_callee (f := 16) rfl ?_); refine goesL_ (some 101) rfl rfl Try.func16 (by kernel_rfl) rfl #[.slice Ao67 t339.length co67, .slice Ao68 x11_4.length co68] rfl (by (try simp only [List.map_toArray, List.map_cons, List.map_nil]); first | done | rfl | (simp only [List.length_drop, List.length_take]; rfl)) ?_; (with_reducible refine (matrix_Pick.calls k4 _ _ t339 _ _ x11_4 t390 t391 _ ?side1 ?side2 ?side3 ?side4 A58.out).mono ?_); (case side1 => repeat (first | exact (Kd.S_reads' HO_8.out).2.2 | (with_reducible refine Kd.C_alloc ?_ _) | (with_reducible refine Kd.C_drewN ?_ _) | (with_reducible refine Kd.C_drew ?_))); (case side2 => exact (Kd.S_reads' HO_8.out).2.1); (case side3 => repeat (first | exact (Kd.R_reads' HO_11.out).2.2 | (with_reducible refine Kd.C_alloc ?_ _) | (with_reducible refine Kd.C_drewN ?_ _) | (with_reducible refine Kd.C_drew ?_))); (case side4 => exact (Kd.R_reads' HO_11.out).2.1); rintro e w69 ⟨v392, rfl, ho0, hb⟩; refine ⟨_, rfl, ?_⟩; have n0_ := Aside0.mk (Kd.S_elder' (by (with_reducible repeat (first | apply Kd.S_alloc | apply Kd.S_drewN | apply Kd.S_drew)); exact HO_8.out) (Kd.S_base ho0) hb); have n1_ := Aside0.mk (Kd.R_below (by (with_reducible repeat (first | apply Kd.R_alloc | apply Kd.R_drewN | apply Kd.R_drew)); exact HO_10.out) hb); have n2_ := Aside0.mk (Kd.R_below (by (with_reducible repeat (first | apply Kd.R_alloc | apply Kd.R_drewN | apply Kd.R_drew)); exact HO_11.out) hb); have n3_ := Aside0.mk (Kd.S_lower (Kd.S_new' ho0 (Kd.S_lt (by (with_reducible repeat (first | apply Kd.S_alloc | apply Kd.S_drewN | apply Kd.S_drew)); exact HO_8.out))) (below_size (by repeat (first | (with_reducible first | exact HB.out | apply below_alloc | apply pw_below_drewN | apply below_drew1) | exact HB.out)))); have n4_ := Aside0.mk (below_step (by repeat (first | (with_reducible first | exact HB.out | apply below_alloc | apply pw_below_drewN | apply below_drew1) | exact HB.out)) hb); clear HO_8; clear HO_10; clear HO_11; clear HB; have HO_8 := n0_; have HO_10 := n1_; have HO_11 := n2_; have HO393 := n3_; have HB := n4_; clear n0_ n1_ n2_ n3_ n4_; (try clear hb); (try clear hb2); (try clear hk); (try clear hi); (try clear ho0); obtain ⟨Ao70, co70, eo70⟩ := Kd.S_slice HO393.out; subst eo70) | ((with_reducible refine gate_callee (f := 29) rfl ?_); refine goesL_ (some 106) rfl rfl Try.func29 (by kernel_rfl) rfl #[.slice Ao70 t390.length co70] rfl (by (try simp only [List.map_toArray, List.map_cons, List.map_nil]); first | done | rfl | (simp only [List.length_drop, List.length_take]; rfl)) ?_; (with_reducible refine (matrix_Invert.calls _ _ t390 t394 t395 _ ?side1 ?side2 A59.out).mono ?_); (case side1 => repeat (first | exact (Kd.S_reads' HO393.out).2.2 | (with_reducible refine Kd.C_alloc ?_ _) | (with_reducible refine Kd.C_drewN ?_ _) | (with_reducible refine Kd.C_drew ?_))); (case side2 => exact (Kd.S_reads' HO393.out).2.1); rintro e w71 ⟨v396, rfl, ho0, hb⟩; refine ⟨_, rfl, ?_⟩; have n0_ := Aside0.mk (Kd.S_elder' (by (with_reducible repeat (first | apply Kd.S_alloc | apply Kd.S_drewN | apply Kd.S_drew)); exact HO_8.out) (Kd.S_base ho0) hb); have n1_ := Aside0.mk (Kd.R_below (by (with_reducible repeat (first | apply Kd.R_alloc | apply Kd.R_drewN | apply Kd.R_drew)); exact HO_10.out) hb); have n2_ := Aside0.mk (Kd.R_below (by (with_reducible repeat (first | apply Kd.R_alloc | apply Kd.R_drewN | apply Kd.R_drew)); exact HO_11.out) hb); have n3_ := Aside0.mk (Kd.S_elder' (by (with_reducible repeat (first | apply Kd.S_alloc | apply Kd.S_drewN | apply Kd.S_drew)); exact HO393.out) (Kd.S_base ho0) hb); have n4_ := Aside0.mk (Kd.S_lower (Kd.S_new' (Kd.S_new' ho0 (Kd.S_lt (by (with_reducible repeat (first | apply Kd.S_alloc | apply Kd.S_drewN | apply Kd.S_drew)); exact HO_8.out))) (Kd.S_lt (by (with_reducible repeat (first | apply Kd.S_alloc | apply Kd.S_drewN | apply Kd.S_drew)); exact HO393.out))) (below_size (by repeat (first | (with_reducible first | exact HB.out | apply below_alloc | apply pw_below_drewN | apply below_drew1) | exact HB.out)))); have n5_ := Aside0.mk (below_step (by repeat (first | (with_reducible first | exact HB.out | apply below_alloc | apply pw_below_drewN | apply below_drew1) | exact HB.out)) hb); clear HO_8; clear HO_10; clear HO_11; clear HO393; clear HB; have HO_8 := n0_; have HO_10 := n1_; have HO_11 := n2_; have HO393 := n3_; have HO397 := n4_; have HB := n5_; clear n0_ n1_ n2_ n3_ n4_ n5_; (try clear hb); (try clear hb2); (try clear hk); (try clear hi); (try clear ho0)))
                              go_ret
                              exact ⟨by first | rfl | (simp [errW_none, errW_some] <;> rfl) | (simp [*, errW_none, errW_some] <;> rfl), by repeat (first | (with_reducible first | exact HB.out | apply below_alloc | apply pw_below_drewN | apply below_drew1) | exact HB.out)⟩
                          · replace c60 := Bool.eq_false_iff.mpr c60
                            subst c60
                            have H1 : (some false) = some r := by rw [if_neg (show ¬ (false = true) by decide)] at H; exact H
                            clear H
                            have H := H1
                            clear H1
                            obtain rfl := Option.some.inj H
                            obtain ⟨Ao72, co72, eo72⟩ := Kd.S_slice HO_8.out
                            subst eo72
                            obtain ⟨Ao73, co73, eo73⟩ := Kd.R_slice HO_11.out
                            subst eo73
                            go_wp2_with (first | ((with_reducible refine gate_callee (f := 16) rfl ?_); refine goesL_ (some 101) rfl rfl Try.func16 (by kernel_rfl) rfl #[.slice Ao72 t339.length co72, .slice Ao73 x11_4.length co73] rfl (by (try simp only [List.map_toArray, List.map_cons, List.map_nil]); first | done | rfl | (simp only [List.length_drop, List.length_take]; rfl)) ?_; (with_reducible refine (matrix_Pick.calls k4 _ _ t339 _ _ x11_4 t390 t391 _ ?side1 ?side2 ?side3 ?side4 A58.out).mono ?_); (case side1 => repeat (first | exact (Kd.S_reads' HO_8.out).2.2 | (with_reducible refine Kd.C_alloc ?_ _) | (with_reducible refine Kd.C_drewN ?_ _) | (with_reducible refine Kd.C_drew ?_))); (case side2 => exact (Kd.S_reads' HO_8.out).2.1); (case side3 => repeat (first | exact (Kd.R_reads' HO_11.out).2.2 | (with_reducible refine Kd.C_alloc ?_ _) | (with_reducible refine Kd.C_drewN ?_ _) | (with_reducible refine Kd.C_drew ?_))); (case side4 => exact (Kd.R_reads' HO_11.out).2.1); rintro e w74 ⟨v392, rfl, ho0, hb⟩; refine ⟨_, rfl, ?_⟩; have n0_ := Aside0.mk (Kd.S_elder' (by (with_reducible repeat (first | apply Kd.S_alloc | apply Kd.S_drewN | apply Kd.S_drew)); exact HO_8.out) (Kd.S_base ho0) hb); have n1_ := Aside0.mk (Kd.R_below (by (with_reducible repeat (first | apply Kd.R_alloc | apply Kd.R_drewN | apply Kd.R_drew)); exact HO_10.out) hb); have n2_ := Aside0.mk (Kd.R_below (by (with_reducible repeat (first | apply Kd.R_alloc | apply Kd.R_drewN | apply Kd.R_drew)); exact HO_11.out) hb); have n3_ := Aside0.mk (Kd.S_lower (Kd.S_new' ho0 (Kd.S_lt (by (with_reducible repeat (first | apply Kd.S_alloc | apply Kd.S_drewN | apply Kd.S_drew)); exact HO_8.out))) (below_size (by repeat (first | (with_reducible first | exact HB.out | apply below_alloc | apply pw_below_drewN | apply below_drew1) | exact HB.out)))); have n4_ := Aside0.mk (below_step (by repeat (first | (with_reducible first | exact HB.out | apply below_alloc | apply pw_below_drewN | apply below_drew1) | exact HB.out)) hb); clear HO_8; clear HO_10; clear HO_11; clear HB; have HO_8 := n0_; have HO_10 := n1_; have HO_11 := n2_; have HO393 := n3_; have HB := n4_; clear n0_ n1_ n2_ n3_ n4_; (try clear hb); (try clear hb2); (try clear hk); (try clear hi); (try clear ho0); obtain ⟨Ao75, co75, eo75⟩ := Kd.S_slice HO393.out; subst eo75) | ((with_reducible refine gate_callee (f := 29) rfl ?_); refine goesL_ (some 106) rfl rfl Try.func29 (by kernel_rfl) rfl #[.slice Ao75 t390.length co75] rfl (by (try simp only [List.map_toArray, List.map_cons, List.map_nil]); first | done | rfl | (simp only [List.length_drop, List.length_take]; rfl)) ?_; (with_reducible refine (matrix_Invert.calls _ _ t390 t394 t395 _ ?side1 ?side2 A59.out).mono ?_); (case side1 => repeat (first | exact (Kd.S_reads' HO393.out).2.2 | (with_reducible refine Kd.C_alloc ?_ _) | (with_reducible refine Kd.C_drewN ?_ _) | (with_reducible refine Kd.C_drew ?_))); (case side2 => exact (Kd.S_reads' HO393.out).2.1); rintro e w76 ⟨v396, rfl, ho0, hb⟩; refine ⟨_, rfl, ?_⟩; have n0_ := Aside0.mk (Kd.S_elder' (by (with_reducible repeat (first | apply Kd.S_alloc | apply Kd.S_drewN | apply Kd.S_drew)); exact HO_8.out) (Kd.S_base ho0) hb); have n1_ := Aside0.mk (Kd.R_below (by (with_reducible repeat (first | apply Kd.R_alloc | apply Kd.R_drewN | apply Kd.R_drew)); exact HO_10.out) hb); have n2_ := Aside0.mk (Kd.R_below (by (with_reducible repeat (first | apply Kd.R_alloc | apply Kd.R_drewN | apply Kd.R_drew)); exact HO_11.out) hb); have n3_ := Aside0.mk (Kd.S_elder' (by (with_reducible repeat (first | apply Kd.S_alloc | apply Kd.S_drewN | apply Kd.S_drew)); exact HO393.out) (Kd.S_base ho0) hb); have n4_ := Aside0.mk (Kd.S_lower (Kd.S_new' (Kd.S_new' ho0 (Kd.S_lt (by (with_reducible repeat (first | apply Kd.S_alloc | apply Kd.S_drewN | apply Kd.S_drew)); exact HO_8.out))) (Kd.S_lt (by (with_reducible repeat (first | apply Kd.S_alloc | apply Kd.S_drewN | apply Kd.S_drew)); exact HO393.out))) (below_size (by repeat (first | (with_reducible first | exact HB.out | apply below_alloc | apply pw_below_drewN | apply below_drew1) | exact HB.out)))); have n5_ := Aside0.mk (below_step (by repeat (first | (with_reducible first | exact HB.out | apply below_alloc | apply pw_below_drewN | apply below_drew1) | exact HB.out)) hb); clear HO_8; clear HO_10; clear HO_11; clear HO393; clear HB; have HO_8 := n0_; have HO_10 := n1_; have HO_11 := n2_; have HO393 := n3_; have HO397 := n4_; have HB := n5_; clear n0_ n1_ n2_ n3_ n4_ n5_; (try clear hb); (try clear hb2); (try clear hk); (try clear hi); (try clear ho0)))
                            go_ret
                            exact ⟨by first | rfl | (simp [errW_none, errW_some] <;> rfl) | (simp [*, errW_none, errW_some] <;> rfl), by repeat (first | (with_reducible first | exact HB.out | apply below_alloc | apply pw_below_drewN | apply below_drew1) | exact HB.out)⟩

/-- THE ONE PURE STATEMENT of stowagelaw02_MatrixAny: yours. -/
def stowagelaw02_MatrixAny.Pure : Prop := ∀ (a0 : Int) (a1 : Int) (l2 : List Int), (Lit.int .i64 a0).wf = true → (Lit.int .i64 a1).wf = true → l2.length ≤ maxLen → l2.length * 8 ≤ 140737488351232 → (∀ x ∈ l2, (Lit.int .i64 x).wf = true) → ∃ k, stowagelaw02_MatrixAny.f k a0 a1 l2 = some true
theorem stowagelaw02_MatrixAny.walk (P : stowagelaw02_MatrixAny.Pure) (a0 : Int) (a1 : Int) (a2 : Option Addr) (len2 cap2 : Nat) (z2 : List Int) (w : World) (w0 : (Lit.int .i64 a0).wf = true) (w1 : (Lit.int .i64 a1).wf = true) (w2 : (a2 = none ∧ len2 = 0 ∧ cap2 = 0 ∧ z2 = []) ∨ ∃ x, a2 = some x ∧ len2 ≤ cap2 ∧ cap2 ≤ maxLen ∧ z2.length = cap2 ∧ (∀ i, i < z2.length → w.cell? (x.add i) = some (.int .i64 (z2.getD i 0))) ∧ ∀ n ∈ z2, (Lit.int .i64 n).wf = true) (y2 : len2 * 8 ≤ 140737488351232) :
    Calls Try.prog 7 #[.int .i64 a0, .int .i64 a1, .slice a2 len2 cap2] w fun e w' => e = .returned (.bool true) ∧ Below w.heap.size w w' := by
  obtain ⟨l2, rfl, hr2, hm2, hw2, hc2⟩ := ReadsInt.ofRowC w2
  obtain ⟨k, h⟩ := P a0 a1 l2 w0 w1 hm2 y2 hw2
  refine (stowagelaw02_MatrixAny.calls k a0 a1 _ _ l2 true w (Kd.C_of_reads (d := (0 : Int)) (h1 := fun _ => rfl) hr2) hc2 h).mono ?_
  rintro e w' ⟨rfl, hd⟩
  exact ⟨rfl, hd⟩

end Go.Proofs.Ythmlimkmcofkfaa.P

/- Sums and matrices over the field of 256 numbers: plain laws; what sweeping a matrix with the one beside it comes to. -/
namespace Go.Proofs.Ythmlimkmcofkfaa.L
open Go.Proofs.Ythmlimkmcofkfaa.E
set_option linter.unusedVariables false

theorem byte_zero : Byte 0 := by unfold Byte; omega
theorem byte_one : Byte 1 := by unfold Byte; omega
theorem byte_nat {a : Int} (h : Byte a) : ((a.toNat : Nat) : Int) = a ∧ a.toNat < 256 := by unfold Byte at h; omega
theorem gadd_comm (a b : Int) : gadd a b = gadd b a := by unfold gadd; rw [Nat.xor_comm]
theorem gadd_assoc (a b c : Int) : gadd (gadd a b) c = gadd a (gadd b c) := by unfold gadd; simp only [Int.toNat_natCast]; rw [Nat.xor_assoc]
theorem gadd_self (a : Int) : gadd a a = 0 := by unfold gadd; simp
theorem gadd_zero {a : Int} (h : Byte a) : gadd a 0 = a := by unfold gadd; simp; exact (byte_nat h).1 ▸ by simp
theorem zero_gadd {a : Int} (h : Byte a) : gadd 0 a = a := by rw [gadd_comm, gadd_zero h]
theorem gadd_left_comm (a b c : Int) : gadd a (gadd b c) = gadd b (gadd a c) := by rw [← gadd_assoc, gadd_comm a b, gadd_assoc]
theorem gadd4 (a b c d : Int) : gadd (gadd a b) (gadd c d) = gadd (gadd a c) (gadd b d) := by rw [gadd_assoc, gadd_assoc, gadd_left_comm b c d]
theorem gmul_comm {a b : Int} (ha : Byte a) (hb : Byte b) : gmul a b = gmul b a := by unfold gmul; rw [Gf.mul_comm (byte_nat ha).2 (byte_nat hb).2]
theorem gmul_assoc {a b c : Int} (ha : Byte a) (hb : Byte b) (hc : Byte c) : gmul (gmul a b) c = gmul a (gmul b c) := by
  unfold gmul; simp only [Int.toNat_natCast]; rw [Gf.mul_assoc (byte_nat ha).2 (byte_nat hb).2 (byte_nat hc).2]
theorem gmul_gadd (a b c : Int) : gmul a (gadd b c) = gadd (gmul a b) (gmul a c) := by unfold gmul gadd; simp only [Int.toNat_natCast]; rw [Gf.mul_lin_b]
theorem gadd_gmul {a b : Int} (c : Int) (ha : Byte a) (hb : Byte b) : gmul (gadd a b) c = gadd (gmul a c) (gmul b c) := by
  unfold gmul gadd; simp only [Int.toNat_natCast]; rw [Gf.mul_lin_a _ (byte_nat ha).2 (byte_nat hb).2]
theorem gmul_zero (a : Int) : gmul a 0 = 0 := by unfold gmul; simp [Gf.mul_zero]
theorem zero_gmul (a : Int) : gmul 0 a = 0 := by unfold gmul; simp [Gf.zero_mul]
theorem gmul_one {a : Int} (h : Byte a) : gmul a 1 = a := by
  have := Gf.mul_one (byte_nat h).2
  unfold gmul; rw [show (1 : Int).toNat = 1 from rfl, this]; exact (byte_nat h).1
theorem one_gmul {a : Int} (h : Byte a) : gmul 1 a = a := by rw [gmul_comm byte_one h, gmul_one h]
theorem gmul_ginv {a : Int} (h : Byte a) (h0 : a ≠ 0) : gmul a (ginv a) = 1 := by
  have h1 := byte_nat h
  have := Gf.mul_inv h1.2 (by omega)
  unfold gmul ginv; simp only [Int.toNat_natCast]; rw [this]; rfl
theorem gmul_eq_zero {a b : Int} (ha : Byte a) (hb : Byte b) (h : gmul a b = 0) : a = 0 ∨ b = 0 := by
  have h1 := byte_nat ha
  have h2 := byte_nat hb
  unfold gmul at h
  rcases Gf.mul_eq_zero h1.2 h2.2 (by omega) with e | e
  · left; omega
  · right; omega

/-! ### Sums -/
def gsum : Nat → (Nat → Int) → Int
  | 0, _ => 0
  | n + 1, f => gadd (gsum n f) (f n)
theorem gsum_byte {f : Nat → Int} : ∀ {n : Nat}, (∀ i, i < n → Byte (f i)) → Byte (gsum n f)
  | 0, _ => byte_zero
  | n + 1, h => gadd_byte (gsum_byte (fun i hi => h i (by omega))) (h n (by omega))
theorem gsum_congr {f g : Nat → Int} : ∀ {n : Nat}, (∀ i, i < n → f i = g i) → gsum n f = gsum n g
  | 0, _ => rfl
  | n + 1, h => by simp only [gsum]; rw [gsum_congr (fun i hi => h i (by omega)), h n (by omega)]
theorem gsum_gadd (f g : Nat → Int) : ∀ n : Nat, gsum n (fun i => gadd (f i) (g i)) = gadd (gsum n f) (gsum n g)
  | 0 => by simp [gsum, gadd]
  | n + 1 => by simp only [gsum]; rw [gsum_gadd f g n, gadd4]
theorem gsum_zero : ∀ n : Nat, gsum n (fun _ => 0) = 0
  | 0 => rfl
  | n + 1 => by simp only [gsum]; rw [gsum_zero n]; rfl
theorem gmul_gsum (a : Int) (f : Nat → Int) : ∀ n : Nat, gmul a (gsum n f) = gsum n (fun i => gmul a (f i))
  | 0 => gmul_zero a
  | n + 1 => by simp only [gsum]; rw [gmul_gadd, gmul_gsum a f n]
theorem gsum_gmul {f : Nat → Int} (a : Int) : ∀ {n : Nat}, (∀ i, i < n → Byte (f i)) → gmul (gsum n f) a = gsum n (fun i => gmul (f i) a)
  | 0, _ => zero_gmul a
  | n + 1, h => by simp only [gsum]; rw [gadd_gmul a (gsum_byte (fun i hi => h i (by omega))) (h n (by omega)), gsum_gmul a (fun i hi => h i (by omega))]
theorem gsum_swap (f : Nat → Nat → Int) (m : Nat) : ∀ n : Nat, gsum n (fun i => gsum m (fun j => f i j)) = gsum m (fun j => gsum n (fun i => f i j))
  | 0 => by simp [gsum, gsum_zero]
  | n + 1 => by simp only [gsum]; rw [gsum_swap f m n, gsum_gadd]
theorem gsum_one {r : Nat} {a : Int} (ha : Byte a) : ∀ {n : Nat}, r < n → gsum n (fun i => if i = r then a else 0) = a
  | 0, h => by omega
  | n + 1, h => by
    simp only [gsum]
    by_cases e : n = r
    · subst e
      rw [if_pos rfl, gsum_congr (g := fun _ => 0) (fun i hi => if_neg (by omega)), gsum_zero, zero_gadd ha]
    · rw [if_neg e, gsum_one ha (by omega), gadd_zero ha]
/-- A sum of what two places give alone. -/
theorem gsum_at {f : Nat → Int} {n r : Nat} (hr : r < n) (hf : Byte (f r)) (h : ∀ i, i < n → i ≠ r → f i = 0) : gsum n f = f r := by
  rw [gsum_congr (g := fun i => if i = r then f r else 0) (fun i hi => ?_), gsum_one hf hr]
  by_cases e : i = r
  · subst e; simp
  · rw [if_neg e]; exact h i hi e

/-! ### Products -/
def prod (n : Nat) (A B : Nat → Nat → Int) : Nat → Nat → Int := fun i j => gsum n (fun t => gmul (A i t) (B t j))
def one : Nat → Nat → Int := fun i j => if i = j then 1 else 0
theorem prod_byte {n p q : Nat} {A B : Nat → Nat → Int} (hA : Bytes p n A) : Bytes p q (prod n A B) := fun i j hi _ => gsum_byte (fun t ht => gmul_byte (hA i t hi ht))
theorem prod_assoc {p n m q : Nat} {A B C : Nat → Nat → Int} (hA : Bytes p n A) (hB : Bytes n m B) (hC : Bytes m q C) {i j : Nat} (hi : i < p) (hj : j < q) :
    prod m (prod n A B) C i j = prod n A (prod m B C) i j := by
  unfold prod
  rw [gsum_congr (g := fun s => gsum n (fun t => gmul (gmul (A i t) (B t s)) (C s j))) (fun s hs => gsum_gmul (C s j) (fun t ht => gmul_byte (hA i t hi ht))), gsum_swap]
  refine gsum_congr (fun t ht => ?_)
  rw [gmul_gsum]
  exact gsum_congr (fun s hs => gmul_assoc (hA i t hi ht) (hB t s ht hs) (hC s j hs hj))
end Go.Proofs.Ythmlimkmcofkfaa.L

/- What sweeping a matrix with the one beside it comes to: the inverse, on either side; or a kernel. -/
namespace Go.Proofs.Ythmlimkmcofkfaa.L
open Go.Proofs.Ythmlimkmcofkfaa.E
set_option linter.unusedVariables false

theorem gmul_left_comm {a b c : Int} (ha : Byte a) (hb : Byte b) (hc : Byte c) : gmul (gmul a b) c = gmul (gmul a c) b := by
  rw [gmul_assoc ha hb hc, gmul_comm hb hc, ← gmul_assoc ha hc hb]
theorem gsum_transp {g : Nat → Int} {n r p : Nat} (hr : r < n) (hp : p < n) (hg : ∀ t, t < n → Byte (g t)) : gsum n (fun t => if t = p then g r else if t = r then g p else g t) = gsum n g := by
  by_cases e : r = p
  · subst e
    refine gsum_congr (fun t ht => ?_)
    by_cases e2 : t = r
    · subst e2; simp
    · simp [e2]
  have hd : Byte (gadd (g r) (g p)) := gadd_byte (hg r hr) (hg p hp)
  have h1 : gsum n (fun t => if t = p then g r else if t = r then g p else g t) = gsum n (fun t => gadd (g t) (gadd (if t = p then gadd (g r) (g p) else 0) (if t = r then gadd (g r) (g p) else 0))) := by
    refine gsum_congr (fun t ht => ?_)
    by_cases e1 : t = p
    · subst e1
      have e2 : ¬ t = r := fun h => e h.symm
      simp only [if_true, if_neg e2]
      rw [gadd_zero hd, gadd_left_comm, gadd_self, gadd_zero (hg r hr)]
    · by_cases e2 : t = r
      · subst e2
        simp only [if_true, if_neg e1]
        rw [zero_gadd hd, ← gadd_assoc, gadd_self, zero_gadd (hg p hp)]
      · simp only [if_neg e1, if_neg e2]
        rw [gadd_zero byte_zero, gadd_zero (hg t ht)]
  rw [h1, gsum_gadd, gsum_gadd, gsum_one hd hp, gsum_one hd hr, gadd_self, gadd_zero (gsum_byte hg)]

/-- The left half is what the right half makes of A; all is what some F makes of it, back. -/
structure Two (n : Nat) (A G M : Nat → Nat → Int) : Prop where
  b : Bytes n (n + n) M
  left : ∀ i j, i < n → j < n → M i j = gsum n (fun t => gmul (M i (n + t)) (A t j))
  right : ∃ F, Bytes n n F ∧ ∀ i j, i < n → j < n + n → G i j = gsum n (fun t => gmul (F i t) (M t j))

section
variable {n r p c : Nat} {A G M : Nat → Nat → Int}
theorem Two.swap (h : Two n A G M) (hr : r < n) (hp : p < n) : Two n A G (swapM M r p) := by
  refine ⟨swap_bytes h.b hr hp, fun i j hi hj => ?_, ?_⟩
  · unfold swapM
    by_cases e1 : i = p
    · simp only [if_pos e1]; exact h.left r j hr hj
    · by_cases e2 : i = r
      · simp only [if_neg e1, if_pos e2]; exact h.left p j hp hj
      · simp only [if_neg e1, if_neg e2]; exact h.left i j hi hj
  · obtain ⟨F, hF, hG⟩ := h.right
    refine ⟨fun i t => if t = p then F i r else if t = r then F i p else F i t, fun i t hi ht => ?_, fun i j hi hj => ?_⟩
    · simp only
      split
      · exact hF i r hi hr
      · split
        · exact hF i p hi hp
        · exact hF i t hi ht
    · rw [hG i j hi hj, ← gsum_transp hr hp (fun t ht => gmul_byte (hF i t hi ht))]
      refine gsum_congr (fun t ht => ?_)
      unfold swapM
      by_cases e1 : t = p
      · simp only [if_pos e1]
      · by_cases e2 : t = r
        · simp only [if_neg e1, if_pos e2]
        · simp only [if_neg e1, if_neg e2]
theorem Two.norm (h : Two n A G M) (hA : Bytes n n A) (hr : r < n) {f g : Int} (hf : Byte f) (hg : Byte g) (hfg : gmul f g = 1) : Two n A G (normM M r f) := by
  refine ⟨norm_bytes h.b r f, fun i j hi hj => ?_, ?_⟩
  · unfold normM
    by_cases e : i = r
    · subst e
      simp only [if_true]
      rw [h.left i j hi hj, gsum_gmul f (fun t ht => gmul_byte (h.b i _ hi (by omega)))]
      exact gsum_congr (fun t ht => gmul_left_comm (h.b i _ hi (by omega)) (hA t j ht hj) hf)
    · simp only [if_neg e]; exact h.left i j hi hj
  · obtain ⟨F, hF, hG⟩ := h.right
    refine ⟨fun i t => if t = r then gmul (F i t) g else F i t, fun i t hi ht => ?_, fun i j hi hj => ?_⟩
    · simp only
      split
      · exact gmul_byte (hF i t hi ht)
      · exact hF i t hi ht
    · rw [hG i j hi hj]
      refine gsum_congr (fun t ht => ?_)
      unfold normM
      by_cases e : t = r
      · subst e
        simp only [if_true]
        have b1 := hF i t hi ht
        have b2 := h.b t j ht hj
        rw [gmul_assoc b1 hg (gmul_byte b2), ← gmul_assoc hg b2 hf, gmul_comm hg b2, gmul_assoc b2 hg hf, gmul_comm hg hf, hfg, gmul_one b2]
      · simp only [if_neg e]
def kE (M : Nat → Nat → Int) (r c i : Nat) : Int := if i ≠ r ∧ M i c ≠ 0 then M i c else 0
theorem elim_eq {M : Nat → Nat → Int} {r c i j : Nat} (hb : Byte (M i j)) : elimM M r c i j = gadd (M i j) (gmul (kE M r c i) (M r j)) := by
  unfold elimM kE
  by_cases h : i ≠ r ∧ M i c ≠ 0
  · rw [if_pos h, if_pos h]
  · rw [if_neg h, if_neg h, zero_gmul, gadd_zero hb]
theorem kE_byte (hb : Bytes n (n + n) M) (hc : c < n) {i : Nat} (hi : i < n) : Byte (kE M r c i) := by
  unfold kE
  split
  · exact hb i c hi (by omega)
  · exact byte_zero
theorem Two.elim (h : Two n A G M) (hA : Bytes n n A) (hr : r < n) (hc : c < n) : Two n A G (elimM M r c) := by
  have hk : ∀ i, i < n → Byte (kE M r c i) := fun i hi => kE_byte h.b hc hi
  refine ⟨elim_bytes h.b (by omega), fun i j hi hj => ?_, ?_⟩
  · rw [elim_eq (h.b i j hi (by omega)), h.left i j hi hj, h.left r j hr hj, gmul_gsum, ← gsum_gadd]
    refine gsum_congr (fun t ht => ?_)
    have b1 := h.b i (n + t) hi (by omega)
    have b2 := h.b r (n + t) hr (by omega)
    rw [elim_eq b1, gadd_gmul _ b1 (gmul_byte (hk i hi)), gmul_assoc (hk i hi) b2 (hA t j ht hj)]
  · obtain ⟨F, hF, hG⟩ := h.right
    have hS : ∀ i, i < n → Byte (gsum n (fun s => gmul (F i s) (kE M r c s))) := fun i hi => gsum_byte (fun s hs => gmul_byte (hF i s hi hs))
    refine ⟨fun i t => if t = r then gadd (F i t) (gsum n (fun s => gmul (F i s) (kE M r c s))) else F i t, fun i t hi ht => ?_, fun i j hi hj => ?_⟩
    · simp only
      split
      · exact gadd_byte (hF i t hi ht) (hS i hi)
      · exact hF i t hi ht
    · have bj : ∀ t, t < n → Byte (M t j) := fun t ht => h.b t j ht hj
      have key : gsum n (fun t => gmul (if t = r then gadd (F i t) (gsum n (fun s => gmul (F i s) (kE M r c s))) else F i t) (elimM M r c t j)) =
          gsum n (fun t => gadd (gmul (F i t) (M t j)) (gadd (gmul (gmul (F i t) (kE M r c t)) (M r j)) (if t = r then gmul (gsum n (fun s => gmul (F i s) (kE M r c s))) (M r j) else 0))) := by
        refine gsum_congr (fun t ht => ?_)
        rw [elim_eq (bj t ht)]
        have b1 := hF i t hi ht
        by_cases e : t = r
        · subst e
          have k0 : kE M t c t = 0 := by unfold kE; simp
          simp only [if_true]
          rw [k0, zero_gmul, gadd_zero (bj t ht), gmul_zero, zero_gmul, zero_gadd (gmul_byte (hS i hi)), gadd_gmul _ b1 (hS i hi)]
        · simp only [if_neg e]
          rw [gmul_gadd, ← gmul_assoc b1 (hk t ht) (bj r hr), gadd_zero (gmul_byte (gmul_byte b1))]
      rw [hG i j hi hj, key, gsum_gadd, gsum_gadd, gsum_one (gmul_byte (hS i hi)) hr, ← gsum_gmul (M r j) (fun t ht => gmul_byte (hF i t hi ht)), gadd_self, gadd_zero (gsum_byte (fun t ht => gmul_byte (hF i t hi ht)))]

/-- How far the left half is the one. -/
structure State (n c : Nat) (A G : Nat → Nat → Int) (s : Nat × (Nat → Nat → Int)) : Prop where
  two : Two n A G s.2
  le : s.1 ≤ c
  id : s.1 = c → ∀ i j, i < n → j < c → s.2 i j = one i j

theorem piv_zero (M : Nat → Nat → Int) (c n : Nat) : ∀ k a, piv M c n k a = n → n ≤ a + k → ∀ i, a ≤ i → i < n → M i c = 0
  | 0, a, h, h2, i, h3, h4 => by omega
  | k + 1, a, h, h2, i, h3, h4 => by
    simp only [piv] at h
    by_cases e : a < n ∧ M a c = 0
    · rw [if_pos e] at h
      by_cases e2 : i = a
      · subst e2; exact e.2
      · exact piv_zero M c n k (a + 1) h (by omega) i (by omega) h4
    · rw [if_neg e] at h; omega
theorem State.step {s : Nat × (Nat → Nat → Int)} (h : State n c A G s) (hA : Bytes n n A) (hc : c < n) : State n (c + 1) A G (stepM n c s) := by
  obtain ⟨r, M⟩ := s
  have hb := h.two.b
  have hle : r ≤ c := h.le
  have hge := piv_ge M c n (n - r) r
  have hpl := piv_le M c n (n - r) r (by omega)
  have hne := piv_ne M c n (n - r) r (by omega)
  simp only [stepM]
  by_cases e : piv M c n (n - r) r = n
  · rw [if_pos e]
    exact ⟨h.two, by show r ≤ c + 1; omega, fun e2 => by exfalso; have : r = c + 1 := e2; omega⟩
  · rw [if_neg e]
    generalize piv M c n (n - r) r = p at *
    have hp : p < n := by omega
    have hpv := hne hp
    have t1 := h.two.swap (show r < n by omega) hp
    have hs : swapM M r p r c = M p c := by
      unfold swapM
      by_cases e2 : r = p
      · subst e2; simp
      · simp [e2]
    have hbp : Byte (swapM M r p r c) := t1.b r c (by omega) (by omega)
    have hnz : swapM M r p r c ≠ 0 := by rw [hs]; exact hpv
    have t2 := t1.norm hA (show r < n by omega) (ginv_byte hbp) hbp (by rw [gmul_comm (ginv_byte hbp) hbp]; exact gmul_ginv hbp hnz)
    have t3 := t2.elim hA (show r < n by omega) hc
    refine ⟨t3, by show r + 1 ≤ c + 1; omega, fun e2 i j hi hj => ?_⟩
    have hrc : r = c := by have : r + 1 = c + 1 := e2; omega
    have hid : ∀ i j, i < n → j < c → M i j = one i j := h.id hrc
    subst hrc
    show elimM (normM (swapM M r p) r (ginv (swapM M r p r r))) r r i j = one i j
    rw [elim_eq (t2.b i j hi (by omega))]
    by_cases ej : j = r
    · subst ej
      have h1 : normM (swapM M j p) j (ginv (swapM M j p j j)) j j = 1 := by unfold normM; rw [if_pos rfl]; exact gmul_ginv hbp hnz
      rw [h1]
      by_cases ei : i = j
      · subst ei
        rw [h1]
        have k0 : kE (normM (swapM M i p) i (ginv (swapM M i p i i))) i i i = 0 := by unfold kE; simp
        rw [k0, zero_gmul, gadd_zero byte_one]; simp [one]
      · have kk : kE (normM (swapM M j p) j (ginv (swapM M j p j j))) j j i = normM (swapM M j p) j (ginv (swapM M j p j j)) i j := by
          unfold kE
          by_cases z : normM (swapM M j p) j (ginv (swapM M j p j j)) i j = 0
          · rw [if_neg (fun hh => hh.2 z), z]
          · rw [if_pos ⟨ei, z⟩]
        rw [kk, gmul_one (t2.b i j hi (by omega)), gadd_self]; simp [one, ei]
    · have hjr : j < r := by omega
      have hrow : ∀ i, i < n → swapM M r p i j = one i j := by
        intro i hi
        unfold swapM
        by_cases e1 : i = p
        · rw [if_pos e1, hid r j (by omega) hjr]
          simp [one, show ¬ r = j by omega, show ¬ i = j by omega]
        · rw [if_neg e1]
          by_cases e3 : i = r
          · rw [if_pos e3, hid p j hp hjr]
            simp [one, show ¬ p = j by omega, show ¬ i = j by omega]
          · rw [if_neg e3, hid i j hi hjr]
      have hrz : normM (swapM M r p) r (ginv (swapM M r p r r)) r j = 0 := by
        unfold normM
        rw [if_pos rfl, hrow r (by omega)]
        simp [one, show ¬ r = j by omega, zero_gmul]
      rw [hrz, gmul_zero, gadd_zero (t2.b i j hi (by omega))]
      unfold normM
      by_cases e3 : i = r
      · rw [if_pos e3, hrow i hi]
        simp [one, show ¬ i = j by omega, zero_gmul]
      · rw [if_neg e3, hrow i hi]
end

/-- G is A with the one beside it. -/
def Aug (n : Nat) (A G : Nat → Nat → Int) : Prop := ∀ i, i < n → (∀ j, j < n → G i j = A i j) ∧ ∀ j, j < n → G i (n + j) = one i j
theorem aug_bytes' {n : Nat} {A G : Nat → Nat → Int} (h : Aug n A G) (hA : Bytes n n A) : Bytes n (n + n) G := by
  intro i j hi hj
  by_cases e : j < n
  · rw [(h i hi).1 j e]; exact hA i j hi e
  · rw [show j = n + (j - n) by omega, (h i hi).2 (j - n) (by omega)]
    unfold one; split <;> (unfold Byte; omega)
theorem one_byte (i j : Nat) : Byte (one i j) := by unfold one; split <;> (unfold Byte; omega)
theorem one_prod {n i : Nat} {f : Nat → Int} (hi : i < n) (hf : Byte (f i)) : gsum n (fun t => gmul (one i t) (f t)) = f i := by
  rw [gsum_at hi (gmul_byte (one_byte i i)) (fun t ht e => by unfold one; rw [if_neg (fun h => e h.symm), zero_gmul])]
  unfold one; rw [if_pos rfl, one_gmul hf]
theorem start {n : Nat} {A G : Nat → Nat → Int} (h : Aug n A G) (hA : Bytes n n A) : State n 0 A G (0, G) := by
  have hG := aug_bytes' h hA
  refine ⟨⟨hG, fun i j hi hj => ?_, ⟨one, fun i j _ _ => one_byte i j, fun i j hi hj => (one_prod (f := fun t => G t j) hi (hG i j hi hj)).symm⟩⟩, Nat.le_refl _, fun _ i j _ hj => by omega⟩
  show G i j = _
  rw [(h i hi).1 j hj, gsum_congr (g := fun t => gmul (one i t) (A t j)) (fun t ht => by show gmul (G i (n + t)) (A t j) = _; rw [(h i hi).2 t ht]), one_prod (f := fun t => A t j) hi (hA i j hi hj)]
theorem states {n : Nat} {A G : Nat → Nat → Int} (h : Aug n A G) (hA : Bytes n n A) : ∀ c, c ≤ n → State n c A G (sweepM n c (0, G))
  | 0, _ => start h hA
  | c + 1, hc => (states h hA c (by omega)).step hA (by omega)

/-- Where all columns have a pivot, the right half is the inverse, on either side. -/
theorem inverse {n : Nat} {A G : Nat → Nat → Int} (h : Aug n A G) (hA : Bytes n n A) (hr : (sweepM n n (0, G)).1 = n) :
    Bytes n n (fun i j => (sweepM n n (0, G)).2 i (n + j)) ∧ (∀ i j, i < n → j < n → prod n (fun i j => (sweepM n n (0, G)).2 i (n + j)) A i j = one i j) ∧
      ∀ i j, i < n → j < n → prod n A (fun i j => (sweepM n n (0, G)).2 i (n + j)) i j = one i j := by
  have hs := states h hA n (Nat.le_refl _)
  generalize sweepM n n (0, G) = s at *
  have hid := hs.id hr
  have hb : Bytes n n (fun i j => s.2 i (n + j)) := fun i j hi hj => hs.two.b i (n + j) hi (by omega)
  refine ⟨hb, fun i j hi hj => ?_, fun i j hi hj => ?_⟩
  · show gsum n (fun t => gmul (s.2 i (n + t)) (A t j)) = _
    rw [← hs.two.left i j hi hj, hid i j hi hj]
  · obtain ⟨F, hF, hG⟩ := hs.two.right
    have hFA : ∀ i t, i < n → t < n → A i t = F i t := by
      intro i t hi ht
      rw [← (h i hi).1 t ht, hG i t hi (by omega), gsum_congr (g := fun q => gmul (F i q) (one q t)) (fun q hq => by rw [hid q t hq ht])]
      rw [gsum_at ht (gmul_byte (hF i t hi ht)) (fun q hq e => by unfold one; rw [if_neg e, gmul_zero])]
      unfold one; rw [if_pos rfl, gmul_one (hF i t hi ht)]
    show gsum n (fun t => gmul (A i t) (s.2 t (n + j))) = _
    rw [gsum_congr (g := fun t => gmul (F i t) (s.2 t (n + j))) (fun t ht => by rw [hFA i t hi ht]), ← hG i (n + j) hi (by omega), (h i hi).2 j hj]

/-- Where a column has none, A has a kernel. -/
theorem kernel_at {n c : Nat} {A G : Nat → Nat → Int} {s : Nat × (Nat → Nat → Int)} (hs : State n c A G s) (h : Aug n A G) (hc : c < n) (hr : s.1 = c) (hp : piv s.2 c n (n - s.1) s.1 = n) :
    ∃ x : Nat → Int, (∀ j, j < n → Byte (x j)) ∧ x c = 1 ∧ ∀ i, i < n → gsum n (fun j => gmul (A i j) (x j)) = 0 := by
  have hb := hs.two.b
  have hz := piv_zero s.2 c n (n - s.1) s.1 hp (by omega)
  have hid := hs.id hr
  obtain ⟨F, hF, hG⟩ := hs.two.right
  have hx : ∀ j, j < n → Byte ((fun j => if j = c then 1 else if j < c then s.2 j c else 0 : Nat → Int) j) := by
    intro j hj
    simp only
    split
    · exact byte_one
    · split
      · exact hb j c hj (by omega)
      · exact byte_zero
  refine ⟨fun j => if j = c then 1 else if j < c then s.2 j c else 0, hx, by simp, fun i hi => ?_⟩
  have hM : ∀ t, t < n → gsum n (fun j => gmul (s.2 t j) ((fun j => if j = c then 1 else if j < c then s.2 j c else 0 : Nat → Int) j)) = 0 := by
    intro t ht
    have e1 : gsum n (fun j => gmul (s.2 t j) ((fun j => if j = c then 1 else if j < c then s.2 j c else 0 : Nat → Int) j)) = gsum n (fun j => gadd (if j = c then s.2 t c else 0) (if j = t then (if t < c then s.2 t c else 0) else 0)) := by
      refine gsum_congr (fun j hj => ?_)
      by_cases e : j = c
      · subst e
        simp only [if_true]
        rw [gmul_one (hb t j ht (by omega))]
        by_cases e2 : j = t
        · rw [if_pos e2, if_neg (by omega), gadd_zero (hb t j ht (by omega))]
        · rw [if_neg e2, gadd_zero (hb t j ht (by omega))]
      · simp only [if_neg e]
        by_cases e2 : j < c
        · rw [if_pos e2, hid t j ht e2]
          by_cases e3 : j = t
          · subst e3
            rw [if_pos rfl, if_pos e2]; unfold one; rw [if_pos rfl, one_gmul (hb j c hj (by omega)), zero_gadd (hb j c hj (by omega))]
          · rw [if_neg e3]; unfold one; rw [if_neg (fun h => e3 h.symm), zero_gmul, gadd_zero byte_zero]
        · rw [if_neg e2, gmul_zero]
          by_cases e3 : j = t
          · rw [if_pos e3, if_neg (by omega), gadd_zero byte_zero]
          · rw [if_neg e3, gadd_zero byte_zero]
    rw [e1, gsum_gadd, gsum_one (hb t c ht (by omega)) hc]
    by_cases e : t < c
    · rw [if_pos e, gsum_one (hb t c ht (by omega)) ht, gadd_self]
    · rw [if_neg e, hz t (by omega) ht]
      rw [gsum_congr (g := fun _ => 0) (fun j hj => by split <;> rfl), gsum_zero]; rfl
  have hAF : ∀ j, j < n → A i j = gsum n (fun t => gmul (F i t) (s.2 t j)) := fun j hj => by rw [← (h i hi).1 j hj, hG i j hi (by omega)]
  rw [gsum_congr (g := fun j => gsum n (fun t => gmul (F i t) (gmul (s.2 t j) ((fun j => if j = c then 1 else if j < c then s.2 j c else 0 : Nat → Int) j)))) (fun j hj => ?_), gsum_swap]
  · rw [gsum_congr (g := fun _ => 0) (fun t ht => by rw [← gmul_gsum, hM t ht, gmul_zero]), gsum_zero]
  · rw [hAF j hj, gsum_gmul _ (fun t ht => gmul_byte (hF i t hi ht))]
    exact gsum_congr (fun t ht => gmul_assoc (hF i t hi ht) (hb t j ht (by omega)) (hx j hj))
theorem kernel {n : Nat} {A G : Nat → Nat → Int} (h : Aug n A G) (hA : Bytes n n A) : ∀ c, c ≤ n → (sweepM n c (0, G)).1 = c ∨ ∃ x : Nat → Int, (∀ j, j < n → Byte (x j)) ∧ (∃ c, c < n ∧ x c ≠ 0) ∧ ∀ i, i < n → gsum n (fun j => gmul (A i j) (x j)) = 0
  | 0, _ => .inl rfl
  | c + 1, hc => by
    rcases kernel h hA c (by omega) with e | e
    · have hs := states h hA c (by omega)
      show (stepM n c (sweepM n c (0, G))).1 = c + 1 ∨ _
      generalize sweepM n c (0, G) = s at *
      by_cases hp : piv s.2 c n (n - s.1) s.1 = n
      · right
        obtain ⟨x, h1, h2, h3⟩ := kernel_at hs h (by omega) e hp
        exact ⟨x, h1, ⟨c, by omega, by rw [h2]; decide⟩, h3⟩
      · left
        simp only [stepM]
        rw [if_neg hp]; show s.1 + 1 = c + 1; omega
    · exact .inr e

/-! ### What the columns behind do, nobody asks -/
def Agree (n q : Nat) (M M' : Nat → Nat → Int) : Prop := ∀ i j, i < n → j < q → M i j = M' i j
theorem piv_agree {n q c : Nat} {M M' : Nat → Nat → Int} (h : Agree n q M M') (hc : c < q) : ∀ k a, piv M c n k a = piv M' c n k a
  | 0, _ => rfl
  | k + 1, a => by
    simp only [piv]
    by_cases e : a < n
    · rw [h a c e hc, piv_agree h hc k (a + 1)]
    · rw [if_neg (fun hh => e hh.1), if_neg (fun hh => e hh.1)]
theorem step_agree {n q c : Nat} {s s' : Nat × (Nat → Nat → Int)} (h1 : s.1 = s'.1) (h : Agree n q s.2 s'.2) (hc : c < q) (hle : s.1 ≤ n) : (stepM n c s).1 = (stepM n c s').1 ∧ Agree n q (stepM n c s).2 (stepM n c s').2 := by
  obtain ⟨r, M⟩ := s
  obtain ⟨r', M'⟩ := s'
  have h1' : r = r' := h1
  subst h1'
  have h' : Agree n q M M' := h
  have hge := piv_ge M c n (n - r) r
  have hpl := piv_le M c n (n - r) r hle
  simp only [stepM]
  rw [← piv_agree h' hc]
  by_cases e : piv M c n (n - r) r = n
  · rw [if_pos e, if_pos e]; exact ⟨rfl, h'⟩
  · rw [if_neg e, if_neg e]
    generalize piv M c n (n - r) r = p at *
    refine ⟨rfl, ?_⟩
    have a1 : Agree n q (swapM M r p) (swapM M' r p) := by
      intro i j hi hj
      unfold swapM
      rw [h' r j (by omega) hj, h' p j (by omega) hj, h' i j hi hj]
    have a2 : Agree n q (normM (swapM M r p) r (ginv (swapM M r p r c))) (normM (swapM M' r p) r (ginv (swapM M' r p r c))) := by
      intro i j hi hj
      unfold normM
      rw [a1 r c (by omega) hc, a1 i j hi hj]
    intro i j hi hj
    show elimM _ _ _ i j = elimM _ _ _ i j
    unfold elimM
    rw [a2 i j hi hj, a2 i c hi hc, a2 r j (by omega) hj]
theorem rank_le {n : Nat} (M : Nat → Nat → Int) : ∀ c, (sweepM n c (0, M)).1 ≤ n
  | 0 => Nat.zero_le _
  | c + 1 => by
    have h := rank_le (n := n) M c
    show (stepM n c (sweepM n c (0, M))).1 ≤ n
    generalize sweepM n c (0, M) = s at *
    have h1 := piv_ge s.2 c n (n - s.1) s.1
    have h2 := piv_le s.2 c n (n - s.1) s.1 h
    simp only [stepM]
    split
    · exact h
    · show s.1 + 1 ≤ n; omega
theorem sweep_agree {n q : Nat} {M M' : Nat → Nat → Int} (h : Agree n q M M') : ∀ c, c ≤ q → (sweepM n c (0, M)).1 = (sweepM n c (0, M')).1 ∧ Agree n q (sweepM n c (0, M)).2 (sweepM n c (0, M')).2
  | 0, _ => ⟨rfl, h⟩
  | c + 1, hc => by
    obtain ⟨h1, h2⟩ := sweep_agree h c (by omega)
    exact step_agree h1 h2 (by omega) (rank_le M c)
end Go.Proofs.Ythmlimkmcofkfaa.L

/- What the printed functions of the matrix laws come to: products, ones, equal lists. -/
namespace Go.Proofs.Ythmlimkmcofkfaa.L
open Go.RowKit Go.Proofs.YthmlimkmcofkfaaW.PrintWords Go.Proofs.Ythmlimkmcofkfaa.E Go.Proofs.Ythmlimkmcofkfaa.B
open Go.Proofs.Ythmlimkmcofkfaa.P (matrix_Mul.f matrix_Mul.l0 matrix_Mul.l1 matrix_Mul.l2)
set_option linter.unusedVariables false

theorem rdP : P.rd_L1 = B.rd_L1 := rfl
theorem mul_ev {a b : Int} (ha : Byte a) (hb : Byte b) : Ev (fun k => gf_Mul.f k a b) (gmul a b) := by
  refine Ev.of (fun k => gf_Mul.mono a b k) (k := 9) ?_
  have h := mul_f 0 a.toNat b.toNat (byte_nat ha).2 (byte_nat hb).2
  rw [(byte_nat ha).1, (byte_nat hb).1] at h
  exact h
def tab (m : Nat) (f : Nat → Int) : List Int := (List.range m).map f
theorem tab_len (m : Nat) (f : Nat → Int) : (tab m f).length = m := by simp [tab]
theorem tab_rd {m : Nat} {f : Nat → Int} {j : Nat} (h : j < m) : rd (tab m f) j = f j := by rw [rd_nat]; simp [tab, h]
theorem tab_set {m : Nat} {f g : Nat → Int} {j : Nat} (v : Int) (h : ∀ q, q < m → (if q = j then v else f q) = g q) : (tab m f).set j v = tab m g := by
  apply List.ext_getElem
  · simp [tab]
  · intro q h1 h2
    simp [tab] at h1 h2
    rw [List.getElem_set]
    have := h q h2
    by_cases e : j = q
    · subst e; simp [tab] at this ⊢; exact this
    · have e2 : ¬ q = j := fun h => e h.symm
      rw [if_neg e]; simp [tab, e2] at this ⊢; exact this
theorem tab_congr {m : Nat} {f g : Nat → Int} (h : ∀ q, q < m → f q = g q) : tab m f = tab m g := List.map_congr_left (fun q hq => h q (List.mem_range.1 hq))
def mulRow (A Bm : List (List Int)) (i : Nat) : List Int := tab (rd_L1 Bm 0).length (fun j => gsum Bm.length (fun t => gmul (entry A i t) (entry Bm t j)))
def mulL (A Bm : List (List Int)) : List (List Int) := (List.range A.length).map (mulRow A Bm)

section
variable {A Bm : List (List Int)} {q m : Nat} (hA : Rect q A) (hq : Bm.length = q) (hB : Rect m Bm) (hm0 : (rd_L1 Bm 0).length = m) (hA1 : A.length ≤ 1000) (hq1 : q ≤ 1000) (hq0 : 0 < q) (hm1 : m ≤ 1000) (bA : Bytes A.length q (entry A)) (bB : Bytes q m (entry Bm))
include hA hq hB hm0 hA1 hq1 hq0 hm1 bA bB
def rowS (A Bm : List (List Int)) (m i t j : Nat) : List Int := tab m (fun s => if s < j then gsum (t + 1) (fun t => gmul (entry A i t) (entry Bm t s)) else gsum t (fun t => gmul (entry A i t) (entry Bm t s)))
omit hA hA1 in
theorem Mul_l2 {i t : Nat} (hi : i < A.length) (ht : t < q) (acc : List (List Int)) {r : List (List Int) × Int}
    (h : Ev (fun k => matrix_Mul.l1 k Bm acc (rowS A Bm m i (t + 1) 0) A (A.length : Int) i (rd_L1 A i) ((rd_L1 A i).length : Int) ((t + 1 : Nat) : Int)) r) :
    ∀ (d j : Nat), m = j + d → Ev (fun k => matrix_Mul.l2 k Bm acc (rowS A Bm m i t j) (rd (rd_L1 A i) t) A (A.length : Int) i (rd_L1 A i) ((rd_L1 A i).length : Int) t (rd_L1 Bm t) ((rd_L1 Bm t).length : Int) j) r
  | 0, j, hj => by
    refine Ev.step (f := fun k => matrix_Mul.l1 k Bm acc (rowS A Bm m i (t + 1) 0) A (A.length : Int) i (rd_L1 A i) ((rd_L1 A i).length : Int) ((t + 1 : Nat) : Int)) (fun k => ?_) h
    have hl := hB t (by omega)
    simp only [matrix_Mul.l2]
    rw [if_neg (by omega), wrap_succ ht (by omega)]
    congr 1
    exact tab_congr (fun s hs => by simp [show s < j by omega])
  | d + 1, j, hj => by
    have hl := hB t (by omega)
    have ih := Mul_l2 hi ht acc h d (j + 1) (by omega)
    have hb1 : Byte (rd (rd_L1 A i) t) := bA i t hi ht
    have hb2 : Byte (rd (rd_L1 Bm t) j) := bB t j ht (by omega)
    have hg : Byte (gsum t (fun t => gmul (entry A i t) (entry Bm t j))) := gsum_byte (fun s hs => gmul_byte (bA i s hi (by omega)))
    refine Ev.step (f := fun k => (gf_Mul.f k (rd (rd_L1 A i) t) (rd (rd_L1 Bm t) j)).bind fun t128 => matrix_Mul.l2 k Bm acc ((rowS A Bm m i t j).set j (Go.bits .xor .u8 (rd (rowS A Bm m i t j) j) t128)) (rd (rd_L1 A i) t) A (A.length : Int) i (rd_L1 A i) ((rd_L1 A i).length : Int) t (rd_L1 Bm t) ((rd_L1 Bm t).length : Int) ((j + 1 : Nat) : Int)) (fun k => ?_) ?_
    · simp only [matrix_Mul.l2]
      rw [if_pos (by omega), if_pos (by omega), if_pos (by omega), if_pos (by unfold rowS; rw [tab_len]; omega), wrap_succ (show j < m by omega) (by omega)]
      rfl
    · refine Ev.bind (mul_ev hb1 hb2) ?_
      have e : (rowS A Bm m i t j).set j (Go.bits .xor .u8 (rd (rowS A Bm m i t j) j) (gmul (rd (rd_L1 A i) t) (rd (rd_L1 Bm t) j))) = rowS A Bm m i t (j + 1) := by
        have e1 : rd (rowS A Bm m i t j) j = gsum t (fun t => gmul (entry A i t) (entry Bm t j)) := by unfold rowS; rw [tab_rd (by omega)]; simp
        rw [e1, bits_xor hg (gmul_byte hb1)]
        refine tab_set _ (fun s hs => ?_)
        by_cases e2 : s = j
        · subst e2; simp [gsum, entry]
        · rw [if_neg e2]
          simp only [show (s < j + 1) = (s < j) from propext ⟨fun h => by omega, fun h => by omega⟩]
      simp only [e]
      exact ih
theorem Mul_l1 {i : Nat} (hi : i < A.length) (acc : List (List Int)) (ha : acc.length ≤ 1000) {r : List (List Int) × Int}
    (h : Ev (fun k => matrix_Mul.l0 k Bm (acc ++ [mulRow A Bm i]) A (A.length : Int) ((i + 1 : Nat) : Int)) r) :
    ∀ (d t : Nat), q = t + d → Ev (fun k => matrix_Mul.l1 k Bm acc (rowS A Bm m i t 0) A (A.length : Int) i (rd_L1 A i) ((rd_L1 A i).length : Int) t) r
  | 0, t, ht => by
    have hl := hA i hi
    refine Ev.step (f := fun k => matrix_Mul.l0 k Bm (acc ++ [mulRow A Bm i]) A (A.length : Int) ((i + 1 : Nat) : Int)) (fun k => ?_) h
    simp only [matrix_Mul.l1]
    rw [if_neg (by omega), if_pos (by omega), wrap_succ hi (by omega)]
    congr 3
    unfold mulRow rowS
    rw [hm0, hq, show t = q by omega]
    exact tab_congr (fun s hs => by simp)
  | d + 1, t, ht => by
    have hl := hA i hi
    have ih := Mul_l1 hi acc ha h d (t + 1) (by omega)
    refine Ev.step (f := fun k => matrix_Mul.l2 k Bm acc (rowS A Bm m i t 0) (rd (rd_L1 A i) t) A (A.length : Int) i (rd_L1 A i) ((rd_L1 A i).length : Int) t (rd_L1 Bm t) ((rd_L1 Bm t).length : Int) ((0 : Nat) : Int)) (fun k => ?_) (Mul_l2 hq hB hm0 hq1 hq0 hm1 bA bB hi (by omega) acc ih m 0 (by omega))
    simp only [matrix_Mul.l1]
    rw [if_pos (by omega), if_pos (by omega), if_pos (by omega), if_pos (by omega)]
    rfl
theorem Mul_l0 : ∀ (d i : Nat) (acc : List (List Int)), A.length = i + d → acc = (List.range i).map (mulRow A Bm) → Ev (fun k => matrix_Mul.l0 k Bm acc A (A.length : Int) i) (mulL A Bm, 0)
  | 0, i, acc, hi, he => by
    refine Ev.step (f := fun k => some (mulL A Bm, 0)) (fun k => ?_) (Ev.now _)
    simp only [matrix_Mul.l0]
    rw [if_neg (by omega), he, show i = A.length by omega]; rfl
  | d + 1, i, acc, hi, he => by
    have ih := Mul_l0 d (i + 1) (acc ++ [mulRow A Bm i]) (by omega) (by rw [he, List.range_succ]; simp)
    have hl := hA i (by omega)
    refine Ev.step (f := fun k => matrix_Mul.l1 k Bm acc (rowS A Bm m i 0 0) A (A.length : Int) i (rd_L1 A i) ((rd_L1 A i).length : Int) ((0 : Nat) : Int)) (fun k => ?_) (Mul_l1 hA hq hB hm0 hA1 hq1 hq0 hm1 bA bB (by omega) acc (by rw [he]; simp; omega) ih q 0 (by omega))
    simp only [matrix_Mul.l0]
    rw [rdP, if_pos (by omega), if_pos (by omega), if_pos (by omega), if_pos (by omega), if_pos (by omega), if_pos (by rw [hm0]; omega)]
    have e : (List.replicate (((rd_L1 Bm 0).length : Int)).toNat (0 : Int)) = rowS A Bm m i 0 0 := by
      rw [hm0]
      apply List.ext_getElem
      · simp [rowS, tab]
      · intro s h1 h2
        simp [rowS, tab, gsum]
    rw [e]
    rfl
end
theorem Mul_ok {A Bm : List (List Int)} (cA : check A = 0) (cB : check Bm = 0) (hq : Bm.length = (rd_L1 A 0).length) (oA : okB A = true) (oB : okB Bm = true) : Ev (fun k => matrix_Mul.f k A Bm) (mulL A Bm, 0) := by
  obtain ⟨a1, a2, a3, a4, a5⟩ := check_ok cA
  obtain ⟨b1, b2, b3, b4, b5⟩ := check_ok cB
  refine Ev.congr (f := fun k => matrix_Mul.l0 k Bm [] A (A.length : Int) ((0 : Nat) : Int)) (fun k => ?_) (Mul_l0 a5 hq b5 rfl (by omega) (by omega) (by omega) (by omega) (okB_entry oA a5) (by rw [← hq]; exact okB_entry oB b5) A.length 0 [] (by omega) rfl)
  simp only [matrix_Mul.f, matrix_Check.f, Option.bind_some]
  rw [if_pos cA, if_pos cB, if_pos (by omega), if_pos (by rw [rdP]; omega)]
  rfl
end Go.Proofs.Ythmlimkmcofkfaa.L

/- The chapter's examples of matrices; equal lists; what is large. -/
namespace Go.Proofs.Ythmlimkmcofkfaa.L
open Go.RowKit Go.Proofs.YthmlimkmcofkfaaW.PrintWords Go.Proofs.Ythmlimkmcofkfaa.E Go.Proofs.Ythmlimkmcofkfaa.B
set_option linter.unusedVariables false

theorem sameBytes_self (l : List Int) : stowagekit_SameBytes.f l l = some true := by unfold stowagekit_SameBytes.f; simp
theorem same_l0 (l : List (List Int)) (hn : l.length ≤ 1000) : ∀ (d i : Nat), l.length = i + d → Ev (fun k => stowagekit_SameLists.l0 k l l i) true
  | 0, i, hi => by
    refine Ev.step (f := fun _ => some true) (fun k => ?_) (Ev.now _)
    simp only [stowagekit_SameLists.l0]
    rw [if_neg (by omega)]
  | d + 1, i, hi => by
    refine Ev.step (f := fun k => stowagekit_SameLists.l0 k l l ((i + 1 : Nat) : Int)) (fun k => ?_) (same_l0 l hn d (i + 1) (by omega))
    simp only [stowagekit_SameLists.l0]
    rw [if_pos (by omega), if_pos (by omega), if_pos (by omega), sameBytes_self]
    simp only [Option.bind_some, if_true]
    rw [wrap_succ (show i < l.length by omega) (by omega)]
theorem same_self (l : List (List Int)) (hn : l.length ≤ 1000) : Ev (fun k => stowagekit_SameLists.f k l l) true := by
  refine Ev.congr (fun k => ?_) (same_l0 l hn l.length 0 (by omega))
  unfold stowagekit_SameLists.f
  rw [if_pos rfl]; rfl
theorem makes_self (l : List (List Int)) (hn : l.length ≤ 1000) : Ev (fun k => stowagelaw02_makes.f k l 0 l) true := by
  refine Ev.congr (f := fun k => (stowagekit_SameLists.f k l l).bind fun t => some t) (fun k => ?_) ?_
  · unfold stowagelaw02_makes.f; rw [if_pos rfl]
  · exact Ev.bind (same_self l hn) (Ev.now _)

theorem x1 : P.matrix_Mul.f 40 [[1, 2], [3, 4]] [[1, 0], [0, 1]] = some ([[1, 2], [3, 4]], 0) := by decide +kernel
theorem x2 : matrix_Invert.f [[1, 1], [1, 1]] = some ([], 120) := by decide +kernel
theorem x3 : matrix_Rank.f [[1, 1], [1, 1]] = some (1, 0) := by decide +kernel
theorem x4 : P.matrix_Pick.f 40 [[1, 2], [3, 4]] [1, 0] = some ([[3, 4], [1, 2]], 0) := by decide +kernel
theorem x5 : P.matrix_Pick.f 40 [[1, 2], [3, 4]] [2] = some ([], 5) := by decide +kernel
theorem x6 : matrix_One.f 40 0 = some ([], 5) := by decide +kernel
theorem x7 : matrix_Code.f 40 16 1 = some ([], 5) := by decide +kernel
theorem x8 : matrix_Check.f [[1, 2], [3]] = some 2 := by decide +kernel
theorem x9 : matrix_Invert.f [[1, 1], [0, 1]] = some ([[1, 1], [0, 1]], 0) := by decide +kernel
theorem x10 : matrix_Code.f 40 2 1 = some ([[1, 0], [0, 1], [142, 244]], 0) := by decide +kernel

theorem evc {α : Type} {x : Option α} {r : α} (h : x = some r) : Ev (fun _ => x) r := ⟨0, fun _ _ => h⟩
theorem awake_ev : Ev (fun k => P.stowagelaw02_awake.f k) true := by
  unfold P.stowagelaw02_awake.f
  refine Ev.bind (evc x9) ?_
  refine Ev.bind (Ev.of (fun k => matrix_Code.mono 2 1 k) x10) ?_
  refine Ev.bind (makes_self _ (by decide)) ?_
  refine Ev.congr (fun k => if_pos rfl) ?_
  exact Ev.bind (makes_self _ (by decide)) (Ev.now _)
theorem known_ev : Ev (fun k => P.stowagelaw02_MatrixKnown.f k) true := by
  unfold P.stowagelaw02_MatrixKnown.f
  refine Ev.bind (evc rfl) ?_
  refine Ev.bind (Ev.of (fun k => P.matrix_Mul.mono _ _ k) x1) ?_
  refine Ev.bind (evc x2) ?_
  refine Ev.bind (evc x3) ?_
  refine Ev.bind (Ev.of (fun k => P.matrix_Pick.mono _ _ k) x4) ?_
  refine Ev.bind (Ev.of (fun k => P.matrix_Pick.mono _ _ k) x5) ?_
  refine Ev.bind (Ev.of (fun k => matrix_One.mono _ k) x6) ?_
  refine Ev.bind (Ev.of (fun k => matrix_Code.mono _ _ k) x7) ?_
  refine Ev.bind awake_ev ?_
  refine Ev.congr (fun k => if_pos rfl) ?_
  refine Ev.bind (makes_self _ (by decide)) ?_
  refine Ev.congr (fun k => if_pos rfl) ?_
  refine Ev.congr (fun k => if_pos rfl) ?_
  refine Ev.congr (fun k => if_pos rfl) ?_
  refine Ev.congr (fun k => if_pos rfl) ?_
  refine Ev.bind (makes_self _ (by decide)) ?_
  refine Ev.congr (fun k => if_pos rfl) ?_
  refine Ev.congr (fun k => if_pos rfl) ?_
  refine Ev.bind (evc x8) ?_
  refine Ev.congr (fun k => if_pos rfl) ?_
  refine Ev.congr (fun k => if_pos rfl) ?_
  exact Ev.now _

/-- Large answers; and says no of what Check lets pass. -/
theorem large_l0 (l : List (List Int)) (hn : l.length ≤ 100) : ∀ (d i : Nat), l.length = i + d → ∃ b, Ev (fun k => stowagelaw02_Large.l0 k l i) b
  | 0, i, hi => ⟨false, Ev.step (f := fun _ => some false) (fun k => by simp only [stowagelaw02_Large.l0]; rw [if_neg (by omega)]) (Ev.now _)⟩
  | d + 1, i, hi => by
    obtain ⟨b, hb⟩ := large_l0 l hn d (i + 1) (by omega)
    by_cases e : ((rd_L1 l i).length : Int) > 100
    · refine ⟨true, Ev.step (f := fun _ => some true) (fun k => ?_) (Ev.now _)⟩
      simp only [stowagelaw02_Large.l0]; rw [if_pos (by omega), if_pos (by omega), if_pos e]
    · refine ⟨b, Ev.step (f := fun k => stowagelaw02_Large.l0 k l ((i + 1 : Nat) : Int)) (fun k => ?_) hb⟩
      simp only [stowagelaw02_Large.l0]; rw [if_pos (by omega), if_pos (by omega), if_neg e, wrap_succ (show i < l.length by omega) (by omega)]
theorem large_ev (l : List (List Int)) : ∃ b, Ev (fun k => stowagelaw02_Large.f k l) b := by
  unfold stowagelaw02_Large.f
  by_cases e : (l.length : Int) > 100
  · exact ⟨true, Ev.congr (fun k => if_pos e) (Ev.now _)⟩
  · obtain ⟨b, hb⟩ := large_l0 l (by omega) l.length 0 (by omega)
    exact ⟨b, Ev.congr (fun k => if_neg e) hb⟩
theorem one_ev (n : Nat) (h0 : 0 < n) (h : n ≤ 32) : Ev (fun k => matrix_One.f k (n : Int)) (idL n, 0) := by
  unfold matrix_One.f
  refine Ev.congr (fun k => if_neg (by omega)) ?_
  refine Ev.congr (fun k => if_neg (by omega)) ?_
  exact Ev.bind (Ev.of (fun k => matrix_one.mono _ k) (one_f n (by omega))) (Ev.now _)
end Go.Proofs.Ythmlimkmcofkfaa.L

/- Contracts of functions of the program, written by a program of this session. -/
namespace Go.Proofs.Ythmlimkmcofkfaa.P
open Go.RowKit Go.Proofs.YthmlimkmcofkfaaW.PrintWords Go.Proofs.YthmlimkmcofkfaaW.PrintLast Go.Proofs.YthmlimkmcofkfaaW.PrintMore
attribute [local go_sem] max2_int min2_int max_two min_two max_three min_three max_four min_four   -- for this text's walks alone
open Go.Proofs.Ythmlimkmcofkfaa.B Go.Proofs.Ythmlimkmcofkfaa.E
set_option linter.unusedVariables false
set_option linter.unusedSimpArgs false

/-! ### stowagelaw02_MatrixTurns: function 5 -/
mutual
def stowagelaw02_MatrixTurns.j0 : Nat → List (List Int) → Bool → Bool → Option (Bool)
  | 0, _, _, _ => none
  | k + 1, x0, x3, x30 => if x30 = true then (some x3) else ((matrix_Rank.f x0).bind fun bt297 => ((matrix_Invert.f x0).bind fun bt299 => (if bt297.2 = 0 then (if bt297.1 < 0 then (stowagelaw02_MatrixTurns.j1 k x0 x3 bt299.1 bt299.2 true) else (if bt297.1 > (x0.length : Int) then (stowagelaw02_MatrixTurns.j1 k x0 x3 bt299.1 bt299.2 true) else (stowagelaw02_MatrixTurns.j1 k x0 x3 bt299.1 bt299.2 ((bt299.2 == 0) != (bt297.1 == (x0.length : Int)))))) else (stowagelaw02_MatrixTurns.j1 k x0 x3 bt299.1 bt299.2 true))))
def stowagelaw02_MatrixTurns.j1 : Nat → List (List Int) → Bool → List (List Int) → Int → Bool → Option (Bool)
  | 0, _, _, _, _, _ => none
  | k + 1, x0, x3, x6, x7, x62 => if x62 = true then (some false) else (if x7 = 0 then ((matrix_One.f k (x0.length : Int)).bind fun bt303 => ((matrix_Mul.f k x0 x6).bind fun bt307 => ((matrix_Mul.f k x6 x0).bind fun bt311 => (if x3 = true then (if bt303.2 = 0 then ((stowagelaw02_makes.f k bt307.1 bt307.2 bt303.1).bind fun t315 => (if t315 = true then ((stowagelaw02_makes.f k bt311.1 bt311.2 bt303.1).bind fun t316 => (some t316)) else (some false))) else (some false)) else (some false))))) else (if x3 = true then (some (x7 == 120)) else (some false)))
end
def stowagelaw02_MatrixTurns.f (k : Nat) (l0 : List (List Int)) : Option (Bool) := (stowagelaw02_MatrixKnown.f k).bind fun t293 => ((stowagelaw02_Large.f k l0).bind fun t294 => (if t294 = true then (stowagelaw02_MatrixTurns.j0 k l0 t293 true) else ((matrix_Check.f l0).bind fun t295 => (if t295 = 0 then (if 0 < (l0.length : Int) then (stowagelaw02_MatrixTurns.j0 k l0 t293 ((l0.length : Int) != ((rd_L1 l0 0).length : Int))) else (none)) else (stowagelaw02_MatrixTurns.j0 k l0 t293 true)))))
theorem stowagelaw02_MatrixTurns.mono_l : ∀ k, (∀ y0 y1 y2, LeO (stowagelaw02_MatrixTurns.j0 k y0 y1 y2) (stowagelaw02_MatrixTurns.j0 (k + 1) y0 y1 y2)) ∧ (∀ y0 y1 y2 y3 y4, LeO (stowagelaw02_MatrixTurns.j1 k y0 y1 y2 y3 y4) (stowagelaw02_MatrixTurns.j1 (k + 1) y0 y1 y2 y3 y4))
  | 0 => ⟨fun _ _ _ r h => by simp [stowagelaw02_MatrixTurns.j0] at h, fun _ _ _ _ _ r h => by simp [stowagelaw02_MatrixTurns.j1] at h⟩
  | k + 1 => by
    obtain ⟨ih0, ih1⟩ := stowagelaw02_MatrixTurns.mono_l k
    refine ⟨?_, ?_⟩
    · intro y0 y1 y2
      unfold stowagelaw02_MatrixTurns.j0
      repeat' first
      | (with_reducible exact ih0 _ _ _)
      | (with_reducible exact ih1 _ _ _ _ _)
      | (with_reducible exact matrix_Mul.mono _ _ _)
      | (with_reducible exact matrix_One.mono _ _)
      | (with_reducible exact stowagelaw02_Large.mono _ _)
      | (with_reducible exact stowagelaw02_MatrixKnown.mono _)
      | (with_reducible exact stowagelaw02_makes.mono _ _ _ _)
      | (with_reducible exact LeO.refl _)
      | (with_reducible exact LeO.none _)
      | (with_reducible refine LeO.ite ?_ ?_)
      | (with_reducible refine LeO.bind ?_ (fun _ => ?_))
      | exact ih0 _ _ _
      | exact ih1 _ _ _ _ _
      | exact matrix_Mul.mono _ _ _
      | exact matrix_One.mono _ _
      | exact stowagelaw02_Large.mono _ _
      | exact stowagelaw02_MatrixKnown.mono _
      | exact stowagelaw02_makes.mono _ _ _ _
      | exact LeO.none _
      | refine LeO.ite ?_ ?_
      | refine LeO.bind ?_ (fun _ => ?_)
    · intro y0 y1 y2 y3 y4
      unfold stowagelaw02_MatrixTurns.j1
      repeat' first
      | (with_reducible exact ih0 _ _ _)
      | (with_reducible exact ih1 _ _ _ _ _)
      | (with_reducible exact matrix_Mul.mono _ _ _)
      | (with_reducible exact matrix_One.mono _ _)
      | (with_reducible exact stowagelaw02_Large.mono _ _)
      | (with_reducible exact stowagelaw02_MatrixKnown.mono _)
      | (with_reducible exact stowagelaw02_makes.mono _ _ _ _)
      | (with_reducible exact LeO.refl _)
      | (with_reducible exact LeO.none _)
      | (with_reducible refine LeO.ite ?_ ?_)
      | (with_reducible refine LeO.bind ?_ (fun _ => ?_))
      | exact ih0 _ _ _
      | exact ih1 _ _ _ _ _
      | exact matrix_Mul.mono _ _ _
      | exact matrix_One.mono _ _
      | exact stowagelaw02_Large.mono _ _
      | exact stowagelaw02_MatrixKnown.mono _
      | exact stowagelaw02_makes.mono _ _ _ _
      | exact LeO.none _
      | refine LeO.ite ?_ ?_
      | refine LeO.bind ?_ (fun _ => ?_)
theorem stowagelaw02_MatrixTurns.mono : ∀ a0 k, LeO (stowagelaw02_MatrixTurns.f k a0) (stowagelaw02_MatrixTurns.f (k + 1) a0) := by
  intro a0 k
  obtain ⟨ih0, ih1⟩ := stowagelaw02_MatrixTurns.mono_l k
  unfold stowagelaw02_MatrixTurns.f
  repeat' first
      | (with_reducible exact ih0 _ _ _)
      | (with_reducible exact ih1 _ _ _ _ _)
      | (with_reducible exact matrix_Mul.mono _ _ _)
      | (with_reducible exact matrix_One.mono _ _)
      | (with_reducible exact stowagelaw02_Large.mono _ _)
      | (with_reducible exact stowagelaw02_MatrixKnown.mono _)
      | (with_reducible exact stowagelaw02_makes.mono _ _ _ _)
      | (with_reducible exact LeO.refl _)
      | (with_reducible exact LeO.none _)
      | (with_reducible refine LeO.ite ?_ ?_)
      | (with_reducible refine LeO.bind ?_ (fun _ => ?_))
      | exact ih0 _ _ _
      | exact ih1 _ _ _ _ _
      | exact matrix_Mul.mono _ _ _
      | exact matrix_One.mono _ _
      | exact stowagelaw02_Large.mono _ _
      | exact stowagelaw02_MatrixKnown.mono _
      | exact stowagelaw02_makes.mono _ _ _ _
      | exact LeO.none _
      | refine LeO.ite ?_ ?_
      | refine LeO.bind ?_ (fun _ => ?_)
set_option maxHeartbeats 8000000 in
set_option maxRecDepth 100000 in
theorem stowagelaw02_MatrixTurns.calls (k : Nat) (A0 : Option Addr) (c0 : Nat) (l0 : List (List Int)) (r : Bool) (w : World) (hr0 : Kd.C (Kd.slice 5 (Kd.int .u8)) w A0 l0.length l0) (hc0 : l0.length ≤ c0) (h : stowagelaw02_MatrixTurns.f k l0 = some r) :
    Calls Try.prog 5 #[.slice A0 l0.length c0] w fun e w' => e = .returned (.bool r) ∧ Below w.heap.size w w' := by
  have HR0 := Aside0.mk hr0
  have HC0 := Aside0.mk hc0
  clear hr0 hc0
  have HB := Aside0.mk (Below.refl w.heap.size w)
  have H : ((stowagelaw02_MatrixKnown.f k).bind fun t293 => ((stowagelaw02_Large.f k l0).bind fun t294 => (if t294 = true then (stowagelaw02_MatrixTurns.j0 k l0 t293 true) else ((matrix_Check.f l0).bind fun t295 => (if t295 = 0 then (if 0 < (l0.length : Int) then (stowagelaw02_MatrixTurns.j0 k l0 t293 ((l0.length : Int) != ((rd_L1 l0 0).length : Int))) else (none)) else (stowagelaw02_MatrixTurns.j0 k l0 t293 true)))))) = some r := h
  clear h
  replace H := Option.bind_eq_some_iff.mp H
  obtain ⟨t293, A20, H⟩ := H
  replace H : ((stowagelaw02_Large.f k l0).bind fun t294 => (if t294 = true then (stowagelaw02_MatrixTurns.j0 k l0 t293 true) else ((matrix_Check.f l0).bind fun t295 => (if t295 = 0 then (if 0 < (l0.length : Int) then (stowagelaw02_MatrixTurns.j0 k l0 t293 ((l0.length : Int) != ((rd_L1 l0 0).length : Int))) else (none)) else (stowagelaw02_MatrixTurns.j0 k l0 t293 true))))) = some r := H
  have A2 := Aside0.mk A20
  clear A20
  have HC3 := Aside0.mk H
  clear H
  go_enter Try.func5, Try.ntmps5
  go_upto_region 2 with (first | ((with_reducible refine gate_callee (f := 35) rfl ?_); refine goesL_ (some 14) rfl rfl Try.func35 (by kernel_rfl) rfl #[] rfl (by (try simp only [List.map_toArray, List.map_cons, List.map_nil]); first | done | rfl | (simp only [List.length_drop, List.length_take]; rfl)) ?_; (with_reducible refine (stowagelaw02_MatrixKnown.calls k  t293 _ A2.out).mono ?_); rintro e w4 ⟨rfl, hb⟩; refine ⟨_, rfl, ?_⟩; have n0_ := Aside0.mk (below_step (by repeat (first | (with_reducible first | exact HB.out | apply below_alloc | apply pw_below_drewN | apply below_drew1) | exact HB.out)) hb); clear HB; have HB := n0_; clear n0_; (try clear hb); (try clear hb2); (try clear hk); (try clear hi)))
  (try simp only [Act.put, List.setIfInBounds_toArray, List.set_cons_zero, List.set_cons_succ])
  go_cut [30] (fun v30 wc => ∃ (kq : Nat) (x30_2 : Bool), v30 = .bool x30_2 ∧ Aside0 (stowagelaw02_MatrixTurns.j0 kq l0 t293 x30_2 = some r) ∧ Aside0 (kq ≤ k) ∧ Aside0 (Below w.heap.size w wc))
  case first =>
    have H := HC3.out
    clear HC3
    replace H := Option.bind_eq_some_iff.mp H
    obtain ⟨t294, A50, H⟩ := H
    replace H : (if t294 = true then (stowagelaw02_MatrixTurns.j0 k l0 t293 true) else ((matrix_Check.f l0).bind fun t295 => (if t295 = 0 then (if 0 < (l0.length : Int) then (stowagelaw02_MatrixTurns.j0 k l0 t293 ((l0.length : Int) != ((rd_L1 l0 0).length : Int))) else (none)) else (stowagelaw02_MatrixTurns.j0 k l0 t293 true)))) = some r := H
    have A5 := Aside0.mk A50
    clear A50
    by_cases c6 : t294 = true
    · subst c6
      have H1 : (stowagelaw02_MatrixTurns.j0 k l0 t293 true) = some r := by rw [if_pos rfl] at H; exact H
      clear H
      have H := H1
      clear H1
      have H' := Aside0.mk H
      clear H
      go_wp2_with (first | ((with_reducible refine gate_callee (f := 13) rfl ?_); refine goesL_ (some 16) rfl rfl Try.func13 (by kernel_rfl) rfl #[.slice A0 l0.length c0] rfl (by (try simp only [List.map_toArray, List.map_cons, List.map_nil]); first | done | rfl | (simp only [List.length_drop, List.length_take]; rfl)) ?_; (with_reducible refine (stowagelaw02_Large.calls k _ _ l0 true _ ?side1 ?side2 A5.out).mono ?_); (case side1 => repeat (first | exact (Kd.C_below HR0.out HB.out) | (with_reducible refine Kd.C_alloc ?_ _) | (with_reducible refine Kd.C_drewN ?_ _) | (with_reducible refine Kd.C_drew ?_))); (case side2 => exact HC0.out); rintro e w' ⟨rfl, ⟨nd, rfl⟩⟩; refine ⟨_, rfl, ?_⟩))
      go_meet
      case rel => exact ⟨_, (true), (by first | rfl | (simp; done) | (simp [*]; done)), H', ⟨by first | omega | exact Nat.le_refl _⟩, ⟨by repeat (first | (with_reducible first | exact HB.out | apply below_alloc | apply pw_below_drewN | apply below_drew1) | exact HB.out)⟩⟩
    · replace c6 := Bool.eq_false_iff.mpr c6
      subst c6
      have H1 : ((matrix_Check.f l0).bind fun t295 => (if t295 = 0 then (if 0 < (l0.length : Int) then (stowagelaw02_MatrixTurns.j0 k l0 t293 ((l0.length : Int) != ((rd_L1 l0 0).length : Int))) else (none)) else (stowagelaw02_MatrixTurns.j0 k l0 t293 true))) = some r := by rw [if_neg (show ¬ (false = true) by decide)] at H; exact H
      clear H
      have H := H1
      clear H1
      replace H := Option.bind_eq_some_iff.mp H
      obtain ⟨t295, A70, H⟩ := H
      replace H : (if t295 = 0 then (if 0 < (l0.length : Int) then (stowagelaw02_MatrixTurns.j0 k l0 t293 ((l0.length : Int) != ((rd_L1 l0 0).length : Int))) else (none)) else (stowagelaw02_MatrixTurns.j0 k l0 t293 true)) = some r := H
      have A7 := Aside0.mk A70
      clear A70
      by_cases c8 : t295 = 0
      · rw [if_pos c8] at H
        have c8b0 : (t295 == 0) = true := beq_iff_eq.mpr c8
        have c8b1 : (t295 != 0) = false := bne_eq_false_iff_eq.mpr c8
        clear c8
        (first | rw [c8b0] | (simp only [i64_w, i32_w]; rw [c8b0]) | skip)
        by_cases c9 : 0 < (l0.length : Int)
        · rw [if_pos c9] at H
          have c9b0 : decide (0 < (l0.length : Int)) = true := decide_eq_true c9
          have c9b1 : decide (0 < l0.length) = true := decide_eq_true (by omega)
          clear c9
          have H' := Aside0.mk H
          clear H
          go_wp2_with (first | ((with_reducible refine gate_callee (f := 13) rfl ?_); refine goesL_ (some 16) rfl rfl Try.func13 (by kernel_rfl) rfl #[.slice A0 l0.length c0] rfl (by (try simp only [List.map_toArray, List.map_cons, List.map_nil]); first | done | rfl | (simp only [List.length_drop, List.length_take]; rfl)) ?_; (with_reducible refine (stowagelaw02_Large.calls k _ _ l0 false _ ?side1 ?side2 A5.out).mono ?_); (case side1 => repeat (first | exact (Kd.C_below HR0.out HB.out) | (with_reducible refine Kd.C_alloc ?_ _) | (with_reducible refine Kd.C_drewN ?_ _) | (with_reducible refine Kd.C_drew ?_))); (case side2 => exact HC0.out); rintro e w' ⟨rfl, ⟨nd, rfl⟩⟩; refine ⟨_, rfl, ?_⟩) | (go_at_call 33; (with_reducible refine (matrix_Check.calls _ _ l0 t295 _ ?side1 ?side2 A7.out).mono ?_); (case side1 => repeat (first | exact (Kd.C_below HR0.out (by repeat (first | (with_reducible first | exact HB.out | apply below_alloc | apply pw_below_drewN | apply below_drew1) | exact HB.out))) | (with_reducible refine Kd.C_alloc ?_ _) | (with_reducible refine Kd.C_drewN ?_ _) | (with_reducible refine Kd.C_drew ?_))); (case side2 => exact HC0.out); rintro e w10 ⟨rfl, hb⟩; have n0_ := Aside0.mk (below_step (by repeat (first | (with_reducible first | exact HB.out | apply below_alloc | apply pw_below_drewN | apply below_drew1) | exact HB.out)) hb); clear HB; have HB := n0_; clear n0_; (try clear hb); (try clear hb2); (try clear hk); (try clear hi); have p296 : 0 ≤ (0 : Int) := (by omega); have q296 : 0 < (l0.length : Int) := of_decide_eq_true (by first | (with_reducible assumption) | assumption); obtain ⟨ad296, A296_0, c296_0, e296, hx296_0, hl296_0, hi296_0⟩ := at_L1 HR0.out 0 p296 q296; cases e296; have qi296 : (0 < l0.length) = True := eq_true (by omega); (try rw [show ((0 : Int)).toNat = 0 from rfl] at hx296_0); (try rw [Addr.add_zero'] at hx296_0); replace hx296_0 := (HB.out.cell (World.block_lt_of_cell? w _ hx296_0)).trans hx296_0; have HR296_0 := Aside0.mk hi296_0; have HC296_0 := Aside0.mk hl296_0; clear hi296_0 hl296_0; replace p296 := eq_true p296; replace q296 := eq_true q296))
          go_meet
          case rel => exact ⟨_, (((l0.length : Int) != ((rd_L1 l0 0).length : Int))), (by first | rfl | (simp; done) | (simp [*]; done)), H', ⟨by first | omega | exact Nat.le_refl _⟩, ⟨by repeat (first | (with_reducible first | exact HB.out | apply below_alloc | apply pw_below_drewN | apply below_drew1) | exact HB.out)⟩⟩
        · rw [if_neg c9] at H
          exact absurd H (by simp)
      · rw [if_neg c8] at H
        have c8b0 : (t295 == 0) = false := beq_eq_false_iff_ne.mpr c8
        have c8b1 : (t295 != 0) = true := bne_iff_ne.mpr c8
        (first | rw [c8b0] | (simp only [i64_w, i32_w]; rw [c8b0]) | skip)
        have H' := Aside0.mk H
        clear H
        go_wp2_with (first | ((with_reducible refine gate_callee (f := 13) rfl ?_); refine goesL_ (some 16) rfl rfl Try.func13 (by kernel_rfl) rfl #[.slice A0 l0.length c0] rfl (by (try simp only [List.map_toArray, List.map_cons, List.map_nil]); first | done | rfl | (simp only [List.length_drop, List.length_take]; rfl)) ?_; (with_reducible refine (stowagelaw02_Large.calls k _ _ l0 false _ ?side1 ?side2 A5.out).mono ?_); (case side1 => repeat (first | exact (Kd.C_below HR0.out HB.out) | (with_reducible refine Kd.C_alloc ?_ _) | (with_reducible refine Kd.C_drewN ?_ _) | (with_reducible refine Kd.C_drew ?_))); (case side2 => exact HC0.out); rintro e w' ⟨rfl, ⟨nd, rfl⟩⟩; refine ⟨_, rfl, ?_⟩) | (go_at_call 33; (with_reducible refine (matrix_Check.calls _ _ l0 t295 _ ?side1 ?side2 A7.out).mono ?_); (case side1 => repeat (first | exact (Kd.C_below HR0.out (by repeat (first | (with_reducible first | exact HB.out | apply below_alloc | apply pw_below_drewN | apply below_drew1) | exact HB.out))) | (with_reducible refine Kd.C_alloc ?_ _) | (with_reducible refine Kd.C_drewN ?_ _) | (with_reducible refine Kd.C_drew ?_))); (case side2 => exact HC0.out); rintro e w11 ⟨rfl, hb⟩; have n0_ := Aside0.mk (below_step (by repeat (first | (with_reducible first | exact HB.out | apply below_alloc | apply pw_below_drewN | apply below_drew1) | exact HB.out)) hb); clear HB; have HB := n0_; clear n0_; (try clear hb); (try clear hb2); (try clear hk); (try clear hi)))
        go_meet
        case rel => exact ⟨_, (true), (by first | rfl | (simp; done) | (simp [*]; done)), H', ⟨by first | omega | exact Nat.le_refl _⟩, ⟨by repeat (first | (with_reducible first | exact HB.out | apply below_alloc | apply pw_below_drewN | apply below_drew1) | exact HB.out)⟩⟩
  case rest =>
    clear HC3
    try clear c1
    try clear c2
    try clear p2
    try clear q2
    try clear hx2
    try clear qi2
    try clear c3
    try clear c5
    try clear c6
    try clear c8
    try clear c8b0
    try clear c8b1
    try clear c9
    try clear c9b0
    try clear c9b1
    try clear hx296_0
    try clear p296
    try clear q296
    obtain ⟨kq, x30_2, rfl, HA, HJ2, HB⟩ := hcut
    cases kq with
    | zero => exact absurd HA.out (by simp [stowagelaw02_MatrixTurns.j0])
    | succ kj2 =>
      have H := HA.out
      clear HA
      simp only [stowagelaw02_MatrixTurns.j0] at H
      by_cases c12 : x30_2 = true
      · subst c12
        have H1 : (some t293) = some r := by rw [if_pos rfl] at H; exact H
        clear H
        have H := H1
        clear H1
        obtain rfl := Option.some.inj H
        go_wp2
        go_ret
        exact ⟨by first | rfl | (simp [errW_none, errW_some] <;> rfl) | (simp [*, errW_none, errW_some] <;> rfl), by repeat (first | (with_reducible first | exact HB.out | apply below_alloc | apply pw_below_drewN | apply below_drew1) | exact HB.out)⟩
      · replace c12 := Bool.eq_false_iff.mpr c12
        subst c12
        have H1 : ((matrix_Rank.f l0).bind fun bt297 => ((matrix_Invert.f l0).bind fun bt299 => (if bt297.2 = 0 then (if bt297.1 < 0 then (stowagelaw02_MatrixTurns.j1 kj2 l0 t293 bt299.1 bt299.2 true) else (if bt297.1 > (l0.length : Int) then (stowagelaw02_MatrixTurns.j1 kj2 l0 t293 bt299.1 bt299.2 true) else (stowagelaw02_MatrixTurns.j1 kj2 l0 t293 bt299.1 bt299.2 ((bt299.2 == 0) != (bt297.1 == (l0.length : Int)))))) else (stowagelaw02_MatrixTurns.j1 kj2 l0 t293 bt299.1 bt299.2 true)))) = some r := by rw [if_neg (show ¬ (false = true) by decide)] at H; exact H
        clear H
        have H := H1
        clear H1
        replace H := Option.bind_eq_some_iff.mp H
        obtain ⟨⟨t297, t298⟩, A130, H⟩ := H
        replace H : ((matrix_Invert.f l0).bind fun bt299 => (if t298 = 0 then (if t297 < 0 then (stowagelaw02_MatrixTurns.j1 kj2 l0 t293 bt299.1 bt299.2 true) else (if t297 > (l0.length : Int) then (stowagelaw02_MatrixTurns.j1 kj2 l0 t293 bt299.1 bt299.2 true) else (stowagelaw02_MatrixTurns.j1 kj2 l0 t293 bt299.1 bt299.2 ((bt299.2 == 0) != (t297 == (l0.length : Int)))))) else (stowagelaw02_MatrixTurns.j1 kj2 l0 t293 bt299.1 bt299.2 true))) = some r := H
        have A13 := Aside0.mk A130
        clear A130
        replace H := Option.bind_eq_some_iff.mp H
        obtain ⟨⟨t299, t300⟩, A140, H⟩ := H
        replace H : (if t298 = 0 then (if t297 < 0 then (stowagelaw02_MatrixTurns.j1 kj2 l0 t293 t299 t300 true) else (if t297 > (l0.length : Int) then (stowagelaw02_MatrixTurns.j1 kj2 l0 t293 t299 t300 true) else (stowagelaw02_MatrixTurns.j1 kj2 l0 t293 t299 t300 ((t300 == 0) != (t297 == (l0.length : Int)))))) else (stowagelaw02_MatrixTurns.j1 kj2 l0 t293 t299 t300 true)) = some r := H
        have A14 := Aside0.mk A140
        clear A140
        have HC15 := Aside0.mk H
        clear H
        go_upto_region 6 with (first | ((with_reducible refine gate_callee (f := 31) rfl ?_); refine goesL_ (some 34) rfl rfl Try.func31 (by kernel_rfl) rfl #[.slice A0 l0.length c0] rfl (by (try simp only [List.map_toArray, List.map_cons, List.map_nil]); first | done | rfl | (simp only [List.length_drop, List.length_take]; rfl)) ?_; (with_reducible refine (matrix_Rank.calls _ _ l0 t297 t298 _ ?side1 ?side2 A13.out).mono ?_); (case side1 => repeat (first | exact (Kd.C_below HR0.out HB.out) | (with_reducible refine Kd.C_alloc ?_ _) | (with_reducible refine Kd.C_drewN ?_ _) | (with_reducible refine Kd.C_drew ?_))); (case side2 => exact HC0.out); rintro e w16 ⟨rfl, hb⟩; refine ⟨_, rfl, ?_⟩; have n0_ := Aside0.mk (below_step (by repeat (first | (with_reducible first | exact HB.out | apply below_alloc | apply pw_below_drewN | apply below_drew1) | exact HB.out)) hb); clear HB; have HB := n0_; clear n0_; (try clear hb); (try clear hb2); (try clear hk); (try clear hi)) | ((with_reducible refine gate_callee (f := 29) rfl ?_); refine goesL_ (some 39) rfl rfl Try.func29 (by kernel_rfl) rfl #[.slice A0 l0.length c0] rfl (by (try simp only [List.map_toArray, List.map_cons, List.map_nil]); first | done | rfl | (simp only [List.length_drop, List.length_take]; rfl)) ?_; (with_reducible refine (matrix_Invert.calls _ _ l0 t299 t300 _ ?side1 ?side2 A14.out).mono ?_); (case side1 => repeat (first | exact (Kd.C_below HR0.out HB.out) | (with_reducible refine Kd.C_alloc ?_ _) | (with_reducible refine Kd.C_drewN ?_ _) | (with_reducible refine Kd.C_drew ?_))); (case side2 => exact HC0.out); rintro e w17 ⟨v301, rfl, ho0, hb⟩; refine ⟨_, rfl, ?_⟩; have n0_ := Aside0.mk (Kd.S_lower ho0 (below_size (by repeat (first | (with_reducible first | exact HB.out | apply below_alloc | apply pw_below_drewN | apply below_drew1) | exact HB.out)))); have n1_ := Aside0.mk (below_step (by repeat (first | (with_reducible first | exact HB.out | apply below_alloc | apply pw_below_drewN | apply below_drew1) | exact HB.out)) hb); clear HB; have HO302 := n0_; have HB := n1_; clear n0_ n1_; (try clear hb); (try clear hb2); (try clear hk); (try clear hi); (try clear ho0)))
        (try simp only [Act.put, List.setIfInBounds_toArray, List.set_cons_zero, List.set_cons_succ])
        go_cut [62] (fun v62 wc => ∃ (kq : Nat) (x62_14 : Bool), v62 = .bool x62_14 ∧ Aside0 (stowagelaw02_MatrixTurns.j1 kq l0 t293 t299 t300 x62_14 = some r) ∧ Aside0 (kq ≤ kj2) ∧ Aside0 (Kd.S (Kd.slice 5 (Kd.int .u8)) 41 wc w.heap.size (fun _ => True) v301 t299) ∧ Aside0 (Below w.heap.size w wc))
        case first =>
          have H := HC15.out
          clear HC15
          by_cases c18 : t298 = 0
          · rw [if_pos c18] at H
            have c18b0 : (t298 == 0) = true := beq_iff_eq.mpr c18
            have c18b1 : (t298 != 0) = false := bne_eq_false_iff_eq.mpr c18
            clear c18
            (first | rw [c18b0] | (simp only [i64_w, i32_w]; rw [c18b0]) | skip)
            by_cases c19 : t297 < 0
            · rw [if_pos c19] at H
              have c19b0 : decide (t297 < 0) = true := decide_eq_true c19
              clear c19
              have H' := Aside0.mk H
              clear H
              go_wp2
              go_meet
              case rel => exact ⟨_, (true), (by first | rfl | (simp; done) | (simp [*]; done)), H', ⟨by have := HJ2.out; first | omega | exact Nat.le_refl _⟩, ⟨by (with_reducible repeat (first | apply Kd.S_alloc | apply Kd.S_drewN | apply Kd.S_drew)); exact HO302.out⟩, ⟨by repeat (first | (with_reducible first | exact HB.out | apply below_alloc | apply pw_below_drewN | apply below_drew1) | exact HB.out)⟩⟩
            · rw [if_neg c19] at H
              have c19b0 : decide (t297 < 0) = false := decide_eq_false c19
              clear c19
              by_cases c20 : t297 > (l0.length : Int)
              · rw [if_pos c20] at H
                have c20b0 : decide ((l0.length : Int) < t297) = true := decide_eq_true c20
                clear c20
                have H' := Aside0.mk H
                clear H
                go_wp2
                go_meet
                case rel => exact ⟨_, (true), (by first | rfl | (simp; done) | (simp [*]; done)), H', ⟨by have := HJ2.out; first | omega | exact Nat.le_refl _⟩, ⟨by (with_reducible repeat (first | apply Kd.S_alloc | apply Kd.S_drewN | apply Kd.S_drew)); exact HO302.out⟩, ⟨by repeat (first | (with_reducible first | exact HB.out | apply below_alloc | apply pw_below_drewN | apply below_drew1) | exact HB.out)⟩⟩
              · rw [if_neg c20] at H
                have c20b0 : decide ((l0.length : Int) < t297) = false := decide_eq_false c20
                clear c20
                have H' := Aside0.mk H
                clear H
                go_wp2
                go_meet
                case rel => exact ⟨_, (((t300 == 0) != (t297 == (l0.length : Int)))), (by first | rfl | (simp; done) | (simp [*]; done)), H', ⟨by have := HJ2.out; first | omega | exact Nat.le_refl _⟩, ⟨by (with_reducible repeat (first | apply Kd.S_alloc | apply Kd.S_drewN | apply Kd.S_drew)); exact HO302.out⟩, ⟨by repeat (first | (with_reducible first | exact HB.out | apply below_alloc | apply pw_below_drewN | apply below_drew1) | exact HB.out)⟩⟩
          · rw [if_neg c18] at H
            have c18b0 : (t298 == 0) = false := beq_eq_false_iff_ne.mpr c18
            have c18b1 : (t298 != 0) = true := bne_iff_ne.mpr c18
            (first | rw [c18b0] | (simp only [i64_w, i32_w]; rw [c18b0]) | skip)
            have H' := Aside0.mk H
            clear H
            go_wp2
            go_meet
            case rel => exact ⟨_, (true), (by first | rfl | (simp; done) | (simp [*]; done)), H', ⟨by have := HJ2.out; first | omega | exact Nat.le_refl _⟩, ⟨by (with_reducible repeat (first | apply Kd.S_alloc | apply Kd.S_drewN | apply Kd.S_drew)); exact HO302.out⟩, ⟨by repeat (first | (with_reducible first | exact HB.out | apply below_alloc | apply pw_below_drewN | apply below_drew1) | exact HB.out)⟩⟩
        case rest =>
          clear HC15
          try clear c1
          try clear c2
          try clear p2
          try clear q2
          try clear hx2
          try clear qi2
          try clear c3
          try clear c5
          try clear c6
          try clear c8
          try clear c8b0
          try clear c8b1
          try clear c9
          try clear c9b0
          try clear c9b1
          try clear c12
          try clear c13
          try clear c18
          try clear c18b0
          try clear c18b1
          try clear c19
          try clear c19b0
          try clear c20
          try clear c20b0
          try clear hx296_0
          try clear p2
          try clear p296
          try clear q2
          try clear q296
          obtain ⟨kq, x62_14, rfl, HA, HJ14, HO_6, HB⟩ := hcut
          cases kq with
          | zero => exact absurd HA.out (by simp [stowagelaw02_MatrixTurns.j1])
          | succ kj14 =>
            have H := HA.out
            clear HA
            simp only [stowagelaw02_MatrixTurns.j1] at H
            by_cases c21 : x62_14 = true
            · subst c21
              have H1 : (some false) = some r := by rw [if_pos rfl] at H; exact H
              clear H
              have H := H1
              clear H1
              obtain rfl := Option.some.inj H
              go_wp2
              go_ret
              exact ⟨by first | rfl | (simp [errW_none, errW_some] <;> rfl) | (simp [*, errW_none, errW_some] <;> rfl), by repeat (first | (with_reducible first | exact HB.out | apply below_alloc | apply pw_below_drewN | apply below_drew1) | exact HB.out)⟩
            · replace c21 := Bool.eq_false_iff.mpr c21
              subst c21
              have H1 : (if t300 = 0 then ((matrix_One.f kj14 (l0.length : Int)).bind fun bt303 => ((matrix_Mul.f kj14 l0 t299).bind fun bt307 => ((matrix_Mul.f kj14 t299 l0).bind fun bt311 => (if t293 = true then (if bt303.2 = 0 then ((stowagelaw02_makes.f kj14 bt307.1 bt307.2 bt303.1).bind fun t315 => (if t315 = true then ((stowagelaw02_makes.f kj14 bt311.1 bt311.2 bt303.1).bind fun t316 => (some t316)) else (some false))) else (some false)) else (some false))))) else (if t293 = true then (some (t300 == 120)) else (some false))) = some r := by rw [if_neg (show ¬ (false = true) by decide)] at H; exact H
              clear H
              have H := H1
              clear H1
              by_cases c22 : t300 = 0
              · rw [if_pos c22] at H
                have c22b0 : (t300 == 0) = true := beq_iff_eq.mpr c22
                have c22b1 : (t300 != 0) = false := bne_eq_false_iff_eq.mpr c22
                clear c22
                replace H := Option.bind_eq_some_iff.mp H
                obtain ⟨⟨t303, t304⟩, A230, H⟩ := H
                replace H : ((matrix_Mul.f kj14 l0 t299).bind fun bt307 => ((matrix_Mul.f kj14 t299 l0).bind fun bt311 => (if t293 = true then (if t304 = 0 then ((stowagelaw02_makes.f kj14 bt307.1 bt307.2 t303).bind fun t315 => (if t315 = true then ((stowagelaw02_makes.f kj14 bt311.1 bt311.2 t303).bind fun t316 => (some t316)) else (some false))) else (some false)) else (some false)))) = some r := H
                have A23 := Aside0.mk A230
                clear A230
                replace H := Option.bind_eq_some_iff.mp H
                obtain ⟨⟨t307, t308⟩, A240, H⟩ := H
                replace H : ((matrix_Mul.f kj14 t299 l0).bind fun bt311 => (if t293 = true then (if t304 = 0 then ((stowagelaw02_makes.f kj14 t307 t308 t303).bind fun t315 => (if t315 = true then ((stowagelaw02_makes.f kj14 bt311.1 bt311.2 t303).bind fun t316 => (some t316)) else (some false))) else (some false)) else (some false))) = some r := H
                have A24 := Aside0.mk A240
                clear A240
                replace H := Option.bind_eq_some_iff.mp H
                obtain ⟨⟨t311, t312⟩, A250, H⟩ := H
                replace H : (if t293 = true then (if t304 = 0 then ((stowagelaw02_makes.f kj14 t307 t308 t303).bind fun t315 => (if t315 = true then ((stowagelaw02_makes.f kj14 t311 t312 t303).bind fun t316 => (some t316)) else (some false))) else (some false)) else (some false)) = some r := H
                have A25 := Aside0.mk A250
                clear A250
                by_cases c26 : t293 = true
                · subst c26
                  have H1 : (if t304 = 0 then ((stowagelaw02_makes.f kj14 t307 t308 t303).bind fun t315 => (if t315 = true then ((stowagelaw02_makes.f kj14 t311 t312 t303).bind fun t316 => (some t316)) else (some false))) else (some false)) = some r := by rw [if_pos rfl] at H; exact H
                  clear H
                  have H := H1
                  clear H1
                  by_cases c27 : t304 = 0
                  · rw [if_pos c27] at H
                    have c27b0 : (t304 == 0) = true := beq_iff_eq.mpr c27
                    have c27b1 : (t304 != 0) = false := bne_eq_false_iff_eq.mpr c27
                    clear c27
                    replace H := Option.bind_eq_some_iff.mp H
                    obtain ⟨t315, A280, H⟩ := H
                    replace H : (if t315 = true then ((stowagelaw02_makes.f kj14 t311 t312 t303).bind fun t316 => (some t316)) else (some false)) = some r := H
                    have A28 := Aside0.mk A280
                    clear A280
                    by_cases c29 : t315 = true
                    · subst c29
                      have H1 : ((stowagelaw02_makes.f kj14 t311 t312 t303).bind fun t316 => (some t316)) = some r := by rw [if_pos rfl] at H; exact H
                      clear H
                      have H := H1
                      clear H1
                      replace H := Option.bind_eq_some_iff.mp H
                      obtain ⟨t316, A300, H⟩ := H
                      replace H : (some t316) = some r := H
                      have A30 := Aside0.mk A300
                      clear A300
                      obtain rfl := Option.some.inj H
                      go_wp2_with (first | ((with_reducible refine gate_callee (f := 18) rfl ?_); refine goesL_ (some 73) rfl rfl Try.func18 (by kernel_rfl) rfl #[.int .i64 (l0.length : Int)] rfl (by (try simp only [List.map_toArray, List.map_cons, List.map_nil]); first | done | rfl | (simp only [List.length_drop, List.length_take]; rfl)) ?_; (with_reducible refine (matrix_One.calls kj14 (l0.length : Int) t303 t304 _ A23.out).mono ?_); rintro e w31 ⟨v305, rfl, ho0, hb⟩; refine ⟨_, rfl, ?_⟩; have n0_ := Aside0.mk (Kd.S_elder' (by (with_reducible repeat (first | apply Kd.S_alloc | apply Kd.S_drewN | apply Kd.S_drew)); exact HO_6.out) (Kd.S_base ho0) hb); have n1_ := Aside0.mk (Kd.S_lower (Kd.S_new' ho0 (Kd.S_lt (by (with_reducible repeat (first | apply Kd.S_alloc | apply Kd.S_drewN | apply Kd.S_drew)); exact HO_6.out))) (below_size (by repeat (first | (with_reducible first | exact HB.out | apply below_alloc | apply pw_below_drewN | apply below_drew1) | exact HB.out)))); have n2_ := Aside0.mk (below_step (by repeat (first | (with_reducible first | exact HB.out | apply below_alloc | apply pw_below_drewN | apply below_drew1) | exact HB.out)) hb); clear HO_6; clear HB; have HO_6 := n0_; have HO306 := n1_; have HB := n2_; clear n0_ n1_ n2_; (try clear hb); (try clear hb2); (try clear hk); (try clear hi); (try clear ho0); obtain ⟨Ao32, co32, eo32⟩ := Kd.S_slice HO_6.out; subst eo32) | ((with_reducible refine gate_callee (f := 27) rfl ?_); refine goesL_ (some 79) rfl rfl Try.func27 (by kernel_rfl) rfl #[.slice A0 l0.length c0, .slice Ao32 t299.length co32] rfl (by (try simp only [List.map_toArray, List.map_cons, List.map_nil]); first | done | rfl | (simp only [List.length_drop, List.length_take]; rfl)) ?_; (with_reducible refine (matrix_Mul.calls kj14 _ _ l0 _ _ t299 t307 t308 _ ?side1 ?side2 ?side3 ?side4 A24.out).mono ?_); (case side1 => repeat (first | exact (Kd.C_below HR0.out HB.out) | (with_reducible refine Kd.C_alloc ?_ _) | (with_reducible refine Kd.C_drewN ?_ _) | (with_reducible refine Kd.C_drew ?_))); (case side2 => exact HC0.out); (case side3 => repeat (first | exact (Kd.S_reads' HO_6.out).2.2 | (with_reducible refine Kd.C_alloc ?_ _) | (with_reducible refine Kd.C_drewN ?_ _) | (with_reducible refine Kd.C_drew ?_))); (case side4 => exact (Kd.S_reads' HO_6.out).2.1); rintro e w33 ⟨v309, rfl, ho0, hb⟩; refine ⟨_, rfl, ?_⟩; have n0_ := Aside0.mk (Kd.S_elder' (by (with_reducible repeat (first | apply Kd.S_alloc | apply Kd.S_drewN | apply Kd.S_drew)); exact HO_6.out) (Kd.S_base ho0) hb); have n1_ := Aside0.mk (Kd.S_elder' (by (with_reducible repeat (first | apply Kd.S_alloc | apply Kd.S_drewN | apply Kd.S_drew)); exact HO306.out) (Kd.S_base ho0) hb); have n2_ := Aside0.mk (Kd.S_lower (Kd.S_new' (Kd.S_new' ho0 (Kd.S_lt (by (with_reducible repeat (first | apply Kd.S_alloc | apply Kd.S_drewN | apply Kd.S_drew)); exact HO_6.out))) (Kd.S_lt (by (with_reducible repeat (first | apply Kd.S_alloc | apply Kd.S_drewN | apply Kd.S_drew)); exact HO306.out))) (below_size (by repeat (first | (with_reducible first | exact HB.out | apply below_alloc | apply pw_below_drewN | apply below_drew1) | exact HB.out)))); have n3_ := Aside0.mk (below_step (by repeat (first | (with_reducible first | exact HB.out | apply below_alloc | apply pw_below_drewN | apply below_drew1) | exact HB.out)) hb); clear HO_6; clear HO306; clear HB; have HO_6 := n0_; have HO306 := n1_; have HO310 := n2_; have HB := n3_; clear n0_ n1_ n2_ n3_; (try clear hb); (try clear hb2); (try clear hk); (try clear hi); (try clear ho0)) | ((with_reducible refine gate_callee (f := 27) rfl ?_); refine goesL_ (some 85) rfl rfl Try.func27 (by kernel_rfl) rfl #[.slice Ao32 t299.length co32, .slice A0 l0.length c0] rfl (by (try simp only [List.map_toArray, List.map_cons, List.map_nil]); first | done | rfl | (simp only [List.length_drop, List.length_take]; rfl)) ?_; (with_reducible refine (matrix_Mul.calls kj14 _ _ t299 _ _ l0 t311 t312 _ ?side1 ?side2 ?side3 ?side4 A25.out).mono ?_); (case side1 => repeat (first | exact (Kd.S_reads' HO_6.out).2.2 | (with_reducible refine Kd.C_alloc ?_ _) | (with_reducible refine Kd.C_drewN ?_ _) | (with_reducible refine Kd.C_drew ?_))); (case side2 => exact (Kd.S_reads' HO_6.out).2.1); (case side3 => repeat (first | exact (Kd.C_below HR0.out HB.out) | (with_reducible refine Kd.C_alloc ?_ _) | (with_reducible refine Kd.C_drewN ?_ _) | (with_reducible refine Kd.C_drew ?_))); (case side4 => exact HC0.out); rintro e w34 ⟨v313, rfl, ho0, hb⟩; refine ⟨_, rfl, ?_⟩; have n0_ := Aside0.mk (Kd.S_elder' (by (with_reducible repeat (first | apply Kd.S_alloc | apply Kd.S_drewN | apply Kd.S_drew)); exact HO_6.out) (Kd.S_base ho0) hb); have n1_ := Aside0.mk (Kd.S_elder' (by (with_reducible repeat (first | apply Kd.S_alloc | apply Kd.S_drewN | apply Kd.S_drew)); exact HO306.out) (Kd.S_base ho0) hb); have n2_ := Aside0.mk (Kd.S_elder' (by (with_reducible repeat (first | apply Kd.S_alloc | apply Kd.S_drewN | apply Kd.S_drew)); exact HO310.out) (Kd.S_base ho0) hb); have n3_ := Aside0.mk (Kd.S_lower (Kd.S_new' (Kd.S_new' (Kd.S_new' ho0 (Kd.S_lt (by (with_reducible repeat (first | apply Kd.S_alloc | apply Kd.S_drewN | apply Kd.S_drew)); exact HO_6.out))) (Kd.S_lt (by (with_reducible repeat (first | apply Kd.S_alloc | apply Kd.S_drewN | apply Kd.S_drew)); exact HO306.out))) (Kd.S_lt (by (with_reducible repeat (first | apply Kd.S_alloc | apply Kd.S_drewN | apply Kd.S_drew)); exact HO310.out))) (below_size (by repeat (first | (with_reducible first | exact HB.out | apply below_alloc | apply pw_below_drewN | apply below_drew1) | exact HB.out)))); have n4_ := Aside0.mk (below_step (by repeat (first | (with_reducible first | exact HB.out | apply below_alloc | apply pw_below_drewN | apply below_drew1) | exact HB.out)) hb); clear HO_6; clear HO306; clear HO310; clear HB; have HO_6 := n0_; have HO306 := n1_; have HO310 := n2_; have HO314 := n3_; have HB := n4_; clear n0_ n1_ n2_ n3_ n4_; (try clear hb); (try clear hb2); (try clear hk); (try clear hi); (try clear ho0); obtain ⟨Ao35, co35, eo35⟩ := Kd.S_slice HO310.out; subst eo35; obtain ⟨Ao36, co36, eo36⟩ := Kd.S_slice HO306.out; subst eo36) | (go_at_call 36; (with_reducible refine (stowagelaw02_makes.calls kj14 _ _ t307 t308 _ _ t303 true _ ?side1 ?side2 ?side3 ?side4 A28.out).mono ?_); (case side1 => repeat (first | exact (Kd.S_reads' HO310.out).2.2 | (with_reducible refine Kd.C_alloc ?_ _) | (with_reducible refine Kd.C_drewN ?_ _) | (with_reducible refine Kd.C_drew ?_))); (case side2 => exact (Kd.S_reads' HO310.out).2.1); (case side3 => repeat (first | exact (Kd.S_reads' HO306.out).2.2 | (with_reducible refine Kd.C_alloc ?_ _) | (with_reducible refine Kd.C_drewN ?_ _) | (with_reducible refine Kd.C_drew ?_))); (case side4 => exact (Kd.S_reads' HO306.out).2.1); rintro e w' ⟨rfl, ⟨nd, rfl⟩⟩; obtain ⟨Ao37, co37, eo37⟩ := Kd.S_slice HO314.out; subst eo37) | (go_at_call 36; (with_reducible refine (stowagelaw02_makes.calls kj14 _ _ t311 t312 _ _ t303 t316 _ ?side1 ?side2 ?side3 ?side4 A30.out).mono ?_); (case side1 => repeat (first | exact (Kd.S_reads' HO314.out).2.2 | (with_reducible refine Kd.C_alloc ?_ _) | (with_reducible refine Kd.C_drewN ?_ _) | (with_reducible refine Kd.C_drew ?_))); (case side2 => exact (Kd.S_reads' HO314.out).2.1); (case side3 => repeat (first | exact (Kd.S_reads' HO306.out).2.2 | (with_reducible refine Kd.C_alloc ?_ _) | (with_reducible refine Kd.C_drewN ?_ _) | (with_reducible refine Kd.C_drew ?_))); (case side4 => exact (Kd.S_reads' HO306.out).2.1); rintro e w' ⟨rfl, ⟨nd, rfl⟩⟩))
                      go_ret
                      exact ⟨by first | rfl | (simp [errW_none, errW_some] <;> rfl) | (simp [*, errW_none, errW_some] <;> rfl), by repeat (first | (with_reducible first | exact HB.out | apply below_alloc | apply pw_below_drewN | apply below_drew1) | exact HB.out)⟩
                    · replace c29 := Bool.eq_false_iff.mpr c29
                      subst c29
                      have H1 : (some false) = some r := by rw [if_neg (show ¬ (false = true) by decide)] at H; exact H
                      clear H
                      have H := H1
                      clear H1
                      obtain rfl := Option.some.inj H
                      go_wp2_with (first | ((with_reducible refine gate_callee (f := 18) rfl ?_); refine goesL_ (some 73) rfl rfl Try.func18 (by kernel_rfl) rfl #[.int .i64 (l0.length : Int)] rfl (by (try simp only [List.map_toArray, List.map_cons, List.map_nil]); first | done | rfl | (simp only [List.length_drop, List.length_take]; rfl)) ?_; (with_reducible refine (matrix_One.calls kj14 (l0.length : Int) t303 t304 _ A23.out).mono ?_); rintro e w38 ⟨v305, rfl, ho0, hb⟩; refine ⟨_, rfl, ?_⟩; have n0_ := Aside0.mk (Kd.S_elder' (by (with_reducible repeat (first | apply Kd.S_alloc | apply Kd.S_drewN | apply Kd.S_drew)); exact HO_6.out) (Kd.S_base ho0) hb); have n1_ := Aside0.mk (Kd.S_lower (Kd.S_new' ho0 (Kd.S_lt (by (with_reducible repeat (first | apply Kd.S_alloc | apply Kd.S_drewN | apply Kd.S_drew)); exact HO_6.out))) (below_size (by repeat (first | (with_reducible first | exact HB.out | apply below_alloc | apply pw_below_drewN | apply below_drew1) | exact HB.out)))); have n2_ := Aside0.mk (below_step (by repeat (first | (with_reducible first | exact HB.out | apply below_alloc | apply pw_below_drewN | apply below_drew1) | exact HB.out)) hb); clear HO_6; clear HB; have HO_6 := n0_; have HO306 := n1_; have HB := n2_; clear n0_ n1_ n2_; (try clear hb); (try clear hb2); (try clear hk); (try clear hi); (try clear ho0); obtain ⟨Ao39, co39, eo39⟩ := Kd.S_slice HO_6.out; subst eo39) | ((with_reducible refine gate_callee (f := 27) rfl ?_); refine goesL_ (some 79) rfl rfl Try.func27 (by kernel_rfl) rfl #[.slice A0 l0.length c0, .slice Ao39 t299.length co39] rfl (by (try simp only [List.map_toArray, List.map_cons, List.map_nil]); first | done | rfl | (simp only [List.length_drop, List.length_take]; rfl)) ?_; (with_reducible refine (matrix_Mul.calls kj14 _ _ l0 _ _ t299 t307 t308 _ ?side1 ?side2 ?side3 ?side4 A24.out).mono ?_); (case side1 => repeat (first | exact (Kd.C_below HR0.out HB.out) | (with_reducible refine Kd.C_alloc ?_ _) | (with_reducible refine Kd.C_drewN ?_ _) | (with_reducible refine Kd.C_drew ?_))); (case side2 => exact HC0.out); (case side3 => repeat (first | exact (Kd.S_reads' HO_6.out).2.2 | (with_reducible refine Kd.C_alloc ?_ _) | (with_reducible refine Kd.C_drewN ?_ _) | (with_reducible refine Kd.C_drew ?_))); (case side4 => exact (Kd.S_reads' HO_6.out).2.1); rintro e w40 ⟨v309, rfl, ho0, hb⟩; refine ⟨_, rfl, ?_⟩; have n0_ := Aside0.mk (Kd.S_elder' (by (with_reducible repeat (first | apply Kd.S_alloc | apply Kd.S_drewN | apply Kd.S_drew)); exact HO_6.out) (Kd.S_base ho0) hb); have n1_ := Aside0.mk (Kd.S_elder' (by (with_reducible repeat (first | apply Kd.S_alloc | apply Kd.S_drewN | apply Kd.S_drew)); exact HO306.out) (Kd.S_base ho0) hb); have n2_ := Aside0.mk (Kd.S_lower (Kd.S_new' (Kd.S_new' ho0 (Kd.S_lt (by (with_reducible repeat (first | apply Kd.S_alloc | apply Kd.S_drewN | apply Kd.S_drew)); exact HO_6.out))) (Kd.S_lt (by (with_reducible repeat (first | apply Kd.S_alloc | apply Kd.S_drewN | apply Kd.S_drew)); exact HO306.out))) (below_size (by repeat (first | (with_reducible first | exact HB.out | apply below_alloc | apply pw_below_drewN | apply below_drew1) | exact HB.out)))); have n3_ := Aside0.mk (below_step (by repeat (first | (with_reducible first | exact HB.out | apply below_alloc | apply pw_below_drewN | apply below_drew1) | exact HB.out)) hb); clear HO_6; clear HO306; clear HB; have HO_6 := n0_; have HO306 := n1_; have HO310 := n2_; have HB := n3_; clear n0_ n1_ n2_ n3_; (try clear hb); (try clear hb2); (try clear hk); (try clear hi); (try clear ho0)) | ((with_reducible refine gate_callee (f := 27) rfl ?_); refine goesL_ (some 85) rfl rfl Try.func27 (by kernel_rfl) rfl #[.slice Ao39 t299.length co39, .slice A0 l0.length c0] rfl (by (try simp only [List.map_toArray, List.map_cons, List.map_nil]); first | done | rfl | (simp only [List.length_drop, List.length_take]; rfl)) ?_; (with_reducible refine (matrix_Mul.calls kj14 _ _ t299 _ _ l0 t311 t312 _ ?side1 ?side2 ?side3 ?side4 A25.out).mono ?_); (case side1 => repeat (first | exact (Kd.S_reads' HO_6.out).2.2 | (with_reducible refine Kd.C_alloc ?_ _) | (with_reducible refine Kd.C_drewN ?_ _) | (with_reducible refine Kd.C_drew ?_))); (case side2 => exact (Kd.S_reads' HO_6.out).2.1); (case side3 => repeat (first | exact (Kd.C_below HR0.out HB.out) | (with_reducible refine Kd.C_alloc ?_ _) | (with_reducible refine Kd.C_drewN ?_ _) | (with_reducible refine Kd.C_drew ?_))); (case side4 => exact HC0.out); rintro e w41 ⟨v313, rfl, ho0, hb⟩; refine ⟨_, rfl, ?_⟩; have n0_ := Aside0.mk (Kd.S_elder' (by (with_reducible repeat (first | apply Kd.S_alloc | apply Kd.S_drewN | apply Kd.S_drew)); exact HO_6.out) (Kd.S_base ho0) hb); have n1_ := Aside0.mk (Kd.S_elder' (by (with_reducible repeat (first | apply Kd.S_alloc | apply Kd.S_drewN | apply Kd.S_drew)); exact HO306.out) (Kd.S_base ho0) hb); have n2_ := Aside0.mk (Kd.S_elder' (by (with_reducible repeat (first | apply Kd.S_alloc | apply Kd.S_drewN | apply Kd.S_drew)); exact HO310.out) (Kd.S_base ho0) hb); have n3_ := Aside0.mk (Kd.S_lower (Kd.S_new' (Kd.S_new' (Kd.S_new' ho0 (Kd.S_lt (by (with_reducible repeat (first | apply Kd.S_alloc | apply Kd.S_drewN | apply Kd.S_drew)); exact HO_6.out))) (Kd.S_lt (by (with_reducible repeat (first | apply Kd.S_alloc | apply Kd.S_drewN | apply Kd.S_drew)); exact HO306.out))) (Kd.S_lt (by (with_reducible repeat (first | apply Kd.S_alloc | apply Kd.S_drewN | apply Kd.S_drew)); exact HO310.out))) (below_size (by repeat (first | (with_reducible first | exact HB.out | apply below_alloc | apply pw_below_drewN | apply below_drew1) | exact HB.out)))); have n4_ := Aside0.mk (below_step (by repeat (first | (with_reducible first | exact HB.out | apply below_alloc | apply pw_below_drewN | apply below_drew1) | exact HB.out)) hb); clear HO_6; clear HO306; clear HO310; clear HB; have HO_6 := n0_; have HO306 := n1_; have HO310 := n2_; have HO314 := n3_; have HB := n4_; clear n0_ n1_ n2_ n3_ n4_; (try clear hb); (try clear hb2); (try clear hk); (try clear hi); (try clear ho0); obtain ⟨Ao42, co42, eo42⟩ := Kd.S_slice HO310.out; subst eo42; obtain ⟨Ao43, co43, eo43⟩ := Kd.S_slice HO306.out; subst eo43) | (go_at_call 36; (with_reducible refine (stowagelaw02_makes.calls kj14 _ _ t307 t308 _ _ t303 false _ ?side1 ?side2 ?side3 ?side4 A28.out).mono ?_); (case side1 => repeat (first | exact (Kd.S_reads' HO310.out).2.2 | (with_reducible refine Kd.C_alloc ?_ _) | (with_reducible refine Kd.C_drewN ?_ _) | (with_reducible refine Kd.C_drew ?_))); (case side2 => exact (Kd.S_reads' HO310.out).2.1); (case side3 => repeat (first | exact (Kd.S_reads' HO306.out).2.2 | (with_reducible refine Kd.C_alloc ?_ _) | (with_reducible refine Kd.C_drewN ?_ _) | (with_reducible refine Kd.C_drew ?_))); (case side4 => exact (Kd.S_reads' HO306.out).2.1); rintro e w' ⟨rfl, ⟨nd, rfl⟩⟩))
                      go_ret
                      exact ⟨by first | rfl | (simp [errW_none, errW_some] <;> rfl) | (simp [*, errW_none, errW_some] <;> rfl), by repeat (first | (with_reducible first | exact HB.out | apply below_alloc | apply pw_below_drewN | apply below_drew1) | exact HB.out)⟩
                  · rw [if_neg c27] at H
                    have c27b0 : (t304 == 0) = false := beq_eq_false_iff_ne.mpr c27
                    have c27b1 : (t304 != 0) = true := bne_iff_ne.mpr c27
                    obtain rfl := Option.some.inj H
                    go_wp2_with (first | ((with_reducible refine gate_callee (f := 18) rfl ?_); refine goesL_ (some 73) rfl rfl Try.func18 (by kernel_rfl) rfl #[.int .i64 (l0.length : Int)] rfl (by (try simp only [List.map_toArray, List.map_cons, List.map_nil]); first | done | rfl | (simp only [List.length_drop, List.length_take]; rfl)) ?_; (with_reducible refine (matrix_One.calls kj14 (l0.length : Int) t303 t304 _ A23.out).mono ?_); rintro e w44 ⟨v305, rfl, ho0, hb⟩; refine ⟨_, rfl, ?_⟩; have n0_ := Aside0.mk (Kd.S_elder' (by (with_reducible repeat (first | apply Kd.S_alloc | apply Kd.S_drewN | apply Kd.S_drew)); exact HO_6.out) (Kd.S_base ho0) hb); have n1_ := Aside0.mk (Kd.S_lower (Kd.S_new' ho0 (Kd.S_lt (by (with_reducible repeat (first | apply Kd.S_alloc | apply Kd.S_drewN | apply Kd.S_drew)); exact HO_6.out))) (below_size (by repeat (first | (with_reducible first | exact HB.out | apply below_alloc | apply pw_below_drewN | apply below_drew1) | exact HB.out)))); have n2_ := Aside0.mk (below_step (by repeat (first | (with_reducible first | exact HB.out | apply below_alloc | apply pw_below_drewN | apply below_drew1) | exact HB.out)) hb); clear HO_6; clear HB; have HO_6 := n0_; have HO306 := n1_; have HB := n2_; clear n0_ n1_ n2_; (try clear hb); (try clear hb2); (try clear hk); (try clear hi); (try clear ho0); obtain ⟨Ao45, co45, eo45⟩ := Kd.S_slice HO_6.out; subst eo45) | ((with_reducible refine gate_callee (f := 27) rfl ?_); refine goesL_ (some 79) rfl rfl Try.func27 (by kernel_rfl) rfl #[.slice A0 l0.length c0, .slice Ao45 t299.length co45] rfl (by (try simp only [List.map_toArray, List.map_cons, List.map_nil]); first | done | rfl | (simp only [List.length_drop, List.length_take]; rfl)) ?_; (with_reducible refine (matrix_Mul.calls kj14 _ _ l0 _ _ t299 t307 t308 _ ?side1 ?side2 ?side3 ?side4 A24.out).mono ?_); (case side1 => repeat (first | exact (Kd.C_below HR0.out HB.out) | (with_reducible refine Kd.C_alloc ?_ _) | (with_reducible refine Kd.C_drewN ?_ _) | (with_reducible refine Kd.C_drew ?_))); (case side2 => exact HC0.out); (case side3 => repeat (first | exact (Kd.S_reads' HO_6.out).2.2 | (with_reducible refine Kd.C_alloc ?_ _) | (with_reducible refine Kd.C_drewN ?_ _) | (with_reducible refine Kd.C_drew ?_))); (case side4 => exact (Kd.S_reads' HO_6.out).2.1); rintro e w46 ⟨v309, rfl, ho0, hb⟩; refine ⟨_, rfl, ?_⟩; have n0_ := Aside0.mk (Kd.S_elder' (by (with_reducible repeat (first | apply Kd.S_alloc | apply Kd.S_drewN | apply Kd.S_drew)); exact HO_6.out) (Kd.S_base ho0) hb); have n1_ := Aside0.mk (Kd.S_elder' (by (with_reducible repeat (first | apply Kd.S_alloc | apply Kd.S_drewN | apply Kd.S_drew)); exact HO306.out) (Kd.S_base ho0) hb); have n2_ := Aside0.mk (Kd.S_lower (Kd.S_new' (Kd.S_new' ho0 (Kd.S_lt (by (with_reducible repeat (first | apply Kd.S_alloc | apply Kd.S_drewN | apply Kd.S_drew)); exact HO_6.out))) (Kd.S_lt (by (with_reducible repeat (first | apply Kd.S_alloc | apply Kd.S_drewN | apply Kd.S_drew)); exact HO306.out))) (below_size (by repeat (first | (with_reducible first | exact HB.out | apply below_alloc | apply pw_below_drewN | apply below_drew1) | exact HB.out)))); have n3_ := Aside0.mk (below_step (by repeat (first | (with_reducible first | exact HB.out | apply below_alloc | apply pw_below_drewN | apply below_drew1) | exact HB.out)) hb); clear HO_6; clear HO306; clear HB; have HO_6 := n0_; have HO306 := n1_; have HO310 := n2_; have HB := n3_; clear n0_ n1_ n2_ n3_; (try clear hb); (try clear hb2); (try clear hk); (try clear hi); (try clear ho0)) | ((with_reducible refine gate_callee (f := 27) rfl ?_); refine goesL_ (some 85) rfl rfl Try.func27 (by kernel_rfl) rfl #[.slice Ao45 t299.length co45, .slice A0 l0.length c0] rfl (by (try simp only [List.map_toArray, List.map_cons, List.map_nil]); first | done | rfl | (simp only [List.length_drop, List.length_take]; rfl)) ?_; (with_reducible refine (matrix_Mul.calls kj14 _ _ t299 _ _ l0 t311 t312 _ ?side1 ?side2 ?side3 ?side4 A25.out).mono ?_); (case side1 => repeat (first | exact (Kd.S_reads' HO_6.out).2.2 | (with_reducible refine Kd.C_alloc ?_ _) | (with_reducible refine Kd.C_drewN ?_ _) | (with_reducible refine Kd.C_drew ?_))); (case side2 => exact (Kd.S_reads' HO_6.out).2.1); (case side3 => repeat (first | exact (Kd.C_below HR0.out HB.out) | (with_reducible refine Kd.C_alloc ?_ _) | (with_reducible refine Kd.C_drewN ?_ _) | (with_reducible refine Kd.C_drew ?_))); (case side4 => exact HC0.out); rintro e w47 ⟨v313, rfl, ho0, hb⟩; refine ⟨_, rfl, ?_⟩; have n0_ := Aside0.mk (Kd.S_elder' (by (with_reducible repeat (first | apply Kd.S_alloc | apply Kd.S_drewN | apply Kd.S_drew)); exact HO_6.out) (Kd.S_base ho0) hb); have n1_ := Aside0.mk (Kd.S_elder' (by (with_reducible repeat (first | apply Kd.S_alloc | apply Kd.S_drewN | apply Kd.S_drew)); exact HO306.out) (Kd.S_base ho0) hb); have n2_ := Aside0.mk (Kd.S_elder' (by (with_reducible repeat (first | apply Kd.S_alloc | apply Kd.S_drewN | apply Kd.S_drew)); exact HO310.out) (Kd.S_base ho0) hb); have n3_ := Aside0.mk (Kd.S_lower (Kd.S_new' (Kd.S_new' (Kd.S_new' ho0 (Kd.S_lt (by (with_reducible repeat (first | apply Kd.S_alloc | apply Kd.S_drewN | apply Kd.S_drew)); exact HO_6.out))) (Kd.S_lt (by (with_reducible repeat (first | apply Kd.S_alloc | apply Kd.S_drewN | apply Kd.S_drew)); exact HO306.out))) (Kd.S_lt (by (with_reducible repeat (first | apply Kd.S_alloc | apply Kd.S_drewN | apply Kd.S_drew)); exact HO310.out))) (below_size (by repeat (first | (with_reducible first | exact HB.out | apply below_alloc | apply pw_below_drewN | apply below_drew1) | exact HB.out)))); have n4_ := Aside0.mk (below_step (by repeat (first | (with_reducible first | exact HB.out | apply below_alloc | apply pw_below_drewN | apply below_drew1) | exact HB.out)) hb); clear HO_6; clear HO306; clear HO310; clear HB; have HO_6 := n0_; have HO306 := n1_; have HO310 := n2_; have HO314 := n3_; have HB := n4_; clear n0_ n1_ n2_ n3_ n4_; (try clear hb); (try clear hb2); (try clear hk); (try clear hi); (try clear ho0)))
                    go_ret
                    exact ⟨by first | rfl | (simp [errW_none, errW_some] <;> rfl) | (simp [*, errW_none, errW_some] <;> rfl), by repeat (first | (with_reducible first | exact HB.out | apply below_alloc | apply pw_below_drewN | apply below_drew1) | exact HB.out)⟩
                · replace c26 := Bool.eq_false_iff.mpr c26
                  subst c26
                  have H1 : (some false) = some r := by rw [if_neg (show ¬ (false = true) by decide)] at H; exact H
                  clear H
                  have H := H1
                  clear H1
                  obtain rfl := Option.some.inj H
                  go_wp2_with (first | ((with_reducible refine gate_callee (f := 18) rfl ?_); refine goesL_ (some 73) rfl rfl Try.func18 (by kernel_rfl) rfl #[.int .i64 (l0.length : Int)] rfl (by (try simp only [List.map_toArray, List.map_cons, List.map_nil]); first | done | rfl | (simp only [List.length_drop, List.length_take]; rfl)) ?_; (with_reducible refine (matrix_One.calls kj14 (l0.length : Int) t303 t304 _ A23.out).mono ?_); rintro e w48 ⟨v305, rfl, ho0, hb⟩; refine ⟨_, rfl, ?_⟩; have n0_ := Aside0.mk (Kd.S_elder' (by (with_reducible repeat (first | apply Kd.S_alloc | apply Kd.S_drewN | apply Kd.S_drew)); exact HO_6.out) (Kd.S_base ho0) hb); have n1_ := Aside0.mk (Kd.S_lower (Kd.S_new' ho0 (Kd.S_lt (by (with_reducible repeat (first | apply Kd.S_alloc | apply Kd.S_drewN | apply Kd.S_drew)); exact HO_6.out))) (below_size (by repeat (first | (with_reducible first | exact HB.out | apply below_alloc | apply pw_below_drewN | apply below_drew1) | exact HB.out)))); have n2_ := Aside0.mk (below_step (by repeat (first | (with_reducible first | exact HB.out | apply below_alloc | apply pw_below_drewN | apply below_drew1) | exact HB.out)) hb); clear HO_6; clear HB; have HO_6 := n0_; have HO306 := n1_; have HB := n2_; clear n0_ n1_ n2_; (try clear hb); (try clear hb2); (try clear hk); (try clear hi); (try clear ho0); obtain ⟨Ao49, co49, eo49⟩ := Kd.S_slice HO_6.out; subst eo49) | ((with_reducible refine gate_callee (f := 27) rfl ?_); refine goesL_ (some 79) rfl rfl Try.func27 (by kernel_rfl) rfl #[.slice A0 l0.length c0, .slice Ao49 t299.length co49] rfl (by (try simp only [List.map_toArray, List.map_cons, List.map_nil]); first | done | rfl | (simp only [List.length_drop, List.length_take]; rfl)) ?_; (with_reducible refine (matrix_Mul.calls kj14 _ _ l0 _ _ t299 t307 t308 _ ?side1 ?side2 ?side3 ?side4 A24.out).mono ?_); (case side1 => repeat (first | exact (Kd.C_below HR0.out HB.out) | (with_reducible refine Kd.C_alloc ?_ _) | (with_reducible refine Kd.C_drewN ?_ _) | (with_reducible refine Kd.C_drew ?_))); (case side2 => exact HC0.out); (case side3 => repeat (first | exact (Kd.S_reads' HO_6.out).2.2 | (with_reducible refine Kd.C_alloc ?_ _) | (with_reducible refine Kd.C_drewN ?_ _) | (with_reducible refine Kd.C_drew ?_))); (case side4 => exact (Kd.S_reads' HO_6.out).2.1); rintro e w50 ⟨v309, rfl, ho0, hb⟩; refine ⟨_, rfl, ?_⟩; have n0_ := Aside0.mk (Kd.S_elder' (by (with_reducible repeat (first | apply Kd.S_alloc | apply Kd.S_drewN | apply Kd.S_drew)); exact HO_6.out) (Kd.S_base ho0) hb); have n1_ := Aside0.mk (Kd.S_elder' (by (with_reducible repeat (first | apply Kd.S_alloc | apply Kd.S_drewN | apply Kd.S_drew)); exact HO306.out) (Kd.S_base ho0) hb); have n2_ := Aside0.mk (Kd.S_lower (Kd.S_new' (Kd.S_new' ho0 (Kd.S_lt (by (with_reducible repeat (first | apply Kd.S_alloc | apply Kd.S_drewN | apply Kd.S_drew)); exact HO_6.out))) (Kd.S_lt (by (with_reducible repeat (first | apply Kd.S_alloc | apply Kd.S_drewN | apply Kd.S_drew)); exact HO306.out))) (below_size (by repeat (first | (with_reducible first | exact HB.out | apply below_alloc | apply pw_below_drewN | apply below_drew1) | exact HB.out)))); have n3_ := Aside0.mk (below_step (by repeat (first | (with_reducible first | exact HB.out | apply below_alloc | apply pw_below_drewN | apply below_drew1) | exact HB.out)) hb); clear HO_6; clear HO306; clear HB; have HO_6 := n0_; have HO306 := n1_; have HO310 := n2_; have HB := n3_; clear n0_ n1_ n2_ n3_; (try clear hb); (try clear hb2); (try clear hk); (try clear hi); (try clear ho0)) | ((with_reducible refine gate_callee (f := 27) rfl ?_); refine goesL_ (some 85) rfl rfl Try.func27 (by kernel_rfl) rfl #[.slice Ao49 t299.length co49, .slice A0 l0.length c0] rfl (by (try simp only [List.map_toArray, List.map_cons, List.map_nil]); first | done | rfl | (simp only [List.length_drop, List.length_take]; rfl)) ?_; (with_reducible refine (matrix_Mul.calls kj14 _ _ t299 _ _ l0 t311 t312 _ ?side1 ?side2 ?side3 ?side4 A25.out).mono ?_); (case side1 => repeat (first | exact (Kd.S_reads' HO_6.out).2.2 | (with_reducible refine Kd.C_alloc ?_ _) | (with_reducible refine Kd.C_drewN ?_ _) | (with_reducible refine Kd.C_drew ?_))); (case side2 => exact (Kd.S_reads' HO_6.out).2.1); (case side3 => repeat (first | exact (Kd.C_below HR0.out HB.out) | (with_reducible refine Kd.C_alloc ?_ _) | (with_reducible refine Kd.C_drewN ?_ _) | (with_reducible refine Kd.C_drew ?_))); (case side4 => exact HC0.out); rintro e w51 ⟨v313, rfl, ho0, hb⟩; refine ⟨_, rfl, ?_⟩; have n0_ := Aside0.mk (Kd.S_elder' (by (with_reducible repeat (first | apply Kd.S_alloc | apply Kd.S_drewN | apply Kd.S_drew)); exact HO_6.out) (Kd.S_base ho0) hb); have n1_ := Aside0.mk (Kd.S_elder' (by (with_reducible repeat (first | apply Kd.S_alloc | apply Kd.S_drewN | apply Kd.S_drew)); exact HO306.out) (Kd.S_base ho0) hb); have n2_ := Aside0.mk (Kd.S_elder' (by (with_reducible repeat (first | apply Kd.S_alloc | apply Kd.S_drewN | apply Kd.S_drew)); exact HO310.out) (Kd.S_base ho0) hb); have n3_ := Aside0.mk (Kd.S_lower (Kd.S_new' (Kd.S_new' (Kd.S_new' ho0 (Kd.S_lt (by (with_reducible repeat (first | apply Kd.S_alloc | apply Kd.S_drewN | apply Kd.S_drew)); exact HO_6.out))) (Kd.S_lt (by (with_reducible repeat (first | apply Kd.S_alloc | apply Kd.S_drewN | apply Kd.S_drew)); exact HO306.out))) (Kd.S_lt (by (with_reducible repeat (first | apply Kd.S_alloc | apply Kd.S_drewN | apply Kd.S_drew)); exact HO310.out))) (below_size (by repeat (first | (with_reducible first | exact HB.out | apply below_alloc | apply pw_below_drewN | apply below_drew1) | exact HB.out)))); have n4_ := Aside0.mk (below_step (by repeat (first | (with_reducible first | exact HB.out | apply below_alloc | apply pw_below_drewN | apply below_drew1) | exact HB.out)) hb); clear HO_6; clear HO306; clear HO310; clear HB; have HO_6 := n0_; have HO306 := n1_; have HO310 := n2_; have HO314 := n3_; have HB := n4_; clear n0_ n1_ n2_ n3_ n4_; (try clear hb); (try clear hb2); (try clear hk); (try clear hi); (try clear ho0)))
                  go_ret
                  exact ⟨by first | rfl | (simp [errW_none, errW_some] <;> rfl) | (simp [*, errW_none, errW_some] <;> rfl), by repeat (first | (with_reducible first | exact HB.out | apply below_alloc | apply pw_below_drewN | apply below_drew1) | exact HB.out)⟩
              · rw [if_neg c22] at H
                have c22b0 : (t300 == 0) = false := beq_eq_false_iff_ne.mpr c22
                have c22b1 : (t300 != 0) = true := bne_iff_ne.mpr c22
                by_cases c52 : t293 = true
                · subst c52
                  have H1 : (some (t300 == 120)) = some r := by rw [if_pos rfl] at H; exact H
                  clear H
                  have H := H1
                  clear H1
                  obtain rfl := Option.some.inj H
                  go_wp2
                  go_ret
                  exact ⟨by first | rfl | (simp [errW_none, errW_some] <;> rfl) | (simp [*, errW_none, errW_some] <;> rfl), by repeat (first | (with_reducible first | exact HB.out | apply below_alloc | apply pw_below_drewN | apply below_drew1) | exact HB.out)⟩
                · replace c52 := Bool.eq_false_iff.mpr c52
                  subst c52
                  have H1 : (some false) = some r := by rw [if_neg (show ¬ (false = true) by decide)] at H; exact H
                  clear H
                  have H := H1
                  clear H1
                  obtain rfl := Option.some.inj H
                  go_wp2
                  go_ret
                  exact ⟨by first | rfl | (simp [errW_none, errW_some] <;> rfl) | (simp [*, errW_none, errW_some] <;> rfl), by repeat (first | (with_reducible first | exact HB.out | apply below_alloc | apply pw_below_drewN | apply below_drew1) | exact HB.out)⟩

end Go.Proofs.Ythmlimkmcofkfaa.P
