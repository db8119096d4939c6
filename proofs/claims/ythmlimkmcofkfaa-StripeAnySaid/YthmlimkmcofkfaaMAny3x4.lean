/- StripeAny: any k shards tell the bytes and all other shards, of any bytes of at most 1,000, any k and m that may be, any choice of k, or of more, shards. (Part 5 of 8.) -/
import Derived.Test.YthmlimkmcofkfaaMAny3x3
/- Contracts of functions of the program, written by a program of this session. -/
namespace Go.Proofs.Ythmlimkmcofkfaa.Q
open Go.RowKit Go.Proofs.YthmlimkmcofkfaaW.PrintWords Go.Proofs.YthmlimkmcofkfaaW.PrintLast Go.Proofs.YthmlimkmcofkfaaW.PrintMore
attribute [local go_sem] max2_int min2_int max_two min_two max_three min_three max_four min_four   -- for this text's walks alone
open Go.Proofs.Ythmlimkmcofkfaa.B Go.Proofs.Ythmlimkmcofkfaa.E
set_option linter.unusedVariables false
set_option linter.unusedSimpArgs false

/-! ### stowagelaw03_StripeKnown: function 45 -/
def stowagelaw03_StripeKnown.f (k : Nat)  : Option (Bool) := (stripe_Length.f 5 2).bind fun bt202 => ((stripe_Length.f 0 3).bind fun bt204 => ((stowagelaw03_three.f).bind fun t206 => ((stripe_Join.f k t206 (([false, false, true] : List Bool)) 2 1 3).bind fun bt212 => ((stripe_Split.f k ([] : List Int) 16 1).bind fun bt216 => ((stripe_Join.f k (([(([1, 2] : List Int)), (([3] : List Int)), (([1, 1] : List Int))] : List (List Int))) (([true, true, false] : List Bool)) 2 1 3).bind fun bt235 => ((stowagelaw03_awake.f k).bind fun t239 => (if t239 = true then (if bt202.1 = 3 then (if bt202.2 = 0 then (if bt204.1 = 0 then (if bt204.2 = 0 then (if bt212.2 = 10 then (if bt216.2 = 5 then (some (bt235.2 == 2)) else (none)) else (none)) else (none)) else (none)) else (none)) else (none)) else (none))))))))
theorem stowagelaw03_StripeKnown.mono : ∀ k, LeO (stowagelaw03_StripeKnown.f k ) (stowagelaw03_StripeKnown.f (k + 1) ) := by
  intro  k
  unfold stowagelaw03_StripeKnown.f
  repeat' first
      | (with_reducible exact stowagelaw03_awake.mono _)
      | (with_reducible exact stripe_Join.mono _ _ _ _ _ _)
      | (with_reducible exact stripe_Split.mono _ _ _ _)
      | (with_reducible exact LeO.refl _)
      | (with_reducible exact LeO.none _)
      | (with_reducible refine LeO.ite ?_ ?_)
      | (with_reducible refine LeO.bind ?_ (fun _ => ?_))
      | exact stowagelaw03_awake.mono _
      | exact stripe_Join.mono _ _ _ _ _ _
      | exact stripe_Split.mono _ _ _ _
      | exact LeO.none _
      | refine LeO.ite ?_ ?_
      | refine LeO.bind ?_ (fun _ => ?_)
set_option maxHeartbeats 8000000 in
set_option maxRecDepth 100000 in
theorem stowagelaw03_StripeKnown.calls (k : Nat)  (r : Bool) (w : World) (h : stowagelaw03_StripeKnown.f k  = some r) :
    Calls Try.prog 45 #[] w fun e w' => e = .returned (.bool r) ∧ Below w.heap.size w w' := by
  have HB := Aside0.mk (Below.refl w.heap.size w)
  have H : ((stripe_Length.f 5 2).bind fun bt202 => ((stripe_Length.f 0 3).bind fun bt204 => ((stowagelaw03_three.f).bind fun t206 => ((stripe_Join.f k t206 (([false, false, true] : List Bool)) 2 1 3).bind fun bt212 => ((stripe_Split.f k ([] : List Int) 16 1).bind fun bt216 => ((stripe_Join.f k (([(([1, 2] : List Int)), (([3] : List Int)), (([1, 1] : List Int))] : List (List Int))) (([true, true, false] : List Bool)) 2 1 3).bind fun bt235 => ((stowagelaw03_awake.f k).bind fun t239 => (if t239 = true then (if bt202.1 = 3 then (if bt202.2 = 0 then (if bt204.1 = 0 then (if bt204.2 = 0 then (if bt212.2 = 10 then (if bt216.2 = 5 then (some (bt235.2 == 2)) else (none)) else (none)) else (none)) else (none)) else (none)) else (none)) else (none))))))))) = some r := h
  clear h
  replace H := Option.bind_eq_some_iff.mp H
  obtain ⟨⟨t202, t203⟩, A10, H⟩ := H
  replace H : ((stripe_Length.f 0 3).bind fun bt204 => ((stowagelaw03_three.f).bind fun t206 => ((stripe_Join.f k t206 (([false, false, true] : List Bool)) 2 1 3).bind fun bt212 => ((stripe_Split.f k ([] : List Int) 16 1).bind fun bt216 => ((stripe_Join.f k (([(([1, 2] : List Int)), (([3] : List Int)), (([1, 1] : List Int))] : List (List Int))) (([true, true, false] : List Bool)) 2 1 3).bind fun bt235 => ((stowagelaw03_awake.f k).bind fun t239 => (if t239 = true then (if t202 = 3 then (if t203 = 0 then (if bt204.1 = 0 then (if bt204.2 = 0 then (if bt212.2 = 10 then (if bt216.2 = 5 then (some (bt235.2 == 2)) else (none)) else (none)) else (none)) else (none)) else (none)) else (none)) else (none)))))))) = some r := H
  have A1 := Aside0.mk A10
  clear A10
  replace H := Option.bind_eq_some_iff.mp H
  obtain ⟨⟨t204, t205⟩, A20, H⟩ := H
  replace H : ((stowagelaw03_three.f).bind fun t206 => ((stripe_Join.f k t206 (([false, false, true] : List Bool)) 2 1 3).bind fun bt212 => ((stripe_Split.f k ([] : List Int) 16 1).bind fun bt216 => ((stripe_Join.f k (([(([1, 2] : List Int)), (([3] : List Int)), (([1, 1] : List Int))] : List (List Int))) (([true, true, false] : List Bool)) 2 1 3).bind fun bt235 => ((stowagelaw03_awake.f k).bind fun t239 => (if t239 = true then (if t202 = 3 then (if t203 = 0 then (if t204 = 0 then (if t205 = 0 then (if bt212.2 = 10 then (if bt216.2 = 5 then (some (bt235.2 == 2)) else (none)) else (none)) else (none)) else (none)) else (none)) else (none)) else (none))))))) = some r := H
  have A2 := Aside0.mk A20
  clear A20
  replace H := Option.bind_eq_some_iff.mp H
  obtain ⟨t206, A30, H⟩ := H
  replace H : ((stripe_Join.f k t206 (([false, false, true] : List Bool)) 2 1 3).bind fun bt212 => ((stripe_Split.f k ([] : List Int) 16 1).bind fun bt216 => ((stripe_Join.f k (([(([1, 2] : List Int)), (([3] : List Int)), (([1, 1] : List Int))] : List (List Int))) (([true, true, false] : List Bool)) 2 1 3).bind fun bt235 => ((stowagelaw03_awake.f k).bind fun t239 => (if t239 = true then (if t202 = 3 then (if t203 = 0 then (if t204 = 0 then (if t205 = 0 then (if bt212.2 = 10 then (if bt216.2 = 5 then (some (bt235.2 == 2)) else (none)) else (none)) else (none)) else (none)) else (none)) else (none)) else (none)))))) = some r := H
  have A3 := Aside0.mk A30
  clear A30
  obtain ⟨y209, hy209⟩ : ∃ y_ : List Bool, y_ = (([false, false, true] : List Bool)) := ⟨_, rfl⟩
  replace H : ((stripe_Join.f k t206 y209 2 1 3).bind fun bt212 => ((stripe_Split.f k ([] : List Int) 16 1).bind fun bt216 => ((stripe_Join.f k (([(([1, 2] : List Int)), (([3] : List Int)), (([1, 1] : List Int))] : List (List Int))) (([true, true, false] : List Bool)) 2 1 3).bind fun bt235 => ((stowagelaw03_awake.f k).bind fun t239 => (if t239 = true then (if t202 = 3 then (if t203 = 0 then (if t204 = 0 then (if t205 = 0 then (if bt212.2 = 10 then (if bt216.2 = 5 then (some (bt235.2 == 2)) else (none)) else (none)) else (none)) else (none)) else (none)) else (none)) else (none)))))) = some r := by first | (rw [hy209]; with_reducible exact H) | (have H2_ := (Option.bind_some _ _).symm.trans H; rw [hy209]; with_reducible exact H2_) | (have H2_ := (Option.bind_some _ _).symm.trans H; with_reducible exact H2_) | with_reducible exact H | (rw [hy209]; exact H) | exact H
  have Ny209 := Aside0.mk hy209
  clear hy209
  replace H := Option.bind_eq_some_iff.mp H
  obtain ⟨⟨t212, t213⟩, A40, H⟩ := H
  replace H : ((stripe_Split.f k ([] : List Int) 16 1).bind fun bt216 => ((stripe_Join.f k (([(([1, 2] : List Int)), (([3] : List Int)), (([1, 1] : List Int))] : List (List Int))) (([true, true, false] : List Bool)) 2 1 3).bind fun bt235 => ((stowagelaw03_awake.f k).bind fun t239 => (if t239 = true then (if t202 = 3 then (if t203 = 0 then (if t204 = 0 then (if t205 = 0 then (if t213 = 10 then (if bt216.2 = 5 then (some (bt235.2 == 2)) else (none)) else (none)) else (none)) else (none)) else (none)) else (none)) else (none))))) = some r := H
  have A4 := Aside0.mk A40
  clear A40
  replace H := Option.bind_eq_some_iff.mp H
  obtain ⟨⟨t216, t217⟩, A50, H⟩ := H
  replace H : ((stripe_Join.f k (([(([1, 2] : List Int)), (([3] : List Int)), (([1, 1] : List Int))] : List (List Int))) (([true, true, false] : List Bool)) 2 1 3).bind fun bt235 => ((stowagelaw03_awake.f k).bind fun t239 => (if t239 = true then (if t202 = 3 then (if t203 = 0 then (if t204 = 0 then (if t205 = 0 then (if t213 = 10 then (if t217 = 5 then (some (bt235.2 == 2)) else (none)) else (none)) else (none)) else (none)) else (none)) else (none)) else (none)))) = some r := H
  have A5 := Aside0.mk A50
  clear A50
  obtain ⟨y220, hy220⟩ : ∃ y_ : List Int, y_ = (([1, 2] : List Int)) := ⟨_, rfl⟩
  replace H : ((stripe_Join.f k (([y220, (([3] : List Int)), (([1, 1] : List Int))] : List (List Int))) (([true, true, false] : List Bool)) 2 1 3).bind fun bt235 => ((stowagelaw03_awake.f k).bind fun t239 => (if t239 = true then (if t202 = 3 then (if t203 = 0 then (if t204 = 0 then (if t205 = 0 then (if t213 = 10 then (if t217 = 5 then (some (bt235.2 == 2)) else (none)) else (none)) else (none)) else (none)) else (none)) else (none)) else (none)))) = some r := by first | (rw [hy220]; with_reducible exact H) | (have H2_ := (Option.bind_some _ _).symm.trans H; rw [hy220]; with_reducible exact H2_) | (have H2_ := (Option.bind_some _ _).symm.trans H; with_reducible exact H2_) | with_reducible exact H | (rw [hy220]; exact H) | exact H
  have Ny220 := Aside0.mk hy220
  clear hy220
  obtain ⟨y223, hy223⟩ : ∃ y_ : List Int, y_ = (([3] : List Int)) := ⟨_, rfl⟩
  replace H : ((stripe_Join.f k (([y220, y223, (([1, 1] : List Int))] : List (List Int))) (([true, true, false] : List Bool)) 2 1 3).bind fun bt235 => ((stowagelaw03_awake.f k).bind fun t239 => (if t239 = true then (if t202 = 3 then (if t203 = 0 then (if t204 = 0 then (if t205 = 0 then (if t213 = 10 then (if t217 = 5 then (some (bt235.2 == 2)) else (none)) else (none)) else (none)) else (none)) else (none)) else (none)) else (none)))) = some r := by first | (rw [hy223]; with_reducible exact H) | (have H2_ := (Option.bind_some _ _).symm.trans H; rw [hy223]; with_reducible exact H2_) | (have H2_ := (Option.bind_some _ _).symm.trans H; with_reducible exact H2_) | with_reducible exact H | (rw [hy223]; exact H) | exact H
  have Ny223 := Aside0.mk hy223
  clear hy223
  obtain ⟨y226, hy226⟩ : ∃ y_ : List Int, y_ = (([1, 1] : List Int)) := ⟨_, rfl⟩
  replace H : ((stripe_Join.f k (([y220, y223, y226] : List (List Int))) (([true, true, false] : List Bool)) 2 1 3).bind fun bt235 => ((stowagelaw03_awake.f k).bind fun t239 => (if t239 = true then (if t202 = 3 then (if t203 = 0 then (if t204 = 0 then (if t205 = 0 then (if t213 = 10 then (if t217 = 5 then (some (bt235.2 == 2)) else (none)) else (none)) else (none)) else (none)) else (none)) else (none)) else (none)))) = some r := by first | (rw [hy226]; with_reducible exact H) | (have H2_ := (Option.bind_some _ _).symm.trans H; rw [hy226]; with_reducible exact H2_) | (have H2_ := (Option.bind_some _ _).symm.trans H; with_reducible exact H2_) | with_reducible exact H | (rw [hy226]; exact H) | exact H
  have Ny226 := Aside0.mk hy226
  clear hy226
  obtain ⟨y229, hy229⟩ : ∃ y_ : List (List Int), y_ = (([y220, y223, y226] : List (List Int))) := ⟨_, rfl⟩
  replace H : ((stripe_Join.f k y229 (([true, true, false] : List Bool)) 2 1 3).bind fun bt235 => ((stowagelaw03_awake.f k).bind fun t239 => (if t239 = true then (if t202 = 3 then (if t203 = 0 then (if t204 = 0 then (if t205 = 0 then (if t213 = 10 then (if t217 = 5 then (some (bt235.2 == 2)) else (none)) else (none)) else (none)) else (none)) else (none)) else (none)) else (none)))) = some r := by first | (rw [hy229]; with_reducible exact H) | (have H2_ := (Option.bind_some _ _).symm.trans H; rw [hy229]; with_reducible exact H2_) | (have H2_ := (Option.bind_some _ _).symm.trans H; with_reducible exact H2_) | with_reducible exact H | (rw [hy229]; exact H) | exact H
  have Ny229 := Aside0.mk hy229
  clear hy229
  obtain ⟨y232, hy232⟩ : ∃ y_ : List Bool, y_ = (([true, true, false] : List Bool)) := ⟨_, rfl⟩
  replace H : ((stripe_Join.f k y229 y232 2 1 3).bind fun bt235 => ((stowagelaw03_awake.f k).bind fun t239 => (if t239 = true then (if t202 = 3 then (if t203 = 0 then (if t204 = 0 then (if t205 = 0 then (if t213 = 10 then (if t217 = 5 then (some (bt235.2 == 2)) else (none)) else (none)) else (none)) else (none)) else (none)) else (none)) else (none)))) = some r := by first | (rw [hy232]; with_reducible exact H) | (have H2_ := (Option.bind_some _ _).symm.trans H; rw [hy232]; with_reducible exact H2_) | (have H2_ := (Option.bind_some _ _).symm.trans H; with_reducible exact H2_) | with_reducible exact H | (rw [hy232]; exact H) | exact H
  have Ny232 := Aside0.mk hy232
  clear hy232
  replace H := Option.bind_eq_some_iff.mp H
  obtain ⟨⟨t235, t236⟩, A60, H⟩ := H
  replace H : ((stowagelaw03_awake.f k).bind fun t239 => (if t239 = true then (if t202 = 3 then (if t203 = 0 then (if t204 = 0 then (if t205 = 0 then (if t213 = 10 then (if t217 = 5 then (some (t236 == 2)) else (none)) else (none)) else (none)) else (none)) else (none)) else (none)) else (none))) = some r := H
  have A6 := Aside0.mk A60
  clear A60
  replace H := Option.bind_eq_some_iff.mp H
  obtain ⟨t239, A70, H⟩ := H
  replace H : (if t239 = true then (if t202 = 3 then (if t203 = 0 then (if t204 = 0 then (if t205 = 0 then (if t213 = 10 then (if t217 = 5 then (some (t236 == 2)) else (none)) else (none)) else (none)) else (none)) else (none)) else (none)) else (none)) = some r := H
  have A7 := Aside0.mk A70
  clear A70
  by_cases c8 : t239 = true
  · subst c8
    have H1 : (if t202 = 3 then (if t203 = 0 then (if t204 = 0 then (if t205 = 0 then (if t213 = 10 then (if t217 = 5 then (some (t236 == 2)) else (none)) else (none)) else (none)) else (none)) else (none)) else (none)) = some r := by rw [if_pos rfl] at H; exact H
    clear H
    have H := H1
    clear H1
    by_cases c9 : t202 = 3
    · rw [if_pos c9] at H
      have c9b0 : (t202 == 3) = true := beq_iff_eq.mpr c9
      have c9b1 : (t202 != 3) = false := bne_eq_false_iff_eq.mpr c9
      clear c9
      by_cases c10 : t203 = 0
      · rw [if_pos c10] at H
        have c10b0 : (t203 == 0) = true := beq_iff_eq.mpr c10
        have c10b1 : (t203 != 0) = false := bne_eq_false_iff_eq.mpr c10
        clear c10
        by_cases c11 : t204 = 0
        · rw [if_pos c11] at H
          have c11b0 : (t204 == 0) = true := beq_iff_eq.mpr c11
          have c11b1 : (t204 != 0) = false := bne_eq_false_iff_eq.mpr c11
          clear c11
          by_cases c12 : t205 = 0
          · rw [if_pos c12] at H
            have c12b0 : (t205 == 0) = true := beq_iff_eq.mpr c12
            have c12b1 : (t205 != 0) = false := bne_eq_false_iff_eq.mpr c12
            clear c12
            by_cases c13 : t213 = 10
            · rw [if_pos c13] at H
              have c13b0 : (t213 == 10) = true := beq_iff_eq.mpr c13
              have c13b1 : (t213 != 10) = false := bne_eq_false_iff_eq.mpr c13
              clear c13
              by_cases c14 : t217 = 5
              · rw [if_pos c14] at H
                have c14b0 : (t217 == 5) = true := beq_iff_eq.mpr c14
                have c14b1 : (t217 != 5) = false := bne_eq_false_iff_eq.mpr c14
                clear c14
                obtain rfl := Option.some.inj H
                go_enter Try.func45, Try.ntmps45
                go_wp2_with (first | ((with_reducible refine gate_callee (f := 41) rfl ?_); refine goesL_ (some 12) rfl rfl Try.func41 (by kernel_rfl) rfl #[.int .i64 5, .int .i64 2] rfl (by (try simp only [List.map_toArray, List.map_cons, List.map_nil]); first | done | rfl | (simp only [List.length_drop, List.length_take]; rfl)) ?_; (with_reducible refine (stripe_Length.calls 5 2 t202 t203 _ A1.out).mono ?_); rintro e w' ⟨rfl, ⟨nd, rfl⟩⟩; refine ⟨_, rfl, ?_⟩) | ((with_reducible refine gate_callee (f := 41) rfl ?_); refine goesL_ (some 16) rfl rfl Try.func41 (by kernel_rfl) rfl #[.int .i64 0, .int .i64 3] rfl (by (try simp only [List.map_toArray, List.map_cons, List.map_nil]); first | done | rfl | (simp only [List.length_drop, List.length_take]; rfl)) ?_; (with_reducible refine (stripe_Length.calls 0 3 t204 t205 _ A2.out).mono ?_); rintro e w' ⟨rfl, ⟨nd, rfl⟩⟩; refine ⟨_, rfl, ?_⟩) | ((with_reducible refine gate_callee (f := 80) rfl ?_); refine goesL_ (some 20) rfl rfl Try.func80 (by kernel_rfl) rfl #[] rfl (by (try simp only [List.map_toArray, List.map_cons, List.map_nil]); first | done | rfl | (simp only [List.length_drop, List.length_take]; rfl)) ?_; (with_reducible refine (stowagelaw03_three.calls  t206 _ A3.out).mono ?_); rintro e w15 ⟨v207, rfl, ho0, hb⟩; refine ⟨_, rfl, ?_⟩; have n0_ := Aside0.mk (Kd.N_lower (Kd.N_mono (ok' := fun k_ => True) ho0 (fun k_ hk_ => trivial)) (below_size (by repeat (first | (with_reducible first | exact HB.out | apply below_alloc | apply pw_below_drewN | apply below_drew1) | exact HB.out)))); have n1_ := Aside0.mk (below_step (by repeat (first | (with_reducible first | exact HB.out | apply below_alloc | apply pw_below_drewN | apply below_drew1) | exact HB.out)) hb); clear HB; have HO208 := n0_; have HB := n1_; clear n0_ n1_; (try clear hb); (try clear hb2); (try clear hk); (try clear hi); (try clear ho0)) | ((with_reducible refine gate_dst (N := 21) rfl ?_); refine Kd.R_lit Kd.bool _ 4 ?hg (N := 21) ?hd (xs := ([false, false, true] : List Bool)) (inner := [.bool false, .bool false, .bool true]) (ok := fun _ => True) (okp := fun _ => True) ?hr ?hp (fun _ hk => hk) trivial (Below.refl _ _) (Nat.le_refl _) (by simp) ?_; (case hd => rfl); (case hg => rfl); (case hr => first | (go_simp; done) | (go_simp; rfl)); (case hp => exact (Reps.one (show Kd.M Kd.bool _ _ _ false [.bool false] from rfl) (Reps.one (show Kd.M Kd.bool _ _ _ false [.bool false] from rfl) (Reps.one (show Kd.M Kd.bool _ _ _ true [.bool true] from rfl) (Reps.none _ _))))); intro v210 w16 ho17 hb hg_ hnew_; clear hg_ hnew_; (first | rw [← Ny209.out] at ho17 | (simp only [Int.reduceToNat] at ho17; rw [← Ny209.out] at ho17)); have n0_ := Aside0.mk (Kd.N_elder' (by (with_reducible repeat (first | apply Kd.N_alloc | apply Kd.N_drewN | apply Kd.N_drew)); exact HO208.out) (Kd.R_base ho17) hb); have n1_ := Aside0.mk (Kd.R_lower ho17 (below_size (by repeat (first | (with_reducible first | exact HB.out | apply below_alloc | apply pw_below_drewN | apply below_drew1) | exact HB.out)))); have n2_ := Aside0.mk (below_step (by repeat (first | (with_reducible first | exact HB.out | apply below_alloc | apply pw_below_drewN | apply below_drew1) | exact HB.out)) hb); clear HO208; clear HB; have HO208 := n0_; have HO211 := n1_; have HB := n2_; clear n0_ n1_ n2_; clear hb ho17; obtain ⟨Ao18, co18, eo18⟩ := Kd.N_slice HO208.out; subst eo18; obtain ⟨Ao19, co19, eo19⟩ := Kd.R_slice HO211.out; subst eo19) | ((with_reducible refine gate_callee (f := 48) rfl ?_); refine goesL_ (some 22) rfl rfl Try.func48 (by kernel_rfl) rfl #[.slice Ao18 t206.length co18, .slice Ao19 y209.length co19, .int .i64 2, .int .i64 1, .int .i64 3] rfl (by (try simp only [List.map_toArray, List.map_cons, List.map_nil]); first | done | rfl | (simp only [List.length_drop, List.length_take]; rfl)) ?_; (with_reducible refine (stripe_Join.calls k _ _ t206 _ _ y209 2 1 3 t212 t213 _ ?side1 ?side2 ?side3 ?side4 A4.out).mono ?_); (case side1 => repeat (first | exact (Kd.N_reads' HO208.out).2.2 | (with_reducible refine Kd.C_alloc ?_ _) | (with_reducible refine Kd.C_drewN ?_ _) | (with_reducible refine Kd.C_drew ?_))); (case side2 => exact (Kd.N_reads' HO208.out).2.1); (case side3 => repeat (first | exact (Kd.R_reads' HO211.out).2.2 | (with_reducible refine Kd.C_alloc ?_ _) | (with_reducible refine Kd.C_drewN ?_ _) | (with_reducible refine Kd.C_drew ?_))); (case side4 => exact (Kd.R_reads' HO211.out).2.1); rintro e w20 ⟨v214, rfl, ho0, hb⟩; refine ⟨_, rfl, ?_⟩; have n0_ := Aside0.mk (Kd.N_elder' (by (with_reducible repeat (first | apply Kd.N_alloc | apply Kd.N_drewN | apply Kd.N_drew)); exact HO208.out) (Kd.R_base ho0) hb); have n1_ := Aside0.mk (Kd.R_below (by (with_reducible repeat (first | apply Kd.R_alloc | apply Kd.R_drewN | apply Kd.R_drew)); exact HO211.out) hb); have n2_ := Aside0.mk (Kd.R_lower ho0 (below_size (by repeat (first | (with_reducible first | exact HB.out | apply below_alloc | apply pw_below_drewN | apply below_drew1) | exact HB.out)))); have n3_ := Aside0.mk (below_step (by repeat (first | (with_reducible first | exact HB.out | apply below_alloc | apply pw_below_drewN | apply below_drew1) | exact HB.out)) hb); clear HO208; clear HO211; clear HB; have HO208 := n0_; have HO211 := n1_; have HO215 := n2_; have HB := n3_; clear n0_ n1_ n2_ n3_; (try clear hb); (try clear hb2); (try clear hk); (try clear hi); (try clear ho0)) | ((with_reducible refine gate_callee (f := 39) rfl ?_); refine goesL_ (some 26) rfl rfl Try.func39 (by kernel_rfl) rfl #[.slice none 0 0, .int .i64 16, .int .i64 1] rfl (by (try simp only [List.map_toArray, List.map_cons, List.map_nil]); first | done | rfl | (simp only [List.length_drop, List.length_take]; rfl)) ?_; (refine (stripe_Split.calls k _ _ ([] : List Int) 16 1 t216 t217 _ ?side1 ?side2 A5.out).mono ?_); (case side1 => exact Kd.C_nil _ _); (case side2 => exact Nat.le_refl _); rintro e w21 ⟨v218, rfl, ho0, hb⟩; refine ⟨_, rfl, ?_⟩; have n0_ := Aside0.mk (Kd.N_elder' (by (with_reducible repeat (first | apply Kd.N_alloc | apply Kd.N_drewN | apply Kd.N_drew)); exact HO208.out) (by first | exact Kd.N_base ho0 | exact Kd.S_base ho0) hb); have n1_ := Aside0.mk (Kd.R_below (by (with_reducible repeat (first | apply Kd.R_alloc | apply Kd.R_drewN | apply Kd.R_drew)); exact HO211.out) hb); have n2_ := Aside0.mk (Kd.R_below (by (with_reducible repeat (first | apply Kd.R_alloc | apply Kd.R_drewN | apply Kd.R_drew)); exact HO215.out) hb); have n3_ := Aside0.mk (Kd.N_lower (Kd.N_mono (ok' := fun k_ => some k_ ≠ (.slice Ao18 t206.length co18 : Value).ownBlock ∧ some k_ ≠ (.slice Ao19 y209.length co19 : Value).ownBlock ∧ some k_ ≠ (v214 : Value).ownBlock) (Kd.S_N (Kd.S_bound ho0)) (fun k_ hk_ => ⟨(Kd.fresh' (Kd.N_lt (by (with_reducible repeat (first | apply Kd.N_alloc | apply Kd.N_drewN | apply Kd.N_drew)); exact HO208.out)) k_ hk_.2.1), (Kd.fresh' (Kd.R_lt (by (with_reducible repeat (first | apply Kd.R_alloc | apply Kd.R_drewN | apply Kd.R_drew)); exact HO211.out)) k_ hk_.2.1), (Kd.fresh' (Kd.R_lt (by (with_reducible repeat (first | apply Kd.R_alloc | apply Kd.R_drewN | apply Kd.R_drew)); exact HO215.out)) k_ hk_.2.1)⟩)) (below_size (by repeat (first | (with_reducible first | exact HB.out | apply below_alloc | apply pw_below_drewN | apply below_drew1) | exact HB.out)))); have n4_ := Aside0.mk (below_step (by repeat (first | (with_reducible first | exact HB.out | apply below_alloc | apply pw_below_drewN | apply below_drew1) | exact HB.out)) hb); clear HO208; clear HO211; clear HO215; clear HB; have HO208 := n0_; have HO211 := n1_; have HO215 := n2_; have HO219 := n3_; have HB := n4_; clear n0_ n1_ n2_ n3_ n4_; (try clear hb); (try clear hb2); (try clear hk); (try clear hi); (try clear ho0)) | ((with_reducible refine gate_dst (N := 30) rfl ?_); refine Kd.R_lit (Kd.int .u8) _ 5 ?hg (N := 30) ?hd (xs := ([1, 2] : List Int)) (inner := [.int .u8 1, .int .u8 2]) (ok := fun _ => True) (okp := fun _ => True) ?hr ?hp (fun _ hk => hk) trivial (Below.refl _ _) (Nat.le_refl _) (by simp) ?_; (case hd => rfl); (case hg => rfl); (case hr => first | (go_simp; done) | (go_simp; rfl)); (case hp => exact (Reps.one (show Kd.M (Kd.int .u8) _ _ _ 1 [.int .u8 1] from rfl) (Reps.one (show Kd.M (Kd.int .u8) _ _ _ 2 [.int .u8 2] from rfl) (Reps.none _ _)))); intro v221 w22 ho23 hb hg_ hnew_; clear hg_ hnew_; (first | rw [← Ny220.out] at ho23 | (simp only [Int.reduceToNat] at ho23; rw [← Ny220.out] at ho23)); have n0_ := Aside0.mk (Kd.N_elder' (by (with_reducible repeat (first | apply Kd.N_alloc | apply Kd.N_drewN | apply Kd.N_drew)); exact HO208.out) (Kd.R_base ho23) hb); have n1_ := Aside0.mk (Kd.R_below (by (with_reducible repeat (first | apply Kd.R_alloc | apply Kd.R_drewN | apply Kd.R_drew)); exact HO211.out) hb); have n2_ := Aside0.mk (Kd.R_elder' (by (with_reducible repeat (first | apply Kd.R_alloc | apply Kd.R_drewN | apply Kd.R_drew)); exact HO215.out) (Kd.R_base ho23) hb); have n3_ := Aside0.mk (Kd.N_elder' (by (with_reducible repeat (first | apply Kd.N_alloc | apply Kd.N_drewN | apply Kd.N_drew)); exact HO219.out) (Kd.R_base ho23) hb); have n4_ := Aside0.mk (Kd.R_lower (Kd.R_new' ho23 (Kd.R_lt (by (with_reducible repeat (first | apply Kd.R_alloc | apply Kd.R_drewN | apply Kd.R_drew)); exact HO215.out))) (below_size (by repeat (first | (with_reducible first | exact HB.out | apply below_alloc | apply pw_below_drewN | apply below_drew1) | exact HB.out)))); have n5_ := Aside0.mk (below_step (by repeat (first | (with_reducible first | exact HB.out | apply below_alloc | apply pw_below_drewN | apply below_drew1) | exact HB.out)) hb); clear HO208; clear HO211; clear HO215; clear HO219; clear HB; have HO208 := n0_; have HO211 := n1_; have HO215 := n2_; have HO219 := n3_; have HO222 := n4_; have HB := n5_; clear n0_ n1_ n2_ n3_ n4_ n5_; clear hb ho23) | ((with_reducible refine gate_dst (N := 31) rfl ?_); refine Kd.R_lit (Kd.int .u8) _ 5 ?hg (N := 31) ?hd (xs := ([3] : List Int)) (inner := [.int .u8 3]) (ok := fun _ => True) (okp := fun _ => True) ?hr ?hp (fun _ hk => hk) trivial (Below.refl _ _) (Nat.le_refl _) (by simp) ?_; (case hd => rfl); (case hg => rfl); (case hr => first | (go_simp; done) | (go_simp; rfl)); (case hp => exact (Reps.one (show Kd.M (Kd.int .u8) _ _ _ 3 [.int .u8 3] from rfl) (Reps.none _ _))); intro v224 w24 ho25 hb hg_ hnew_; clear hg_ hnew_; (first | rw [← Ny223.out] at ho25 | (simp only [Int.reduceToNat] at ho25; rw [← Ny223.out] at ho25)); have n0_ := Aside0.mk (Kd.N_elder' (by (with_reducible repeat (first | apply Kd.N_alloc | apply Kd.N_drewN | apply Kd.N_drew)); exact HO208.out) (Kd.R_base ho25) hb); have n1_ := Aside0.mk (Kd.R_below (by (with_reducible repeat (first | apply Kd.R_alloc | apply Kd.R_drewN | apply Kd.R_drew)); exact HO211.out) hb); have n2_ := Aside0.mk (Kd.R_elder' (by (with_reducible repeat (first | apply Kd.R_alloc | apply Kd.R_drewN | apply Kd.R_drew)); exact HO215.out) (Kd.R_base ho25) hb); have n3_ := Aside0.mk (Kd.N_elder' (by (with_reducible repeat (first | apply Kd.N_alloc | apply Kd.N_drewN | apply Kd.N_drew)); exact HO219.out) (Kd.R_base ho25) hb); have n4_ := Aside0.mk (Kd.R_elder' (by (with_reducible repeat (first | apply Kd.R_alloc | apply Kd.R_drewN | apply Kd.R_drew)); exact HO222.out) (Kd.R_base ho25) hb); have n5_ := Aside0.mk (Kd.R_lower (Kd.R_new' (Kd.R_new' ho25 (Kd.R_lt (by (with_reducible repeat (first | apply Kd.R_alloc | apply Kd.R_drewN | apply Kd.R_drew)); exact HO215.out))) (Kd.R_lt (by (with_reducible repeat (first | apply Kd.R_alloc | apply Kd.R_drewN | apply Kd.R_drew)); exact HO222.out))) (below_size (by repeat (first | (with_reducible first | exact HB.out | apply below_alloc | apply pw_below_drewN | apply below_drew1) | exact HB.out)))); have n6_ := Aside0.mk (below_step (by repeat (first | (with_reducible first | exact HB.out | apply below_alloc | apply pw_below_drewN | apply below_drew1) | exact HB.out)) hb); clear HO208; clear HO211; clear HO215; clear HO219; clear HO222; clear HB; have HO208 := n0_; have HO211 := n1_; have HO215 := n2_; have HO219 := n3_; have HO222 := n4_; have HO225 := n5_; have HB := n6_; clear n0_ n1_ n2_ n3_ n4_ n5_ n6_; clear hb ho25) | ((with_reducible refine gate_dst (N := 32) rfl ?_); refine Kd.R_lit (Kd.int .u8) _ 5 ?hg (N := 32) ?hd (xs := ([1, 1] : List Int)) (inner := [.int .u8 1, .int .u8 1]) (ok := fun _ => True) (okp := fun _ => True) ?hr ?hp (fun _ hk => hk) trivial (Below.refl _ _) (Nat.le_refl _) (by simp) ?_; (case hd => rfl); (case hg => rfl); (case hr => first | (go_simp; done) | (go_simp; rfl)); (case hp => exact (Reps.one (show Kd.M (Kd.int .u8) _ _ _ 1 [.int .u8 1] from rfl) (Reps.one (show Kd.M (Kd.int .u8) _ _ _ 1 [.int .u8 1] from rfl) (Reps.none _ _)))); intro v227 w26 ho27 hb hg_ hnew_; clear hg_ hnew_; (first | rw [← Ny226.out] at ho27 | (simp only [Int.reduceToNat] at ho27; rw [← Ny226.out] at ho27)); have n0_ := Aside0.mk (Kd.N_elder' (by (with_reducible repeat (first | apply Kd.N_alloc | apply Kd.N_drewN | apply Kd.N_drew)); exact HO208.out) (Kd.R_base ho27) hb); have n1_ := Aside0.mk (Kd.R_below (by (with_reducible repeat (first | apply Kd.R_alloc | apply Kd.R_drewN | apply Kd.R_drew)); exact HO211.out) hb); have n2_ := Aside0.mk (Kd.R_elder' (by (with_reducible repeat (first | apply Kd.R_alloc | apply Kd.R_drewN | apply Kd.R_drew)); exact HO215.out) (Kd.R_base ho27) hb); have n3_ := Aside0.mk (Kd.N_elder' (by (with_reducible repeat (first | apply Kd.N_alloc | apply Kd.N_drewN | apply Kd.N_drew)); exact HO219.out) (Kd.R_base ho27) hb); have n4_ := Aside0.mk (Kd.R_elder' (by (with_reducible repeat (first | apply Kd.R_alloc | apply Kd.R_drewN | apply Kd.R_drew)); exact HO222.out) (Kd.R_base ho27) hb); have n5_ := Aside0.mk (Kd.R_elder' (by (with_reducible repeat (first | apply Kd.R_alloc | apply Kd.R_drewN | apply Kd.R_drew)); exact HO225.out) (Kd.R_base ho27) hb); have n6_ := Aside0.mk (Kd.R_lower (Kd.R_new' (Kd.R_new' (Kd.R_new' ho27 (Kd.R_lt (by (with_reducible repeat (first | apply Kd.R_alloc | apply Kd.R_drewN | apply Kd.R_drew)); exact HO215.out))) (Kd.R_lt (by (with_reducible repeat (first | apply Kd.R_alloc | apply Kd.R_drewN | apply Kd.R_drew)); exact HO222.out))) (Kd.R_lt (by (with_reducible repeat (first | apply Kd.R_alloc | apply Kd.R_drewN | apply Kd.R_drew)); exact HO225.out))) (below_size (by repeat (first | (with_reducible first | exact HB.out | apply below_alloc | apply pw_below_drewN | apply below_drew1) | exact HB.out)))); have n7_ := Aside0.mk (below_step (by repeat (first | (with_reducible first | exact HB.out | apply below_alloc | apply pw_below_drewN | apply below_drew1) | exact HB.out)) hb); clear HO208; clear HO211; clear HO215; clear HO219; clear HO222; clear HO225; clear HB; have HO208 := n0_; have HO211 := n1_; have HO215 := n2_; have HO219 := n3_; have HO222 := n4_; have HO225 := n5_; have HO228 := n6_; have HB := n7_; clear n0_ n1_ n2_ n3_ n4_ n5_ n6_ n7_; clear hb ho27; obtain ⟨Ao28, co28, eo28⟩ := Kd.R_slice HO222.out; subst eo28; obtain ⟨Ao29, co29, eo29⟩ := Kd.R_slice HO225.out; subst eo29; obtain ⟨Ao30, co30, eo30⟩ := Kd.R_slice HO228.out; subst eo30) | ((with_reducible refine gate_dst (N := 33) rfl ?_); refine Kd.N_lit (Kd.slice 5 (Kd.int .u8)) _ 41 ?hg (N' := 33) ?hd (xs := ([y220, y223, y226] : List (List Int))) (inner := [.slice Ao28 y220.length co28, .slice Ao29 y223.length co29, .slice Ao30 y226.length co30]) (ok := (fun k_ => some k_ ≠ (.slice Ao18 t206.length co18 : Value).ownBlock ∧ some k_ ≠ (.slice Ao19 y209.length co19 : Value).ownBlock ∧ some k_ ≠ (v214 : Value).ownBlock ∧ some k_ ≠ (v218 : Value).ownBlock)) (okp := (fun k_ => some k_ ≠ (.slice Ao18 t206.length co18 : Value).ownBlock ∧ some k_ ≠ (.slice Ao19 y209.length co19 : Value).ownBlock ∧ some k_ ≠ (v214 : Value).ownBlock ∧ some k_ ≠ (v218 : Value).ownBlock)) ?hr ?hp (fun _ hk => hk) ((show ∀ k_, w26.heap.size ≤ k_ → (fun k_ => some k_ ≠ (.slice Ao18 t206.length co18 : Value).ownBlock ∧ some k_ ≠ (.slice Ao19 y209.length co19 : Value).ownBlock ∧ some k_ ≠ (v214 : Value).ownBlock ∧ some k_ ≠ (v218 : Value).ownBlock) k_ from fun k_ hk => ⟨Kd.fresh' (Kd.N_lt (by (with_reducible repeat (first | apply Kd.N_alloc | apply Kd.N_drewN | apply Kd.N_drew)); exact HO208.out)) k_ hk, Kd.fresh' (Kd.R_lt (by (with_reducible repeat (first | apply Kd.R_alloc | apply Kd.R_drewN | apply Kd.R_drew)); exact HO211.out)) k_ hk, Kd.fresh' (Kd.R_lt (by (with_reducible repeat (first | apply Kd.R_alloc | apply Kd.R_drewN | apply Kd.R_drew)); exact HO215.out)) k_ hk, Kd.fresh' (Kd.N_lt (by (with_reducible repeat (first | apply Kd.N_alloc | apply Kd.N_drewN | apply Kd.N_drew)); exact HO219.out)) k_ hk⟩) _ (Nat.le_refl _)) (Below.refl _ _) (Nat.le_refl _) (by simp) ?_; (case hd => rfl); (case hg => rfl); (case hr => first | (go_simp; done) | (go_simp; rfl)); (case hp => exact (Reps.one (show Kd.FK (Kd.slice 5 (Kd.int .u8)) _ _ y220 [.slice Ao28 y220.length co28] from (Kd.FK_slice_mk (Kd.R_reads' (Kd.R_mono (ok' := (fun k_ => some k_ ≠ (.slice Ao18 t206.length co18 : Value).ownBlock ∧ some k_ ≠ (.slice Ao19 y209.length co19 : Value).ownBlock ∧ some k_ ≠ (v214 : Value).ownBlock ∧ some k_ ≠ (v218 : Value).ownBlock)) (Kd.R_apart' (Kd.R_apart' (Kd.R_apart' (HO222.out) (Kd.N_typed HO208.out) (by decide)) (Kd.R_typed HO211.out) (by decide)) (Kd.N_typed HO219.out) (by decide)) (fun k_ hk => ⟨hk.1.1.2, ⟨hk.1.2, ⟨hk.1.1.1.1.1.2, hk.2⟩⟩⟩))).2.1 (Kd.R_F (Kd.R_mono (ok' := (fun k_ => some k_ ≠ (.slice Ao18 t206.length co18 : Value).ownBlock ∧ some k_ ≠ (.slice Ao19 y209.length co19 : Value).ownBlock ∧ some k_ ≠ (v214 : Value).ownBlock ∧ some k_ ≠ (v218 : Value).ownBlock)) (Kd.R_apart' (Kd.R_apart' (Kd.R_apart' (HO222.out) (Kd.N_typed HO208.out) (by decide)) (Kd.R_typed HO211.out) (by decide)) (Kd.N_typed HO219.out) (by decide)) (fun k_ hk => ⟨hk.1.1.2, ⟨hk.1.2, ⟨hk.1.1.1.1.1.2, hk.2⟩⟩⟩))))) (Reps.one (show Kd.FK (Kd.slice 5 (Kd.int .u8)) _ _ y223 [.slice Ao29 y223.length co29] from (Kd.FK_slice_mk (Kd.R_reads' (Kd.R_mono (ok' := (fun k_ => some k_ ≠ (.slice Ao18 t206.length co18 : Value).ownBlock ∧ some k_ ≠ (.slice Ao19 y209.length co19 : Value).ownBlock ∧ some k_ ≠ (v214 : Value).ownBlock ∧ some k_ ≠ (v218 : Value).ownBlock)) (Kd.R_apart' (Kd.R_apart' (Kd.R_apart' (HO225.out) (Kd.N_typed HO208.out) (by decide)) (Kd.R_typed HO211.out) (by decide)) (Kd.N_typed HO219.out) (by decide)) (fun k_ hk => ⟨hk.1.1.2, ⟨hk.1.2, ⟨hk.1.1.1.1.1.2, hk.2⟩⟩⟩))).2.1 (Kd.R_F (Kd.R_mono (ok' := (fun k_ => some k_ ≠ (.slice Ao18 t206.length co18 : Value).ownBlock ∧ some k_ ≠ (.slice Ao19 y209.length co19 : Value).ownBlock ∧ some k_ ≠ (v214 : Value).ownBlock ∧ some k_ ≠ (v218 : Value).ownBlock)) (Kd.R_apart' (Kd.R_apart' (Kd.R_apart' (HO225.out) (Kd.N_typed HO208.out) (by decide)) (Kd.R_typed HO211.out) (by decide)) (Kd.N_typed HO219.out) (by decide)) (fun k_ hk => ⟨hk.1.1.2, ⟨hk.1.2, ⟨hk.1.1.1.1.1.2, hk.2⟩⟩⟩))))) (Reps.one (show Kd.FK (Kd.slice 5 (Kd.int .u8)) _ _ y226 [.slice Ao30 y226.length co30] from (Kd.FK_slice_mk (Kd.R_reads' (Kd.R_mono (ok' := (fun k_ => some k_ ≠ (.slice Ao18 t206.length co18 : Value).ownBlock ∧ some k_ ≠ (.slice Ao19 y209.length co19 : Value).ownBlock ∧ some k_ ≠ (v214 : Value).ownBlock ∧ some k_ ≠ (v218 : Value).ownBlock)) (Kd.R_apart' (Kd.R_apart' (Kd.R_apart' (HO228.out) (Kd.N_typed HO208.out) (by decide)) (Kd.R_typed HO211.out) (by decide)) (Kd.N_typed HO219.out) (by decide)) (fun k_ hk => ⟨hk.1.1.2, ⟨hk.1.2, ⟨hk.1.1.1.1.1.2, hk.2⟩⟩⟩))).2.1 (Kd.R_F (Kd.R_mono (ok' := (fun k_ => some k_ ≠ (.slice Ao18 t206.length co18 : Value).ownBlock ∧ some k_ ≠ (.slice Ao19 y209.length co19 : Value).ownBlock ∧ some k_ ≠ (v214 : Value).ownBlock ∧ some k_ ≠ (v218 : Value).ownBlock)) (Kd.R_apart' (Kd.R_apart' (Kd.R_apart' (HO228.out) (Kd.N_typed HO208.out) (by decide)) (Kd.R_typed HO211.out) (by decide)) (Kd.N_typed HO219.out) (by decide)) (fun k_ hk => ⟨hk.1.1.2, ⟨hk.1.2, ⟨hk.1.1.1.1.1.2, hk.2⟩⟩⟩))))) (Reps.none _ _))))); intro v230 w31 ho32 hb hg_ hnew_; clear hg_ hnew_; (first | rw [← Ny229.out] at ho32 | (simp only [Int.reduceToNat] at ho32; rw [← Ny229.out] at ho32)); have n0_ := Aside0.mk (Kd.N_elder' (by (with_reducible repeat (first | apply Kd.N_alloc | apply Kd.N_drewN | apply Kd.N_drew)); exact HO208.out) (Kd.N_base ho32) hb); have n1_ := Aside0.mk (Kd.R_below (by (with_reducible repeat (first | apply Kd.R_alloc | apply Kd.R_drewN | apply Kd.R_drew)); exact HO211.out) hb); have n2_ := Aside0.mk (Kd.R_below (by (with_reducible repeat (first | apply Kd.R_alloc | apply Kd.R_drewN | apply Kd.R_drew)); exact HO215.out) hb); have n3_ := Aside0.mk (Kd.N_elder' (by (with_reducible repeat (first | apply Kd.N_alloc | apply Kd.N_drewN | apply Kd.N_drew)); exact HO219.out) (Kd.N_base ho32) hb); have n4_ := Aside0.mk (Kd.N_lower ho32 (below_size (by repeat (first | (with_reducible first | exact HB.out | apply below_alloc | apply pw_below_drewN | apply below_drew1) | exact HB.out)))); have n5_ := Aside0.mk (below_step (by repeat (first | (with_reducible first | exact HB.out | apply below_alloc | apply pw_below_drewN | apply below_drew1) | exact HB.out)) hb); clear HO208; clear HO211; clear HO215; clear HO219; clear HB; clear HO222; clear HO225; clear HO228; have HO208 := n0_; have HO211 := n1_; have HO215 := n2_; have HO219 := n3_; have HO231 := n4_; have HB := n5_; clear n0_ n1_ n2_ n3_ n4_ n5_; clear hb ho32) | ((with_reducible refine gate_dst (N := 34) rfl ?_); refine Kd.R_lit Kd.bool _ 4 ?hg (N := 34) ?hd (xs := ([true, true, false] : List Bool)) (inner := [.bool true, .bool true, .bool false]) (ok := fun _ => True) (okp := fun _ => True) ?hr ?hp (fun _ hk => hk) trivial (Below.refl _ _) (Nat.le_refl _) (by simp) ?_; (case hd => rfl); (case hg => rfl); (case hr => first | (go_simp; done) | (go_simp; rfl)); (case hp => exact (Reps.one (show Kd.M Kd.bool _ _ _ true [.bool true] from rfl) (Reps.one (show Kd.M Kd.bool _ _ _ true [.bool true] from rfl) (Reps.one (show Kd.M Kd.bool _ _ _ false [.bool false] from rfl) (Reps.none _ _))))); intro v233 w33 ho34 hb hg_ hnew_; clear hg_ hnew_; (first | rw [← Ny232.out] at ho34 | (simp only [Int.reduceToNat] at ho34; rw [← Ny232.out] at ho34)); have n0_ := Aside0.mk (Kd.N_elder' (by (with_reducible repeat (first | apply Kd.N_alloc | apply Kd.N_drewN | apply Kd.N_drew)); exact HO208.out) (Kd.R_base ho34) hb); have n1_ := Aside0.mk (Kd.R_elder' (by (with_reducible repeat (first | apply Kd.R_alloc | apply Kd.R_drewN | apply Kd.R_drew)); exact HO211.out) (Kd.R_base ho34) hb); have n2_ := Aside0.mk (Kd.R_below (by (with_reducible repeat (first | apply Kd.R_alloc | apply Kd.R_drewN | apply Kd.R_drew)); exact HO215.out) hb); have n3_ := Aside0.mk (Kd.N_elder' (by (with_reducible repeat (first | apply Kd.N_alloc | apply Kd.N_drewN | apply Kd.N_drew)); exact HO219.out) (Kd.R_base ho34) hb); have n4_ := Aside0.mk (Kd.N_elder' (by (with_reducible repeat (first | apply Kd.N_alloc | apply Kd.N_drewN | apply Kd.N_drew)); exact HO231.out) (Kd.R_base ho34) hb); have n5_ := Aside0.mk (Kd.R_lower (Kd.R_new' ho34 (Kd.R_lt (by (with_reducible repeat (first | apply Kd.R_alloc | apply Kd.R_drewN | apply Kd.R_drew)); exact HO211.out))) (below_size (by repeat (first | (with_reducible first | exact HB.out | apply below_alloc | apply pw_below_drewN | apply below_drew1) | exact HB.out)))); have n6_ := Aside0.mk (below_step (by repeat (first | (with_reducible first | exact HB.out | apply below_alloc | apply pw_below_drewN | apply below_drew1) | exact HB.out)) hb); clear HO208; clear HO211; clear HO215; clear HO219; clear HO231; clear HB; have HO208 := n0_; have HO211 := n1_; have HO215 := n2_; have HO219 := n3_; have HO231 := n4_; have HO234 := n5_; have HB := n6_; clear n0_ n1_ n2_ n3_ n4_ n5_ n6_; clear hb ho34; obtain ⟨Ao35, co35, eo35⟩ := Kd.N_slice HO231.out; subst eo35; obtain ⟨Ao36, co36, eo36⟩ := Kd.R_slice HO234.out; subst eo36) | ((with_reducible refine gate_callee (f := 48) rfl ?_); refine goesL_ (some 35) rfl rfl Try.func48 (by kernel_rfl) rfl #[.slice Ao35 y229.length co35, .slice Ao36 y232.length co36, .int .i64 2, .int .i64 1, .int .i64 3] rfl (by (try simp only [List.map_toArray, List.map_cons, List.map_nil]); first | done | rfl | (simp only [List.length_drop, List.length_take]; rfl)) ?_; (with_reducible refine (stripe_Join.calls k _ _ y229 _ _ y232 2 1 3 t235 t236 _ ?side1 ?side2 ?side3 ?side4 A6.out).mono ?_); (case side1 => repeat (first | exact (Kd.N_reads' HO231.out).2.2 | (with_reducible refine Kd.C_alloc ?_ _) | (with_reducible refine Kd.C_drewN ?_ _) | (with_reducible refine Kd.C_drew ?_))); (case side2 => exact (Kd.N_reads' HO231.out).2.1); (case side3 => repeat (first | exact (Kd.R_reads' HO234.out).2.2 | (with_reducible refine Kd.C_alloc ?_ _) | (with_reducible refine Kd.C_drewN ?_ _) | (with_reducible refine Kd.C_drew ?_))); (case side4 => exact (Kd.R_reads' HO234.out).2.1); rintro e w37 ⟨v237, rfl, ho0, hb⟩; refine ⟨_, rfl, ?_⟩; have n0_ := Aside0.mk (Kd.N_elder' (by (with_reducible repeat (first | apply Kd.N_alloc | apply Kd.N_drewN | apply Kd.N_drew)); exact HO208.out) (Kd.R_base ho0) hb); have n1_ := Aside0.mk (Kd.R_below (by (with_reducible repeat (first | apply Kd.R_alloc | apply Kd.R_drewN | apply Kd.R_drew)); exact HO211.out) hb); have n2_ := Aside0.mk (Kd.R_elder' (by (with_reducible repeat (first | apply Kd.R_alloc | apply Kd.R_drewN | apply Kd.R_drew)); exact HO215.out) (Kd.R_base ho0) hb); have n3_ := Aside0.mk (Kd.N_elder' (by (with_reducible repeat (first | apply Kd.N_alloc | apply Kd.N_drewN | apply Kd.N_drew)); exact HO219.out) (Kd.R_base ho0) hb); have n4_ := Aside0.mk (Kd.N_elder' (by (with_reducible repeat (first | apply Kd.N_alloc | apply Kd.N_drewN | apply Kd.N_drew)); exact HO231.out) (Kd.R_base ho0) hb); have n5_ := Aside0.mk (Kd.R_below (by (with_reducible repeat (first | apply Kd.R_alloc | apply Kd.R_drewN | apply Kd.R_drew)); exact HO234.out) hb); have n6_ := Aside0.mk (Kd.R_lower (Kd.R_new' ho0 (Kd.R_lt (by (with_reducible repeat (first | apply Kd.R_alloc | apply Kd.R_drewN | apply Kd.R_drew)); exact HO215.out))) (below_size (by repeat (first | (with_reducible first | exact HB.out | apply below_alloc | apply pw_below_drewN | apply below_drew1) | exact HB.out)))); have n7_ := Aside0.mk (below_step (by repeat (first | (with_reducible first | exact HB.out | apply below_alloc | apply pw_below_drewN | apply below_drew1) | exact HB.out)) hb); clear HO208; clear HO211; clear HO215; clear HO219; clear HO231; clear HO234; clear HB; have HO208 := n0_; have HO211 := n1_; have HO215 := n2_; have HO219 := n3_; have HO231 := n4_; have HO234 := n5_; have HO238 := n6_; have HB := n7_; clear n0_ n1_ n2_ n3_ n4_ n5_ n6_ n7_; (try clear hb); (try clear hb2); (try clear hk); (try clear hi); (try clear ho0)) | ((with_reducible refine gate_callee (f := 44) rfl ?_); refine goesL_ (some 38) rfl rfl Try.func44 (by kernel_rfl) rfl #[] rfl (by (try simp only [List.map_toArray, List.map_cons, List.map_nil]); first | done | rfl | (simp only [List.length_drop, List.length_take]; rfl)) ?_; (with_reducible refine (stowagelaw03_awake.calls k  true _ A7.out).mono ?_); rintro e w38 ⟨rfl, hb⟩; refine ⟨_, rfl, ?_⟩; have n0_ := Aside0.mk (Kd.N_below (by (with_reducible repeat (first | apply Kd.N_alloc | apply Kd.N_drewN | apply Kd.N_drew)); exact HO208.out) hb); have n1_ := Aside0.mk (Kd.R_below (by (with_reducible repeat (first | apply Kd.R_alloc | apply Kd.R_drewN | apply Kd.R_drew)); exact HO211.out) hb); have n2_ := Aside0.mk (Kd.R_below (by (with_reducible repeat (first | apply Kd.R_alloc | apply Kd.R_drewN | apply Kd.R_drew)); exact HO215.out) hb); have n3_ := Aside0.mk (Kd.N_below (by (with_reducible repeat (first | apply Kd.N_alloc | apply Kd.N_drewN | apply Kd.N_drew)); exact HO219.out) hb); have n4_ := Aside0.mk (Kd.N_below (by (with_reducible repeat (first | apply Kd.N_alloc | apply Kd.N_drewN | apply Kd.N_drew)); exact HO231.out) hb); have n5_ := Aside0.mk (Kd.R_below (by (with_reducible repeat (first | apply Kd.R_alloc | apply Kd.R_drewN | apply Kd.R_drew)); exact HO234.out) hb); have n6_ := Aside0.mk (Kd.R_below (by (with_reducible repeat (first | apply Kd.R_alloc | apply Kd.R_drewN | apply Kd.R_drew)); exact HO238.out) hb); have n7_ := Aside0.mk (below_step (by repeat (first | (with_reducible first | exact HB.out | apply below_alloc | apply pw_below_drewN | apply below_drew1) | exact HB.out)) hb); clear HO208; clear HO211; clear HO215; clear HO219; clear HO231; clear HO234; clear HO238; clear HB; have HO208 := n0_; have HO211 := n1_; have HO215 := n2_; have HO219 := n3_; have HO231 := n4_; have HO234 := n5_; have HO238 := n6_; have HB := n7_; clear n0_ n1_ n2_ n3_ n4_ n5_ n6_ n7_; (try clear hb); (try clear hb2); (try clear hk); (try clear hi)))
                go_ret
                exact ⟨by first | rfl | (simp [errW_none, errW_some] <;> rfl) | (simp [*, errW_none, errW_some] <;> rfl), by repeat (first | (with_reducible first | exact HB.out | apply below_alloc | apply pw_below_drewN | apply below_drew1) | exact HB.out)⟩
              · rw [if_neg c14] at H
                exact absurd H (by simp)
            · rw [if_neg c13] at H
              exact absurd H (by simp)
          · rw [if_neg c12] at H
            exact absurd H (by simp)
        · rw [if_neg c11] at H
          exact absurd H (by simp)
      · rw [if_neg c10] at H
        exact absurd H (by simp)
    · rw [if_neg c9] at H
      exact absurd H (by simp)
  · replace c8 := Bool.eq_false_iff.mpr c8
    subst c8
    have H1 : (none) = some r := by rw [if_neg (show ¬ (false = true) by decide)] at H; exact H
    clear H
    have H := H1
    clear H1
    exact absurd H (by simp)

end Go.Proofs.Ythmlimkmcofkfaa.Q

/- Contracts of functions of the program, written by a program of this session. -/
namespace Go.Proofs.Ythmlimkmcofkfaa.Q
open Go.RowKit Go.Proofs.YthmlimkmcofkfaaW.PrintWords Go.Proofs.YthmlimkmcofkfaaW.PrintLast Go.Proofs.YthmlimkmcofkfaaW.PrintMore
attribute [local go_sem] max2_int min2_int max_two min_two max_three min_three max_four min_four   -- for this text's walks alone
open Go.Proofs.Ythmlimkmcofkfaa.B Go.Proofs.Ythmlimkmcofkfaa.E
set_option linter.unusedVariables false
set_option linter.unusedSimpArgs false

/-! ### stripe_Mend: function 47 -/
def stripe_Mend.l0 : Nat → Int → Int → List (List Int) → List (List Int) → Int → Int → Option ((List (List Int)) × Int)
  | 0, _, _, _, _, _, _ => none
  | k + 1, x2, x10, x12, x52, x53, x54 => if x54 < x53 then (if 0 ≤ x54 then (if x54 < (x52.length : Int) then (if 0 ≤ x2 then (if x2 ≤ (x12.length : Int) then ((stripe_apply.f (rd_L1 x52 x54) (x12.take (x2 : Int).toNat) x10).bind fun t267 => (if x12.length < 5864062014805 then (stripe_Mend.l0 k x2 x10 (x12 ++ [t267]) x52 x53 (wrap64 (x54 + 1))) else (none))) else (none)) else (none)) else (none)) else (none)) else (some (x12, 0))
def stripe_Mend.f (k : Nat) (l0 : List (List Int)) (l1 : List Bool) (a2 : Int) (a3 : Int) : Option ((List (List Int)) × Int) := (stripe_may.f a2 a3).bind fun t247 => (if t247 = true then ((stripe_look.f k l0 l1 a2 a3 (-1)).bind fun bt248 => (if bt248.2 = 0 then ((stripe_data.f k l0 l1 a2 a3 bt248.1).bind fun bt250 => (if bt250.2 = true then ((matrix_Code.f k a2 a3).bind fun bt254 => (if 0 ≤ a2 then (if a2 ≤ (bt254.1.length : Int) then ((some (bt254.1.drop (a2 : Int).toNat : List (List Int))).bind fun y258 => (stripe_Mend.l0 k a2 bt248.1 bt250.1 y258 (y258.length : Int) 0)) else (none)) else (none))) else (some (([] : List (List Int)), 10)))) else (some (([] : List (List Int)), bt248.2)))) else (some (([] : List (List Int)), 5)))
theorem stripe_Mend.mono_l : ∀ k, (∀ y0 y1 y2 y3 y4 y5, LeO (stripe_Mend.l0 k y0 y1 y2 y3 y4 y5) (stripe_Mend.l0 (k + 1) y0 y1 y2 y3 y4 y5))
  | 0 => fun _ _ _ _ _ _ r h => by simp [stripe_Mend.l0] at h
  | k + 1 => by
    have ih0 := stripe_Mend.mono_l k
    · intro y0 y1 y2 y3 y4 y5
      unfold stripe_Mend.l0
      repeat' first
      | (with_reducible exact ih0 _ _ _ _ _ _)
      | (with_reducible exact matrix_Code.mono _ _ _)
      | (with_reducible exact stripe_data.mono _ _ _ _ _ _)
      | (with_reducible exact stripe_look.mono _ _ _ _ _ _)
      | (with_reducible exact LeO.refl _)
      | (with_reducible exact LeO.none _)
      | (with_reducible refine LeO.ite ?_ ?_)
      | (with_reducible refine LeO.bind ?_ (fun _ => ?_))
      | exact ih0 _ _ _ _ _ _
      | exact matrix_Code.mono _ _ _
      | exact stripe_data.mono _ _ _ _ _ _
      | exact stripe_look.mono _ _ _ _ _ _
      | exact LeO.none _
      | refine LeO.ite ?_ ?_
      | refine LeO.bind ?_ (fun _ => ?_)
theorem stripe_Mend.mono : ∀ a0 a1 a2 a3 k, LeO (stripe_Mend.f k a0 a1 a2 a3) (stripe_Mend.f (k + 1) a0 a1 a2 a3) := by
  intro a0 a1 a2 a3 k
  have ih0 := stripe_Mend.mono_l k
  unfold stripe_Mend.f
  repeat' first
      | (with_reducible exact ih0 _ _ _ _ _ _)
      | (with_reducible exact matrix_Code.mono _ _ _)
      | (with_reducible exact stripe_data.mono _ _ _ _ _ _)
      | (with_reducible exact stripe_look.mono _ _ _ _ _ _)
      | (with_reducible exact LeO.refl _)
      | (with_reducible exact LeO.none _)
      | (with_reducible refine LeO.ite ?_ ?_)
      | (with_reducible refine LeO.bind ?_ (fun _ => ?_))
      | exact ih0 _ _ _ _ _ _
      | exact matrix_Code.mono _ _ _
      | exact stripe_data.mono _ _ _ _ _ _
      | exact stripe_look.mono _ _ _ _ _ _
      | exact LeO.none _
      | refine LeO.ite ?_ ?_
      | refine LeO.bind ?_ (fun _ => ?_)
set_option maxHeartbeats 8000000 in
set_option maxRecDepth 100000 in
theorem stripe_Mend.calls (k : Nat) (A0 : Option Addr) (c0 : Nat) (l0 : List (List Int)) (A1 : Option Addr) (c1 : Nat) (l1 : List Bool) (a2 : Int) (a3 : Int) (r1 : List (List Int)) (r2 : Int) (w : World) (hr0 : Kd.C (Kd.slice 5 (Kd.int .u8)) w A0 l0.length l0) (hc0 : l0.length ≤ c0) (hr1 : Kd.C Kd.bool w A1 l1.length l1) (hc1 : l1.length ≤ c1) (h : stripe_Mend.f k l0 l1 a2 a3 = some (r1, r2)) :
    Calls Try.prog 47 #[.slice A0 l0.length c0, .slice A1 l1.length c1, .int .i64 a2, .int .i64 a3] w fun e w' => ∃ v0_ : Value, e = .returned (.tuple #[v0_, .int .i64 r2]) ∧ Kd.S (Kd.slice 5 (Kd.int .u8)) 41 w' w.heap.size (fun _ => True) v0_ r1 ∧ Below w.heap.size w w' := by
  have HR0 := Aside0.mk hr0
  have HC0 := Aside0.mk hc0
  clear hr0 hc0
  have HR1 := Aside0.mk hr1
  have HC1 := Aside0.mk hc1
  clear hr1 hc1
  have HB := Aside0.mk (Below.refl w.heap.size w)
  have H : ((stripe_may.f a2 a3).bind fun t247 => (if t247 = true then ((stripe_look.f k l0 l1 a2 a3 (-1)).bind fun bt248 => (if bt248.2 = 0 then ((stripe_data.f k l0 l1 a2 a3 bt248.1).bind fun bt250 => (if bt250.2 = true then ((matrix_Code.f k a2 a3).bind fun bt254 => (if 0 ≤ a2 then (if a2 ≤ (bt254.1.length : Int) then ((some (bt254.1.drop (a2 : Int).toNat : List (List Int))).bind fun y258 => (stripe_Mend.l0 k a2 bt248.1 bt250.1 y258 (y258.length : Int) 0)) else (none)) else (none))) else (some (([] : List (List Int)), 10)))) else (some (([] : List (List Int)), bt248.2)))) else (some (([] : List (List Int)), 5)))) = some (r1, r2) := h
  clear h
  replace H := Option.bind_eq_some_iff.mp H
  obtain ⟨t247, A50, H⟩ := H
  replace H : (if t247 = true then ((stripe_look.f k l0 l1 a2 a3 (-1)).bind fun bt248 => (if bt248.2 = 0 then ((stripe_data.f k l0 l1 a2 a3 bt248.1).bind fun bt250 => (if bt250.2 = true then ((matrix_Code.f k a2 a3).bind fun bt254 => (if 0 ≤ a2 then (if a2 ≤ (bt254.1.length : Int) then ((some (bt254.1.drop (a2 : Int).toNat : List (List Int))).bind fun y258 => (stripe_Mend.l0 k a2 bt248.1 bt250.1 y258 (y258.length : Int) 0)) else (none)) else (none))) else (some (([] : List (List Int)), 10)))) else (some (([] : List (List Int)), bt248.2)))) else (some (([] : List (List Int)), 5))) = some (r1, r2) := H
  have A5 := Aside0.mk A50
  clear A50
  by_cases c6 : t247 = true
  · subst c6
    have H1 : ((stripe_look.f k l0 l1 a2 a3 (-1)).bind fun bt248 => (if bt248.2 = 0 then ((stripe_data.f k l0 l1 a2 a3 bt248.1).bind fun bt250 => (if bt250.2 = true then ((matrix_Code.f k a2 a3).bind fun bt254 => (if 0 ≤ a2 then (if a2 ≤ (bt254.1.length : Int) then ((some (bt254.1.drop (a2 : Int).toNat : List (List Int))).bind fun y258 => (stripe_Mend.l0 k a2 bt248.1 bt250.1 y258 (y258.length : Int) 0)) else (none)) else (none))) else (some (([] : List (List Int)), 10)))) else (some (([] : List (List Int)), bt248.2)))) = some (r1, r2) := by rw [if_pos rfl] at H; exact H
    clear H
    have H := H1
    clear H1
    replace H := Option.bind_eq_some_iff.mp H
    obtain ⟨⟨t248, t249⟩, A70, H⟩ := H
    replace H : (if t249 = 0 then ((stripe_data.f k l0 l1 a2 a3 t248).bind fun bt250 => (if bt250.2 = true then ((matrix_Code.f k a2 a3).bind fun bt254 => (if 0 ≤ a2 then (if a2 ≤ (bt254.1.length : Int) then ((some (bt254.1.drop (a2 : Int).toNat : List (List Int))).bind fun y258 => (stripe_Mend.l0 k a2 t248 bt250.1 y258 (y258.length : Int) 0)) else (none)) else (none))) else (some (([] : List (List Int)), 10)))) else (some (([] : List (List Int)), t249))) = some (r1, r2) := H
    have A7 := Aside0.mk A70
    clear A70
    by_cases c8 : t249 = 0
    · rw [if_pos c8] at H
      have c8b0 : (t249 == 0) = true := beq_iff_eq.mpr c8
      have c8b1 : (t249 != 0) = false := bne_eq_false_iff_eq.mpr c8
      clear c8
      replace H := Option.bind_eq_some_iff.mp H
      obtain ⟨⟨t250, t251⟩, A90, H⟩ := H
      replace H : (if t251 = true then ((matrix_Code.f k a2 a3).bind fun bt254 => (if 0 ≤ a2 then (if a2 ≤ (bt254.1.length : Int) then ((some (bt254.1.drop (a2 : Int).toNat : List (List Int))).bind fun y258 => (stripe_Mend.l0 k a2 t248 t250 y258 (y258.length : Int) 0)) else (none)) else (none))) else (some (([] : List (List Int)), 10))) = some (r1, r2) := H
      have A9 := Aside0.mk A90
      clear A90
      by_cases c10 : t251 = true
      · subst c10
        have H1 : ((matrix_Code.f k a2 a3).bind fun bt254 => (if 0 ≤ a2 then (if a2 ≤ (bt254.1.length : Int) then ((some (bt254.1.drop (a2 : Int).toNat : List (List Int))).bind fun y258 => (stripe_Mend.l0 k a2 t248 t250 y258 (y258.length : Int) 0)) else (none)) else (none))) = some (r1, r2) := by rw [if_pos rfl] at H; exact H
        clear H
        have H := H1
        clear H1
        replace H := Option.bind_eq_some_iff.mp H
        obtain ⟨⟨t254, t255⟩, A110, H⟩ := H
        replace H : (if 0 ≤ a2 then (if a2 ≤ (t254.length : Int) then ((some (t254.drop (a2 : Int).toNat : List (List Int))).bind fun y258 => (stripe_Mend.l0 k a2 t248 t250 y258 (y258.length : Int) 0)) else (none)) else (none)) = some (r1, r2) := H
        have A11 := Aside0.mk A110
        clear A110
        by_cases c12 : 0 ≤ a2
        · rw [if_pos c12] at H
          have c12b0 := eq_true c12
          have c12b1 : decide (0 ≤ a2) = true := decide_eq_true c12
          clear c12
          by_cases c13 : a2 ≤ (t254.length : Int)
          · rw [if_pos c13] at H
            have c13b0 := eq_true c13
            have c13b1 : decide (a2 ≤ (t254.length : Int)) = true := decide_eq_true c13
            clear c13
            obtain ⟨y258, hy258⟩ : ∃ y_ : List (List Int), y_ = (t254.drop (a2 : Int).toNat) := ⟨_, rfl⟩
            replace H : (stripe_Mend.l0 k a2 t248 t250 y258 (y258.length : Int) 0) = some (r1, r2) := by first | (rw [hy258]; with_reducible exact H) | (have H2_ := (Option.bind_some _ _).symm.trans H; rw [hy258]; with_reducible exact H2_) | (have H2_ := (Option.bind_some _ _).symm.trans H; with_reducible exact H2_) | with_reducible exact H | (rw [hy258]; exact H) | exact H
            have Ny258 := Aside0.mk hy258
            clear hy258
            have H' := Aside0.mk H
            clear H
            go_enter Try.func47, Try.ntmps47
            go_wp2_with (first | ((with_reducible refine gate_callee (f := 75) rfl ?_); refine goesL_ (some 20) rfl rfl Try.func75 (by kernel_rfl) rfl #[.int .i64 a2, .int .i64 a3] rfl (by (try simp only [List.map_toArray, List.map_cons, List.map_nil]); first | done | rfl | (simp only [List.length_drop, List.length_take]; rfl)) ?_; (with_reducible refine (stripe_may.calls a2 a3 true _ A5.out).mono ?_); rintro e w' ⟨rfl, ⟨nd, rfl⟩⟩; refine ⟨_, rfl, ?_⟩) | ((with_reducible refine gate_callee (f := 81) rfl ?_); refine goesL_ (some 27) rfl rfl Try.func81 (by kernel_rfl) rfl #[.slice A0 l0.length c0, .slice A1 l1.length c1, .int .i64 a2, .int .i64 a3, .int .i64 (-1)] rfl (by (try simp only [List.map_toArray, List.map_cons, List.map_nil]); first | done | rfl | (simp only [List.length_drop, List.length_take]; rfl)) ?_; (with_reducible refine (stripe_look.calls k _ _ l0 _ _ l1 a2 a3 (-1) t248 t249 _ ?side1 ?side2 ?side3 ?side4 A7.out).mono ?_); (case side1 => repeat (first | exact HR0.out | (with_reducible refine Kd.C_alloc ?_ _) | (with_reducible refine Kd.C_drewN ?_ _) | (with_reducible refine Kd.C_drew ?_))); (case side2 => exact HC0.out); (case side3 => repeat (first | exact HR1.out | (with_reducible refine Kd.C_alloc ?_ _) | (with_reducible refine Kd.C_drewN ?_ _) | (with_reducible refine Kd.C_drew ?_))); (case side4 => exact HC1.out); rintro e w' ⟨rfl, ⟨nd, rfl⟩⟩; refine ⟨_, rfl, ?_⟩) | ((with_reducible refine gate_callee (f := 82) rfl ?_); refine goesL_ (some 39) rfl rfl Try.func82 (by kernel_rfl) rfl #[.slice A0 l0.length c0, .slice A1 l1.length c1, .int .i64 a2, .int .i64 a3, .int .i64 t248] rfl (by (try simp only [List.map_toArray, List.map_cons, List.map_nil]); first | done | rfl | (simp only [List.length_drop, List.length_take]; rfl)) ?_; (with_reducible refine (stripe_data.calls k _ _ l0 _ _ l1 a2 a3 t248 t250 true _ ?side1 ?side2 ?side3 ?side4 A9.out).mono ?_); (case side1 => repeat (first | exact HR0.out | (with_reducible refine Kd.C_alloc ?_ _) | (with_reducible refine Kd.C_drewN ?_ _) | (with_reducible refine Kd.C_drew ?_))); (case side2 => exact HC0.out); (case side3 => repeat (first | exact HR1.out | (with_reducible refine Kd.C_alloc ?_ _) | (with_reducible refine Kd.C_drewN ?_ _) | (with_reducible refine Kd.C_drew ?_))); (case side4 => exact HC1.out); rintro e w14 ⟨v252, rfl, ho0, hb⟩; refine ⟨_, rfl, ?_⟩; have n0_ := Aside0.mk (Kd.S_lower ho0 (below_size (by repeat (first | (with_reducible first | exact HB.out | apply below_alloc | apply pw_below_drewN | apply below_drew1) | exact HB.out)))); have n1_ := Aside0.mk (below_step (by repeat (first | (with_reducible first | exact HB.out | apply below_alloc | apply pw_below_drewN | apply below_drew1) | exact HB.out)) hb); clear HB; have HO253 := n0_; have HB := n1_; clear n0_ n1_; (try clear hb); (try clear hb2); (try clear hk); (try clear hi); (try clear ho0)) | ((with_reducible refine gate_callee (f := 20) rfl ?_); refine goesL_ (some 47) rfl rfl Try.func20 (by kernel_rfl) rfl #[.int .i64 a2, .int .i64 a3] rfl (by (try simp only [List.map_toArray, List.map_cons, List.map_nil]); first | done | rfl | (simp only [List.length_drop, List.length_take]; rfl)) ?_; (with_reducible refine (matrix_Code.calls k a2 a3 t254 t255 _ A11.out).mono ?_); rintro e w15 ⟨v256, rfl, ho0, hb⟩; refine ⟨_, rfl, ?_⟩; have NF_ : Aside0 (∃ N, Kd.S (Kd.slice 5 (Kd.int .u8)) 41 w15 w.heap.size (fun k => True ∧ k < N) v252 t250 ∧ Kd.S (Kd.slice 5 (Kd.int .u8)) 41 w15 N (fun _ => True) v256 t254) := ⟨⟨_, Kd.S_old (by (with_reducible repeat (first | apply Kd.S_alloc | apply Kd.S_drewN | apply Kd.S_drew)); exact HO253.out) hb, ho0⟩⟩; have n0_ := Aside0.mk (Kd.S_elder' (by (with_reducible repeat (first | apply Kd.S_alloc | apply Kd.S_drewN | apply Kd.S_drew)); exact HO253.out) (Kd.S_base ho0) hb); have n1_ := Aside0.mk (Kd.S_lower (Kd.S_new' ho0 (Kd.S_lt (by (with_reducible repeat (first | apply Kd.S_alloc | apply Kd.S_drewN | apply Kd.S_drew)); exact HO253.out))) (below_size (by repeat (first | (with_reducible first | exact HB.out | apply below_alloc | apply pw_below_drewN | apply below_drew1) | exact HB.out)))); have n2_ := Aside0.mk (below_step (by repeat (first | (with_reducible first | exact HB.out | apply below_alloc | apply pw_below_drewN | apply below_drew1) | exact HB.out)) hb); clear HO253; clear HB; have HO253 := n0_; have HO257 := n1_; have HB := n2_; clear n0_ n1_ n2_; (try clear hb); (try clear hb2); (try clear hk); (try clear hi); (try clear ho0); obtain ⟨Ao17, co17, eo17⟩ := Kd.S_slice HO257.out; subst eo17; have q16 : (a2 : Int) ≤ ((t254.length : Int) : Int) := of_decide_eq_true (by first | (with_reducible assumption) | assumption); obtain ⟨i016, hi016, _, hsz16, _⟩ := info_parts info41; have hroom16 : t254.length ≤ co17 := (Kd.S_reads' HO257.out).2.1; have hC16 : Kd.C (Kd.slice 5 (Kd.int .u8)) _ Ao17 t254.length t254 := (Kd.S_reads' HO257.out).2.2; have q016 : (0 : Int) ≤ (a2 : Int) := of_decide_eq_true (by first | (with_reducible assumption) | assumption); have hcut16 := cut_from (P := Try.prog) 22 41 .i64 Try.underlying22 hi016 1 hsz16 Ao17 t254.length co17 a2 q016 q16; have hr16 := Kd.C_drop (m := (a2 : Int).toNat) (c := co17) hC16 (by omega) hroom16; obtain ⟨A16, hA16⟩ : ∃ A1, A1 = (if co17 = (a2 : Int).toNat then Ao17 else (Ao17 : Option Addr).map (·.add ((a2 : Int).toNat * 1))) := ⟨_, rfl⟩; obtain ⟨c16, hc16⟩ : ∃ c1, c1 = co17 - (a2 : Int).toNat := ⟨_, rfl⟩; have hy16 : y258.length = t254.length - (a2 : Int).toNat := (by rw [Ny258.out, List.length_drop] <;> omega); rw [show (t254).drop (a2 : Int).toNat = y258 from Ny258.out.symm] at hr16; replace hr16 : Kd.C (Kd.slice 5 (Kd.int .u8)) _ A16 y258.length y258 := (by rw [hA16]; exact hr16); rw [← hy16, ← hA16, ← hc16] at hcut16; have HR261 := Aside0.mk hr16; have HC261 := Aside0.mk (show y258.length ≤ c16 from by rw [hy16, hc16]; exact Nat.sub_le_sub_right hroom16 _); clear hr16 hC16 hroom16 hi016 hsz16 hc16; have KY16 := Aside0.mk hy16; have KA16 := Aside0.mk hA16; clear hy16 hA16; have KL16 := Aside0.mk (show (a2 : Int).toNat ≤ t254.length from by omega); replace q16 := eq_true q16))
            obtain ⟨N_, hs10_, hsc_⟩ := NF_.out
            have HS10 := Aside0.mk (Kd.S_mono hs10_ (ok' := fun k => ¬ (N_ ≤ k ∧ k < w15.heap.size)) (fun k hk => by have := hk.2; omega))
            have HF := Aside0.mk (drop_frame hsc_ KL16.out KA16.out Ny258.out)
            clear hs10_ hsc_ NF_
            go_loopg [12, 54] k (fun kq v12 v54 w' => ∃ (x12_1 : List (List Int)) (x54_1 : Int), v54 = .int .i64 x54_1 ∧ Aside0 (stripe_Mend.l0 kq a2 t248 x12_1 y258 (y258.length : Int) x54_1 = some (r1, r2)) ∧ Aside0 (kq ≤ k) ∧ Aside0 (Kd.S (Kd.slice 5 (Kd.int .u8)) 41 w' w.heap.size (fun k => ¬ (N_ ≤ k ∧ k < w15.heap.size)) v12 x12_1) ∧ Aside0 (Keeps w15 N_ w') ∧ Aside0 (Below w.heap.size w w'))
            case atStart => exact ⟨(t250), (0), (by first | rfl | (simp; done) | (simp [*]; done)), H', ⟨Nat.le_refl _⟩, ⟨by (with_reducible repeat (first | apply Kd.S_alloc | apply Kd.S_drewN | apply Kd.S_drew)); exact HS10.out⟩, ⟨by (repeat first | exact Keeps.refl _ _ | apply Keeps.alloc | apply Keeps.drewN | apply Keeps.drew)⟩, ⟨by repeat (first | (with_reducible first | exact HB.out | apply below_alloc | apply pw_below_drewN | apply below_drew1) | exact HB.out)⟩⟩
            case round =>
              clear H'
              try clear c1
              try clear q1
              try clear c2
              try clear p2
              try clear c4
              try clear c6
              try clear c7
              try clear c8
              try clear c8b0
              try clear c8b1
              try clear c10
              try clear c12
              try clear c12b0
              try clear c12b1
              try clear c13
              try clear c13b0
              try clear c13b1
              try clear c16
              try clear q16
              try clear q016
              try clear q16
              obtain ⟨x12_1, x54_1, rfl, HA, HK1, HO_12, HKP, HB⟩ := hrel
              cases gk with
              | zero => exact absurd HA.out (by simp [stripe_Mend.l0])
              | succ k1 =>
                have H := HA.out
                clear HA
                simp only [stripe_Mend.l0] at H
                by_cases c18 : x54_1 < (y258.length : Int)
                · rw [if_pos c18] at H
                  have c18b0 : decide (x54_1 < (y258.length : Int)) = true := decide_eq_true c18
                  clear c18
                  by_cases c19 : 0 ≤ x54_1
                  · rw [if_pos c19] at H
                    have c19b0 : decide (0 ≤ x54_1) = true := decide_eq_true c19
                    clear c19
                    by_cases c20 : x54_1 < (y258.length : Int)
                    · rw [if_pos c20] at H
                      have c20b0 : decide (x54_1 < (y258.length : Int)) = true := decide_eq_true c20
                      clear c20
                      by_cases c21 : 0 ≤ a2
                      · rw [if_pos c21] at H
                        have c21b0 := eq_true c21
                        have c21b1 : decide (0 ≤ a2) = true := decide_eq_true c21
                        clear c21
                        by_cases c22 : a2 ≤ (x12_1.length : Int)
                        · rw [if_pos c22] at H
                          have c22b0 := eq_true c22
                          have c22b1 : decide (a2 ≤ (x12_1.length : Int)) = true := decide_eq_true c22
                          clear c22
                          obtain ⟨y263, hy263⟩ : ∃ y_ : List (List Int), y_ = (x12_1.take (a2 : Int).toNat) := ⟨_, rfl⟩
                          replace H : ((stripe_apply.f (rd_L1 y258 x54_1) y263 t248).bind fun t267 => (if x12_1.length < 5864062014805 then (stripe_Mend.l0 k1 a2 t248 (x12_1 ++ [t267]) y258 (y258.length : Int) (wrap64 (x54_1 + 1))) else (none))) = some (r1, r2) := by first | (rw [hy263]; with_reducible exact H) | (have H2_ := (Option.bind_some _ _).symm.trans H; rw [hy263]; with_reducible exact H2_) | (have H2_ := (Option.bind_some _ _).symm.trans H; with_reducible exact H2_) | with_reducible exact H | (rw [hy263]; exact H) | exact H
                          have Ny263 := Aside0.mk hy263
                          clear hy263
                          replace H := Option.bind_eq_some_iff.mp H
                          obtain ⟨t267, A230, H⟩ := H
                          replace H : (if x12_1.length < 5864062014805 then (stripe_Mend.l0 k1 a2 t248 (x12_1 ++ [t267]) y258 (y258.length : Int) (wrap64 (x54_1 + 1))) else (none)) = some (r1, r2) := H
                          have A23 := Aside0.mk A230
                          clear A230
                          by_cases c24 : x12_1.length < 5864062014805
                          · rw [if_pos c24] at H
                            have LMc24 := Aside0.mk c24
                            clear c24
                            obtain ⟨y270, hy270⟩ : ∃ y_ : List (List Int), y_ = (x12_1 ++ [t267]) := ⟨_, rfl⟩
                            replace H : (stripe_Mend.l0 k1 a2 t248 y270 y258 (y258.length : Int) (wrap64 (x54_1 + 1))) = some (r1, r2) := by first | (rw [hy270]; with_reducible exact H) | (have H2_ := (Option.bind_some _ _).symm.trans H; rw [hy270]; with_reducible exact H2_) | (have H2_ := (Option.bind_some _ _).symm.trans H; with_reducible exact H2_) | with_reducible exact H | (rw [hy270]; exact H) | exact H
                            have Ny270 := Aside0.mk hy270
                            clear hy270
                            have H' := Aside0.mk H
                            clear H
                            have p262 : 0 ≤ (x54_1 : Int) := of_decide_eq_true (by first | (with_reducible assumption) | assumption)
                            have q262 : x54_1 < (y258.length : Int) := of_decide_eq_true (by first | (with_reducible assumption) | assumption)
                            obtain ⟨ad262, A262_0, c262_0, e262, hx262_0, hl262_0, hi262_0⟩ := at_L1 (HF.out _ HKP.out) x54_1 p262 q262
                            cases e262
                            have HR262_0 := Aside0.mk hi262_0
                            have HC262_0 := Aside0.mk hl262_0
                            clear hi262_0 hl262_0
                            replace p262 := eq_true p262
                            replace q262 := eq_true q262
                            obtain ⟨Ao26, co26, eo26⟩ := Kd.S_slice HO_12.out
                            subst eo26
                            have q25 : (a2 : Int) ≤ ((x12_1.length : Int) : Int) := of_decide_eq_true (by first | (with_reducible assumption) | assumption)
                            obtain ⟨i025, hi025, _, hsz25, _⟩ := info_parts info41
                            have hroom25 : x12_1.length ≤ co26 := (Kd.S_reads' HO_12.out).2.1
                            have hC25 : Kd.C (Kd.slice 5 (Kd.int .u8)) _ Ao26 x12_1.length x12_1 := (Kd.S_reads' HO_12.out).2.2
                            have hcut25 := cut_to (P := Try.prog) 22 41 .i64 Try.underlying22 hi025 Ao26 x12_1.length co26 a2 (of_decide_eq_true (by first | (with_reducible assumption) | assumption)) q25 hroom25
                            have hr25 := Kd.C_take (m := (a2 : Int).toNat) hC25 (by omega)
                            have hy25 : y263.length = (a2 : Int).toNat := (by rw [Ny263.out, List.length_take]; omega)
                            rw [← Ny263.out] at hr25
                            rw [← hy25] at hcut25
                            have HR266 := Aside0.mk hr25
                            have HC266 := Aside0.mk (show y263.length ≤ co26 from by omega)
                            clear hr25 hC25 hroom25 hi025 hsz25
                            have KY25 := Aside0.mk hy25
                            clear hy25
                            have KL25 := Aside0.mk (show (a2 : Int).toNat ≤ x12_1.length from by omega)
                            replace q25 := eq_true q25
                            go_wp2_with (first | ((with_reducible refine gate_callee (f := 76) rfl ?_); refine goesL_ (some 64) rfl rfl Try.func76 (by kernel_rfl) rfl #[.slice A262_0 (rd_L1 y258 x54_1).length c262_0, .slice Ao26 y263.length co26, .int .i64 t248] rfl (by (try simp only [List.map_toArray, List.map_cons, List.map_nil]); first | done | rfl | (simp only [List.length_drop, List.length_take]; rfl)) ?_; (with_reducible refine (stripe_apply.calls _ _ (rd_L1 y258 x54_1) _ _ y263 t248 t267 _ ?side1 ?side2 ?side3 ?side4 A23.out).mono ?_); (case side1 => repeat (first | exact HR262_0.out | (with_reducible refine Kd.C_alloc ?_ _) | (with_reducible refine Kd.C_drewN ?_ _) | (with_reducible refine Kd.C_drew ?_))); (case side2 => exact HC262_0.out); (case side3 => repeat (first | exact (by repeat (first | (with_reducible exact HR266.out) | (with_reducible refine Kd.C_alloc ?_ _) | (with_reducible refine Kd.C_drewN ?_ _) | (with_reducible refine Kd.C_drew ?_) | exact HR266.out)) | (with_reducible refine Kd.C_alloc ?_ _) | (with_reducible refine Kd.C_drewN ?_ _) | (with_reducible refine Kd.C_drew ?_))); (case side4 => exact HC266.out); rintro e w27 ⟨v268, rfl, ho0, hb⟩; refine ⟨_, rfl, ?_⟩; have NK_ := Aside0.mk (Keeps.below (by (repeat first | exact HKP.out | apply Keeps.alloc | apply Keeps.drewN | apply Keeps.drew) : Keeps w15 N_ _) hb); have NB_ := Aside0.mk (fun k_ hk_ => Keeps.fresh (by (repeat first | exact HKP.out | apply Keeps.alloc | apply Keeps.drewN | apply Keeps.drew) : Keeps w15 N_ _) (Kd.R_base ho0 k_ hk_)); clear HKP; have HKP := NK_; clear NK_; have n0_ := Aside0.mk (Kd.S_elder' (by (with_reducible repeat (first | apply Kd.S_alloc | apply Kd.S_drewN | apply Kd.S_drew)); exact HO_12.out) (Kd.R_base ho0) hb); have n1_ := Aside0.mk (Kd.R_lower ho0 (below_size (by repeat (first | (with_reducible first | exact HB.out | apply below_alloc | apply pw_below_drewN | apply below_drew1) | exact HB.out)))); have n2_ := Aside0.mk (Kd.C_below (by repeat (first | (with_reducible exact HR266.out) | (with_reducible refine Kd.C_alloc ?_ _) | (with_reducible refine Kd.C_drewN ?_ _) | (with_reducible refine Kd.C_drew ?_) | exact HR266.out)) hb); have n3_ := Aside0.mk (below_step (by repeat (first | (with_reducible first | exact HB.out | apply below_alloc | apply pw_below_drewN | apply below_drew1) | exact HB.out)) hb); clear HO_12; clear HR266; clear HB; have HO_12 := n0_; have HO269 := n1_; have HR266 := n2_; have HB := n3_; clear n0_ n1_ n2_ n3_; (try clear hb); (try clear hb2); (try clear hk); (try clear hi); (try clear ho0); obtain ⟨Ao29, co29, eo29⟩ := Kd.R_slice HO269.out; subst eo29) | ((with_reducible refine gate_builtin (b := .append) (xs := #[.tmp 58, .tmp 65]) rfl ?_); at_builtin; refine Kd.S_append (Kd.slice 5 (Kd.int .u8)) (w0 := w) w.heap.size rfl (.tmp 58) (.tmp 65) 22 41 (.slice none 0 0) 24 rfl Try.underlying22 info41 rfl (by decide) (by omega) (.slice Ao26 x12_1.length co26) x12_1 t267 [.slice Ao29 t267.length co29] (fun k => ¬ (N_ ≤ k ∧ k < w15.heap.size)) (fun k_ => some k_ = (.slice Ao29 t267.length co29 : Value).ownBlock) rfl rfl ?aP (fun k_ hk_ => ⟨NB_.out k_ hk_.symm, (((Kd.R_mono (ok' := fun k_ => ((fun _ => True)) k_ ∧ some k_ ≠ (.slice Ao26 x12_1.length co26 : Value).ownBlock) (Kd.R_apart' (HO269.out) (Kd.S_typed HO_12.out) (by decide)) (fun k_ hk => ⟨trivial, hk.2⟩))).1 k_ hk_.symm).2⟩) ?aF ?aO ?aB ?aS ?aL ?_; (case aP => exact Kd.M_row (Kd.R_mono (Kd.R_tight rfl (Kd.R_mono (ok' := fun k_ => ((fun _ => True)) k_ ∧ some k_ ≠ (.slice Ao26 x12_1.length co26 : Value).ownBlock) (Kd.R_apart' (HO269.out) (Kd.S_typed HO_12.out) (by decide)) (fun k_ hk => ⟨trivial, hk.2⟩))) (fun _ h_ => h_))); (case aB => exact (by repeat (first | (with_reducible first | exact HB.out | apply below_alloc | apply pw_below_drewN | apply below_drew1) | exact HB.out))); (case aF => exact (fun k_ hk_ => Keeps.fresh (by (repeat first | exact HKP.out | apply Keeps.alloc | apply Keeps.drewN | apply Keeps.drew) : Keeps w15 N_ _) hk_)); (case aO => exact (by (with_reducible repeat (first | apply Kd.S_alloc | apply Kd.S_drewN | apply Kd.S_drew)); exact Kd.S_mono HO_12.out (fun k_ hk => ⟨hk.1, fun e_ => hk.2 e_⟩))); (case aS => exact (below_size (by repeat (first | (with_reducible first | exact HB.out | apply below_alloc | apply pw_below_drewN | apply below_drew1) | exact HB.out)))); (case aL => have := LMc24.out; omega); intro v271 w28 ho hb hg hat; rw [← Ny270.out] at ho; have n0_ := Aside0.mk (hb); have n1_ := Aside0.mk (ho); have NK_ := Aside0.mk (Keeps.grown (by (repeat first | exact HKP.out | apply Keeps.alloc | apply Keeps.drewN | apply Keeps.drew) : Keeps w15 N_ _) hg (fun k_ hk_ => (Kd.S_own1 HO_12.out) k_ hk_)); clear HKP; have HKP := NK_; clear NK_; clear HB; clear HO_12; clear HO269; have HB := n0_; have HO272 := n1_; clear n0_ n1_; clear ho hb hg hat))
                            go_roundg k1
                            case measure => have := HK1.out; omega
                            case rel => exact ⟨(y270), (wrap64 (x54_1 + 1)), (by first | rfl | (simp; done) | (simp [*]; done)), H', ⟨by have := HK1.out; omega⟩, ⟨by (with_reducible repeat (first | apply Kd.S_alloc | apply Kd.S_drewN | apply Kd.S_drew)); exact HO272.out⟩, ⟨by (repeat first | exact HKP.out | apply Keeps.alloc | apply Keeps.drewN | apply Keeps.drew)⟩, ⟨by repeat (first | (with_reducible first | exact HB.out | apply below_alloc | apply pw_below_drewN | apply below_drew1) | exact HB.out)⟩⟩
                          · rw [if_neg c24] at H
                            exact absurd H (by simp)
                        · rw [if_neg c22] at H
                          exact absurd H (by simp)
                      · rw [if_neg c21] at H
                        exact absurd H (by simp)
                    · rw [if_neg c20] at H
                      exact absurd H (by simp)
                  · rw [if_neg c19] at H
                    exact absurd H (by simp)
                · rw [if_neg c18] at H
                  have c18b0 : decide (x54_1 < (y258.length : Int)) = false := decide_eq_false c18
                  clear c18
                  simp only [Option.some.injEq, Prod.mk.injEq] at H
                  obtain ⟨rfl, rfl⟩ := H
                  go_wp2
                  go_ret2
                  exact ⟨_, by first | rfl | (simp [errW_none, errW_some] <;> rfl) | (simp [*, errW_none, errW_some] <;> rfl), by (with_reducible repeat (first | apply Kd.S_alloc | apply Kd.S_drewN | apply Kd.S_drew)); exact Kd.S_mono HO_12.out (fun _ _ => trivial), by repeat (first | (with_reducible first | exact HB.out | apply below_alloc | apply pw_below_drewN | apply below_drew1) | exact HB.out)⟩
          · rw [if_neg c13] at H
            exact absurd H (by simp)
        · rw [if_neg c12] at H
          exact absurd H (by simp)
      · replace c10 := Bool.eq_false_iff.mpr c10
        subst c10
        have H1 : (some (([] : List (List Int)), 10)) = some (r1, r2) := by rw [if_neg (show ¬ (false = true) by decide)] at H; exact H
        clear H
        have H := H1
        clear H1
        simp only [Option.some.injEq, Prod.mk.injEq] at H
        obtain ⟨rfl, rfl⟩ := H
        go_enter Try.func47, Try.ntmps47
        go_wp2_with (first | ((with_reducible refine gate_callee (f := 75) rfl ?_); refine goesL_ (some 20) rfl rfl Try.func75 (by kernel_rfl) rfl #[.int .i64 a2, .int .i64 a3] rfl (by (try simp only [List.map_toArray, List.map_cons, List.map_nil]); first | done | rfl | (simp only [List.length_drop, List.length_take]; rfl)) ?_; (with_reducible refine (stripe_may.calls a2 a3 true _ A5.out).mono ?_); rintro e w' ⟨rfl, ⟨nd, rfl⟩⟩; refine ⟨_, rfl, ?_⟩) | ((with_reducible refine gate_callee (f := 81) rfl ?_); refine goesL_ (some 27) rfl rfl Try.func81 (by kernel_rfl) rfl #[.slice A0 l0.length c0, .slice A1 l1.length c1, .int .i64 a2, .int .i64 a3, .int .i64 (-1)] rfl (by (try simp only [List.map_toArray, List.map_cons, List.map_nil]); first | done | rfl | (simp only [List.length_drop, List.length_take]; rfl)) ?_; (with_reducible refine (stripe_look.calls k _ _ l0 _ _ l1 a2 a3 (-1) t248 t249 _ ?side1 ?side2 ?side3 ?side4 A7.out).mono ?_); (case side1 => repeat (first | exact HR0.out | (with_reducible refine Kd.C_alloc ?_ _) | (with_reducible refine Kd.C_drewN ?_ _) | (with_reducible refine Kd.C_drew ?_))); (case side2 => exact HC0.out); (case side3 => repeat (first | exact HR1.out | (with_reducible refine Kd.C_alloc ?_ _) | (with_reducible refine Kd.C_drewN ?_ _) | (with_reducible refine Kd.C_drew ?_))); (case side4 => exact HC1.out); rintro e w' ⟨rfl, ⟨nd, rfl⟩⟩; refine ⟨_, rfl, ?_⟩) | ((with_reducible refine gate_callee (f := 82) rfl ?_); refine goesL_ (some 39) rfl rfl Try.func82 (by kernel_rfl) rfl #[.slice A0 l0.length c0, .slice A1 l1.length c1, .int .i64 a2, .int .i64 a3, .int .i64 t248] rfl (by (try simp only [List.map_toArray, List.map_cons, List.map_nil]); first | done | rfl | (simp only [List.length_drop, List.length_take]; rfl)) ?_; (with_reducible refine (stripe_data.calls k _ _ l0 _ _ l1 a2 a3 t248 t250 false _ ?side1 ?side2 ?side3 ?side4 A9.out).mono ?_); (case side1 => repeat (first | exact HR0.out | (with_reducible refine Kd.C_alloc ?_ _) | (with_reducible refine Kd.C_drewN ?_ _) | (with_reducible refine Kd.C_drew ?_))); (case side2 => exact HC0.out); (case side3 => repeat (first | exact HR1.out | (with_reducible refine Kd.C_alloc ?_ _) | (with_reducible refine Kd.C_drewN ?_ _) | (with_reducible refine Kd.C_drew ?_))); (case side4 => exact HC1.out); rintro e w30 ⟨v252, rfl, ho0, hb⟩; refine ⟨_, rfl, ?_⟩; have n0_ := Aside0.mk (Kd.S_lower ho0 (below_size (by repeat (first | (with_reducible first | exact HB.out | apply below_alloc | apply pw_below_drewN | apply below_drew1) | exact HB.out)))); have n1_ := Aside0.mk (below_step (by repeat (first | (with_reducible first | exact HB.out | apply below_alloc | apply pw_below_drewN | apply below_drew1) | exact HB.out)) hb); clear HB; have HO253 := n0_; have HB := n1_; clear n0_ n1_; (try clear hb); (try clear hb2); (try clear hk); (try clear hi); (try clear ho0)))
        go_ret2
        exact ⟨_, by first | rfl | (simp [errW_none, errW_some] <;> rfl) | (simp [*, errW_none, errW_some] <;> rfl), by first | exact Kd.S_nil _ _ _ _ _ | exact Kd.N_nil _ _ _ _ _ | exact Kd.V_nil _ _ _ _ _ | exact Kd.Q_nil _ _ _ _ _ | exact Kd.R_nil _ _ _ _ _, by repeat (first | (with_reducible first | exact HB.out | apply below_alloc | apply pw_below_drewN | apply below_drew1) | exact HB.out)⟩
    · rw [if_neg c8] at H
      have c8b0 : (t249 == 0) = false := beq_eq_false_iff_ne.mpr c8
      have c8b1 : (t249 != 0) = true := bne_iff_ne.mpr c8
      simp only [Option.some.injEq, Prod.mk.injEq] at H
      obtain ⟨rfl, rfl⟩ := H
      go_enter Try.func47, Try.ntmps47
      go_wp2_with (first | ((with_reducible refine gate_callee (f := 75) rfl ?_); refine goesL_ (some 20) rfl rfl Try.func75 (by kernel_rfl) rfl #[.int .i64 a2, .int .i64 a3] rfl (by (try simp only [List.map_toArray, List.map_cons, List.map_nil]); first | done | rfl | (simp only [List.length_drop, List.length_take]; rfl)) ?_; (with_reducible refine (stripe_may.calls a2 a3 true _ A5.out).mono ?_); rintro e w' ⟨rfl, ⟨nd, rfl⟩⟩; refine ⟨_, rfl, ?_⟩) | ((with_reducible refine gate_callee (f := 81) rfl ?_); refine goesL_ (some 27) rfl rfl Try.func81 (by kernel_rfl) rfl #[.slice A0 l0.length c0, .slice A1 l1.length c1, .int .i64 a2, .int .i64 a3, .int .i64 (-1)] rfl (by (try simp only [List.map_toArray, List.map_cons, List.map_nil]); first | done | rfl | (simp only [List.length_drop, List.length_take]; rfl)) ?_; (with_reducible refine (stripe_look.calls k _ _ l0 _ _ l1 a2 a3 (-1) t248 t249 _ ?side1 ?side2 ?side3 ?side4 A7.out).mono ?_); (case side1 => repeat (first | exact HR0.out | (with_reducible refine Kd.C_alloc ?_ _) | (with_reducible refine Kd.C_drewN ?_ _) | (with_reducible refine Kd.C_drew ?_))); (case side2 => exact HC0.out); (case side3 => repeat (first | exact HR1.out | (with_reducible refine Kd.C_alloc ?_ _) | (with_reducible refine Kd.C_drewN ?_ _) | (with_reducible refine Kd.C_drew ?_))); (case side4 => exact HC1.out); rintro e w' ⟨rfl, ⟨nd, rfl⟩⟩; refine ⟨_, rfl, ?_⟩))
      go_ret2
      exact ⟨_, by first | rfl | (simp [errW_none, errW_some] <;> rfl) | (simp [*, errW_none, errW_some] <;> rfl), by first | exact Kd.S_nil _ _ _ _ _ | exact Kd.N_nil _ _ _ _ _ | exact Kd.V_nil _ _ _ _ _ | exact Kd.Q_nil _ _ _ _ _ | exact Kd.R_nil _ _ _ _ _, by repeat (first | (with_reducible first | exact HB.out | apply below_alloc | apply pw_below_drewN | apply below_drew1) | exact HB.out)⟩
  · replace c6 := Bool.eq_false_iff.mpr c6
    subst c6
    have H1 : (some (([] : List (List Int)), 5)) = some (r1, r2) := by rw [if_neg (show ¬ (false = true) by decide)] at H; exact H
    clear H
    have H := H1
    clear H1
    simp only [Option.some.injEq, Prod.mk.injEq] at H
    obtain ⟨rfl, rfl⟩ := H
    go_enter Try.func47, Try.ntmps47
    go_wp2_with (first | ((with_reducible refine gate_callee (f := 75) rfl ?_); refine goesL_ (some 20) rfl rfl Try.func75 (by kernel_rfl) rfl #[.int .i64 a2, .int .i64 a3] rfl (by (try simp only [List.map_toArray, List.map_cons, List.map_nil]); first | done | rfl | (simp only [List.length_drop, List.length_take]; rfl)) ?_; (with_reducible refine (stripe_may.calls a2 a3 false _ A5.out).mono ?_); rintro e w' ⟨rfl, ⟨nd, rfl⟩⟩; refine ⟨_, rfl, ?_⟩))
    go_ret2
    exact ⟨_, by first | rfl | (simp [errW_none, errW_some] <;> rfl) | (simp [*, errW_none, errW_some] <;> rfl), by first | exact Kd.S_nil _ _ _ _ _ | exact Kd.N_nil _ _ _ _ _ | exact Kd.V_nil _ _ _ _ _ | exact Kd.Q_nil _ _ _ _ _ | exact Kd.R_nil _ _ _ _ _, by repeat (first | (with_reducible first | exact HB.out | apply below_alloc | apply pw_below_drewN | apply below_drew1) | exact HB.out)⟩

end Go.Proofs.Ythmlimkmcofkfaa.Q
