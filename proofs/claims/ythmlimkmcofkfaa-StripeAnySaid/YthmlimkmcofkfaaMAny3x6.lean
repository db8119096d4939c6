/- StripeAny: any k shards tell the bytes and all other shards, of any bytes of at most 1,000, any k and m that may be, any choice of k, or of more, shards. (Part 7 of 8.) -/
import Derived.Test.YthmlimkmcofkfaaMAny3x0
import Derived.Test.YthmlimkmcofkfaaMAny3x1
import Derived.Test.YthmlimkmcofkfaaMAny3x2
import Derived.Test.YthmlimkmcofkfaaMAny3x3
import Derived.Test.YthmlimkmcofkfaaMAny3x4
import Derived.Test.YthmlimkmcofkfaaMAny3x5
/- Contracts of functions of the program, written by a program of this session. -/
namespace Go.Proofs.Ythmlimkmcofkfaa.Q
open Go.RowKit Go.Proofs.YthmlimkmcofkfaaW.PrintWords Go.Proofs.YthmlimkmcofkfaaW.PrintLast Go.Proofs.YthmlimkmcofkfaaW.PrintMore
attribute [local go_sem] max2_int min2_int max_two min_two max_three min_three max_four min_four   -- for this text's walks alone
open Go.Proofs.Ythmlimkmcofkfaa.B Go.Proofs.Ythmlimkmcofkfaa.E
set_option linter.unusedVariables false
set_option linter.unusedSimpArgs false

/-! ### stowagelaw03_StripeAny: function 12 -/
def stowagelaw03_StripeAny.j0 : Nat → List Int → Int → Int → List Int → Int → Bool → Bool → Option (Bool)
  | 0, _, _, _, _, _, _, _ => none
  | k + 1, x0, x1, x2, x3, x4, x11, x30 => if x30 = true then (some x11) else ((stripe_Split.f k x0 x1 x2).bind fun bt352 => (if bt352.2 = 0 then (if (bt352.1.length : Int) = (wrap64 (x1 + x2)) then ((stowagekit_Pick.f x4 (wrap64 (x2 + 1))).bind fun t356 => ((stowagelaw03_some.f k (wrap64 (x1 + t356)) (wrap64 (x1 + x2)) x3).bind fun t357 => ((stowagelaw03_hidden.f k bt352.1 t357).bind fun t360 => ((stripe_Mend.f k t360 t357 x1 x2).bind fun bt363 => ((stripe_Join.f k t360 t357 x1 x2 (x0.length : Int)).bind fun bt367 => ((stripe_Sound.f k bt363.1 x1 x2).bind fun bt371 => (if x11 = true then (if bt363.2 = 0 then ((stowagekit_SameLists.f k bt363.1 bt352.1).bind fun t373 => (if t373 = true then (if bt367.2 = 0 then ((stowagekit_SameBytes.f bt367.1 x0).bind fun t374 => (if t374 = true then (if bt371.2 = 0 then (some bt371.1) else (some false)) else (some false))) else (some false)) else (some false))) else (some false)) else (some false)))))))) else (some false)) else (some x11)))
def stowagelaw03_StripeAny.f (k : Nat) (l0 : List Int) (a1 : Int) (a2 : Int) (l3 : List Int) (a4 : Int) : Option (Bool) := (stowagelaw03_StripeKnown.f k).bind fun t351 => (if (l0.length : Int) > 1000 then (stowagelaw03_StripeAny.j0 k l0 a1 a2 l3 a4 t351 true) else (stowagelaw03_StripeAny.j0 k l0 a1 a2 l3 a4 t351 (decide ((l3.length : Int) > 100))))
theorem stowagelaw03_StripeAny.mono_l : ∀ k, (∀ y0 y1 y2 y3 y4 y5 y6, LeO (stowagelaw03_StripeAny.j0 k y0 y1 y2 y3 y4 y5 y6) (stowagelaw03_StripeAny.j0 (k + 1) y0 y1 y2 y3 y4 y5 y6))
  | 0 => fun _ _ _ _ _ _ _ r h => by simp [stowagelaw03_StripeAny.j0] at h
  | k + 1 => by
    have ih0 := stowagelaw03_StripeAny.mono_l k
    · intro y0 y1 y2 y3 y4 y5 y6
      unfold stowagelaw03_StripeAny.j0
      repeat' first
      | (with_reducible exact ih0 _ _ _ _ _ _ _)
      | (with_reducible exact stowagekit_SameLists.mono _ _ _)
      | (with_reducible exact stowagelaw03_StripeKnown.mono _)
      | (with_reducible exact stowagelaw03_hidden.mono _ _ _)
      | (with_reducible exact stowagelaw03_some.mono _ _ _ _)
      | (with_reducible exact stripe_Join.mono _ _ _ _ _ _)
      | (with_reducible exact stripe_Mend.mono _ _ _ _ _)
      | (with_reducible exact stripe_Sound.mono _ _ _ _)
      | (with_reducible exact stripe_Split.mono _ _ _ _)
      | (with_reducible exact LeO.refl _)
      | (with_reducible exact LeO.none _)
      | (with_reducible refine LeO.ite ?_ ?_)
      | (with_reducible refine LeO.bind ?_ (fun _ => ?_))
      | exact ih0 _ _ _ _ _ _ _
      | exact stowagekit_SameLists.mono _ _ _
      | exact stowagelaw03_StripeKnown.mono _
      | exact stowagelaw03_hidden.mono _ _ _
      | exact stowagelaw03_some.mono _ _ _ _
      | exact stripe_Join.mono _ _ _ _ _ _
      | exact stripe_Mend.mono _ _ _ _ _
      | exact stripe_Sound.mono _ _ _ _
      | exact stripe_Split.mono _ _ _ _
      | exact LeO.none _
      | refine LeO.ite ?_ ?_
      | refine LeO.bind ?_ (fun _ => ?_)
theorem stowagelaw03_StripeAny.mono : ∀ a0 a1 a2 a3 a4 k, LeO (stowagelaw03_StripeAny.f k a0 a1 a2 a3 a4) (stowagelaw03_StripeAny.f (k + 1) a0 a1 a2 a3 a4) := by
  intro a0 a1 a2 a3 a4 k
  have ih0 := stowagelaw03_StripeAny.mono_l k
  unfold stowagelaw03_StripeAny.f
  repeat' first
      | (with_reducible exact ih0 _ _ _ _ _ _ _)
      | (with_reducible exact stowagekit_SameLists.mono _ _ _)
      | (with_reducible exact stowagelaw03_StripeKnown.mono _)
      | (with_reducible exact stowagelaw03_hidden.mono _ _ _)
      | (with_reducible exact stowagelaw03_some.mono _ _ _ _)
      | (with_reducible exact stripe_Join.mono _ _ _ _ _ _)
      | (with_reducible exact stripe_Mend.mono _ _ _ _ _)
      | (with_reducible exact stripe_Sound.mono _ _ _ _)
      | (with_reducible exact stripe_Split.mono _ _ _ _)
      | (with_reducible exact LeO.refl _)
      | (with_reducible exact LeO.none _)
      | (with_reducible refine LeO.ite ?_ ?_)
      | (with_reducible refine LeO.bind ?_ (fun _ => ?_))
      | exact ih0 _ _ _ _ _ _ _
      | exact stowagekit_SameLists.mono _ _ _
      | exact stowagelaw03_StripeKnown.mono _
      | exact stowagelaw03_hidden.mono _ _ _
      | exact stowagelaw03_some.mono _ _ _ _
      | exact stripe_Join.mono _ _ _ _ _ _
      | exact stripe_Mend.mono _ _ _ _ _
      | exact stripe_Sound.mono _ _ _ _
      | exact stripe_Split.mono _ _ _ _
      | exact LeO.none _
      | refine LeO.ite ?_ ?_
      | refine LeO.bind ?_ (fun _ => ?_)
set_option maxHeartbeats 8000000 in
set_option maxRecDepth 100000 in
theorem stowagelaw03_StripeAny.calls (k : Nat) (A0 : Option Addr) (c0 : Nat) (l0 : List Int) (a1 : Int) (a2 : Int) (A3 : Option Addr) (c3 : Nat) (l3 : List Int) (a4 : Int) (r : Bool) (w : World) (hr0 : Kd.C (Kd.int .u8) w A0 l0.length l0) (hc0 : l0.length ≤ c0) (hr3 : Kd.C (Kd.int .i64) w A3 l3.length l3) (hc3 : l3.length ≤ c3) (h : stowagelaw03_StripeAny.f k l0 a1 a2 l3 a4 = some r) :
    Calls Try.prog 12 #[.slice A0 l0.length c0, .int .i64 a1, .int .i64 a2, .slice A3 l3.length c3, .int .i64 a4] w fun e w' => e = .returned (.bool r) ∧ Below w.heap.size w w' := by
  have HR0 := Aside0.mk hr0
  have HC0 := Aside0.mk hc0
  clear hr0 hc0
  have HR3 := Aside0.mk hr3
  have HC3 := Aside0.mk hc3
  clear hr3 hc3
  have HB := Aside0.mk (Below.refl w.heap.size w)
  have H : ((stowagelaw03_StripeKnown.f k).bind fun t351 => (if (l0.length : Int) > 1000 then (stowagelaw03_StripeAny.j0 k l0 a1 a2 l3 a4 t351 true) else (stowagelaw03_StripeAny.j0 k l0 a1 a2 l3 a4 t351 (decide ((l3.length : Int) > 100))))) = some r := h
  clear h
  replace H := Option.bind_eq_some_iff.mp H
  obtain ⟨t351, A60, H⟩ := H
  replace H : (if (l0.length : Int) > 1000 then (stowagelaw03_StripeAny.j0 k l0 a1 a2 l3 a4 t351 true) else (stowagelaw03_StripeAny.j0 k l0 a1 a2 l3 a4 t351 (decide ((l3.length : Int) > 100)))) = some r := H
  have A6 := Aside0.mk A60
  clear A60
  have HC7 := Aside0.mk H
  clear H
  go_enter Try.func12, Try.ntmps12
  go_upto_region 2 with (first | ((with_reducible refine gate_callee (f := 45) rfl ?_); refine goesL_ (some 22) rfl rfl Try.func45 (by kernel_rfl) rfl #[] rfl (by (try simp only [List.map_toArray, List.map_cons, List.map_nil]); first | done | rfl | (simp only [List.length_drop, List.length_take]; rfl)) ?_; (with_reducible refine (stowagelaw03_StripeKnown.calls k  t351 _ A6.out).mono ?_); rintro e w8 ⟨rfl, hb⟩; refine ⟨_, rfl, ?_⟩; have n0_ := Aside0.mk (below_step (by repeat (first | exact HB.out | apply below_alloc | apply pw_below_drewN | apply below_drew1)) hb); clear HB; have HB := n0_; clear n0_; (try clear hi)))
  (try simp only [Act.put, List.setIfInBounds_toArray, List.set_cons_zero, List.set_cons_succ])
  go_cut [30] (fun v30 wc => ∃ (kq : Nat) (x30_6 : Bool), v30 = .bool x30_6 ∧ Aside0 (stowagelaw03_StripeAny.j0 kq l0 a1 a2 l3 a4 t351 x30_6 = some r) ∧ Aside0 (kq ≤ k) ∧ Aside0 (Below w.heap.size w wc))
  case first =>
    have H := HC7.out
    clear HC7
    by_cases c9 : (l0.length : Int) > 1000
    · rw [if_pos c9] at H
      have c9b0 : decide (1000 < (l0.length : Int)) = true := decide_eq_true c9
      have c9b1 : decide (1000 < l0.length) = true := decide_eq_true (by omega)
      clear c9
      (first | rw [c9b0] | (simp only [i64_w, i32_w]; rw [c9b0]) | skip)
      have H' := Aside0.mk H
      clear H
      go_wp2
      go_meet
      case rel => exact ⟨_, (true), (by first | rfl | (simp; done) | (simp [*]; done)), H', ⟨by first | omega | exact Nat.le_refl _⟩, ⟨by repeat (first | (with_reducible first | exact HB.out | apply below_alloc | apply pw_below_drewN | apply below_drew1) | exact HB.out)⟩⟩
    · rw [if_neg c9] at H
      have c9b0 : decide (1000 < (l0.length : Int)) = false := decide_eq_false c9
      have c9b1 : decide (1000 < l0.length) = false := decide_eq_false (by omega)
      clear c9
      (first | rw [c9b0] | (simp only [i64_w, i32_w]; rw [c9b0]) | skip)
      have H' := Aside0.mk H
      clear H
      go_wp2
      go_meet
      case rel => exact ⟨_, (decide ((l3.length : Int) > 100)), (by first | rfl | (simp; done) | (simp [*]; done)), H', ⟨by first | omega | exact Nat.le_refl _⟩, ⟨by repeat (first | (with_reducible first | exact HB.out | apply below_alloc | apply pw_below_drewN | apply below_drew1) | exact HB.out)⟩⟩
  case rest =>
    clear HC7
    try clear c1
    try clear p2
    try clear c3
    try clear c4
    try clear c9
    try clear c9b0
    try clear c9b1
    obtain ⟨kq, x30_6, rfl, HA, HJ6, HB⟩ := hcut
    cases kq with
    | zero => exact absurd HA.out (by simp [stowagelaw03_StripeAny.j0])
    | succ kj6 =>
      have H := HA.out
      clear HA
      simp only [stowagelaw03_StripeAny.j0] at H
      by_cases c10 : x30_6 = true
      · subst c10
        have H1 : (some t351) = some r := by rw [if_pos rfl] at H; exact H
        clear H
        have H := H1
        clear H1
        obtain rfl := Option.some.inj H
        go_wp2
        go_ret
        exact ⟨by first | rfl | (simp [errW_none, errW_some] <;> rfl) | (simp [*, errW_none, errW_some] <;> rfl), by repeat (first | (with_reducible first | exact HB.out | apply below_alloc | apply pw_below_drewN | apply below_drew1) | exact HB.out)⟩
      · replace c10 := Bool.eq_false_iff.mpr c10
        subst c10
        have H1 : ((stripe_Split.f kj6 l0 a1 a2).bind fun bt352 => (if bt352.2 = 0 then (if (bt352.1.length : Int) = (wrap64 (a1 + a2)) then ((stowagekit_Pick.f a4 (wrap64 (a2 + 1))).bind fun t356 => ((stowagelaw03_some.f kj6 (wrap64 (a1 + t356)) (wrap64 (a1 + a2)) l3).bind fun t357 => ((stowagelaw03_hidden.f kj6 bt352.1 t357).bind fun t360 => ((stripe_Mend.f kj6 t360 t357 a1 a2).bind fun bt363 => ((stripe_Join.f kj6 t360 t357 a1 a2 (l0.length : Int)).bind fun bt367 => ((stripe_Sound.f kj6 bt363.1 a1 a2).bind fun bt371 => (if t351 = true then (if bt363.2 = 0 then ((stowagekit_SameLists.f kj6 bt363.1 bt352.1).bind fun t373 => (if t373 = true then (if bt367.2 = 0 then ((stowagekit_SameBytes.f bt367.1 l0).bind fun t374 => (if t374 = true then (if bt371.2 = 0 then (some bt371.1) else (some false)) else (some false))) else (some false)) else (some false))) else (some false)) else (some false)))))))) else (some false)) else (some t351))) = some r := by rw [if_neg (show ¬ (false = true) by decide)] at H; exact H
        clear H
        have H := H1
        clear H1
        replace H := Option.bind_eq_some_iff.mp H
        obtain ⟨⟨t352, t353⟩, A110, H⟩ := H
        replace H : (if t353 = 0 then (if (t352.length : Int) = (wrap64 (a1 + a2)) then ((stowagekit_Pick.f a4 (wrap64 (a2 + 1))).bind fun t356 => ((stowagelaw03_some.f kj6 (wrap64 (a1 + t356)) (wrap64 (a1 + a2)) l3).bind fun t357 => ((stowagelaw03_hidden.f kj6 t352 t357).bind fun t360 => ((stripe_Mend.f kj6 t360 t357 a1 a2).bind fun bt363 => ((stripe_Join.f kj6 t360 t357 a1 a2 (l0.length : Int)).bind fun bt367 => ((stripe_Sound.f kj6 bt363.1 a1 a2).bind fun bt371 => (if t351 = true then (if bt363.2 = 0 then ((stowagekit_SameLists.f kj6 bt363.1 t352).bind fun t373 => (if t373 = true then (if bt367.2 = 0 then ((stowagekit_SameBytes.f bt367.1 l0).bind fun t374 => (if t374 = true then (if bt371.2 = 0 then (some bt371.1) else (some false)) else (some false))) else (some false)) else (some false))) else (some false)) else (some false)))))))) else (some false)) else (some t351)) = some r := H
        have A11 := Aside0.mk A110
        clear A110
        by_cases c12 : t353 = 0
        · rw [if_pos c12] at H
          have c12b0 : (t353 == 0) = true := beq_iff_eq.mpr c12
          have c12b1 : (t353 != 0) = false := bne_eq_false_iff_eq.mpr c12
          clear c12
          by_cases c13 : (t352.length : Int) = (wrap64 (a1 + a2))
          · rw [if_pos c13] at H
            have c13b0 : ((t352.length : Int) == (wrap64 (a1 + a2))) = true := beq_iff_eq.mpr c13
            have c13b1 : ((t352.length : Int) != (wrap64 (a1 + a2))) = false := bne_eq_false_iff_eq.mpr c13
            clear c13
            replace H := Option.bind_eq_some_iff.mp H
            obtain ⟨t356, A140, H⟩ := H
            replace H : ((stowagelaw03_some.f kj6 (wrap64 (a1 + t356)) (wrap64 (a1 + a2)) l3).bind fun t357 => ((stowagelaw03_hidden.f kj6 t352 t357).bind fun t360 => ((stripe_Mend.f kj6 t360 t357 a1 a2).bind fun bt363 => ((stripe_Join.f kj6 t360 t357 a1 a2 (l0.length : Int)).bind fun bt367 => ((stripe_Sound.f kj6 bt363.1 a1 a2).bind fun bt371 => (if t351 = true then (if bt363.2 = 0 then ((stowagekit_SameLists.f kj6 bt363.1 t352).bind fun t373 => (if t373 = true then (if bt367.2 = 0 then ((stowagekit_SameBytes.f bt367.1 l0).bind fun t374 => (if t374 = true then (if bt371.2 = 0 then (some bt371.1) else (some false)) else (some false))) else (some false)) else (some false))) else (some false)) else (some false))))))) = some r := H
            have A14 := Aside0.mk A140
            clear A140
            replace H := Option.bind_eq_some_iff.mp H
            obtain ⟨t357, A150, H⟩ := H
            replace H : ((stowagelaw03_hidden.f kj6 t352 t357).bind fun t360 => ((stripe_Mend.f kj6 t360 t357 a1 a2).bind fun bt363 => ((stripe_Join.f kj6 t360 t357 a1 a2 (l0.length : Int)).bind fun bt367 => ((stripe_Sound.f kj6 bt363.1 a1 a2).bind fun bt371 => (if t351 = true then (if bt363.2 = 0 then ((stowagekit_SameLists.f kj6 bt363.1 t352).bind fun t373 => (if t373 = true then (if bt367.2 = 0 then ((stowagekit_SameBytes.f bt367.1 l0).bind fun t374 => (if t374 = true then (if bt371.2 = 0 then (some bt371.1) else (some false)) else (some false))) else (some false)) else (some false))) else (some false)) else (some false)))))) = some r := H
            have A15 := Aside0.mk A150
            clear A150
            replace H := Option.bind_eq_some_iff.mp H
            obtain ⟨t360, A160, H⟩ := H
            replace H : ((stripe_Mend.f kj6 t360 t357 a1 a2).bind fun bt363 => ((stripe_Join.f kj6 t360 t357 a1 a2 (l0.length : Int)).bind fun bt367 => ((stripe_Sound.f kj6 bt363.1 a1 a2).bind fun bt371 => (if t351 = true then (if bt363.2 = 0 then ((stowagekit_SameLists.f kj6 bt363.1 t352).bind fun t373 => (if t373 = true then (if bt367.2 = 0 then ((stowagekit_SameBytes.f bt367.1 l0).bind fun t374 => (if t374 = true then (if bt371.2 = 0 then (some bt371.1) else (some false)) else (some false))) else (some false)) else (some false))) else (some false)) else (some false))))) = some r := H
            have A16 := Aside0.mk A160
            clear A160
            replace H := Option.bind_eq_some_iff.mp H
            obtain ⟨⟨t363, t364⟩, A170, H⟩ := H
            replace H : ((stripe_Join.f kj6 t360 t357 a1 a2 (l0.length : Int)).bind fun bt367 => ((stripe_Sound.f kj6 t363 a1 a2).bind fun bt371 => (if t351 = true then (if t364 = 0 then ((stowagekit_SameLists.f kj6 t363 t352).bind fun t373 => (if t373 = true then (if bt367.2 = 0 then ((stowagekit_SameBytes.f bt367.1 l0).bind fun t374 => (if t374 = true then (if bt371.2 = 0 then (some bt371.1) else (some false)) else (some false))) else (some false)) else (some false))) else (some false)) else (some false)))) = some r := H
            have A17 := Aside0.mk A170
            clear A170
            replace H := Option.bind_eq_some_iff.mp H
            obtain ⟨⟨t367, t368⟩, A180, H⟩ := H
            replace H : ((stripe_Sound.f kj6 t363 a1 a2).bind fun bt371 => (if t351 = true then (if t364 = 0 then ((stowagekit_SameLists.f kj6 t363 t352).bind fun t373 => (if t373 = true then (if t368 = 0 then ((stowagekit_SameBytes.f t367 l0).bind fun t374 => (if t374 = true then (if bt371.2 = 0 then (some bt371.1) else (some false)) else (some false))) else (some false)) else (some false))) else (some false)) else (some false))) = some r := H
            have A18 := Aside0.mk A180
            clear A180
            replace H := Option.bind_eq_some_iff.mp H
            obtain ⟨⟨t371, t372⟩, A190, H⟩ := H
            replace H : (if t351 = true then (if t364 = 0 then ((stowagekit_SameLists.f kj6 t363 t352).bind fun t373 => (if t373 = true then (if t368 = 0 then ((stowagekit_SameBytes.f t367 l0).bind fun t374 => (if t374 = true then (if t372 = 0 then (some t371) else (some false)) else (some false))) else (some false)) else (some false))) else (some false)) else (some false)) = some r := H
            have A19 := Aside0.mk A190
            clear A190
            by_cases c20 : t351 = true
            · subst c20
              have H1 : (if t364 = 0 then ((stowagekit_SameLists.f kj6 t363 t352).bind fun t373 => (if t373 = true then (if t368 = 0 then ((stowagekit_SameBytes.f t367 l0).bind fun t374 => (if t374 = true then (if t372 = 0 then (some t371) else (some false)) else (some false))) else (some false)) else (some false))) else (some false)) = some r := by rw [if_pos rfl] at H; exact H
              clear H
              have H := H1
              clear H1
              by_cases c21 : t364 = 0
              · rw [if_pos c21] at H
                have c21b0 : (t364 == 0) = true := beq_iff_eq.mpr c21
                have c21b1 : (t364 != 0) = false := bne_eq_false_iff_eq.mpr c21
                clear c21
                replace H := Option.bind_eq_some_iff.mp H
                obtain ⟨t373, A220, H⟩ := H
                replace H : (if t373 = true then (if t368 = 0 then ((stowagekit_SameBytes.f t367 l0).bind fun t374 => (if t374 = true then (if t372 = 0 then (some t371) else (some false)) else (some false))) else (some false)) else (some false)) = some r := H
                have A22 := Aside0.mk A220
                clear A220
                by_cases c23 : t373 = true
                · subst c23
                  have H1 : (if t368 = 0 then ((stowagekit_SameBytes.f t367 l0).bind fun t374 => (if t374 = true then (if t372 = 0 then (some t371) else (some false)) else (some false))) else (some false)) = some r := by rw [if_pos rfl] at H; exact H
                  clear H
                  have H := H1
                  clear H1
                  by_cases c24 : t368 = 0
                  · rw [if_pos c24] at H
                    have c24b0 : (t368 == 0) = true := beq_iff_eq.mpr c24
                    have c24b1 : (t368 != 0) = false := bne_eq_false_iff_eq.mpr c24
                    clear c24
                    replace H := Option.bind_eq_some_iff.mp H
                    obtain ⟨t374, A250, H⟩ := H
                    replace H : (if t374 = true then (if t372 = 0 then (some t371) else (some false)) else (some false)) = some r := H
                    have A25 := Aside0.mk A250
                    clear A250
                    by_cases c26 : t374 = true
                    · subst c26
                      have H1 : (if t372 = 0 then (some t371) else (some false)) = some r := by rw [if_pos rfl] at H; exact H
                      clear H
                      have H := H1
                      clear H1
                      by_cases c27 : t372 = 0
                      · rw [if_pos c27] at H
                        have c27b0 : (t372 == 0) = true := beq_iff_eq.mpr c27
                        have c27b1 : (t372 != 0) = false := bne_eq_false_iff_eq.mpr c27
                        clear c27
                        obtain rfl := Option.some.inj H
                        go_wp2_with (first | ((with_reducible refine gate_callee (f := 39) rfl ?_); refine goesL_ (some 36) rfl rfl Try.func39 (by kernel_rfl) rfl #[.slice A0 l0.length c0, .int .i64 a1, .int .i64 a2] rfl (by (try simp only [List.map_toArray, List.map_cons, List.map_nil]); first | done | rfl | (simp only [List.length_drop, List.length_take]; rfl)) ?_; (with_reducible refine (stripe_Split.calls kj6 _ _ l0 a1 a2 t352 t353 _ ?side1 ?side2 A11.out).mono ?_); (case side1 => repeat (first | exact (Kd.C_below HR0.out HB.out) | (with_reducible refine Kd.C_alloc ?_ _) | (with_reducible refine Kd.C_drewN ?_ _) | (with_reducible refine Kd.C_drew ?_))); (case side2 => exact HC0.out); rintro e w28 ⟨v354, rfl, ho0, hb⟩; refine ⟨_, rfl, ?_⟩; have n0_ := Aside0.mk (Kd.S_lower ho0 (below_size (by repeat (first | exact HB.out | apply below_alloc | apply pw_below_drewN | apply below_drew1)))); have n1_ := Aside0.mk (below_step (by repeat (first | exact HB.out | apply below_alloc | apply pw_below_drewN | apply below_drew1)) hb); clear HB; have HO355 := n0_; have HB := n1_; clear n0_ n1_; (try clear ho0); obtain ⟨Ao29, co29, eo29⟩ := Kd.S_slice HO355.out; subst eo29) | ((with_reducible refine gate_callee (f := 37) rfl ?_); refine goesL_ (some 52) rfl rfl Try.func37 (by kernel_rfl) rfl #[.int .i64 a4, .int .i64 (wrap64 (a2 + 1))] rfl (by (try simp only [List.map_toArray, List.map_cons, List.map_nil]); first | done | rfl | (simp only [List.length_drop, List.length_take]; rfl)) ?_; (with_reducible refine (stowagekit_Pick.calls a4 (wrap64 (a2 + 1)) t356 _ A14.out).mono ?_); rintro e w' ⟨rfl, ⟨nd, rfl⟩⟩; refine ⟨_, rfl, ?_⟩) | ((with_reducible refine gate_callee (f := 46) rfl ?_); refine goesL_ (some 58) rfl rfl Try.func46 (by kernel_rfl) rfl #[.int .i64 (wrap64 (a1 + t356)), .int .i64 (wrap64 (a1 + a2)), .slice A3 l3.length c3] rfl (by (try simp only [List.map_toArray, List.map_cons, List.map_nil]); first | done | rfl | (simp only [List.length_drop, List.length_take]; rfl)) ?_; (with_reducible refine (stowagelaw03_some.calls kj6 (wrap64 (a1 + t356)) (wrap64 (a1 + a2)) _ _ l3 t357 _ ?side1 ?side2 A15.out).mono ?_); (case side1 => repeat (first | exact (Kd.C_below HR3.out (by repeat (first | exact HB.out | apply below_alloc | apply pw_below_drewN | apply below_drew1))) | (with_reducible refine Kd.C_alloc ?_ _) | (with_reducible refine Kd.C_drewN ?_ _) | (with_reducible refine Kd.C_drew ?_))); (case side2 => exact HC3.out); rintro e w30 ⟨v358, rfl, ho0, hb⟩; refine ⟨_, rfl, ?_⟩; have n0_ := Aside0.mk (Kd.S_below (by (with_reducible repeat (first | apply Kd.S_alloc | apply Kd.S_drewN | apply Kd.S_drew)); exact HO355.out) hb); have n1_ := Aside0.mk (Kd.R_lower ho0 (below_size (by repeat (first | exact HB.out | apply below_alloc | apply pw_below_drewN | apply below_drew1)))); have n2_ := Aside0.mk (below_step (by repeat (first | exact HB.out | apply below_alloc | apply pw_below_drewN | apply below_drew1)) hb); clear HO355; clear HB; have HO355 := n0_; have HO359 := n1_; have HB := n2_; clear n0_ n1_ n2_; (try clear ho0); obtain ⟨Ao31, co31, eo31⟩ := Kd.R_slice HO359.out; subst eo31) | ((with_reducible refine gate_callee (f := 57) rfl ?_); refine goesL_ (some 61) rfl rfl Try.func57 (by kernel_rfl) rfl #[.slice Ao29 t352.length co29, .slice Ao31 t357.length co31] rfl (by (try simp only [List.map_toArray, List.map_cons, List.map_nil]); first | done | rfl | (simp only [List.length_drop, List.length_take]; rfl)) ?_; (with_reducible refine (stowagelaw03_hidden.calls kj6 _ _ t352 _ _ t357 t360 _ ?side1 ?side2 ?side3 ?side4 A16.out).mono ?_); (case side1 => repeat (first | exact (Kd.S_reads' HO355.out).2.2 | (with_reducible refine Kd.C_alloc ?_ _) | (with_reducible refine Kd.C_drewN ?_ _) | (with_reducible refine Kd.C_drew ?_))); (case side2 => exact (Kd.S_reads' HO355.out).2.1); (case side3 => repeat (first | exact (Kd.R_reads' HO359.out).2.2 | (with_reducible refine Kd.C_alloc ?_ _) | (with_reducible refine Kd.C_drewN ?_ _) | (with_reducible refine Kd.C_drew ?_))); (case side4 => exact (Kd.R_reads' HO359.out).2.1); rintro e w32 ⟨v361, rfl, ho0, hb⟩; refine ⟨_, rfl, ?_⟩; have n0_ := Aside0.mk (Kd.S_elder' (by (with_reducible repeat (first | apply Kd.S_alloc | apply Kd.S_drewN | apply Kd.S_drew)); exact HO355.out) (Kd.S_base ho0) hb); have n1_ := Aside0.mk (Kd.R_below (by (with_reducible repeat (first | apply Kd.R_alloc | apply Kd.R_drewN | apply Kd.R_drew)); exact HO359.out) hb); have n2_ := Aside0.mk (Kd.S_lower (Kd.S_new' ho0 (Kd.S_lt (by (with_reducible repeat (first | apply Kd.S_alloc | apply Kd.S_drewN | apply Kd.S_drew)); exact HO355.out))) (below_size (by repeat (first | exact HB.out | apply below_alloc | apply pw_below_drewN | apply below_drew1)))); have n3_ := Aside0.mk (below_step (by repeat (first | exact HB.out | apply below_alloc | apply pw_below_drewN | apply below_drew1)) hb); clear HO355; clear HO359; clear HB; have HO355 := n0_; have HO359 := n1_; have HO362 := n2_; have HB := n3_; clear n0_ n1_ n2_ n3_; (try clear ho0); obtain ⟨Ao33, co33, eo33⟩ := Kd.S_slice HO362.out; subst eo33) | ((with_reducible refine gate_callee (f := 47) rfl ?_); refine goesL_ (some 67) rfl rfl Try.func47 (by kernel_rfl) rfl #[.slice Ao33 t360.length co33, .slice Ao31 t357.length co31, .int .i64 a1, .int .i64 a2] rfl (by (try simp only [List.map_toArray, List.map_cons, List.map_nil]); first | done | rfl | (simp only [List.length_drop, List.length_take]; rfl)) ?_; (with_reducible refine (stripe_Mend.calls kj6 _ _ t360 _ _ t357 a1 a2 t363 t364 _ ?side1 ?side2 ?side3 ?side4 A17.out).mono ?_); (case side1 => repeat (first | exact (Kd.S_reads' HO362.out).2.2 | (with_reducible refine Kd.C_alloc ?_ _) | (with_reducible refine Kd.C_drewN ?_ _) | (with_reducible refine Kd.C_drew ?_))); (case side2 => exact (Kd.S_reads' HO362.out).2.1); (case side3 => repeat (first | exact (Kd.R_reads' HO359.out).2.2 | (with_reducible refine Kd.C_alloc ?_ _) | (with_reducible refine Kd.C_drewN ?_ _) | (with_reducible refine Kd.C_drew ?_))); (case side4 => exact (Kd.R_reads' HO359.out).2.1); rintro e w34 ⟨v365, rfl, ho0, hb⟩; refine ⟨_, rfl, ?_⟩; have n0_ := Aside0.mk (Kd.S_elder' (by (with_reducible repeat (first | apply Kd.S_alloc | apply Kd.S_drewN | apply Kd.S_drew)); exact HO355.out) (Kd.S_base ho0) hb); have n1_ := Aside0.mk (Kd.R_below (by (with_reducible repeat (first | apply Kd.R_alloc | apply Kd.R_drewN | apply Kd.R_drew)); exact HO359.out) hb); have n2_ := Aside0.mk (Kd.S_elder' (by (with_reducible repeat (first | apply Kd.S_alloc | apply Kd.S_drewN | apply Kd.S_drew)); exact HO362.out) (Kd.S_base ho0) hb); have n3_ := Aside0.mk (Kd.S_lower (Kd.S_new' (Kd.S_new' ho0 (Kd.S_lt (by (with_reducible repeat (first | apply Kd.S_alloc | apply Kd.S_drewN | apply Kd.S_drew)); exact HO355.out))) (Kd.S_lt (by (with_reducible repeat (first | apply Kd.S_alloc | apply Kd.S_drewN | apply Kd.S_drew)); exact HO362.out))) (below_size (by repeat (first | exact HB.out | apply below_alloc | apply pw_below_drewN | apply below_drew1)))); have n4_ := Aside0.mk (below_step (by repeat (first | exact HB.out | apply below_alloc | apply pw_below_drewN | apply below_drew1)) hb); clear HO355; clear HO359; clear HO362; clear HB; have HO355 := n0_; have HO359 := n1_; have HO362 := n2_; have HO366 := n3_; have HB := n4_; clear n0_ n1_ n2_ n3_ n4_; (try clear ho0)) | ((with_reducible refine gate_callee (f := 48) rfl ?_); refine goesL_ (some 77) rfl rfl Try.func48 (by kernel_rfl) rfl #[.slice Ao33 t360.length co33, .slice Ao31 t357.length co31, .int .i64 a1, .int .i64 a2, .int .i64 (l0.length : Int)] rfl (by (try simp only [List.map_toArray, List.map_cons, List.map_nil]); first | done | rfl | (simp only [List.length_drop, List.length_take]; rfl)) ?_; (with_reducible refine (stripe_Join.calls kj6 _ _ t360 _ _ t357 a1 a2 (l0.length : Int) t367 t368 _ ?side1 ?side2 ?side3 ?side4 A18.out).mono ?_); (case side1 => repeat (first | exact (Kd.S_reads' HO362.out).2.2 | (with_reducible refine Kd.C_alloc ?_ _) | (with_reducible refine Kd.C_drewN ?_ _) | (with_reducible refine Kd.C_drew ?_))); (case side2 => exact (Kd.S_reads' HO362.out).2.1); (case side3 => repeat (first | exact (Kd.R_reads' HO359.out).2.2 | (with_reducible refine Kd.C_alloc ?_ _) | (with_reducible refine Kd.C_drewN ?_ _) | (with_reducible refine Kd.C_drew ?_))); (case side4 => exact (Kd.R_reads' HO359.out).2.1); rintro e w35 ⟨v369, rfl, ho0, hb⟩; refine ⟨_, rfl, ?_⟩; have n0_ := Aside0.mk (Kd.S_elder' (by (with_reducible repeat (first | apply Kd.S_alloc | apply Kd.S_drewN | apply Kd.S_drew)); exact HO355.out) (Kd.R_base ho0) hb); have n1_ := Aside0.mk (Kd.R_below (by (with_reducible repeat (first | apply Kd.R_alloc | apply Kd.R_drewN | apply Kd.R_drew)); exact HO359.out) hb); have n2_ := Aside0.mk (Kd.S_elder' (by (with_reducible repeat (first | apply Kd.S_alloc | apply Kd.S_drewN | apply Kd.S_drew)); exact HO362.out) (Kd.R_base ho0) hb); have n3_ := Aside0.mk (Kd.S_elder' (by (with_reducible repeat (first | apply Kd.S_alloc | apply Kd.S_drewN | apply Kd.S_drew)); exact HO366.out) (Kd.R_base ho0) hb); have n4_ := Aside0.mk (Kd.R_lower ho0 (below_size (by repeat (first | exact HB.out | apply below_alloc | apply pw_below_drewN | apply below_drew1)))); have n5_ := Aside0.mk (below_step (by repeat (first | exact HB.out | apply below_alloc | apply pw_below_drewN | apply below_drew1)) hb); clear HO355; clear HO359; clear HO362; clear HO366; clear HB; have HO355 := n0_; have HO359 := n1_; have HO362 := n2_; have HO366 := n3_; have HO370 := n4_; have HB := n5_; clear n0_ n1_ n2_ n3_ n4_ n5_; (try clear ho0); obtain ⟨Ao36, co36, eo36⟩ := Kd.S_slice HO366.out; subst eo36) | ((with_reducible refine gate_callee (f := 49) rfl ?_); refine goesL_ (some 84) rfl rfl Try.func49 (by kernel_rfl) rfl #[.slice Ao36 t363.length co36, .int .i64 a1, .int .i64 a2] rfl (by (try simp only [List.map_toArray, List.map_cons, List.map_nil]); first | done | rfl | (simp only [List.length_drop, List.length_take]; rfl)) ?_; (with_reducible refine (stripe_Sound.calls kj6 _ _ t363 a1 a2 t371 t372 _ ?side1 ?side2 A19.out).mono ?_); (case side1 => repeat (first | exact (Kd.S_reads' HO366.out).2.2 | (with_reducible refine Kd.C_alloc ?_ _) | (with_reducible refine Kd.C_drewN ?_ _) | (with_reducible refine Kd.C_drew ?_))); (case side2 => exact (Kd.S_reads' HO366.out).2.1); rintro e w37 ⟨rfl, hb⟩; refine ⟨_, rfl, ?_⟩; have n0_ := Aside0.mk (Kd.S_below (by (with_reducible repeat (first | apply Kd.S_alloc | apply Kd.S_drewN | apply Kd.S_drew)); exact HO355.out) hb); have n1_ := Aside0.mk (Kd.R_below (by (with_reducible repeat (first | apply Kd.R_alloc | apply Kd.R_drewN | apply Kd.R_drew)); exact HO359.out) hb); have n2_ := Aside0.mk (Kd.S_below (by (with_reducible repeat (first | apply Kd.S_alloc | apply Kd.S_drewN | apply Kd.S_drew)); exact HO362.out) hb); have n3_ := Aside0.mk (Kd.S_below (by (with_reducible repeat (first | apply Kd.S_alloc | apply Kd.S_drewN | apply Kd.S_drew)); exact HO366.out) hb); have n4_ := Aside0.mk (Kd.R_below (by (with_reducible repeat (first | apply Kd.R_alloc | apply Kd.R_drewN | apply Kd.R_drew)); exact HO370.out) hb); have n5_ := Aside0.mk (below_step (by repeat (first | exact HB.out | apply below_alloc | apply pw_below_drewN | apply below_drew1)) hb); clear HO355; clear HO359; clear HO362; clear HO366; clear HO370; clear HB; have HO355 := n0_; have HO359 := n1_; have HO362 := n2_; have HO366 := n3_; have HO370 := n4_; have HB := n5_; clear n0_ n1_ n2_ n3_ n4_ n5_; (try clear hi)) | (go_at_call 22; (with_reducible refine (stowagekit_SameLists.calls kj6 _ _ t363 _ _ t352 true _ ?side1 ?side2 ?side3 ?side4 A22.out).mono ?_); (case side1 => repeat (first | exact (Kd.S_reads' HO366.out).2.2 | (with_reducible refine Kd.C_alloc ?_ _) | (with_reducible refine Kd.C_drewN ?_ _) | (with_reducible refine Kd.C_drew ?_))); (case side2 => exact (Kd.S_reads' HO366.out).2.1); (case side3 => repeat (first | exact (Kd.S_reads' HO355.out).2.2 | (with_reducible refine Kd.C_alloc ?_ _) | (with_reducible refine Kd.C_drewN ?_ _) | (with_reducible refine Kd.C_drew ?_))); (case side4 => exact (Kd.S_reads' HO355.out).2.1); rintro e w' ⟨rfl, ⟨nd, rfl⟩⟩; obtain ⟨Ao38, co38, eo38⟩ := Kd.R_slice HO370.out; subst eo38) | (go_at_call 55; (with_reducible refine (stowagekit_SameBytes.calls _ _ t367 _ _ l0 true _ ?side1 ?side2 ?side3 ?side4 A25.out).mono ?_); (case side1 => repeat (first | exact (Kd.R_reads' HO370.out).2.2 | (with_reducible refine Kd.C_alloc ?_ _) | (with_reducible refine Kd.C_drewN ?_ _) | (with_reducible refine Kd.C_drew ?_))); (case side2 => exact (Kd.R_reads' HO370.out).2.1); (case side3 => repeat (first | exact (Kd.C_below HR0.out (by repeat (first | exact HB.out | apply below_alloc | apply pw_below_drewN | apply below_drew1))) | (with_reducible refine Kd.C_alloc ?_ _) | (with_reducible refine Kd.C_drewN ?_ _) | (with_reducible refine Kd.C_drew ?_))); (case side4 => exact HC0.out); rintro e w' ⟨rfl, ⟨nd, rfl⟩⟩))
                        go_ret
                        exact ⟨by first | rfl | (simp [errW_none, errW_some] <;> rfl) | (simp [*, errW_none, errW_some] <;> rfl), by repeat (first | (with_reducible first | exact HB.out | apply below_alloc | apply pw_below_drewN | apply below_drew1) | exact HB.out)⟩
                      · rw [if_neg c27] at H
                        have c27b0 : (t372 == 0) = false := beq_eq_false_iff_ne.mpr c27
                        have c27b1 : (t372 != 0) = true := bne_iff_ne.mpr c27
                        obtain rfl := Option.some.inj H
                        go_wp2_with (first | ((with_reducible refine gate_callee (f := 39) rfl ?_); refine goesL_ (some 36) rfl rfl Try.func39 (by kernel_rfl) rfl #[.slice A0 l0.length c0, .int .i64 a1, .int .i64 a2] rfl (by (try simp only [List.map_toArray, List.map_cons, List.map_nil]); first | done | rfl | (simp only [List.length_drop, List.length_take]; rfl)) ?_; (with_reducible refine (stripe_Split.calls kj6 _ _ l0 a1 a2 t352 t353 _ ?side1 ?side2 A11.out).mono ?_); (case side1 => repeat (first | exact (Kd.C_below HR0.out HB.out) | (with_reducible refine Kd.C_alloc ?_ _) | (with_reducible refine Kd.C_drewN ?_ _) | (with_reducible refine Kd.C_drew ?_))); (case side2 => exact HC0.out); rintro e w39 ⟨v354, rfl, ho0, hb⟩; refine ⟨_, rfl, ?_⟩; have n0_ := Aside0.mk (Kd.S_lower ho0 (below_size (by repeat (first | exact HB.out | apply below_alloc | apply pw_below_drewN | apply below_drew1)))); have n1_ := Aside0.mk (below_step (by repeat (first | exact HB.out | apply below_alloc | apply pw_below_drewN | apply below_drew1)) hb); clear HB; have HO355 := n0_; have HB := n1_; clear n0_ n1_; (try clear ho0); obtain ⟨Ao40, co40, eo40⟩ := Kd.S_slice HO355.out; subst eo40) | ((with_reducible refine gate_callee (f := 37) rfl ?_); refine goesL_ (some 52) rfl rfl Try.func37 (by kernel_rfl) rfl #[.int .i64 a4, .int .i64 (wrap64 (a2 + 1))] rfl (by (try simp only [List.map_toArray, List.map_cons, List.map_nil]); first | done | rfl | (simp only [List.length_drop, List.length_take]; rfl)) ?_; (with_reducible refine (stowagekit_Pick.calls a4 (wrap64 (a2 + 1)) t356 _ A14.out).mono ?_); rintro e w' ⟨rfl, ⟨nd, rfl⟩⟩; refine ⟨_, rfl, ?_⟩) | ((with_reducible refine gate_callee (f := 46) rfl ?_); refine goesL_ (some 58) rfl rfl Try.func46 (by kernel_rfl) rfl #[.int .i64 (wrap64 (a1 + t356)), .int .i64 (wrap64 (a1 + a2)), .slice A3 l3.length c3] rfl (by (try simp only [List.map_toArray, List.map_cons, List.map_nil]); first | done | rfl | (simp only [List.length_drop, List.length_take]; rfl)) ?_; (with_reducible refine (stowagelaw03_some.calls kj6 (wrap64 (a1 + t356)) (wrap64 (a1 + a2)) _ _ l3 t357 _ ?side1 ?side2 A15.out).mono ?_); (case side1 => repeat (first | exact (Kd.C_below HR3.out (by repeat (first | exact HB.out | apply below_alloc | apply pw_below_drewN | apply below_drew1))) | (with_reducible refine Kd.C_alloc ?_ _) | (with_reducible refine Kd.C_drewN ?_ _) | (with_reducible refine Kd.C_drew ?_))); (case side2 => exact HC3.out); rintro e w41 ⟨v358, rfl, ho0, hb⟩; refine ⟨_, rfl, ?_⟩; have n0_ := Aside0.mk (Kd.S_below (by (with_reducible repeat (first | apply Kd.S_alloc | apply Kd.S_drewN | apply Kd.S_drew)); exact HO355.out) hb); have n1_ := Aside0.mk (Kd.R_lower ho0 (below_size (by repeat (first | exact HB.out | apply below_alloc | apply pw_below_drewN | apply below_drew1)))); have n2_ := Aside0.mk (below_step (by repeat (first | exact HB.out | apply below_alloc | apply pw_below_drewN | apply below_drew1)) hb); clear HO355; clear HB; have HO355 := n0_; have HO359 := n1_; have HB := n2_; clear n0_ n1_ n2_; (try clear ho0); obtain ⟨Ao42, co42, eo42⟩ := Kd.R_slice HO359.out; subst eo42) | ((with_reducible refine gate_callee (f := 57) rfl ?_); refine goesL_ (some 61) rfl rfl Try.func57 (by kernel_rfl) rfl #[.slice Ao40 t352.length co40, .slice Ao42 t357.length co42] rfl (by (try simp only [List.map_toArray, List.map_cons, List.map_nil]); first | done | rfl | (simp only [List.length_drop, List.length_take]; rfl)) ?_; (with_reducible refine (stowagelaw03_hidden.calls kj6 _ _ t352 _ _ t357 t360 _ ?side1 ?side2 ?side3 ?side4 A16.out).mono ?_); (case side1 => repeat (first | exact (Kd.S_reads' HO355.out).2.2 | (with_reducible refine Kd.C_alloc ?_ _) | (with_reducible refine Kd.C_drewN ?_ _) | (with_reducible refine Kd.C_drew ?_))); (case side2 => exact (Kd.S_reads' HO355.out).2.1); (case side3 => repeat (first | exact (Kd.R_reads' HO359.out).2.2 | (with_reducible refine Kd.C_alloc ?_ _) | (with_reducible refine Kd.C_drewN ?_ _) | (with_reducible refine Kd.C_drew ?_))); (case side4 => exact (Kd.R_reads' HO359.out).2.1); rintro e w43 ⟨v361, rfl, ho0, hb⟩; refine ⟨_, rfl, ?_⟩; have n0_ := Aside0.mk (Kd.S_elder' (by (with_reducible repeat (first | apply Kd.S_alloc | apply Kd.S_drewN | apply Kd.S_drew)); exact HO355.out) (Kd.S_base ho0) hb); have n1_ := Aside0.mk (Kd.R_below (by (with_reducible repeat (first | apply Kd.R_alloc | apply Kd.R_drewN | apply Kd.R_drew)); exact HO359.out) hb); have n2_ := Aside0.mk (Kd.S_lower (Kd.S_new' ho0 (Kd.S_lt (by (with_reducible repeat (first | apply Kd.S_alloc | apply Kd.S_drewN | apply Kd.S_drew)); exact HO355.out))) (below_size (by repeat (first | exact HB.out | apply below_alloc | apply pw_below_drewN | apply below_drew1)))); have n3_ := Aside0.mk (below_step (by repeat (first | exact HB.out | apply below_alloc | apply pw_below_drewN | apply below_drew1)) hb); clear HO355; clear HO359; clear HB; have HO355 := n0_; have HO359 := n1_; have HO362 := n2_; have HB := n3_; clear n0_ n1_ n2_ n3_; (try clear ho0); obtain ⟨Ao44, co44, eo44⟩ := Kd.S_slice HO362.out; subst eo44) | ((with_reducible refine gate_callee (f := 47) rfl ?_); refine goesL_ (some 67) rfl rfl Try.func47 (by kernel_rfl) rfl #[.slice Ao44 t360.length co44, .slice Ao42 t357.length co42, .int .i64 a1, .int .i64 a2] rfl (by (try simp only [List.map_toArray, List.map_cons, List.map_nil]); first | done | rfl | (simp only [List.length_drop, List.length_take]; rfl)) ?_; (with_reducible refine (stripe_Mend.calls kj6 _ _ t360 _ _ t357 a1 a2 t363 t364 _ ?side1 ?side2 ?side3 ?side4 A17.out).mono ?_); (case side1 => repeat (first | exact (Kd.S_reads' HO362.out).2.2 | (with_reducible refine Kd.C_alloc ?_ _) | (with_reducible refine Kd.C_drewN ?_ _) | (with_reducible refine Kd.C_drew ?_))); (case side2 => exact (Kd.S_reads' HO362.out).2.1); (case side3 => repeat (first | exact (Kd.R_reads' HO359.out).2.2 | (with_reducible refine Kd.C_alloc ?_ _) | (with_reducible refine Kd.C_drewN ?_ _) | (with_reducible refine Kd.C_drew ?_))); (case side4 => exact (Kd.R_reads' HO359.out).2.1); rintro e w45 ⟨v365, rfl, ho0, hb⟩; refine ⟨_, rfl, ?_⟩; have n0_ := Aside0.mk (Kd.S_elder' (by (with_reducible repeat (first | apply Kd.S_alloc | apply Kd.S_drewN | apply Kd.S_drew)); exact HO355.out) (Kd.S_base ho0) hb); have n1_ := Aside0.mk (Kd.R_below (by (with_reducible repeat (first | apply Kd.R_alloc | apply Kd.R_drewN | apply Kd.R_drew)); exact HO359.out) hb); have n2_ := Aside0.mk (Kd.S_elder' (by (with_reducible repeat (first | apply Kd.S_alloc | apply Kd.S_drewN | apply Kd.S_drew)); exact HO362.out) (Kd.S_base ho0) hb); have n3_ := Aside0.mk (Kd.S_lower (Kd.S_new' (Kd.S_new' ho0 (Kd.S_lt (by (with_reducible repeat (first | apply Kd.S_alloc | apply Kd.S_drewN | apply Kd.S_drew)); exact HO355.out))) (Kd.S_lt (by (with_reducible repeat (first | apply Kd.S_alloc | apply Kd.S_drewN | apply Kd.S_drew)); exact HO362.out))) (below_size (by repeat (first | exact HB.out | apply below_alloc | apply pw_below_drewN | apply below_drew1)))); have n4_ := Aside0.mk (below_step (by repeat (first | exact HB.out | apply below_alloc | apply pw_below_drewN | apply below_drew1)) hb); clear HO355; clear HO359; clear HO362; clear HB; have HO355 := n0_; have HO359 := n1_; have HO362 := n2_; have HO366 := n3_; have HB := n4_; clear n0_ n1_ n2_ n3_ n4_; (try clear ho0)) | ((with_reducible refine gate_callee (f := 48) rfl ?_); refine goesL_ (some 77) rfl rfl Try.func48 (by kernel_rfl) rfl #[.slice Ao44 t360.length co44, .slice Ao42 t357.length co42, .int .i64 a1, .int .i64 a2, .int .i64 (l0.length : Int)] rfl (by (try simp only [List.map_toArray, List.map_cons, List.map_nil]); first | done | rfl | (simp only [List.length_drop, List.length_take]; rfl)) ?_; (with_reducible refine (stripe_Join.calls kj6 _ _ t360 _ _ t357 a1 a2 (l0.length : Int) t367 t368 _ ?side1 ?side2 ?side3 ?side4 A18.out).mono ?_); (case side1 => repeat (first | exact (Kd.S_reads' HO362.out).2.2 | (with_reducible refine Kd.C_alloc ?_ _) | (with_reducible refine Kd.C_drewN ?_ _) | (with_reducible refine Kd.C_drew ?_))); (case side2 => exact (Kd.S_reads' HO362.out).2.1); (case side3 => repeat (first | exact (Kd.R_reads' HO359.out).2.2 | (with_reducible refine Kd.C_alloc ?_ _) | (with_reducible refine Kd.C_drewN ?_ _) | (with_reducible refine Kd.C_drew ?_))); (case side4 => exact (Kd.R_reads' HO359.out).2.1); rintro e w46 ⟨v369, rfl, ho0, hb⟩; refine ⟨_, rfl, ?_⟩; have n0_ := Aside0.mk (Kd.S_elder' (by (with_reducible repeat (first | apply Kd.S_alloc | apply Kd.S_drewN | apply Kd.S_drew)); exact HO355.out) (Kd.R_base ho0) hb); have n1_ := Aside0.mk (Kd.R_below (by (with_reducible repeat (first | apply Kd.R_alloc | apply Kd.R_drewN | apply Kd.R_drew)); exact HO359.out) hb); have n2_ := Aside0.mk (Kd.S_elder' (by (with_reducible repeat (first | apply Kd.S_alloc | apply Kd.S_drewN | apply Kd.S_drew)); exact HO362.out) (Kd.R_base ho0) hb); have n3_ := Aside0.mk (Kd.S_elder' (by (with_reducible repeat (first | apply Kd.S_alloc | apply Kd.S_drewN | apply Kd.S_drew)); exact HO366.out) (Kd.R_base ho0) hb); have n4_ := Aside0.mk (Kd.R_lower ho0 (below_size (by repeat (first | exact HB.out | apply below_alloc | apply pw_below_drewN | apply below_drew1)))); have n5_ := Aside0.mk (below_step (by repeat (first | exact HB.out | apply below_alloc | apply pw_below_drewN | apply below_drew1)) hb); clear HO355; clear HO359; clear HO362; clear HO366; clear HB; have HO355 := n0_; have HO359 := n1_; have HO362 := n2_; have HO366 := n3_; have HO370 := n4_; have HB := n5_; clear n0_ n1_ n2_ n3_ n4_ n5_; (try clear ho0); obtain ⟨Ao47, co47, eo47⟩ := Kd.S_slice HO366.out; subst eo47) | ((with_reducible refine gate_callee (f := 49) rfl ?_); refine goesL_ (some 84) rfl rfl Try.func49 (by kernel_rfl) rfl #[.slice Ao47 t363.length co47, .int .i64 a1, .int .i64 a2] rfl (by (try simp only [List.map_toArray, List.map_cons, List.map_nil]); first | done | rfl | (simp only [List.length_drop, List.length_take]; rfl)) ?_; (with_reducible refine (stripe_Sound.calls kj6 _ _ t363 a1 a2 t371 t372 _ ?side1 ?side2 A19.out).mono ?_); (case side1 => repeat (first | exact (Kd.S_reads' HO366.out).2.2 | (with_reducible refine Kd.C_alloc ?_ _) | (with_reducible refine Kd.C_drewN ?_ _) | (with_reducible refine Kd.C_drew ?_))); (case side2 => exact (Kd.S_reads' HO366.out).2.1); rintro e w48 ⟨rfl, hb⟩; refine ⟨_, rfl, ?_⟩; have n0_ := Aside0.mk (Kd.S_below (by (with_reducible repeat (first | apply Kd.S_alloc | apply Kd.S_drewN | apply Kd.S_drew)); exact HO355.out) hb); have n1_ := Aside0.mk (Kd.R_below (by (with_reducible repeat (first | apply Kd.R_alloc | apply Kd.R_drewN | apply Kd.R_drew)); exact HO359.out) hb); have n2_ := Aside0.mk (Kd.S_below (by (with_reducible repeat (first | apply Kd.S_alloc | apply Kd.S_drewN | apply Kd.S_drew)); exact HO362.out) hb); have n3_ := Aside0.mk (Kd.S_below (by (with_reducible repeat (first | apply Kd.S_alloc | apply Kd.S_drewN | apply Kd.S_drew)); exact HO366.out) hb); have n4_ := Aside0.mk (Kd.R_below (by (with_reducible repeat (first | apply Kd.R_alloc | apply Kd.R_drewN | apply Kd.R_drew)); exact HO370.out) hb); have n5_ := Aside0.mk (below_step (by repeat (first | exact HB.out | apply below_alloc | apply pw_below_drewN | apply below_drew1)) hb); clear HO355; clear HO359; clear HO362; clear HO366; clear HO370; clear HB; have HO355 := n0_; have HO359 := n1_; have HO362 := n2_; have HO366 := n3_; have HO370 := n4_; have HB := n5_; clear n0_ n1_ n2_ n3_ n4_ n5_; (try clear hi)) | (go_at_call 22; (with_reducible refine (stowagekit_SameLists.calls kj6 _ _ t363 _ _ t352 true _ ?side1 ?side2 ?side3 ?side4 A22.out).mono ?_); (case side1 => repeat (first | exact (Kd.S_reads' HO366.out).2.2 | (with_reducible refine Kd.C_alloc ?_ _) | (with_reducible refine Kd.C_drewN ?_ _) | (with_reducible refine Kd.C_drew ?_))); (case side2 => exact (Kd.S_reads' HO366.out).2.1); (case side3 => repeat (first | exact (Kd.S_reads' HO355.out).2.2 | (with_reducible refine Kd.C_alloc ?_ _) | (with_reducible refine Kd.C_drewN ?_ _) | (with_reducible refine Kd.C_drew ?_))); (case side4 => exact (Kd.S_reads' HO355.out).2.1); rintro e w' ⟨rfl, ⟨nd, rfl⟩⟩; obtain ⟨Ao49, co49, eo49⟩ := Kd.R_slice HO370.out; subst eo49) | (go_at_call 55; (with_reducible refine (stowagekit_SameBytes.calls _ _ t367 _ _ l0 true _ ?side1 ?side2 ?side3 ?side4 A25.out).mono ?_); (case side1 => repeat (first | exact (Kd.R_reads' HO370.out).2.2 | (with_reducible refine Kd.C_alloc ?_ _) | (with_reducible refine Kd.C_drewN ?_ _) | (with_reducible refine Kd.C_drew ?_))); (case side2 => exact (Kd.R_reads' HO370.out).2.1); (case side3 => repeat (first | exact (Kd.C_below HR0.out (by repeat (first | exact HB.out | apply below_alloc | apply pw_below_drewN | apply below_drew1))) | (with_reducible refine Kd.C_alloc ?_ _) | (with_reducible refine Kd.C_drewN ?_ _) | (with_reducible refine Kd.C_drew ?_))); (case side4 => exact HC0.out); rintro e w' ⟨rfl, ⟨nd, rfl⟩⟩))
                        go_ret
                        exact ⟨by first | rfl | (simp [errW_none, errW_some] <;> rfl) | (simp [*, errW_none, errW_some] <;> rfl), by repeat (first | (with_reducible first | exact HB.out | apply below_alloc | apply pw_below_drewN | apply below_drew1) | exact HB.out)⟩
                    · replace c26 := Bool.eq_false_iff.mpr c26
                      subst c26
                      have H1 : (some false) = some r := by rw [if_neg (show ¬ (false = true) by decide)] at H; exact H
                      clear H
                      have H := H1
                      clear H1
                      obtain rfl := Option.some.inj H
                      go_wp2_with (first | ((with_reducible refine gate_callee (f := 39) rfl ?_); refine goesL_ (some 36) rfl rfl Try.func39 (by kernel_rfl) rfl #[.slice A0 l0.length c0, .int .i64 a1, .int .i64 a2] rfl (by (try simp only [List.map_toArray, List.map_cons, List.map_nil]); first | done | rfl | (simp only [List.length_drop, List.length_take]; rfl)) ?_; (with_reducible refine (stripe_Split.calls kj6 _ _ l0 a1 a2 t352 t353 _ ?side1 ?side2 A11.out).mono ?_); (case side1 => repeat (first | exact (Kd.C_below HR0.out HB.out) | (with_reducible refine Kd.C_alloc ?_ _) | (with_reducible refine Kd.C_drewN ?_ _) | (with_reducible refine Kd.C_drew ?_))); (case side2 => exact HC0.out); rintro e w50 ⟨v354, rfl, ho0, hb⟩; refine ⟨_, rfl, ?_⟩; have n0_ := Aside0.mk (Kd.S_lower ho0 (below_size (by repeat (first | exact HB.out | apply below_alloc | apply pw_below_drewN | apply below_drew1)))); have n1_ := Aside0.mk (below_step (by repeat (first | exact HB.out | apply below_alloc | apply pw_below_drewN | apply below_drew1)) hb); clear HB; have HO355 := n0_; have HB := n1_; clear n0_ n1_; (try clear ho0); obtain ⟨Ao51, co51, eo51⟩ := Kd.S_slice HO355.out; subst eo51) | ((with_reducible refine gate_callee (f := 37) rfl ?_); refine goesL_ (some 52) rfl rfl Try.func37 (by kernel_rfl) rfl #[.int .i64 a4, .int .i64 (wrap64 (a2 + 1))] rfl (by (try simp only [List.map_toArray, List.map_cons, List.map_nil]); first | done | rfl | (simp only [List.length_drop, List.length_take]; rfl)) ?_; (with_reducible refine (stowagekit_Pick.calls a4 (wrap64 (a2 + 1)) t356 _ A14.out).mono ?_); rintro e w' ⟨rfl, ⟨nd, rfl⟩⟩; refine ⟨_, rfl, ?_⟩) | ((with_reducible refine gate_callee (f := 46) rfl ?_); refine goesL_ (some 58) rfl rfl Try.func46 (by kernel_rfl) rfl #[.int .i64 (wrap64 (a1 + t356)), .int .i64 (wrap64 (a1 + a2)), .slice A3 l3.length c3] rfl (by (try simp only [List.map_toArray, List.map_cons, List.map_nil]); first | done | rfl | (simp only [List.length_drop, List.length_take]; rfl)) ?_; (with_reducible refine (stowagelaw03_some.calls kj6 (wrap64 (a1 + t356)) (wrap64 (a1 + a2)) _ _ l3 t357 _ ?side1 ?side2 A15.out).mono ?_); (case side1 => repeat (first | exact (Kd.C_below HR3.out (by repeat (first | exact HB.out | apply below_alloc | apply pw_below_drewN | apply below_drew1))) | (with_reducible refine Kd.C_alloc ?_ _) | (with_reducible refine Kd.C_drewN ?_ _) | (with_reducible refine Kd.C_drew ?_))); (case side2 => exact HC3.out); rintro e w52 ⟨v358, rfl, ho0, hb⟩; refine ⟨_, rfl, ?_⟩; have n0_ := Aside0.mk (Kd.S_below (by (with_reducible repeat (first | apply Kd.S_alloc | apply Kd.S_drewN | apply Kd.S_drew)); exact HO355.out) hb); have n1_ := Aside0.mk (Kd.R_lower ho0 (below_size (by repeat (first | exact HB.out | apply below_alloc | apply pw_below_drewN | apply below_drew1)))); have n2_ := Aside0.mk (below_step (by repeat (first | exact HB.out | apply below_alloc | apply pw_below_drewN | apply below_drew1)) hb); clear HO355; clear HB; have HO355 := n0_; have HO359 := n1_; have HB := n2_; clear n0_ n1_ n2_; (try clear ho0); obtain ⟨Ao53, co53, eo53⟩ := Kd.R_slice HO359.out; subst eo53) | ((with_reducible refine gate_callee (f := 57) rfl ?_); refine goesL_ (some 61) rfl rfl Try.func57 (by kernel_rfl) rfl #[.slice Ao51 t352.length co51, .slice Ao53 t357.length co53] rfl (by (try simp only [List.map_toArray, List.map_cons, List.map_nil]); first | done | rfl | (simp only [List.length_drop, List.length_take]; rfl)) ?_; (with_reducible refine (stowagelaw03_hidden.calls kj6 _ _ t352 _ _ t357 t360 _ ?side1 ?side2 ?side3 ?side4 A16.out).mono ?_); (case side1 => repeat (first | exact (Kd.S_reads' HO355.out).2.2 | (with_reducible refine Kd.C_alloc ?_ _) | (with_reducible refine Kd.C_drewN ?_ _) | (with_reducible refine Kd.C_drew ?_))); (case side2 => exact (Kd.S_reads' HO355.out).2.1); (case side3 => repeat (first | exact (Kd.R_reads' HO359.out).2.2 | (with_reducible refine Kd.C_alloc ?_ _) | (with_reducible refine Kd.C_drewN ?_ _) | (with_reducible refine Kd.C_drew ?_))); (case side4 => exact (Kd.R_reads' HO359.out).2.1); rintro e w54 ⟨v361, rfl, ho0, hb⟩; refine ⟨_, rfl, ?_⟩; have n0_ := Aside0.mk (Kd.S_elder' (by (with_reducible repeat (first | apply Kd.S_alloc | apply Kd.S_drewN | apply Kd.S_drew)); exact HO355.out) (Kd.S_base ho0) hb); have n1_ := Aside0.mk (Kd.R_below (by (with_reducible repeat (first | apply Kd.R_alloc | apply Kd.R_drewN | apply Kd.R_drew)); exact HO359.out) hb); have n2_ := Aside0.mk (Kd.S_lower (Kd.S_new' ho0 (Kd.S_lt (by (with_reducible repeat (first | apply Kd.S_alloc | apply Kd.S_drewN | apply Kd.S_drew)); exact HO355.out))) (below_size (by repeat (first | exact HB.out | apply below_alloc | apply pw_below_drewN | apply below_drew1)))); have n3_ := Aside0.mk (below_step (by repeat (first | exact HB.out | apply below_alloc | apply pw_below_drewN | apply below_drew1)) hb); clear HO355; clear HO359; clear HB; have HO355 := n0_; have HO359 := n1_; have HO362 := n2_; have HB := n3_; clear n0_ n1_ n2_ n3_; (try clear ho0); obtain ⟨Ao55, co55, eo55⟩ := Kd.S_slice HO362.out; subst eo55) | ((with_reducible refine gate_callee (f := 47) rfl ?_); refine goesL_ (some 67) rfl rfl Try.func47 (by kernel_rfl) rfl #[.slice Ao55 t360.length co55, .slice Ao53 t357.length co53, .int .i64 a1, .int .i64 a2] rfl (by (try simp only [List.map_toArray, List.map_cons, List.map_nil]); first | done | rfl | (simp only [List.length_drop, List.length_take]; rfl)) ?_; (with_reducible refine (stripe_Mend.calls kj6 _ _ t360 _ _ t357 a1 a2 t363 t364 _ ?side1 ?side2 ?side3 ?side4 A17.out).mono ?_); (case side1 => repeat (first | exact (Kd.S_reads' HO362.out).2.2 | (with_reducible refine Kd.C_alloc ?_ _) | (with_reducible refine Kd.C_drewN ?_ _) | (with_reducible refine Kd.C_drew ?_))); (case side2 => exact (Kd.S_reads' HO362.out).2.1); (case side3 => repeat (first | exact (Kd.R_reads' HO359.out).2.2 | (with_reducible refine Kd.C_alloc ?_ _) | (with_reducible refine Kd.C_drewN ?_ _) | (with_reducible refine Kd.C_drew ?_))); (case side4 => exact (Kd.R_reads' HO359.out).2.1); rintro e w56 ⟨v365, rfl, ho0, hb⟩; refine ⟨_, rfl, ?_⟩; have n0_ := Aside0.mk (Kd.S_elder' (by (with_reducible repeat (first | apply Kd.S_alloc | apply Kd.S_drewN | apply Kd.S_drew)); exact HO355.out) (Kd.S_base ho0) hb); have n1_ := Aside0.mk (Kd.R_below (by (with_reducible repeat (first | apply Kd.R_alloc | apply Kd.R_drewN | apply Kd.R_drew)); exact HO359.out) hb); have n2_ := Aside0.mk (Kd.S_elder' (by (with_reducible repeat (first | apply Kd.S_alloc | apply Kd.S_drewN | apply Kd.S_drew)); exact HO362.out) (Kd.S_base ho0) hb); have n3_ := Aside0.mk (Kd.S_lower (Kd.S_new' (Kd.S_new' ho0 (Kd.S_lt (by (with_reducible repeat (first | apply Kd.S_alloc | apply Kd.S_drewN | apply Kd.S_drew)); exact HO355.out))) (Kd.S_lt (by (with_reducible repeat (first | apply Kd.S_alloc | apply Kd.S_drewN | apply Kd.S_drew)); exact HO362.out))) (below_size (by repeat (first | exact HB.out | apply below_alloc | apply pw_below_drewN | apply below_drew1)))); have n4_ := Aside0.mk (below_step (by repeat (first | exact HB.out | apply below_alloc | apply pw_below_drewN | apply below_drew1)) hb); clear HO355; clear HO359; clear HO362; clear HB; have HO355 := n0_; have HO359 := n1_; have HO362 := n2_; have HO366 := n3_; have HB := n4_; clear n0_ n1_ n2_ n3_ n4_; (try clear ho0)) | ((with_reducible refine gate_callee (f := 48) rfl ?_); refine goesL_ (some 77) rfl rfl Try.func48 (by kernel_rfl) rfl #[.slice Ao55 t360.length co55, .slice Ao53 t357.length co53, .int .i64 a1, .int .i64 a2, .int .i64 (l0.length : Int)] rfl (by (try simp only [List.map_toArray, List.map_cons, List.map_nil]); first | done | rfl | (simp only [List.length_drop, List.length_take]; rfl)) ?_; (with_reducible refine (stripe_Join.calls kj6 _ _ t360 _ _ t357 a1 a2 (l0.length : Int) t367 t368 _ ?side1 ?side2 ?side3 ?side4 A18.out).mono ?_); (case side1 => repeat (first | exact (Kd.S_reads' HO362.out).2.2 | (with_reducible refine Kd.C_alloc ?_ _) | (with_reducible refine Kd.C_drewN ?_ _) | (with_reducible refine Kd.C_drew ?_))); (case side2 => exact (Kd.S_reads' HO362.out).2.1); (case side3 => repeat (first | exact (Kd.R_reads' HO359.out).2.2 | (with_reducible refine Kd.C_alloc ?_ _) | (with_reducible refine Kd.C_drewN ?_ _) | (with_reducible refine Kd.C_drew ?_))); (case side4 => exact (Kd.R_reads' HO359.out).2.1); rintro e w57 ⟨v369, rfl, ho0, hb⟩; refine ⟨_, rfl, ?_⟩; have n0_ := Aside0.mk (Kd.S_elder' (by (with_reducible repeat (first | apply Kd.S_alloc | apply Kd.S_drewN | apply Kd.S_drew)); exact HO355.out) (Kd.R_base ho0) hb); have n1_ := Aside0.mk (Kd.R_below (by (with_reducible repeat (first | apply Kd.R_alloc | apply Kd.R_drewN | apply Kd.R_drew)); exact HO359.out) hb); have n2_ := Aside0.mk (Kd.S_elder' (by (with_reducible repeat (first | apply Kd.S_alloc | apply Kd.S_drewN | apply Kd.S_drew)); exact HO362.out) (Kd.R_base ho0) hb); have n3_ := Aside0.mk (Kd.S_elder' (by (with_reducible repeat (first | apply Kd.S_alloc | apply Kd.S_drewN | apply Kd.S_drew)); exact HO366.out) (Kd.R_base ho0) hb); have n4_ := Aside0.mk (Kd.R_lower ho0 (below_size (by repeat (first | exact HB.out | apply below_alloc | apply pw_below_drewN | apply below_drew1)))); have n5_ := Aside0.mk (below_step (by repeat (first | exact HB.out | apply below_alloc | apply pw_below_drewN | apply below_drew1)) hb); clear HO355; clear HO359; clear HO362; clear HO366; clear HB; have HO355 := n0_; have HO359 := n1_; have HO362 := n2_; have HO366 := n3_; have HO370 := n4_; have HB := n5_; clear n0_ n1_ n2_ n3_ n4_ n5_; (try clear ho0); obtain ⟨Ao58, co58, eo58⟩ := Kd.S_slice HO366.out; subst eo58) | ((with_reducible refine gate_callee (f := 49) rfl ?_); refine goesL_ (some 84) rfl rfl Try.func49 (by kernel_rfl) rfl #[.slice Ao58 t363.length co58, .int .i64 a1, .int .i64 a2] rfl (by (try simp only [List.map_toArray, List.map_cons, List.map_nil]); first | done | rfl | (simp only [List.length_drop, List.length_take]; rfl)) ?_; (with_reducible refine (stripe_Sound.calls kj6 _ _ t363 a1 a2 t371 t372 _ ?side1 ?side2 A19.out).mono ?_); (case side1 => repeat (first | exact (Kd.S_reads' HO366.out).2.2 | (with_reducible refine Kd.C_alloc ?_ _) | (with_reducible refine Kd.C_drewN ?_ _) | (with_reducible refine Kd.C_drew ?_))); (case side2 => exact (Kd.S_reads' HO366.out).2.1); rintro e w59 ⟨rfl, hb⟩; refine ⟨_, rfl, ?_⟩; have n0_ := Aside0.mk (Kd.S_below (by (with_reducible repeat (first | apply Kd.S_alloc | apply Kd.S_drewN | apply Kd.S_drew)); exact HO355.out) hb); have n1_ := Aside0.mk (Kd.R_below (by (with_reducible repeat (first | apply Kd.R_alloc | apply Kd.R_drewN | apply Kd.R_drew)); exact HO359.out) hb); have n2_ := Aside0.mk (Kd.S_below (by (with_reducible repeat (first | apply Kd.S_alloc | apply Kd.S_drewN | apply Kd.S_drew)); exact HO362.out) hb); have n3_ := Aside0.mk (Kd.S_below (by (with_reducible repeat (first | apply Kd.S_alloc | apply Kd.S_drewN | apply Kd.S_drew)); exact HO366.out) hb); have n4_ := Aside0.mk (Kd.R_below (by (with_reducible repeat (first | apply Kd.R_alloc | apply Kd.R_drewN | apply Kd.R_drew)); exact HO370.out) hb); have n5_ := Aside0.mk (below_step (by repeat (first | exact HB.out | apply below_alloc | apply pw_below_drewN | apply below_drew1)) hb); clear HO355; clear HO359; clear HO362; clear HO366; clear HO370; clear HB; have HO355 := n0_; have HO359 := n1_; have HO362 := n2_; have HO366 := n3_; have HO370 := n4_; have HB := n5_; clear n0_ n1_ n2_ n3_ n4_ n5_; (try clear hi)) | (go_at_call 22; (with_reducible refine (stowagekit_SameLists.calls kj6 _ _ t363 _ _ t352 true _ ?side1 ?side2 ?side3 ?side4 A22.out).mono ?_); (case side1 => repeat (first | exact (Kd.S_reads' HO366.out).2.2 | (with_reducible refine Kd.C_alloc ?_ _) | (with_reducible refine Kd.C_drewN ?_ _) | (with_reducible refine Kd.C_drew ?_))); (case side2 => exact (Kd.S_reads' HO366.out).2.1); (case side3 => repeat (first | exact (Kd.S_reads' HO355.out).2.2 | (with_reducible refine Kd.C_alloc ?_ _) | (with_reducible refine Kd.C_drewN ?_ _) | (with_reducible refine Kd.C_drew ?_))); (case side4 => exact (Kd.S_reads' HO355.out).2.1); rintro e w' ⟨rfl, ⟨nd, rfl⟩⟩; obtain ⟨Ao60, co60, eo60⟩ := Kd.R_slice HO370.out; subst eo60) | (go_at_call 55; (with_reducible refine (stowagekit_SameBytes.calls _ _ t367 _ _ l0 false _ ?side1 ?side2 ?side3 ?side4 A25.out).mono ?_); (case side1 => repeat (first | exact (Kd.R_reads' HO370.out).2.2 | (with_reducible refine Kd.C_alloc ?_ _) | (with_reducible refine Kd.C_drewN ?_ _) | (with_reducible refine Kd.C_drew ?_))); (case side2 => exact (Kd.R_reads' HO370.out).2.1); (case side3 => repeat (first | exact (Kd.C_below HR0.out (by repeat (first | exact HB.out | apply below_alloc | apply pw_below_drewN | apply below_drew1))) | (with_reducible refine Kd.C_alloc ?_ _) | (with_reducible refine Kd.C_drewN ?_ _) | (with_reducible refine Kd.C_drew ?_))); (case side4 => exact HC0.out); rintro e w' ⟨rfl, ⟨nd, rfl⟩⟩))
                      go_ret
                      exact ⟨by first | rfl | (simp [errW_none, errW_some] <;> rfl) | (simp [*, errW_none, errW_some] <;> rfl), by repeat (first | (with_reducible first | exact HB.out | apply below_alloc | apply pw_below_drewN | apply below_drew1) | exact HB.out)⟩
                  · rw [if_neg c24] at H
                    have c24b0 : (t368 == 0) = false := beq_eq_false_iff_ne.mpr c24
                    have c24b1 : (t368 != 0) = true := bne_iff_ne.mpr c24
                    obtain rfl := Option.some.inj H
                    go_wp2_with (first | ((with_reducible refine gate_callee (f := 39) rfl ?_); refine goesL_ (some 36) rfl rfl Try.func39 (by kernel_rfl) rfl #[.slice A0 l0.length c0, .int .i64 a1, .int .i64 a2] rfl (by (try simp only [List.map_toArray, List.map_cons, List.map_nil]); first | done | rfl | (simp only [List.length_drop, List.length_take]; rfl)) ?_; (with_reducible refine (stripe_Split.calls kj6 _ _ l0 a1 a2 t352 t353 _ ?side1 ?side2 A11.out).mono ?_); (case side1 => repeat (first | exact (Kd.C_below HR0.out HB.out) | (with_reducible refine Kd.C_alloc ?_ _) | (with_reducible refine Kd.C_drewN ?_ _) | (with_reducible refine Kd.C_drew ?_))); (case side2 => exact HC0.out); rintro e w61 ⟨v354, rfl, ho0, hb⟩; refine ⟨_, rfl, ?_⟩; have n0_ := Aside0.mk (Kd.S_lower ho0 (below_size (by repeat (first | exact HB.out | apply below_alloc | apply pw_below_drewN | apply below_drew1)))); have n1_ := Aside0.mk (below_step (by repeat (first | exact HB.out | apply below_alloc | apply pw_below_drewN | apply below_drew1)) hb); clear HB; have HO355 := n0_; have HB := n1_; clear n0_ n1_; (try clear ho0); obtain ⟨Ao62, co62, eo62⟩ := Kd.S_slice HO355.out; subst eo62) | ((with_reducible refine gate_callee (f := 37) rfl ?_); refine goesL_ (some 52) rfl rfl Try.func37 (by kernel_rfl) rfl #[.int .i64 a4, .int .i64 (wrap64 (a2 + 1))] rfl (by (try simp only [List.map_toArray, List.map_cons, List.map_nil]); first | done | rfl | (simp only [List.length_drop, List.length_take]; rfl)) ?_; (with_reducible refine (stowagekit_Pick.calls a4 (wrap64 (a2 + 1)) t356 _ A14.out).mono ?_); rintro e w' ⟨rfl, ⟨nd, rfl⟩⟩; refine ⟨_, rfl, ?_⟩) | ((with_reducible refine gate_callee (f := 46) rfl ?_); refine goesL_ (some 58) rfl rfl Try.func46 (by kernel_rfl) rfl #[.int .i64 (wrap64 (a1 + t356)), .int .i64 (wrap64 (a1 + a2)), .slice A3 l3.length c3] rfl (by (try simp only [List.map_toArray, List.map_cons, List.map_nil]); first | done | rfl | (simp only [List.length_drop, List.length_take]; rfl)) ?_; (with_reducible refine (stowagelaw03_some.calls kj6 (wrap64 (a1 + t356)) (wrap64 (a1 + a2)) _ _ l3 t357 _ ?side1 ?side2 A15.out).mono ?_); (case side1 => repeat (first | exact (Kd.C_below HR3.out (by repeat (first | exact HB.out | apply below_alloc | apply pw_below_drewN | apply below_drew1))) | (with_reducible refine Kd.C_alloc ?_ _) | (with_reducible refine Kd.C_drewN ?_ _) | (with_reducible refine Kd.C_drew ?_))); (case side2 => exact HC3.out); rintro e w63 ⟨v358, rfl, ho0, hb⟩; refine ⟨_, rfl, ?_⟩; have n0_ := Aside0.mk (Kd.S_below (by (with_reducible repeat (first | apply Kd.S_alloc | apply Kd.S_drewN | apply Kd.S_drew)); exact HO355.out) hb); have n1_ := Aside0.mk (Kd.R_lower ho0 (below_size (by repeat (first | exact HB.out | apply below_alloc | apply pw_below_drewN | apply below_drew1)))); have n2_ := Aside0.mk (below_step (by repeat (first | exact HB.out | apply below_alloc | apply pw_below_drewN | apply below_drew1)) hb); clear HO355; clear HB; have HO355 := n0_; have HO359 := n1_; have HB := n2_; clear n0_ n1_ n2_; (try clear ho0); obtain ⟨Ao64, co64, eo64⟩ := Kd.R_slice HO359.out; subst eo64) | ((with_reducible refine gate_callee (f := 57) rfl ?_); refine goesL_ (some 61) rfl rfl Try.func57 (by kernel_rfl) rfl #[.slice Ao62 t352.length co62, .slice Ao64 t357.length co64] rfl (by (try simp only [List.map_toArray, List.map_cons, List.map_nil]); first | done | rfl | (simp only [List.length_drop, List.length_take]; rfl)) ?_; (with_reducible refine (stowagelaw03_hidden.calls kj6 _ _ t352 _ _ t357 t360 _ ?side1 ?side2 ?side3 ?side4 A16.out).mono ?_); (case side1 => repeat (first | exact (Kd.S_reads' HO355.out).2.2 | (with_reducible refine Kd.C_alloc ?_ _) | (with_reducible refine Kd.C_drewN ?_ _) | (with_reducible refine Kd.C_drew ?_))); (case side2 => exact (Kd.S_reads' HO355.out).2.1); (case side3 => repeat (first | exact (Kd.R_reads' HO359.out).2.2 | (with_reducible refine Kd.C_alloc ?_ _) | (with_reducible refine Kd.C_drewN ?_ _) | (with_reducible refine Kd.C_drew ?_))); (case side4 => exact (Kd.R_reads' HO359.out).2.1); rintro e w65 ⟨v361, rfl, ho0, hb⟩; refine ⟨_, rfl, ?_⟩; have n0_ := Aside0.mk (Kd.S_elder' (by (with_reducible repeat (first | apply Kd.S_alloc | apply Kd.S_drewN | apply Kd.S_drew)); exact HO355.out) (Kd.S_base ho0) hb); have n1_ := Aside0.mk (Kd.R_below (by (with_reducible repeat (first | apply Kd.R_alloc | apply Kd.R_drewN | apply Kd.R_drew)); exact HO359.out) hb); have n2_ := Aside0.mk (Kd.S_lower (Kd.S_new' ho0 (Kd.S_lt (by (with_reducible repeat (first | apply Kd.S_alloc | apply Kd.S_drewN | apply Kd.S_drew)); exact HO355.out))) (below_size (by repeat (first | exact HB.out | apply below_alloc | apply pw_below_drewN | apply below_drew1)))); have n3_ := Aside0.mk (below_step (by repeat (first | exact HB.out | apply below_alloc | apply pw_below_drewN | apply below_drew1)) hb); clear HO355; clear HO359; clear HB; have HO355 := n0_; have HO359 := n1_; have HO362 := n2_; have HB := n3_; clear n0_ n1_ n2_ n3_; (try clear ho0); obtain ⟨Ao66, co66, eo66⟩ := Kd.S_slice HO362.out; subst eo66) | ((with_reducible refine gate_callee (f := 47) rfl ?_); refine goesL_ (some 67) rfl rfl Try.func47 (by kernel_rfl) rfl #[.slice Ao66 t360.length co66, .slice Ao64 t357.length co64, .int .i64 a1, .int .i64 a2] rfl (by (try simp only [List.map_toArray, List.map_cons, List.map_nil]); first | done | rfl | (simp only [List.length_drop, List.length_take]; rfl)) ?_; (with_reducible refine (stripe_Mend.calls kj6 _ _ t360 _ _ t357 a1 a2 t363 t364 _ ?side1 ?side2 ?side3 ?side4 A17.out).mono ?_); (case side1 => repeat (first | exact (Kd.S_reads' HO362.out).2.2 | (with_reducible refine Kd.C_alloc ?_ _) | (with_reducible refine Kd.C_drewN ?_ _) | (with_reducible refine Kd.C_drew ?_))); (case side2 => exact (Kd.S_reads' HO362.out).2.1); (case side3 => repeat (first | exact (Kd.R_reads' HO359.out).2.2 | (with_reducible refine Kd.C_alloc ?_ _) | (with_reducible refine Kd.C_drewN ?_ _) | (with_reducible refine Kd.C_drew ?_))); (case side4 => exact (Kd.R_reads' HO359.out).2.1); rintro e w67 ⟨v365, rfl, ho0, hb⟩; refine ⟨_, rfl, ?_⟩; have n0_ := Aside0.mk (Kd.S_elder' (by (with_reducible repeat (first | apply Kd.S_alloc | apply Kd.S_drewN | apply Kd.S_drew)); exact HO355.out) (Kd.S_base ho0) hb); have n1_ := Aside0.mk (Kd.R_below (by (with_reducible repeat (first | apply Kd.R_alloc | apply Kd.R_drewN | apply Kd.R_drew)); exact HO359.out) hb); have n2_ := Aside0.mk (Kd.S_elder' (by (with_reducible repeat (first | apply Kd.S_alloc | apply Kd.S_drewN | apply Kd.S_drew)); exact HO362.out) (Kd.S_base ho0) hb); have n3_ := Aside0.mk (Kd.S_lower (Kd.S_new' (Kd.S_new' ho0 (Kd.S_lt (by (with_reducible repeat (first | apply Kd.S_alloc | apply Kd.S_drewN | apply Kd.S_drew)); exact HO355.out))) (Kd.S_lt (by (with_reducible repeat (first | apply Kd.S_alloc | apply Kd.S_drewN | apply Kd.S_drew)); exact HO362.out))) (below_size (by repeat (first | exact HB.out | apply below_alloc | apply pw_below_drewN | apply below_drew1)))); have n4_ := Aside0.mk (below_step (by repeat (first | exact HB.out | apply below_alloc | apply pw_below_drewN | apply below_drew1)) hb); clear HO355; clear HO359; clear HO362; clear HB; have HO355 := n0_; have HO359 := n1_; have HO362 := n2_; have HO366 := n3_; have HB := n4_; clear n0_ n1_ n2_ n3_ n4_; (try clear ho0)) | ((with_reducible refine gate_callee (f := 48) rfl ?_); refine goesL_ (some 77) rfl rfl Try.func48 (by kernel_rfl) rfl #[.slice Ao66 t360.length co66, .slice Ao64 t357.length co64, .int .i64 a1, .int .i64 a2, .int .i64 (l0.length : Int)] rfl (by (try simp only [List.map_toArray, List.map_cons, List.map_nil]); first | done | rfl | (simp only [List.length_drop, List.length_take]; rfl)) ?_; (with_reducible refine (stripe_Join.calls kj6 _ _ t360 _ _ t357 a1 a2 (l0.length : Int) t367 t368 _ ?side1 ?side2 ?side3 ?side4 A18.out).mono ?_); (case side1 => repeat (first | exact (Kd.S_reads' HO362.out).2.2 | (with_reducible refine Kd.C_alloc ?_ _) | (with_reducible refine Kd.C_drewN ?_ _) | (with_reducible refine Kd.C_drew ?_))); (case side2 => exact (Kd.S_reads' HO362.out).2.1); (case side3 => repeat (first | exact (Kd.R_reads' HO359.out).2.2 | (with_reducible refine Kd.C_alloc ?_ _) | (with_reducible refine Kd.C_drewN ?_ _) | (with_reducible refine Kd.C_drew ?_))); (case side4 => exact (Kd.R_reads' HO359.out).2.1); rintro e w68 ⟨v369, rfl, ho0, hb⟩; refine ⟨_, rfl, ?_⟩; have n0_ := Aside0.mk (Kd.S_elder' (by (with_reducible repeat (first | apply Kd.S_alloc | apply Kd.S_drewN | apply Kd.S_drew)); exact HO355.out) (Kd.R_base ho0) hb); have n1_ := Aside0.mk (Kd.R_below (by (with_reducible repeat (first | apply Kd.R_alloc | apply Kd.R_drewN | apply Kd.R_drew)); exact HO359.out) hb); have n2_ := Aside0.mk (Kd.S_elder' (by (with_reducible repeat (first | apply Kd.S_alloc | apply Kd.S_drewN | apply Kd.S_drew)); exact HO362.out) (Kd.R_base ho0) hb); have n3_ := Aside0.mk (Kd.S_elder' (by (with_reducible repeat (first | apply Kd.S_alloc | apply Kd.S_drewN | apply Kd.S_drew)); exact HO366.out) (Kd.R_base ho0) hb); have n4_ := Aside0.mk (Kd.R_lower ho0 (below_size (by repeat (first | exact HB.out | apply below_alloc | apply pw_below_drewN | apply below_drew1)))); have n5_ := Aside0.mk (below_step (by repeat (first | exact HB.out | apply below_alloc | apply pw_below_drewN | apply below_drew1)) hb); clear HO355; clear HO359; clear HO362; clear HO366; clear HB; have HO355 := n0_; have HO359 := n1_; have HO362 := n2_; have HO366 := n3_; have HO370 := n4_; have HB := n5_; clear n0_ n1_ n2_ n3_ n4_ n5_; (try clear ho0); obtain ⟨Ao69, co69, eo69⟩ := Kd.S_slice HO366.out; subst eo69) | ((with_reducible refine gate_callee (f := 49) rfl ?_); refine goesL_ (some 84) rfl rfl Try.func49 (by kernel_rfl) rfl #[.slice Ao69 t363.length co69, .int .i64 a1, .int .i64 a2] rfl (by (try simp only [List.map_toArray, List.map_cons, List.map_nil]); first | done | rfl | (simp only [List.length_drop, List.length_take]; rfl)) ?_; (with_reducible refine (stripe_Sound.calls kj6 _ _ t363 a1 a2 t371 t372 _ ?side1 ?side2 A19.out).mono ?_); (case side1 => repeat (first | exact (Kd.S_reads' HO366.out).2.2 | (with_reducible refine Kd.C_alloc ?_ _) | (with_reducible refine Kd.C_drewN ?_ _) | (with_reducible refine Kd.C_drew ?_))); (case side2 => exact (Kd.S_reads' HO366.out).2.1); rintro e w70 ⟨rfl, hb⟩; refine ⟨_, rfl, ?_⟩; have n0_ := Aside0.mk (Kd.S_below (by (with_reducible repeat (first | apply Kd.S_alloc | apply Kd.S_drewN | apply Kd.S_drew)); exact HO355.out) hb); have n1_ := Aside0.mk (Kd.R_below (by (with_reducible repeat (first | apply Kd.R_alloc | apply Kd.R_drewN | apply Kd.R_drew)); exact HO359.out) hb); have n2_ := Aside0.mk (Kd.S_below (by (with_reducible repeat (first | apply Kd.S_alloc | apply Kd.S_drewN | apply Kd.S_drew)); exact HO362.out) hb); have n3_ := Aside0.mk (Kd.S_below (by (with_reducible repeat (first | apply Kd.S_alloc | apply Kd.S_drewN | apply Kd.S_drew)); exact HO366.out) hb); have n4_ := Aside0.mk (Kd.R_below (by (with_reducible repeat (first | apply Kd.R_alloc | apply Kd.R_drewN | apply Kd.R_drew)); exact HO370.out) hb); have n5_ := Aside0.mk (below_step (by repeat (first | exact HB.out | apply below_alloc | apply pw_below_drewN | apply below_drew1)) hb); clear HO355; clear HO359; clear HO362; clear HO366; clear HO370; clear HB; have HO355 := n0_; have HO359 := n1_; have HO362 := n2_; have HO366 := n3_; have HO370 := n4_; have HB := n5_; clear n0_ n1_ n2_ n3_ n4_ n5_; (try clear hi)) | (go_at_call 22; (with_reducible refine (stowagekit_SameLists.calls kj6 _ _ t363 _ _ t352 true _ ?side1 ?side2 ?side3 ?side4 A22.out).mono ?_); (case side1 => repeat (first | exact (Kd.S_reads' HO366.out).2.2 | (with_reducible refine Kd.C_alloc ?_ _) | (with_reducible refine Kd.C_drewN ?_ _) | (with_reducible refine Kd.C_drew ?_))); (case side2 => exact (Kd.S_reads' HO366.out).2.1); (case side3 => repeat (first | exact (Kd.S_reads' HO355.out).2.2 | (with_reducible refine Kd.C_alloc ?_ _) | (with_reducible refine Kd.C_drewN ?_ _) | (with_reducible refine Kd.C_drew ?_))); (case side4 => exact (Kd.S_reads' HO355.out).2.1); rintro e w' ⟨rfl, ⟨nd, rfl⟩⟩))
                    go_ret
                    exact ⟨by first | rfl | (simp [errW_none, errW_some] <;> rfl) | (simp [*, errW_none, errW_some] <;> rfl), by repeat (first | (with_reducible first | exact HB.out | apply below_alloc | apply pw_below_drewN | apply below_drew1) | exact HB.out)⟩
                · replace c23 := Bool.eq_false_iff.mpr c23
                  subst c23
                  have H1 : (some false) = some r := by rw [if_neg (show ¬ (false = true) by decide)] at H; exact H
                  clear H
                  have H := H1
                  clear H1
                  obtain rfl := Option.some.inj H
                  go_wp2_with (first | ((with_reducible refine gate_callee (f := 39) rfl ?_); refine goesL_ (some 36) rfl rfl Try.func39 (by kernel_rfl) rfl #[.slice A0 l0.length c0, .int .i64 a1, .int .i64 a2] rfl (by (try simp only [List.map_toArray, List.map_cons, List.map_nil]); first | done | rfl | (simp only [List.length_drop, List.length_take]; rfl)) ?_; (with_reducible refine (stripe_Split.calls kj6 _ _ l0 a1 a2 t352 t353 _ ?side1 ?side2 A11.out).mono ?_); (case side1 => repeat (first | exact (Kd.C_below HR0.out HB.out) | (with_reducible refine Kd.C_alloc ?_ _) | (with_reducible refine Kd.C_drewN ?_ _) | (with_reducible refine Kd.C_drew ?_))); (case side2 => exact HC0.out); rintro e w71 ⟨v354, rfl, ho0, hb⟩; refine ⟨_, rfl, ?_⟩; have n0_ := Aside0.mk (Kd.S_lower ho0 (below_size (by repeat (first | exact HB.out | apply below_alloc | apply pw_below_drewN | apply below_drew1)))); have n1_ := Aside0.mk (below_step (by repeat (first | exact HB.out | apply below_alloc | apply pw_below_drewN | apply below_drew1)) hb); clear HB; have HO355 := n0_; have HB := n1_; clear n0_ n1_; (try clear ho0); obtain ⟨Ao72, co72, eo72⟩ := Kd.S_slice HO355.out; subst eo72) | ((with_reducible refine gate_callee (f := 37) rfl ?_); refine goesL_ (some 52) rfl rfl Try.func37 (by kernel_rfl) rfl #[.int .i64 a4, .int .i64 (wrap64 (a2 + 1))] rfl (by (try simp only [List.map_toArray, List.map_cons, List.map_nil]); first | done | rfl | (simp only [List.length_drop, List.length_take]; rfl)) ?_; (with_reducible refine (stowagekit_Pick.calls a4 (wrap64 (a2 + 1)) t356 _ A14.out).mono ?_); rintro e w' ⟨rfl, ⟨nd, rfl⟩⟩; refine ⟨_, rfl, ?_⟩) | ((with_reducible refine gate_callee (f := 46) rfl ?_); refine goesL_ (some 58) rfl rfl Try.func46 (by kernel_rfl) rfl #[.int .i64 (wrap64 (a1 + t356)), .int .i64 (wrap64 (a1 + a2)), .slice A3 l3.length c3] rfl (by (try simp only [List.map_toArray, List.map_cons, List.map_nil]); first | done | rfl | (simp only [List.length_drop, List.length_take]; rfl)) ?_; (with_reducible refine (stowagelaw03_some.calls kj6 (wrap64 (a1 + t356)) (wrap64 (a1 + a2)) _ _ l3 t357 _ ?side1 ?side2 A15.out).mono ?_); (case side1 => repeat (first | exact (Kd.C_below HR3.out (by repeat (first | exact HB.out | apply below_alloc | apply pw_below_drewN | apply below_drew1))) | (with_reducible refine Kd.C_alloc ?_ _) | (with_reducible refine Kd.C_drewN ?_ _) | (with_reducible refine Kd.C_drew ?_))); (case side2 => exact HC3.out); rintro e w73 ⟨v358, rfl, ho0, hb⟩; refine ⟨_, rfl, ?_⟩; have n0_ := Aside0.mk (Kd.S_below (by (with_reducible repeat (first | apply Kd.S_alloc | apply Kd.S_drewN | apply Kd.S_drew)); exact HO355.out) hb); have n1_ := Aside0.mk (Kd.R_lower ho0 (below_size (by repeat (first | exact HB.out | apply below_alloc | apply pw_below_drewN | apply below_drew1)))); have n2_ := Aside0.mk (below_step (by repeat (first | exact HB.out | apply below_alloc | apply pw_below_drewN | apply below_drew1)) hb); clear HO355; clear HB; have HO355 := n0_; have HO359 := n1_; have HB := n2_; clear n0_ n1_ n2_; (try clear ho0); obtain ⟨Ao74, co74, eo74⟩ := Kd.R_slice HO359.out; subst eo74) | ((with_reducible refine gate_callee (f := 57) rfl ?_); refine goesL_ (some 61) rfl rfl Try.func57 (by kernel_rfl) rfl #[.slice Ao72 t352.length co72, .slice Ao74 t357.length co74] rfl (by (try simp only [List.map_toArray, List.map_cons, List.map_nil]); first | done | rfl | (simp only [List.length_drop, List.length_take]; rfl)) ?_; (with_reducible refine (stowagelaw03_hidden.calls kj6 _ _ t352 _ _ t357 t360 _ ?side1 ?side2 ?side3 ?side4 A16.out).mono ?_); (case side1 => repeat (first | exact (Kd.S_reads' HO355.out).2.2 | (with_reducible refine Kd.C_alloc ?_ _) | (with_reducible refine Kd.C_drewN ?_ _) | (with_reducible refine Kd.C_drew ?_))); (case side2 => exact (Kd.S_reads' HO355.out).2.1); (case side3 => repeat (first | exact (Kd.R_reads' HO359.out).2.2 | (with_reducible refine Kd.C_alloc ?_ _) | (with_reducible refine Kd.C_drewN ?_ _) | (with_reducible refine Kd.C_drew ?_))); (case side4 => exact (Kd.R_reads' HO359.out).2.1); rintro e w75 ⟨v361, rfl, ho0, hb⟩; refine ⟨_, rfl, ?_⟩; have n0_ := Aside0.mk (Kd.S_elder' (by (with_reducible repeat (first | apply Kd.S_alloc | apply Kd.S_drewN | apply Kd.S_drew)); exact HO355.out) (Kd.S_base ho0) hb); have n1_ := Aside0.mk (Kd.R_below (by (with_reducible repeat (first | apply Kd.R_alloc | apply Kd.R_drewN | apply Kd.R_drew)); exact HO359.out) hb); have n2_ := Aside0.mk (Kd.S_lower (Kd.S_new' ho0 (Kd.S_lt (by (with_reducible repeat (first | apply Kd.S_alloc | apply Kd.S_drewN | apply Kd.S_drew)); exact HO355.out))) (below_size (by repeat (first | exact HB.out | apply below_alloc | apply pw_below_drewN | apply below_drew1)))); have n3_ := Aside0.mk (below_step (by repeat (first | exact HB.out | apply below_alloc | apply pw_below_drewN | apply below_drew1)) hb); clear HO355; clear HO359; clear HB; have HO355 := n0_; have HO359 := n1_; have HO362 := n2_; have HB := n3_; clear n0_ n1_ n2_ n3_; (try clear ho0); obtain ⟨Ao76, co76, eo76⟩ := Kd.S_slice HO362.out; subst eo76) | ((with_reducible refine gate_callee (f := 47) rfl ?_); refine goesL_ (some 67) rfl rfl Try.func47 (by kernel_rfl) rfl #[.slice Ao76 t360.length co76, .slice Ao74 t357.length co74, .int .i64 a1, .int .i64 a2] rfl (by (try simp only [List.map_toArray, List.map_cons, List.map_nil]); first | done | rfl | (simp only [List.length_drop, List.length_take]; rfl)) ?_; (with_reducible refine (stripe_Mend.calls kj6 _ _ t360 _ _ t357 a1 a2 t363 t364 _ ?side1 ?side2 ?side3 ?side4 A17.out).mono ?_); (case side1 => repeat (first | exact (Kd.S_reads' HO362.out).2.2 | (with_reducible refine Kd.C_alloc ?_ _) | (with_reducible refine Kd.C_drewN ?_ _) | (with_reducible refine Kd.C_drew ?_))); (case side2 => exact (Kd.S_reads' HO362.out).2.1); (case side3 => repeat (first | exact (Kd.R_reads' HO359.out).2.2 | (with_reducible refine Kd.C_alloc ?_ _) | (with_reducible refine Kd.C_drewN ?_ _) | (with_reducible refine Kd.C_drew ?_))); (case side4 => exact (Kd.R_reads' HO359.out).2.1); rintro e w77 ⟨v365, rfl, ho0, hb⟩; refine ⟨_, rfl, ?_⟩; have n0_ := Aside0.mk (Kd.S_elder' (by (with_reducible repeat (first | apply Kd.S_alloc | apply Kd.S_drewN | apply Kd.S_drew)); exact HO355.out) (Kd.S_base ho0) hb); have n1_ := Aside0.mk (Kd.R_below (by (with_reducible repeat (first | apply Kd.R_alloc | apply Kd.R_drewN | apply Kd.R_drew)); exact HO359.out) hb); have n2_ := Aside0.mk (Kd.S_elder' (by (with_reducible repeat (first | apply Kd.S_alloc | apply Kd.S_drewN | apply Kd.S_drew)); exact HO362.out) (Kd.S_base ho0) hb); have n3_ := Aside0.mk (Kd.S_lower (Kd.S_new' (Kd.S_new' ho0 (Kd.S_lt (by (with_reducible repeat (first | apply Kd.S_alloc | apply Kd.S_drewN | apply Kd.S_drew)); exact HO355.out))) (Kd.S_lt (by (with_reducible repeat (first | apply Kd.S_alloc | apply Kd.S_drewN | apply Kd.S_drew)); exact HO362.out))) (below_size (by repeat (first | exact HB.out | apply below_alloc | apply pw_below_drewN | apply below_drew1)))); have n4_ := Aside0.mk (below_step (by repeat (first | exact HB.out | apply below_alloc | apply pw_below_drewN | apply below_drew1)) hb); clear HO355; clear HO359; clear HO362; clear HB; have HO355 := n0_; have HO359 := n1_; have HO362 := n2_; have HO366 := n3_; have HB := n4_; clear n0_ n1_ n2_ n3_ n4_; (try clear ho0)) | ((with_reducible refine gate_callee (f := 48) rfl ?_); refine goesL_ (some 77) rfl rfl Try.func48 (by kernel_rfl) rfl #[.slice Ao76 t360.length co76, .slice Ao74 t357.length co74, .int .i64 a1, .int .i64 a2, .int .i64 (l0.length : Int)] rfl (by (try simp only [List.map_toArray, List.map_cons, List.map_nil]); first | done | rfl | (simp only [List.length_drop, List.length_take]; rfl)) ?_; (with_reducible refine (stripe_Join.calls kj6 _ _ t360 _ _ t357 a1 a2 (l0.length : Int) t367 t368 _ ?side1 ?side2 ?side3 ?side4 A18.out).mono ?_); (case side1 => repeat (first | exact (Kd.S_reads' HO362.out).2.2 | (with_reducible refine Kd.C_alloc ?_ _) | (with_reducible refine Kd.C_drewN ?_ _) | (with_reducible refine Kd.C_drew ?_))); (case side2 => exact (Kd.S_reads' HO362.out).2.1); (case side3 => repeat (first | exact (Kd.R_reads' HO359.out).2.2 | (with_reducible refine Kd.C_alloc ?_ _) | (with_reducible refine Kd.C_drewN ?_ _) | (with_reducible refine Kd.C_drew ?_))); (case side4 => exact (Kd.R_reads' HO359.out).2.1); rintro e w78 ⟨v369, rfl, ho0, hb⟩; refine ⟨_, rfl, ?_⟩; have n0_ := Aside0.mk (Kd.S_elder' (by (with_reducible repeat (first | apply Kd.S_alloc | apply Kd.S_drewN | apply Kd.S_drew)); exact HO355.out) (Kd.R_base ho0) hb); have n1_ := Aside0.mk (Kd.R_below (by (with_reducible repeat (first | apply Kd.R_alloc | apply Kd.R_drewN | apply Kd.R_drew)); exact HO359.out) hb); have n2_ := Aside0.mk (Kd.S_elder' (by (with_reducible repeat (first | apply Kd.S_alloc | apply Kd.S_drewN | apply Kd.S_drew)); exact HO362.out) (Kd.R_base ho0) hb); have n3_ := Aside0.mk (Kd.S_elder' (by (with_reducible repeat (first | apply Kd.S_alloc | apply Kd.S_drewN | apply Kd.S_drew)); exact HO366.out) (Kd.R_base ho0) hb); have n4_ := Aside0.mk (Kd.R_lower ho0 (below_size (by repeat (first | exact HB.out | apply below_alloc | apply pw_below_drewN | apply below_drew1)))); have n5_ := Aside0.mk (below_step (by repeat (first | exact HB.out | apply below_alloc | apply pw_below_drewN | apply below_drew1)) hb); clear HO355; clear HO359; clear HO362; clear HO366; clear HB; have HO355 := n0_; have HO359 := n1_; have HO362 := n2_; have HO366 := n3_; have HO370 := n4_; have HB := n5_; clear n0_ n1_ n2_ n3_ n4_ n5_; (try clear ho0); obtain ⟨Ao79, co79, eo79⟩ := Kd.S_slice HO366.out; subst eo79) | ((with_reducible refine gate_callee (f := 49) rfl ?_); refine goesL_ (some 84) rfl rfl Try.func49 (by kernel_rfl) rfl #[.slice Ao79 t363.length co79, .int .i64 a1, .int .i64 a2] rfl (by (try simp only [List.map_toArray, List.map_cons, List.map_nil]); first | done | rfl | (simp only [List.length_drop, List.length_take]; rfl)) ?_; (with_reducible refine (stripe_Sound.calls kj6 _ _ t363 a1 a2 t371 t372 _ ?side1 ?side2 A19.out).mono ?_); (case side1 => repeat (first | exact (Kd.S_reads' HO366.out).2.2 | (with_reducible refine Kd.C_alloc ?_ _) | (with_reducible refine Kd.C_drewN ?_ _) | (with_reducible refine Kd.C_drew ?_))); (case side2 => exact (Kd.S_reads' HO366.out).2.1); rintro e w80 ⟨rfl, hb⟩; refine ⟨_, rfl, ?_⟩; have n0_ := Aside0.mk (Kd.S_below (by (with_reducible repeat (first | apply Kd.S_alloc | apply Kd.S_drewN | apply Kd.S_drew)); exact HO355.out) hb); have n1_ := Aside0.mk (Kd.R_below (by (with_reducible repeat (first | apply Kd.R_alloc | apply Kd.R_drewN | apply Kd.R_drew)); exact HO359.out) hb); have n2_ := Aside0.mk (Kd.S_below (by (with_reducible repeat (first | apply Kd.S_alloc | apply Kd.S_drewN | apply Kd.S_drew)); exact HO362.out) hb); have n3_ := Aside0.mk (Kd.S_below (by (with_reducible repeat (first | apply Kd.S_alloc | apply Kd.S_drewN | apply Kd.S_drew)); exact HO366.out) hb); have n4_ := Aside0.mk (Kd.R_below (by (with_reducible repeat (first | apply Kd.R_alloc | apply Kd.R_drewN | apply Kd.R_drew)); exact HO370.out) hb); have n5_ := Aside0.mk (below_step (by repeat (first | exact HB.out | apply below_alloc | apply pw_below_drewN | apply below_drew1)) hb); clear HO355; clear HO359; clear HO362; clear HO366; clear HO370; clear HB; have HO355 := n0_; have HO359 := n1_; have HO362 := n2_; have HO366 := n3_; have HO370 := n4_; have HB := n5_; clear n0_ n1_ n2_ n3_ n4_ n5_; (try clear hi)) | (go_at_call 22; (with_reducible refine (stowagekit_SameLists.calls kj6 _ _ t363 _ _ t352 false _ ?side1 ?side2 ?side3 ?side4 A22.out).mono ?_); (case side1 => repeat (first | exact (Kd.S_reads' HO366.out).2.2 | (with_reducible refine Kd.C_alloc ?_ _) | (with_reducible refine Kd.C_drewN ?_ _) | (with_reducible refine Kd.C_drew ?_))); (case side2 => exact (Kd.S_reads' HO366.out).2.1); (case side3 => repeat (first | exact (Kd.S_reads' HO355.out).2.2 | (with_reducible refine Kd.C_alloc ?_ _) | (with_reducible refine Kd.C_drewN ?_ _) | (with_reducible refine Kd.C_drew ?_))); (case side4 => exact (Kd.S_reads' HO355.out).2.1); rintro e w' ⟨rfl, ⟨nd, rfl⟩⟩))
                  go_ret
                  exact ⟨by first | rfl | (simp [errW_none, errW_some] <;> rfl) | (simp [*, errW_none, errW_some] <;> rfl), by repeat (first | (with_reducible first | exact HB.out | apply below_alloc | apply pw_below_drewN | apply below_drew1) | exact HB.out)⟩
              · rw [if_neg c21] at H
                have c21b0 : (t364 == 0) = false := beq_eq_false_iff_ne.mpr c21
                have c21b1 : (t364 != 0) = true := bne_iff_ne.mpr c21
                obtain rfl := Option.some.inj H
                go_wp2_with (first | ((with_reducible refine gate_callee (f := 39) rfl ?_); refine goesL_ (some 36) rfl rfl Try.func39 (by kernel_rfl) rfl #[.slice A0 l0.length c0, .int .i64 a1, .int .i64 a2] rfl (by (try simp only [List.map_toArray, List.map_cons, List.map_nil]); first | done | rfl | (simp only [List.length_drop, List.length_take]; rfl)) ?_; (with_reducible refine (stripe_Split.calls kj6 _ _ l0 a1 a2 t352 t353 _ ?side1 ?side2 A11.out).mono ?_); (case side1 => repeat (first | exact (Kd.C_below HR0.out HB.out) | (with_reducible refine Kd.C_alloc ?_ _) | (with_reducible refine Kd.C_drewN ?_ _) | (with_reducible refine Kd.C_drew ?_))); (case side2 => exact HC0.out); rintro e w81 ⟨v354, rfl, ho0, hb⟩; refine ⟨_, rfl, ?_⟩; have n0_ := Aside0.mk (Kd.S_lower ho0 (below_size (by repeat (first | exact HB.out | apply below_alloc | apply pw_below_drewN | apply below_drew1)))); have n1_ := Aside0.mk (below_step (by repeat (first | exact HB.out | apply below_alloc | apply pw_below_drewN | apply below_drew1)) hb); clear HB; have HO355 := n0_; have HB := n1_; clear n0_ n1_; (try clear ho0); obtain ⟨Ao82, co82, eo82⟩ := Kd.S_slice HO355.out; subst eo82) | ((with_reducible refine gate_callee (f := 37) rfl ?_); refine goesL_ (some 52) rfl rfl Try.func37 (by kernel_rfl) rfl #[.int .i64 a4, .int .i64 (wrap64 (a2 + 1))] rfl (by (try simp only [List.map_toArray, List.map_cons, List.map_nil]); first | done | rfl | (simp only [List.length_drop, List.length_take]; rfl)) ?_; (with_reducible refine (stowagekit_Pick.calls a4 (wrap64 (a2 + 1)) t356 _ A14.out).mono ?_); rintro e w' ⟨rfl, ⟨nd, rfl⟩⟩; refine ⟨_, rfl, ?_⟩) | ((with_reducible refine gate_callee (f := 46) rfl ?_); refine goesL_ (some 58) rfl rfl Try.func46 (by kernel_rfl) rfl #[.int .i64 (wrap64 (a1 + t356)), .int .i64 (wrap64 (a1 + a2)), .slice A3 l3.length c3] rfl (by (try simp only [List.map_toArray, List.map_cons, List.map_nil]); first | done | rfl | (simp only [List.length_drop, List.length_take]; rfl)) ?_; (with_reducible refine (stowagelaw03_some.calls kj6 (wrap64 (a1 + t356)) (wrap64 (a1 + a2)) _ _ l3 t357 _ ?side1 ?side2 A15.out).mono ?_); (case side1 => repeat (first | exact (Kd.C_below HR3.out (by repeat (first | exact HB.out | apply below_alloc | apply pw_below_drewN | apply below_drew1))) | (with_reducible refine Kd.C_alloc ?_ _) | (with_reducible refine Kd.C_drewN ?_ _) | (with_reducible refine Kd.C_drew ?_))); (case side2 => exact HC3.out); rintro e w83 ⟨v358, rfl, ho0, hb⟩; refine ⟨_, rfl, ?_⟩; have n0_ := Aside0.mk (Kd.S_below (by (with_reducible repeat (first | apply Kd.S_alloc | apply Kd.S_drewN | apply Kd.S_drew)); exact HO355.out) hb); have n1_ := Aside0.mk (Kd.R_lower ho0 (below_size (by repeat (first | exact HB.out | apply below_alloc | apply pw_below_drewN | apply below_drew1)))); have n2_ := Aside0.mk (below_step (by repeat (first | exact HB.out | apply below_alloc | apply pw_below_drewN | apply below_drew1)) hb); clear HO355; clear HB; have HO355 := n0_; have HO359 := n1_; have HB := n2_; clear n0_ n1_ n2_; (try clear ho0); obtain ⟨Ao84, co84, eo84⟩ := Kd.R_slice HO359.out; subst eo84) | ((with_reducible refine gate_callee (f := 57) rfl ?_); refine goesL_ (some 61) rfl rfl Try.func57 (by kernel_rfl) rfl #[.slice Ao82 t352.length co82, .slice Ao84 t357.length co84] rfl (by (try simp only [List.map_toArray, List.map_cons, List.map_nil]); first | done | rfl | (simp only [List.length_drop, List.length_take]; rfl)) ?_; (with_reducible refine (stowagelaw03_hidden.calls kj6 _ _ t352 _ _ t357 t360 _ ?side1 ?side2 ?side3 ?side4 A16.out).mono ?_); (case side1 => repeat (first | exact (Kd.S_reads' HO355.out).2.2 | (with_reducible refine Kd.C_alloc ?_ _) | (with_reducible refine Kd.C_drewN ?_ _) | (with_reducible refine Kd.C_drew ?_))); (case side2 => exact (Kd.S_reads' HO355.out).2.1); (case side3 => repeat (first | exact (Kd.R_reads' HO359.out).2.2 | (with_reducible refine Kd.C_alloc ?_ _) | (with_reducible refine Kd.C_drewN ?_ _) | (with_reducible refine Kd.C_drew ?_))); (case side4 => exact (Kd.R_reads' HO359.out).2.1); rintro e w85 ⟨v361, rfl, ho0, hb⟩; refine ⟨_, rfl, ?_⟩; have n0_ := Aside0.mk (Kd.S_elder' (by (with_reducible repeat (first | apply Kd.S_alloc | apply Kd.S_drewN | apply Kd.S_drew)); exact HO355.out) (Kd.S_base ho0) hb); have n1_ := Aside0.mk (Kd.R_below (by (with_reducible repeat (first | apply Kd.R_alloc | apply Kd.R_drewN | apply Kd.R_drew)); exact HO359.out) hb); have n2_ := Aside0.mk (Kd.S_lower (Kd.S_new' ho0 (Kd.S_lt (by (with_reducible repeat (first | apply Kd.S_alloc | apply Kd.S_drewN | apply Kd.S_drew)); exact HO355.out))) (below_size (by repeat (first | exact HB.out | apply below_alloc | apply pw_below_drewN | apply below_drew1)))); have n3_ := Aside0.mk (below_step (by repeat (first | exact HB.out | apply below_alloc | apply pw_below_drewN | apply below_drew1)) hb); clear HO355; clear HO359; clear HB; have HO355 := n0_; have HO359 := n1_; have HO362 := n2_; have HB := n3_; clear n0_ n1_ n2_ n3_; (try clear ho0); obtain ⟨Ao86, co86, eo86⟩ := Kd.S_slice HO362.out; subst eo86) | ((with_reducible refine gate_callee (f := 47) rfl ?_); refine goesL_ (some 67) rfl rfl Try.func47 (by kernel_rfl) rfl #[.slice Ao86 t360.length co86, .slice Ao84 t357.length co84, .int .i64 a1, .int .i64 a2] rfl (by (try simp only [List.map_toArray, List.map_cons, List.map_nil]); first | done | rfl | (simp only [List.length_drop, List.length_take]; rfl)) ?_; (with_reducible refine (stripe_Mend.calls kj6 _ _ t360 _ _ t357 a1 a2 t363 t364 _ ?side1 ?side2 ?side3 ?side4 A17.out).mono ?_); (case side1 => repeat (first | exact (Kd.S_reads' HO362.out).2.2 | (with_reducible refine Kd.C_alloc ?_ _) | (with_reducible refine Kd.C_drewN ?_ _) | (with_reducible refine Kd.C_drew ?_))); (case side2 => exact (Kd.S_reads' HO362.out).2.1); (case side3 => repeat (first | exact (Kd.R_reads' HO359.out).2.2 | (with_reducible refine Kd.C_alloc ?_ _) | (with_reducible refine Kd.C_drewN ?_ _) | (with_reducible refine Kd.C_drew ?_))); (case side4 => exact (Kd.R_reads' HO359.out).2.1); rintro e w87 ⟨v365, rfl, ho0, hb⟩; refine ⟨_, rfl, ?_⟩; have n0_ := Aside0.mk (Kd.S_elder' (by (with_reducible repeat (first | apply Kd.S_alloc | apply Kd.S_drewN | apply Kd.S_drew)); exact HO355.out) (Kd.S_base ho0) hb); have n1_ := Aside0.mk (Kd.R_below (by (with_reducible repeat (first | apply Kd.R_alloc | apply Kd.R_drewN | apply Kd.R_drew)); exact HO359.out) hb); have n2_ := Aside0.mk (Kd.S_elder' (by (with_reducible repeat (first | apply Kd.S_alloc | apply Kd.S_drewN | apply Kd.S_drew)); exact HO362.out) (Kd.S_base ho0) hb); have n3_ := Aside0.mk (Kd.S_lower (Kd.S_new' (Kd.S_new' ho0 (Kd.S_lt (by (with_reducible repeat (first | apply Kd.S_alloc | apply Kd.S_drewN | apply Kd.S_drew)); exact HO355.out))) (Kd.S_lt (by (with_reducible repeat (first | apply Kd.S_alloc | apply Kd.S_drewN | apply Kd.S_drew)); exact HO362.out))) (below_size (by repeat (first | exact HB.out | apply below_alloc | apply pw_below_drewN | apply below_drew1)))); have n4_ := Aside0.mk (below_step (by repeat (first | exact HB.out | apply below_alloc | apply pw_below_drewN | apply below_drew1)) hb); clear HO355; clear HO359; clear HO362; clear HB; have HO355 := n0_; have HO359 := n1_; have HO362 := n2_; have HO366 := n3_; have HB := n4_; clear n0_ n1_ n2_ n3_ n4_; (try clear ho0)) | ((with_reducible refine gate_callee (f := 48) rfl ?_); refine goesL_ (some 77) rfl rfl Try.func48 (by kernel_rfl) rfl #[.slice Ao86 t360.length co86, .slice Ao84 t357.length co84, .int .i64 a1, .int .i64 a2, .int .i64 (l0.length : Int)] rfl (by (try simp only [List.map_toArray, List.map_cons, List.map_nil]); first | done | rfl | (simp only [List.length_drop, List.length_take]; rfl)) ?_; (with_reducible refine (stripe_Join.calls kj6 _ _ t360 _ _ t357 a1 a2 (l0.length : Int) t367 t368 _ ?side1 ?side2 ?side3 ?side4 A18.out).mono ?_); (case side1 => repeat (first | exact (Kd.S_reads' HO362.out).2.2 | (with_reducible refine Kd.C_alloc ?_ _) | (with_reducible refine Kd.C_drewN ?_ _) | (with_reducible refine Kd.C_drew ?_))); (case side2 => exact (Kd.S_reads' HO362.out).2.1); (case side3 => repeat (first | exact (Kd.R_reads' HO359.out).2.2 | (with_reducible refine Kd.C_alloc ?_ _) | (with_reducible refine Kd.C_drewN ?_ _) | (with_reducible refine Kd.C_drew ?_))); (case side4 => exact (Kd.R_reads' HO359.out).2.1); rintro e w88 ⟨v369, rfl, ho0, hb⟩; refine ⟨_, rfl, ?_⟩; have n0_ := Aside0.mk (Kd.S_elder' (by (with_reducible repeat (first | apply Kd.S_alloc | apply Kd.S_drewN | apply Kd.S_drew)); exact HO355.out) (Kd.R_base ho0) hb); have n1_ := Aside0.mk (Kd.R_below (by (with_reducible repeat (first | apply Kd.R_alloc | apply Kd.R_drewN | apply Kd.R_drew)); exact HO359.out) hb); have n2_ := Aside0.mk (Kd.S_elder' (by (with_reducible repeat (first | apply Kd.S_alloc | apply Kd.S_drewN | apply Kd.S_drew)); exact HO362.out) (Kd.R_base ho0) hb); have n3_ := Aside0.mk (Kd.S_elder' (by (with_reducible repeat (first | apply Kd.S_alloc | apply Kd.S_drewN | apply Kd.S_drew)); exact HO366.out) (Kd.R_base ho0) hb); have n4_ := Aside0.mk (Kd.R_lower ho0 (below_size (by repeat (first | exact HB.out | apply below_alloc | apply pw_below_drewN | apply below_drew1)))); have n5_ := Aside0.mk (below_step (by repeat (first | exact HB.out | apply below_alloc | apply pw_below_drewN | apply below_drew1)) hb); clear HO355; clear HO359; clear HO362; clear HO366; clear HB; have HO355 := n0_; have HO359 := n1_; have HO362 := n2_; have HO366 := n3_; have HO370 := n4_; have HB := n5_; clear n0_ n1_ n2_ n3_ n4_ n5_; (try clear ho0); obtain ⟨Ao89, co89, eo89⟩ := Kd.S_slice HO366.out; subst eo89) | ((with_reducible refine gate_callee (f := 49) rfl ?_); refine goesL_ (some 84) rfl rfl Try.func49 (by kernel_rfl) rfl #[.slice Ao89 t363.length co89, .int .i64 a1, .int .i64 a2] rfl (by (try simp only [List.map_toArray, List.map_cons, List.map_nil]); first | done | rfl | (simp only [List.length_drop, List.length_take]; rfl)) ?_; (with_reducible refine (stripe_Sound.calls kj6 _ _ t363 a1 a2 t371 t372 _ ?side1 ?side2 A19.out).mono ?_); (case side1 => repeat (first | exact (Kd.S_reads' HO366.out).2.2 | (with_reducible refine Kd.C_alloc ?_ _) | (with_reducible refine Kd.C_drewN ?_ _) | (with_reducible refine Kd.C_drew ?_))); (case side2 => exact (Kd.S_reads' HO366.out).2.1); rintro e w90 ⟨rfl, hb⟩; refine ⟨_, rfl, ?_⟩; have n0_ := Aside0.mk (Kd.S_below (by (with_reducible repeat (first | apply Kd.S_alloc | apply Kd.S_drewN | apply Kd.S_drew)); exact HO355.out) hb); have n1_ := Aside0.mk (Kd.R_below (by (with_reducible repeat (first | apply Kd.R_alloc | apply Kd.R_drewN | apply Kd.R_drew)); exact HO359.out) hb); have n2_ := Aside0.mk (Kd.S_below (by (with_reducible repeat (first | apply Kd.S_alloc | apply Kd.S_drewN | apply Kd.S_drew)); exact HO362.out) hb); have n3_ := Aside0.mk (Kd.S_below (by (with_reducible repeat (first | apply Kd.S_alloc | apply Kd.S_drewN | apply Kd.S_drew)); exact HO366.out) hb); have n4_ := Aside0.mk (Kd.R_below (by (with_reducible repeat (first | apply Kd.R_alloc | apply Kd.R_drewN | apply Kd.R_drew)); exact HO370.out) hb); have n5_ := Aside0.mk (below_step (by repeat (first | exact HB.out | apply below_alloc | apply pw_below_drewN | apply below_drew1)) hb); clear HO355; clear HO359; clear HO362; clear HO366; clear HO370; clear HB; have HO355 := n0_; have HO359 := n1_; have HO362 := n2_; have HO366 := n3_; have HO370 := n4_; have HB := n5_; clear n0_ n1_ n2_ n3_ n4_ n5_; (try clear hi)))
                go_ret
                exact ⟨by first | rfl | (simp [errW_none, errW_some] <;> rfl) | (simp [*, errW_none, errW_some] <;> rfl), by repeat (first | (with_reducible first | exact HB.out | apply below_alloc | apply pw_below_drewN | apply below_drew1) | exact HB.out)⟩
            · replace c20 := Bool.eq_false_iff.mpr c20
              subst c20
              have H1 : (some false) = some r := by rw [if_neg (show ¬ (false = true) by decide)] at H; exact H
              clear H
              have H := H1
              clear H1
              obtain rfl := Option.some.inj H
              go_wp2_with (first | ((with_reducible refine gate_callee (f := 39) rfl ?_); refine goesL_ (some 36) rfl rfl Try.func39 (by kernel_rfl) rfl #[.slice A0 l0.length c0, .int .i64 a1, .int .i64 a2] rfl (by (try simp only [List.map_toArray, List.map_cons, List.map_nil]); first | done | rfl | (simp only [List.length_drop, List.length_take]; rfl)) ?_; (with_reducible refine (stripe_Split.calls kj6 _ _ l0 a1 a2 t352 t353 _ ?side1 ?side2 A11.out).mono ?_); (case side1 => repeat (first | exact (Kd.C_below HR0.out HB.out) | (with_reducible refine Kd.C_alloc ?_ _) | (with_reducible refine Kd.C_drewN ?_ _) | (with_reducible refine Kd.C_drew ?_))); (case side2 => exact HC0.out); rintro e w91 ⟨v354, rfl, ho0, hb⟩; refine ⟨_, rfl, ?_⟩; have n0_ := Aside0.mk (Kd.S_lower ho0 (below_size (by repeat (first | exact HB.out | apply below_alloc | apply pw_below_drewN | apply below_drew1)))); have n1_ := Aside0.mk (below_step (by repeat (first | exact HB.out | apply below_alloc | apply pw_below_drewN | apply below_drew1)) hb); clear HB; have HO355 := n0_; have HB := n1_; clear n0_ n1_; (try clear ho0); obtain ⟨Ao92, co92, eo92⟩ := Kd.S_slice HO355.out; subst eo92) | ((with_reducible refine gate_callee (f := 37) rfl ?_); refine goesL_ (some 52) rfl rfl Try.func37 (by kernel_rfl) rfl #[.int .i64 a4, .int .i64 (wrap64 (a2 + 1))] rfl (by (try simp only [List.map_toArray, List.map_cons, List.map_nil]); first | done | rfl | (simp only [List.length_drop, List.length_take]; rfl)) ?_; (with_reducible refine (stowagekit_Pick.calls a4 (wrap64 (a2 + 1)) t356 _ A14.out).mono ?_); rintro e w' ⟨rfl, ⟨nd, rfl⟩⟩; refine ⟨_, rfl, ?_⟩) | ((with_reducible refine gate_callee (f := 46) rfl ?_); refine goesL_ (some 58) rfl rfl Try.func46 (by kernel_rfl) rfl #[.int .i64 (wrap64 (a1 + t356)), .int .i64 (wrap64 (a1 + a2)), .slice A3 l3.length c3] rfl (by (try simp only [List.map_toArray, List.map_cons, List.map_nil]); first | done | rfl | (simp only [List.length_drop, List.length_take]; rfl)) ?_; (with_reducible refine (stowagelaw03_some.calls kj6 (wrap64 (a1 + t356)) (wrap64 (a1 + a2)) _ _ l3 t357 _ ?side1 ?side2 A15.out).mono ?_); (case side1 => repeat (first | exact (Kd.C_below HR3.out (by repeat (first | exact HB.out | apply below_alloc | apply pw_below_drewN | apply below_drew1))) | (with_reducible refine Kd.C_alloc ?_ _) | (with_reducible refine Kd.C_drewN ?_ _) | (with_reducible refine Kd.C_drew ?_))); (case side2 => exact HC3.out); rintro e w93 ⟨v358, rfl, ho0, hb⟩; refine ⟨_, rfl, ?_⟩; have n0_ := Aside0.mk (Kd.S_below (by (with_reducible repeat (first | apply Kd.S_alloc | apply Kd.S_drewN | apply Kd.S_drew)); exact HO355.out) hb); have n1_ := Aside0.mk (Kd.R_lower ho0 (below_size (by repeat (first | exact HB.out | apply below_alloc | apply pw_below_drewN | apply below_drew1)))); have n2_ := Aside0.mk (below_step (by repeat (first | exact HB.out | apply below_alloc | apply pw_below_drewN | apply below_drew1)) hb); clear HO355; clear HB; have HO355 := n0_; have HO359 := n1_; have HB := n2_; clear n0_ n1_ n2_; (try clear ho0); obtain ⟨Ao94, co94, eo94⟩ := Kd.R_slice HO359.out; subst eo94) | ((with_reducible refine gate_callee (f := 57) rfl ?_); refine goesL_ (some 61) rfl rfl Try.func57 (by kernel_rfl) rfl #[.slice Ao92 t352.length co92, .slice Ao94 t357.length co94] rfl (by (try simp only [List.map_toArray, List.map_cons, List.map_nil]); first | done | rfl | (simp only [List.length_drop, List.length_take]; rfl)) ?_; (with_reducible refine (stowagelaw03_hidden.calls kj6 _ _ t352 _ _ t357 t360 _ ?side1 ?side2 ?side3 ?side4 A16.out).mono ?_); (case side1 => repeat (first | exact (Kd.S_reads' HO355.out).2.2 | (with_reducible refine Kd.C_alloc ?_ _) | (with_reducible refine Kd.C_drewN ?_ _) | (with_reducible refine Kd.C_drew ?_))); (case side2 => exact (Kd.S_reads' HO355.out).2.1); (case side3 => repeat (first | exact (Kd.R_reads' HO359.out).2.2 | (with_reducible refine Kd.C_alloc ?_ _) | (with_reducible refine Kd.C_drewN ?_ _) | (with_reducible refine Kd.C_drew ?_))); (case side4 => exact (Kd.R_reads' HO359.out).2.1); rintro e w95 ⟨v361, rfl, ho0, hb⟩; refine ⟨_, rfl, ?_⟩; have n0_ := Aside0.mk (Kd.S_elder' (by (with_reducible repeat (first | apply Kd.S_alloc | apply Kd.S_drewN | apply Kd.S_drew)); exact HO355.out) (Kd.S_base ho0) hb); have n1_ := Aside0.mk (Kd.R_below (by (with_reducible repeat (first | apply Kd.R_alloc | apply Kd.R_drewN | apply Kd.R_drew)); exact HO359.out) hb); have n2_ := Aside0.mk (Kd.S_lower (Kd.S_new' ho0 (Kd.S_lt (by (with_reducible repeat (first | apply Kd.S_alloc | apply Kd.S_drewN | apply Kd.S_drew)); exact HO355.out))) (below_size (by repeat (first | exact HB.out | apply below_alloc | apply pw_below_drewN | apply below_drew1)))); have n3_ := Aside0.mk (below_step (by repeat (first | exact HB.out | apply below_alloc | apply pw_below_drewN | apply below_drew1)) hb); clear HO355; clear HO359; clear HB; have HO355 := n0_; have HO359 := n1_; have HO362 := n2_; have HB := n3_; clear n0_ n1_ n2_ n3_; (try clear ho0); obtain ⟨Ao96, co96, eo96⟩ := Kd.S_slice HO362.out; subst eo96) | ((with_reducible refine gate_callee (f := 47) rfl ?_); refine goesL_ (some 67) rfl rfl Try.func47 (by kernel_rfl) rfl #[.slice Ao96 t360.length co96, .slice Ao94 t357.length co94, .int .i64 a1, .int .i64 a2] rfl (by (try simp only [List.map_toArray, List.map_cons, List.map_nil]); first | done | rfl | (simp only [List.length_drop, List.length_take]; rfl)) ?_; (with_reducible refine (stripe_Mend.calls kj6 _ _ t360 _ _ t357 a1 a2 t363 t364 _ ?side1 ?side2 ?side3 ?side4 A17.out).mono ?_); (case side1 => repeat (first | exact (Kd.S_reads' HO362.out).2.2 | (with_reducible refine Kd.C_alloc ?_ _) | (with_reducible refine Kd.C_drewN ?_ _) | (with_reducible refine Kd.C_drew ?_))); (case side2 => exact (Kd.S_reads' HO362.out).2.1); (case side3 => repeat (first | exact (Kd.R_reads' HO359.out).2.2 | (with_reducible refine Kd.C_alloc ?_ _) | (with_reducible refine Kd.C_drewN ?_ _) | (with_reducible refine Kd.C_drew ?_))); (case side4 => exact (Kd.R_reads' HO359.out).2.1); rintro e w97 ⟨v365, rfl, ho0, hb⟩; refine ⟨_, rfl, ?_⟩; have n0_ := Aside0.mk (Kd.S_elder' (by (with_reducible repeat (first | apply Kd.S_alloc | apply Kd.S_drewN | apply Kd.S_drew)); exact HO355.out) (Kd.S_base ho0) hb); have n1_ := Aside0.mk (Kd.R_below (by (with_reducible repeat (first | apply Kd.R_alloc | apply Kd.R_drewN | apply Kd.R_drew)); exact HO359.out) hb); have n2_ := Aside0.mk (Kd.S_elder' (by (with_reducible repeat (first | apply Kd.S_alloc | apply Kd.S_drewN | apply Kd.S_drew)); exact HO362.out) (Kd.S_base ho0) hb); have n3_ := Aside0.mk (Kd.S_lower (Kd.S_new' (Kd.S_new' ho0 (Kd.S_lt (by (with_reducible repeat (first | apply Kd.S_alloc | apply Kd.S_drewN | apply Kd.S_drew)); exact HO355.out))) (Kd.S_lt (by (with_reducible repeat (first | apply Kd.S_alloc | apply Kd.S_drewN | apply Kd.S_drew)); exact HO362.out))) (below_size (by repeat (first | exact HB.out | apply below_alloc | apply pw_below_drewN | apply below_drew1)))); have n4_ := Aside0.mk (below_step (by repeat (first | exact HB.out | apply below_alloc | apply pw_below_drewN | apply below_drew1)) hb); clear HO355; clear HO359; clear HO362; clear HB; have HO355 := n0_; have HO359 := n1_; have HO362 := n2_; have HO366 := n3_; have HB := n4_; clear n0_ n1_ n2_ n3_ n4_; (try clear ho0)) | ((with_reducible refine gate_callee (f := 48) rfl ?_); refine goesL_ (some 77) rfl rfl Try.func48 (by kernel_rfl) rfl #[.slice Ao96 t360.length co96, .slice Ao94 t357.length co94, .int .i64 a1, .int .i64 a2, .int .i64 (l0.length : Int)] rfl (by (try simp only [List.map_toArray, List.map_cons, List.map_nil]); first | done | rfl | (simp only [List.length_drop, List.length_take]; rfl)) ?_; (with_reducible refine (stripe_Join.calls kj6 _ _ t360 _ _ t357 a1 a2 (l0.length : Int) t367 t368 _ ?side1 ?side2 ?side3 ?side4 A18.out).mono ?_); (case side1 => repeat (first | exact (Kd.S_reads' HO362.out).2.2 | (with_reducible refine Kd.C_alloc ?_ _) | (with_reducible refine Kd.C_drewN ?_ _) | (with_reducible refine Kd.C_drew ?_))); (case side2 => exact (Kd.S_reads' HO362.out).2.1); (case side3 => repeat (first | exact (Kd.R_reads' HO359.out).2.2 | (with_reducible refine Kd.C_alloc ?_ _) | (with_reducible refine Kd.C_drewN ?_ _) | (with_reducible refine Kd.C_drew ?_))); (case side4 => exact (Kd.R_reads' HO359.out).2.1); rintro e w98 ⟨v369, rfl, ho0, hb⟩; refine ⟨_, rfl, ?_⟩; have n0_ := Aside0.mk (Kd.S_elder' (by (with_reducible repeat (first | apply Kd.S_alloc | apply Kd.S_drewN | apply Kd.S_drew)); exact HO355.out) (Kd.R_base ho0) hb); have n1_ := Aside0.mk (Kd.R_below (by (with_reducible repeat (first | apply Kd.R_alloc | apply Kd.R_drewN | apply Kd.R_drew)); exact HO359.out) hb); have n2_ := Aside0.mk (Kd.S_elder' (by (with_reducible repeat (first | apply Kd.S_alloc | apply Kd.S_drewN | apply Kd.S_drew)); exact HO362.out) (Kd.R_base ho0) hb); have n3_ := Aside0.mk (Kd.S_elder' (by (with_reducible repeat (first | apply Kd.S_alloc | apply Kd.S_drewN | apply Kd.S_drew)); exact HO366.out) (Kd.R_base ho0) hb); have n4_ := Aside0.mk (Kd.R_lower ho0 (below_size (by repeat (first | exact HB.out | apply below_alloc | apply pw_below_drewN | apply below_drew1)))); have n5_ := Aside0.mk (below_step (by repeat (first | exact HB.out | apply below_alloc | apply pw_below_drewN | apply below_drew1)) hb); clear HO355; clear HO359; clear HO362; clear HO366; clear HB; have HO355 := n0_; have HO359 := n1_; have HO362 := n2_; have HO366 := n3_; have HO370 := n4_; have HB := n5_; clear n0_ n1_ n2_ n3_ n4_ n5_; (try clear ho0); obtain ⟨Ao99, co99, eo99⟩ := Kd.S_slice HO366.out; subst eo99) | ((with_reducible refine gate_callee (f := 49) rfl ?_); refine goesL_ (some 84) rfl rfl Try.func49 (by kernel_rfl) rfl #[.slice Ao99 t363.length co99, .int .i64 a1, .int .i64 a2] rfl (by (try simp only [List.map_toArray, List.map_cons, List.map_nil]); first | done | rfl | (simp only [List.length_drop, List.length_take]; rfl)) ?_; (with_reducible refine (stripe_Sound.calls kj6 _ _ t363 a1 a2 t371 t372 _ ?side1 ?side2 A19.out).mono ?_); (case side1 => repeat (first | exact (Kd.S_reads' HO366.out).2.2 | (with_reducible refine Kd.C_alloc ?_ _) | (with_reducible refine Kd.C_drewN ?_ _) | (with_reducible refine Kd.C_drew ?_))); (case side2 => exact (Kd.S_reads' HO366.out).2.1); rintro e w100 ⟨rfl, hb⟩; refine ⟨_, rfl, ?_⟩; have n0_ := Aside0.mk (Kd.S_below (by (with_reducible repeat (first | apply Kd.S_alloc | apply Kd.S_drewN | apply Kd.S_drew)); exact HO355.out) hb); have n1_ := Aside0.mk (Kd.R_below (by (with_reducible repeat (first | apply Kd.R_alloc | apply Kd.R_drewN | apply Kd.R_drew)); exact HO359.out) hb); have n2_ := Aside0.mk (Kd.S_below (by (with_reducible repeat (first | apply Kd.S_alloc | apply Kd.S_drewN | apply Kd.S_drew)); exact HO362.out) hb); have n3_ := Aside0.mk (Kd.S_below (by (with_reducible repeat (first | apply Kd.S_alloc | apply Kd.S_drewN | apply Kd.S_drew)); exact HO366.out) hb); have n4_ := Aside0.mk (Kd.R_below (by (with_reducible repeat (first | apply Kd.R_alloc | apply Kd.R_drewN | apply Kd.R_drew)); exact HO370.out) hb); have n5_ := Aside0.mk (below_step (by repeat (first | exact HB.out | apply below_alloc | apply pw_below_drewN | apply below_drew1)) hb); clear HO355; clear HO359; clear HO362; clear HO366; clear HO370; clear HB; have HO355 := n0_; have HO359 := n1_; have HO362 := n2_; have HO366 := n3_; have HO370 := n4_; have HB := n5_; clear n0_ n1_ n2_ n3_ n4_ n5_; (try clear hi)))
              go_ret
              exact ⟨by first | rfl | (simp [errW_none, errW_some] <;> rfl) | (simp [*, errW_none, errW_some] <;> rfl), by repeat (first | (with_reducible first | exact HB.out | apply below_alloc | apply pw_below_drewN | apply below_drew1) | exact HB.out)⟩
          · rw [if_neg c13] at H
            have c13b0 : ((t352.length : Int) == (wrap64 (a1 + a2))) = false := beq_eq_false_iff_ne.mpr c13
            have c13b1 : ((t352.length : Int) != (wrap64 (a1 + a2))) = true := bne_iff_ne.mpr c13
            obtain rfl := Option.some.inj H
            go_wp2_with (first | ((with_reducible refine gate_callee (f := 39) rfl ?_); refine goesL_ (some 36) rfl rfl Try.func39 (by kernel_rfl) rfl #[.slice A0 l0.length c0, .int .i64 a1, .int .i64 a2] rfl (by (try simp only [List.map_toArray, List.map_cons, List.map_nil]); first | done | rfl | (simp only [List.length_drop, List.length_take]; rfl)) ?_; (with_reducible refine (stripe_Split.calls kj6 _ _ l0 a1 a2 t352 t353 _ ?side1 ?side2 A11.out).mono ?_); (case side1 => repeat (first | exact (Kd.C_below HR0.out HB.out) | (with_reducible refine Kd.C_alloc ?_ _) | (with_reducible refine Kd.C_drewN ?_ _) | (with_reducible refine Kd.C_drew ?_))); (case side2 => exact HC0.out); rintro e w101 ⟨v354, rfl, ho0, hb⟩; refine ⟨_, rfl, ?_⟩; have n0_ := Aside0.mk (Kd.S_lower ho0 (below_size (by repeat (first | exact HB.out | apply below_alloc | apply pw_below_drewN | apply below_drew1)))); have n1_ := Aside0.mk (below_step (by repeat (first | exact HB.out | apply below_alloc | apply pw_below_drewN | apply below_drew1)) hb); clear HB; have HO355 := n0_; have HB := n1_; clear n0_ n1_; (try clear ho0); obtain ⟨Ao102, co102, eo102⟩ := Kd.S_slice HO355.out; subst eo102))
            go_ret
            exact ⟨by first | rfl | (simp [errW_none, errW_some] <;> rfl) | (simp [*, errW_none, errW_some] <;> rfl), by repeat (first | (with_reducible first | exact HB.out | apply below_alloc | apply pw_below_drewN | apply below_drew1) | exact HB.out)⟩
        · rw [if_neg c12] at H
          have c12b0 : (t353 == 0) = false := beq_eq_false_iff_ne.mpr c12
          have c12b1 : (t353 != 0) = true := bne_iff_ne.mpr c12
          obtain rfl := Option.some.inj H
          go_wp2_with (first | ((with_reducible refine gate_callee (f := 39) rfl ?_); refine goesL_ (some 36) rfl rfl Try.func39 (by kernel_rfl) rfl #[.slice A0 l0.length c0, .int .i64 a1, .int .i64 a2] rfl (by (try simp only [List.map_toArray, List.map_cons, List.map_nil]); first | done | rfl | (simp only [List.length_drop, List.length_take]; rfl)) ?_; (with_reducible refine (stripe_Split.calls kj6 _ _ l0 a1 a2 t352 t353 _ ?side1 ?side2 A11.out).mono ?_); (case side1 => repeat (first | exact (Kd.C_below HR0.out HB.out) | (with_reducible refine Kd.C_alloc ?_ _) | (with_reducible refine Kd.C_drewN ?_ _) | (with_reducible refine Kd.C_drew ?_))); (case side2 => exact HC0.out); rintro e w103 ⟨v354, rfl, ho0, hb⟩; refine ⟨_, rfl, ?_⟩; have n0_ := Aside0.mk (Kd.S_lower ho0 (below_size (by repeat (first | exact HB.out | apply below_alloc | apply pw_below_drewN | apply below_drew1)))); have n1_ := Aside0.mk (below_step (by repeat (first | exact HB.out | apply below_alloc | apply pw_below_drewN | apply below_drew1)) hb); clear HB; have HO355 := n0_; have HB := n1_; clear n0_ n1_; (try clear ho0)))
          go_ret
          exact ⟨by first | rfl | (simp [errW_none, errW_some] <;> rfl) | (simp [*, errW_none, errW_some] <;> rfl), by repeat (first | (with_reducible first | exact HB.out | apply below_alloc | apply pw_below_drewN | apply below_drew1) | exact HB.out)⟩

/-- THE ONE PURE STATEMENT of stowagelaw03_StripeAny: yours. -/
def stowagelaw03_StripeAny.Pure : Prop := ∀ (l0 : List Int) (a1 : Int) (a2 : Int) (l3 : List Int) (a4 : Int), l0.length ≤ maxLen → l0.length * 1 ≤ 140737488351232 → (∀ x ∈ l0, (Lit.int .u8 x).wf = true) → (Lit.int .i64 a1).wf = true → (Lit.int .i64 a2).wf = true → l3.length ≤ maxLen → l3.length * 8 ≤ 140737488351232 → (∀ x ∈ l3, (Lit.int .i64 x).wf = true) → (Lit.int .i64 a4).wf = true → ∃ k, stowagelaw03_StripeAny.f k l0 a1 a2 l3 a4 = some true
theorem stowagelaw03_StripeAny.walk (P : stowagelaw03_StripeAny.Pure) (a0 : Option Addr) (len0 cap0 : Nat) (z0 : List Int) (a1 : Int) (a2 : Int) (a3 : Option Addr) (len3 cap3 : Nat) (z3 : List Int) (a4 : Int) (w : World) (w0 : (a0 = none ∧ len0 = 0 ∧ cap0 = 0 ∧ z0 = []) ∨ ∃ x, a0 = some x ∧ len0 ≤ cap0 ∧ cap0 ≤ maxLen ∧ z0.length = cap0 ∧ (∀ i, i < z0.length → w.cell? (x.add i) = some (.int .u8 (z0.getD i 0))) ∧ ∀ n ∈ z0, (Lit.int .u8 n).wf = true) (y0 : len0 * 1 ≤ 140737488351232) (w1 : (Lit.int .i64 a1).wf = true) (w2 : (Lit.int .i64 a2).wf = true) (w3 : (a3 = none ∧ len3 = 0 ∧ cap3 = 0 ∧ z3 = []) ∨ ∃ x, a3 = some x ∧ len3 ≤ cap3 ∧ cap3 ≤ maxLen ∧ z3.length = cap3 ∧ (∀ i, i < z3.length → w.cell? (x.add i) = some (.int .i64 (z3.getD i 0))) ∧ ∀ n ∈ z3, (Lit.int .i64 n).wf = true) (y3 : len3 * 8 ≤ 140737488351232) (w4 : (Lit.int .i64 a4).wf = true) :
    Calls Try.prog 12 #[.slice a0 len0 cap0, .int .i64 a1, .int .i64 a2, .slice a3 len3 cap3, .int .i64 a4] w fun e w' => e = .returned (.bool true) ∧ Below w.heap.size w w' := by
  obtain ⟨l0, rfl, hr0, hm0, hw0, hc0⟩ := ReadsInt.ofRowC w0
  obtain ⟨l3, rfl, hr3, hm3, hw3, hc3⟩ := ReadsInt.ofRowC w3
  obtain ⟨k, h⟩ := P l0 a1 a2 l3 a4 hm0 y0 hw0 w1 w2 hm3 y3 hw3 w4
  refine (stowagelaw03_StripeAny.calls k _ _ l0 a1 a2 _ _ l3 a4 true w (Kd.C_of_reads (d := (0 : Int)) (h1 := fun _ => rfl) hr0) hc0 (Kd.C_of_reads (d := (0 : Int)) (h1 := fun _ => rfl) hr3) hc3 h).mono ?_
  rintro e w' ⟨rfl, hd⟩
  exact ⟨rfl, hd⟩

end Go.Proofs.Ythmlimkmcofkfaa.Q

/- Sums and matrices over the field of 256 numbers: plain laws; what sweeping a matrix with the one beside it comes to. -/
namespace Go.Proofs.Ythmlimkmcofkfaa.L
open Go.Proofs.Ythmlimkmcofkfaa.E
set_option linter.unusedVariables false

theorem byte_zero : Byte 0 := by unfold Byte; omega
theorem byte_one : Byte 1 := by unfold Byte; omega
theorem byte_nat {a : Int} (h : Byte a) : ((a.toNat : Nat) : Int) = a ∧ a.toNat < 256 := by unfold Byte at h; omega
theorem gadd_comm (a b : Int) : gadd a b = gadd b a := by unfold gadd; rw [Nat.xor_comm]
theorem gadd_assoc (a b c : Int) : gadd (gadd a b) c = gadd a (gadd b c) := by unfold gadd; simp only [Int.toNat_natCast]; rw [Nat.xor_assoc]
theorem gadd_self (a : Int) : gadd a a = 0 := by unfold gadd; simp
theorem gadd_zero {a : Int} (h : Byte a) : gadd a 0 = a := by unfold gadd; simp; exact (byte_nat h).1 ▸ by simp
theorem zero_gadd {a : Int} (h : Byte a) : gadd 0 a = a := by rw [gadd_comm, gadd_zero h]
theorem gadd_left_comm (a b c : Int) : gadd a (gadd b c) = gadd b (gadd a c) := by rw [← gadd_assoc, gadd_comm a b, gadd_assoc]
theorem gadd4 (a b c d : Int) : gadd (gadd a b) (gadd c d) = gadd (gadd a c) (gadd b d) := by rw [gadd_assoc, gadd_assoc, gadd_left_comm b c d]
theorem gmul_comm {a b : Int} (ha : Byte a) (hb : Byte b) : gmul a b = gmul b a := by unfold gmul; rw [Gf.mul_comm (byte_nat ha).2 (byte_nat hb).2]
theorem gmul_assoc {a b c : Int} (ha : Byte a) (hb : Byte b) (hc : Byte c) : gmul (gmul a b) c = gmul a (gmul b c) := by
  unfold gmul; simp only [Int.toNat_natCast]; rw [Gf.mul_assoc (byte_nat ha).2 (byte_nat hb).2 (byte_nat hc).2]
theorem gmul_gadd (a b c : Int) : gmul a (gadd b c) = gadd (gmul a b) (gmul a c) := by unfold gmul gadd; simp only [Int.toNat_natCast]; rw [Gf.mul_lin_b]
theorem gadd_gmul {a b : Int} (c : Int) (ha : Byte a) (hb : Byte b) : gmul (gadd a b) c = gadd (gmul a c) (gmul b c) := by
  unfold gmul gadd; simp only [Int.toNat_natCast]; rw [Gf.mul_lin_a _ (byte_nat ha).2 (byte_nat hb).2]
theorem gmul_zero (a : Int) : gmul a 0 = 0 := by unfold gmul; simp [Gf.mul_zero]
theorem zero_gmul (a : Int) : gmul 0 a = 0 := by unfold gmul; simp [Gf.zero_mul]
theorem gmul_one {a : Int} (h : Byte a) : gmul a 1 = a := by
  have := Gf.mul_one (byte_nat h).2
  unfold gmul; rw [show (1 : Int).toNat = 1 from rfl, this]; exact (byte_nat h).1
theorem one_gmul {a : Int} (h : Byte a) : gmul 1 a = a := by rw [gmul_comm byte_one h, gmul_one h]
theorem gmul_ginv {a : Int} (h : Byte a) (h0 : a ≠ 0) : gmul a (ginv a) = 1 := by
  have h1 := byte_nat h
  have := Gf.mul_inv h1.2 (by omega)
  unfold gmul ginv; simp only [Int.toNat_natCast]; rw [this]; rfl
theorem gmul_eq_zero {a b : Int} (ha : Byte a) (hb : Byte b) (h : gmul a b = 0) : a = 0 ∨ b = 0 := by
  have h1 := byte_nat ha
  have h2 := byte_nat hb
  unfold gmul at h
  rcases Gf.mul_eq_zero h1.2 h2.2 (by omega) with e | e
  · left; omega
  · right; omega

/-! ### Sums -/
def gsum : Nat → (Nat → Int) → Int
  | 0, _ => 0
  | n + 1, f => gadd (gsum n f) (f n)
theorem gsum_byte {f : Nat → Int} : ∀ {n : Nat}, (∀ i, i < n → Byte (f i)) → Byte (gsum n f)
  | 0, _ => byte_zero
  | n + 1, h => gadd_byte (gsum_byte (fun i hi => h i (by omega))) (h n (by omega))
theorem gsum_congr {f g : Nat → Int} : ∀ {n : Nat}, (∀ i, i < n → f i = g i) → gsum n f = gsum n g
  | 0, _ => rfl
  | n + 1, h => by simp only [gsum]; rw [gsum_congr (fun i hi => h i (by omega)), h n (by omega)]
theorem gsum_gadd (f g : Nat → Int) : ∀ n : Nat, gsum n (fun i => gadd (f i) (g i)) = gadd (gsum n f) (gsum n g)
  | 0 => by simp [gsum, gadd]
  | n + 1 => by simp only [gsum]; rw [gsum_gadd f g n, gadd4]
theorem gsum_zero : ∀ n : Nat, gsum n (fun _ => 0) = 0
  | 0 => rfl
  | n + 1 => by simp only [gsum]; rw [gsum_zero n]; rfl
theorem gmul_gsum (a : Int) (f : Nat → Int) : ∀ n : Nat, gmul a (gsum n f) = gsum n (fun i => gmul a (f i))
  | 0 => gmul_zero a
  | n + 1 => by simp only [gsum]; rw [gmul_gadd, gmul_gsum a f n]
theorem gsum_gmul {f : Nat → Int} (a : Int) : ∀ {n : Nat}, (∀ i, i < n → Byte (f i)) → gmul (gsum n f) a = gsum n (fun i => gmul (f i) a)
  | 0, _ => zero_gmul a
  | n + 1, h => by simp only [gsum]; rw [gadd_gmul a (gsum_byte (fun i hi => h i (by omega))) (h n (by omega)), gsum_gmul a (fun i hi => h i (by omega))]
theorem gsum_swap (f : Nat → Nat → Int) (m : Nat) : ∀ n : Nat, gsum n (fun i => gsum m (fun j => f i j)) = gsum m (fun j => gsum n (fun i => f i j))
  | 0 => by simp [gsum, gsum_zero]
  | n + 1 => by simp only [gsum]; rw [gsum_swap f m n, gsum_gadd]
theorem gsum_one {r : Nat} {a : Int} (ha : Byte a) : ∀ {n : Nat}, r < n → gsum n (fun i => if i = r then a else 0) = a
  | 0, h => by omega
  | n + 1, h => by
    simp only [gsum]
    by_cases e : n = r
    · subst e
      rw [if_pos rfl, gsum_congr (g := fun _ => 0) (fun i hi => if_neg (by omega)), gsum_zero, zero_gadd ha]
    · rw [if_neg e, gsum_one ha (by omega), gadd_zero ha]
/-- A sum of what two places give alone. -/
theorem gsum_at {f : Nat → Int} {n r : Nat} (hr : r < n) (hf : Byte (f r)) (h : ∀ i, i < n → i ≠ r → f i = 0) : gsum n f = f r := by
  rw [gsum_congr (g := fun i => if i = r then f r else 0) (fun i hi => ?_), gsum_one hf hr]
  by_cases e : i = r
  · subst e; simp
  · rw [if_neg e]; exact h i hi e

/-! ### Products -/
def prod (n : Nat) (A B : Nat → Nat → Int) : Nat → Nat → Int := fun i j => gsum n (fun t => gmul (A i t) (B t j))
def one : Nat → Nat → Int := fun i j => if i = j then 1 else 0
theorem prod_byte {n p q : Nat} {A B : Nat → Nat → Int} (hA : Bytes p n A) : Bytes p q (prod n A B) := fun i j hi _ => gsum_byte (fun t ht => gmul_byte (hA i t hi ht))
theorem prod_assoc {p n m q : Nat} {A B C : Nat → Nat → Int} (hA : Bytes p n A) (hB : Bytes n m B) (hC : Bytes m q C) {i j : Nat} (hi : i < p) (hj : j < q) :
    prod m (prod n A B) C i j = prod n A (prod m B C) i j := by
  unfold prod
  rw [gsum_congr (g := fun s => gsum n (fun t => gmul (gmul (A i t) (B t s)) (C s j))) (fun s hs => gsum_gmul (C s j) (fun t ht => gmul_byte (hA i t hi ht))), gsum_swap]
  refine gsum_congr (fun t ht => ?_)
  rw [gmul_gsum]
  exact gsum_congr (fun s hs => gmul_assoc (hA i t hi ht) (hB t s ht hs) (hC s j hs hj))
end Go.Proofs.Ythmlimkmcofkfaa.L

/- What sweeping a matrix with the one beside it comes to: the inverse, on either side; or a kernel. -/
namespace Go.Proofs.Ythmlimkmcofkfaa.L
open Go.Proofs.Ythmlimkmcofkfaa.E
set_option linter.unusedVariables false

theorem gmul_left_comm {a b c : Int} (ha : Byte a) (hb : Byte b) (hc : Byte c) : gmul (gmul a b) c = gmul (gmul a c) b := by
  rw [gmul_assoc ha hb hc, gmul_comm hb hc, ← gmul_assoc ha hc hb]
theorem gsum_transp {g : Nat → Int} {n r p : Nat} (hr : r < n) (hp : p < n) (hg : ∀ t, t < n → Byte (g t)) : gsum n (fun t => if t = p then g r else if t = r then g p else g t) = gsum n g := by
  by_cases e : r = p
  · subst e
    refine gsum_congr (fun t ht => ?_)
    by_cases e2 : t = r
    · subst e2; simp
    · simp [e2]
  have hd : Byte (gadd (g r) (g p)) := gadd_byte (hg r hr) (hg p hp)
  have h1 : gsum n (fun t => if t = p then g r else if t = r then g p else g t) = gsum n (fun t => gadd (g t) (gadd (if t = p then gadd (g r) (g p) else 0) (if t = r then gadd (g r) (g p) else 0))) := by
    refine gsum_congr (fun t ht => ?_)
    by_cases e1 : t = p
    · subst e1
      have e2 : ¬ t = r := fun h => e h.symm
      simp only [if_true, if_neg e2]
      rw [gadd_zero hd, gadd_left_comm, gadd_self, gadd_zero (hg r hr)]
    · by_cases e2 : t = r
      · subst e2
        simp only [if_true, if_neg e1]
        rw [zero_gadd hd, ← gadd_assoc, gadd_self, zero_gadd (hg p hp)]
      · simp only [if_neg e1, if_neg e2]
        rw [gadd_zero byte_zero, gadd_zero (hg t ht)]
  rw [h1, gsum_gadd, gsum_gadd, gsum_one hd hp, gsum_one hd hr, gadd_self, gadd_zero (gsum_byte hg)]

/-- The left half is what the right half makes of A; all is what some F makes of it, back. -/
structure Two (n : Nat) (A G M : Nat → Nat → Int) : Prop where
  b : Bytes n (n + n) M
  left : ∀ i j, i < n → j < n → M i j = gsum n (fun t => gmul (M i (n + t)) (A t j))
  right : ∃ F, Bytes n n F ∧ ∀ i j, i < n → j < n + n → G i j = gsum n (fun t => gmul (F i t) (M t j))

section
variable {n r p c : Nat} {A G M : Nat → Nat → Int}
theorem Two.swap (h : Two n A G M) (hr : r < n) (hp : p < n) : Two n A G (swapM M r p) := by
  refine ⟨swap_bytes h.b hr hp, fun i j hi hj => ?_, ?_⟩
  · unfold swapM
    by_cases e1 : i = p
    · simp only [if_pos e1]; exact h.left r j hr hj
    · by_cases e2 : i = r
      · simp only [if_neg e1, if_pos e2]; exact h.left p j hp hj
      · simp only [if_neg e1, if_neg e2]; exact h.left i j hi hj
  · obtain ⟨F, hF, hG⟩ := h.right
    refine ⟨fun i t => if t = p then F i r else if t = r then F i p else F i t, fun i t hi ht => ?_, fun i j hi hj => ?_⟩
    · simp only
      split
      · exact hF i r hi hr
      · split
        · exact hF i p hi hp
        · exact hF i t hi ht
    · rw [hG i j hi hj, ← gsum_transp hr hp (fun t ht => gmul_byte (hF i t hi ht))]
      refine gsum_congr (fun t ht => ?_)
      unfold swapM
      by_cases e1 : t = p
      · simp only [if_pos e1]
      · by_cases e2 : t = r
        · simp only [if_neg e1, if_pos e2]
        · simp only [if_neg e1, if_neg e2]
theorem Two.norm (h : Two n A G M) (hA : Bytes n n A) (hr : r < n) {f g : Int} (hf : Byte f) (hg : Byte g) (hfg : gmul f g = 1) : Two n A G (normM M r f) := by
  refine ⟨norm_bytes h.b r f, fun i j hi hj => ?_, ?_⟩
  · unfold normM
    by_cases e : i = r
    · subst e
      simp only [if_true]
      rw [h.left i j hi hj, gsum_gmul f (fun t ht => gmul_byte (h.b i _ hi (by omega)))]
      exact gsum_congr (fun t ht => gmul_left_comm (h.b i _ hi (by omega)) (hA t j ht hj) hf)
    · simp only [if_neg e]; exact h.left i j hi hj
  · obtain ⟨F, hF, hG⟩ := h.right
    refine ⟨fun i t => if t = r then gmul (F i t) g else F i t, fun i t hi ht => ?_, fun i j hi hj => ?_⟩
    · simp only
      split
      · exact gmul_byte (hF i t hi ht)
      · exact hF i t hi ht
    · rw [hG i j hi hj]
      refine gsum_congr (fun t ht => ?_)
      unfold normM
      by_cases e : t = r
      · subst e
        simp only [if_true]
        have b1 := hF i t hi ht
        have b2 := h.b t j ht hj
        rw [gmul_assoc b1 hg (gmul_byte b2), ← gmul_assoc hg b2 hf, gmul_comm hg b2, gmul_assoc b2 hg hf, gmul_comm hg hf, hfg, gmul_one b2]
      · simp only [if_neg e]
def kE (M : Nat → Nat → Int) (r c i : Nat) : Int := if i ≠ r ∧ M i c ≠ 0 then M i c else 0
theorem elim_eq {M : Nat → Nat → Int} {r c i j : Nat} (hb : Byte (M i j)) : elimM M r c i j = gadd (M i j) (gmul (kE M r c i) (M r j)) := by
  unfold elimM kE
  by_cases h : i ≠ r ∧ M i c ≠ 0
  · rw [if_pos h, if_pos h]
  · rw [if_neg h, if_neg h, zero_gmul, gadd_zero hb]
theorem kE_byte (hb : Bytes n (n + n) M) (hc : c < n) {i : Nat} (hi : i < n) : Byte (kE M r c i) := by
  unfold kE
  split
  · exact hb i c hi (by omega)
  · exact byte_zero
theorem Two.elim (h : Two n A G M) (hA : Bytes n n A) (hr : r < n) (hc : c < n) : Two n A G (elimM M r c) := by
  have hk : ∀ i, i < n → Byte (kE M r c i) := fun i hi => kE_byte h.b hc hi
  refine ⟨elim_bytes h.b (by omega), fun i j hi hj => ?_, ?_⟩
  · rw [elim_eq (h.b i j hi (by omega)), h.left i j hi hj, h.left r j hr hj, gmul_gsum, ← gsum_gadd]
    refine gsum_congr (fun t ht => ?_)
    have b1 := h.b i (n + t) hi (by omega)
    have b2 := h.b r (n + t) hr (by omega)
    rw [elim_eq b1, gadd_gmul _ b1 (gmul_byte (hk i hi)), gmul_assoc (hk i hi) b2 (hA t j ht hj)]
  · obtain ⟨F, hF, hG⟩ := h.right
    have hS : ∀ i, i < n → Byte (gsum n (fun s => gmul (F i s) (kE M r c s))) := fun i hi => gsum_byte (fun s hs => gmul_byte (hF i s hi hs))
    refine ⟨fun i t => if t = r then gadd (F i t) (gsum n (fun s => gmul (F i s) (kE M r c s))) else F i t, fun i t hi ht => ?_, fun i j hi hj => ?_⟩
    · simp only
      split
      · exact gadd_byte (hF i t hi ht) (hS i hi)
      · exact hF i t hi ht
    · have bj : ∀ t, t < n → Byte (M t j) := fun t ht => h.b t j ht hj
      have key : gsum n (fun t => gmul (if t = r then gadd (F i t) (gsum n (fun s => gmul (F i s) (kE M r c s))) else F i t) (elimM M r c t j)) =
          gsum n (fun t => gadd (gmul (F i t) (M t j)) (gadd (gmul (gmul (F i t) (kE M r c t)) (M r j)) (if t = r then gmul (gsum n (fun s => gmul (F i s) (kE M r c s))) (M r j) else 0))) := by
        refine gsum_congr (fun t ht => ?_)
        rw [elim_eq (bj t ht)]
        have b1 := hF i t hi ht
        by_cases e : t = r
        · subst e
          have k0 : kE M t c t = 0 := by unfold kE; simp
          simp only [if_true]
          rw [k0, zero_gmul, gadd_zero (bj t ht), gmul_zero, zero_gmul, zero_gadd (gmul_byte (hS i hi)), gadd_gmul _ b1 (hS i hi)]
        · simp only [if_neg e]
          rw [gmul_gadd, ← gmul_assoc b1 (hk t ht) (bj r hr), gadd_zero (gmul_byte (gmul_byte b1))]
      rw [hG i j hi hj, key, gsum_gadd, gsum_gadd, gsum_one (gmul_byte (hS i hi)) hr, ← gsum_gmul (M r j) (fun t ht => gmul_byte (hF i t hi ht)), gadd_self, gadd_zero (gsum_byte (fun t ht => gmul_byte (hF i t hi ht)))]

/-- How far the left half is the one. -/
structure State (n c : Nat) (A G : Nat → Nat → Int) (s : Nat × (Nat → Nat → Int)) : Prop where
  two : Two n A G s.2
  le : s.1 ≤ c
  id : s.1 = c → ∀ i j, i < n → j < c → s.2 i j = one i j

theorem piv_zero (M : Nat → Nat → Int) (c n : Nat) : ∀ k a, piv M c n k a = n → n ≤ a + k → ∀ i, a ≤ i → i < n → M i c = 0
  | 0, a, h, h2, i, h3, h4 => by omega
  | k + 1, a, h, h2, i, h3, h4 => by
    simp only [piv] at h
    by_cases e : a < n ∧ M a c = 0
    · rw [if_pos e] at h
      by_cases e2 : i = a
      · subst e2; exact e.2
      · exact piv_zero M c n k (a + 1) h (by omega) i (by omega) h4
    · rw [if_neg e] at h; omega
theorem State.step {s : Nat × (Nat → Nat → Int)} (h : State n c A G s) (hA : Bytes n n A) (hc : c < n) : State n (c + 1) A G (stepM n c s) := by
  obtain ⟨r, M⟩ := s
  have hb := h.two.b
  have hle : r ≤ c := h.le
  have hge := piv_ge M c n (n - r) r
  have hpl := piv_le M c n (n - r) r (by omega)
  have hne := piv_ne M c n (n - r) r (by omega)
  simp only [stepM]
  by_cases e : piv M c n (n - r) r = n
  · rw [if_pos e]
    exact ⟨h.two, by show r ≤ c + 1; omega, fun e2 => by exfalso; have : r = c + 1 := e2; omega⟩
  · rw [if_neg e]
    generalize piv M c n (n - r) r = p at *
    have hp : p < n := by omega
    have hpv := hne hp
    have t1 := h.two.swap (show r < n by omega) hp
    have hs : swapM M r p r c = M p c := by
      unfold swapM
      by_cases e2 : r = p
      · subst e2; simp
      · simp [e2]
    have hbp : Byte (swapM M r p r c) := t1.b r c (by omega) (by omega)
    have hnz : swapM M r p r c ≠ 0 := by rw [hs]; exact hpv
    have t2 := t1.norm hA (show r < n by omega) (ginv_byte hbp) hbp (by rw [gmul_comm (ginv_byte hbp) hbp]; exact gmul_ginv hbp hnz)
    have t3 := t2.elim hA (show r < n by omega) hc
    refine ⟨t3, by show r + 1 ≤ c + 1; omega, fun e2 i j hi hj => ?_⟩
    have hrc : r = c := by have : r + 1 = c + 1 := e2; omega
    have hid : ∀ i j, i < n → j < c → M i j = one i j := h.id hrc
    subst hrc
    show elimM (normM (swapM M r p) r (ginv (swapM M r p r r))) r r i j = one i j
    rw [elim_eq (t2.b i j hi (by omega))]
    by_cases ej : j = r
    · subst ej
      have h1 : normM (swapM M j p) j (ginv (swapM M j p j j)) j j = 1 := by unfold normM; rw [if_pos rfl]; exact gmul_ginv hbp hnz
      rw [h1]
      by_cases ei : i = j
      · subst ei
        rw [h1]
        have k0 : kE (normM (swapM M i p) i (ginv (swapM M i p i i))) i i i = 0 := by unfold kE; simp
        rw [k0, zero_gmul, gadd_zero byte_one]; simp [one]
      · have kk : kE (normM (swapM M j p) j (ginv (swapM M j p j j))) j j i = normM (swapM M j p) j (ginv (swapM M j p j j)) i j := by
          unfold kE
          by_cases z : normM (swapM M j p) j (ginv (swapM M j p j j)) i j = 0
          · rw [if_neg (fun hh => hh.2 z), z]
          · rw [if_pos ⟨ei, z⟩]
        rw [kk, gmul_one (t2.b i j hi (by omega)), gadd_self]; simp [one, ei]
    · have hjr : j < r := by omega
      have hrow : ∀ i, i < n → swapM M r p i j = one i j := by
        intro i hi
        unfold swapM
        by_cases e1 : i = p
        · rw [if_pos e1, hid r j (by omega) hjr]
          simp [one, show ¬ r = j by omega, show ¬ i = j by omega]
        · rw [if_neg e1]
          by_cases e3 : i = r
          · rw [if_pos e3, hid p j hp hjr]
            simp [one, show ¬ p = j by omega, show ¬ i = j by omega]
          · rw [if_neg e3, hid i j hi hjr]
      have hrz : normM (swapM M r p) r (ginv (swapM M r p r r)) r j = 0 := by
        unfold normM
        rw [if_pos rfl, hrow r (by omega)]
        simp [one, show ¬ r = j by omega, zero_gmul]
      rw [hrz, gmul_zero, gadd_zero (t2.b i j hi (by omega))]
      unfold normM
      by_cases e3 : i = r
      · rw [if_pos e3, hrow i hi]
        simp [one, show ¬ i = j by omega, zero_gmul]
      · rw [if_neg e3, hrow i hi]
end

/-- G is A with the one beside it. -/
def Aug (n : Nat) (A G : Nat → Nat → Int) : Prop := ∀ i, i < n → (∀ j, j < n → G i j = A i j) ∧ ∀ j, j < n → G i (n + j) = one i j
theorem aug_bytes' {n : Nat} {A G : Nat → Nat → Int} (h : Aug n A G) (hA : Bytes n n A) : Bytes n (n + n) G := by
  intro i j hi hj
  by_cases e : j < n
  · rw [(h i hi).1 j e]; exact hA i j hi e
  · rw [show j = n + (j - n) by omega, (h i hi).2 (j - n) (by omega)]
    unfold one; split <;> (unfold Byte; omega)
theorem one_byte (i j : Nat) : Byte (one i j) := by unfold one; split <;> (unfold Byte; omega)
theorem one_prod {n i : Nat} {f : Nat → Int} (hi : i < n) (hf : Byte (f i)) : gsum n (fun t => gmul (one i t) (f t)) = f i := by
  rw [gsum_at hi (gmul_byte (one_byte i i)) (fun t ht e => by unfold one; rw [if_neg (fun h => e h.symm), zero_gmul])]
  unfold one; rw [if_pos rfl, one_gmul hf]
theorem start {n : Nat} {A G : Nat → Nat → Int} (h : Aug n A G) (hA : Bytes n n A) : State n 0 A G (0, G) := by
  have hG := aug_bytes' h hA
  refine ⟨⟨hG, fun i j hi hj => ?_, ⟨one, fun i j _ _ => one_byte i j, fun i j hi hj => (one_prod (f := fun t => G t j) hi (hG i j hi hj)).symm⟩⟩, Nat.le_refl _, fun _ i j _ hj => by omega⟩
  show G i j = _
  rw [(h i hi).1 j hj, gsum_congr (g := fun t => gmul (one i t) (A t j)) (fun t ht => by show gmul (G i (n + t)) (A t j) = _; rw [(h i hi).2 t ht]), one_prod (f := fun t => A t j) hi (hA i j hi hj)]
theorem states {n : Nat} {A G : Nat → Nat → Int} (h : Aug n A G) (hA : Bytes n n A) : ∀ c, c ≤ n → State n c A G (sweepM n c (0, G))
  | 0, _ => start h hA
  | c + 1, hc => (states h hA c (by omega)).step hA (by omega)

/-- Where all columns have a pivot, the right half is the inverse, on either side. -/
theorem inverse {n : Nat} {A G : Nat → Nat → Int} (h : Aug n A G) (hA : Bytes n n A) (hr : (sweepM n n (0, G)).1 = n) :
    Bytes n n (fun i j => (sweepM n n (0, G)).2 i (n + j)) ∧ (∀ i j, i < n → j < n → prod n (fun i j => (sweepM n n (0, G)).2 i (n + j)) A i j = one i j) ∧
      ∀ i j, i < n → j < n → prod n A (fun i j => (sweepM n n (0, G)).2 i (n + j)) i j = one i j := by
  have hs := states h hA n (Nat.le_refl _)
  generalize sweepM n n (0, G) = s at *
  have hid := hs.id hr
  have hb : Bytes n n (fun i j => s.2 i (n + j)) := fun i j hi hj => hs.two.b i (n + j) hi (by omega)
  refine ⟨hb, fun i j hi hj => ?_, fun i j hi hj => ?_⟩
  · show gsum n (fun t => gmul (s.2 i (n + t)) (A t j)) = _
    rw [← hs.two.left i j hi hj, hid i j hi hj]
  · obtain ⟨F, hF, hG⟩ := hs.two.right
    have hFA : ∀ i t, i < n → t < n → A i t = F i t := by
      intro i t hi ht
      rw [← (h i hi).1 t ht, hG i t hi (by omega), gsum_congr (g := fun q => gmul (F i q) (one q t)) (fun q hq => by rw [hid q t hq ht])]
      rw [gsum_at ht (gmul_byte (hF i t hi ht)) (fun q hq e => by unfold one; rw [if_neg e, gmul_zero])]
      unfold one; rw [if_pos rfl, gmul_one (hF i t hi ht)]
    show gsum n (fun t => gmul (A i t) (s.2 t (n + j))) = _
    rw [gsum_congr (g := fun t => gmul (F i t) (s.2 t (n + j))) (fun t ht => by rw [hFA i t hi ht]), ← hG i (n + j) hi (by omega), (h i hi).2 j hj]

/-- Where a column has none, A has a kernel. -/
theorem kernel_at {n c : Nat} {A G : Nat → Nat → Int} {s : Nat × (Nat → Nat → Int)} (hs : State n c A G s) (h : Aug n A G) (hc : c < n) (hr : s.1 = c) (hp : piv s.2 c n (n - s.1) s.1 = n) :
    ∃ x : Nat → Int, (∀ j, j < n → Byte (x j)) ∧ x c = 1 ∧ ∀ i, i < n → gsum n (fun j => gmul (A i j) (x j)) = 0 := by
  have hb := hs.two.b
  have hz := piv_zero s.2 c n (n - s.1) s.1 hp (by omega)
  have hid := hs.id hr
  obtain ⟨F, hF, hG⟩ := hs.two.right
  have hx : ∀ j, j < n → Byte ((fun j => if j = c then 1 else if j < c then s.2 j c else 0 : Nat → Int) j) := by
    intro j hj
    simp only
    split
    · exact byte_one
    · split
      · exact hb j c hj (by omega)
      · exact byte_zero
  refine ⟨fun j => if j = c then 1 else if j < c then s.2 j c else 0, hx, by simp, fun i hi => ?_⟩
  have hM : ∀ t, t < n → gsum n (fun j => gmul (s.2 t j) ((fun j => if j = c then 1 else if j < c then s.2 j c else 0 : Nat → Int) j)) = 0 := by
    intro t ht
    have e1 : gsum n (fun j => gmul (s.2 t j) ((fun j => if j = c then 1 else if j < c then s.2 j c else 0 : Nat → Int) j)) = gsum n (fun j => gadd (if j = c then s.2 t c else 0) (if j = t then (if t < c then s.2 t c else 0) else 0)) := by
      refine gsum_congr (fun j hj => ?_)
      by_cases e : j = c
      · subst e
        simp only [if_true]
        rw [gmul_one (hb t j ht (by omega))]
        by_cases e2 : j = t
        · rw [if_pos e2, if_neg (by omega), gadd_zero (hb t j ht (by omega))]
        · rw [if_neg e2, gadd_zero (hb t j ht (by omega))]
      · simp only [if_neg e]
        by_cases e2 : j < c
        · rw [if_pos e2, hid t j ht e2]
          by_cases e3 : j = t
          · subst e3
            rw [if_pos rfl, if_pos e2]; unfold one; rw [if_pos rfl, one_gmul (hb j c hj (by omega)), zero_gadd (hb j c hj (by omega))]
          · rw [if_neg e3]; unfold one; rw [if_neg (fun h => e3 h.symm), zero_gmul, gadd_zero byte_zero]
        · rw [if_neg e2, gmul_zero]
          by_cases e3 : j = t
          · rw [if_pos e3, if_neg (by omega), gadd_zero byte_zero]
          · rw [if_neg e3, gadd_zero byte_zero]
    rw [e1, gsum_gadd, gsum_one (hb t c ht (by omega)) hc]
    by_cases e : t < c
    · rw [if_pos e, gsum_one (hb t c ht (by omega)) ht, gadd_self]
    · rw [if_neg e, hz t (by omega) ht]
      rw [gsum_congr (g := fun _ => 0) (fun j hj => by split <;> rfl), gsum_zero]; rfl
  have hAF : ∀ j, j < n → A i j = gsum n (fun t => gmul (F i t) (s.2 t j)) := fun j hj => by rw [← (h i hi).1 j hj, hG i j hi (by omega)]
  rw [gsum_congr (g := fun j => gsum n (fun t => gmul (F i t) (gmul (s.2 t j) ((fun j => if j = c then 1 else if j < c then s.2 j c else 0 : Nat → Int) j)))) (fun j hj => ?_), gsum_swap]
  · rw [gsum_congr (g := fun _ => 0) (fun t ht => by rw [← gmul_gsum, hM t ht, gmul_zero]), gsum_zero]
  · rw [hAF j hj, gsum_gmul _ (fun t ht => gmul_byte (hF i t hi ht))]
    exact gsum_congr (fun t ht => gmul_assoc (hF i t hi ht) (hb t j ht (by omega)) (hx j hj))
theorem kernel {n : Nat} {A G : Nat → Nat → Int} (h : Aug n A G) (hA : Bytes n n A) : ∀ c, c ≤ n → (sweepM n c (0, G)).1 = c ∨ ∃ x : Nat → Int, (∀ j, j < n → Byte (x j)) ∧ (∃ c, c < n ∧ x c ≠ 0) ∧ ∀ i, i < n → gsum n (fun j => gmul (A i j) (x j)) = 0
  | 0, _ => .inl rfl
  | c + 1, hc => by
    rcases kernel h hA c (by omega) with e | e
    · have hs := states h hA c (by omega)
      show (stepM n c (sweepM n c (0, G))).1 = c + 1 ∨ _
      generalize sweepM n c (0, G) = s at *
      by_cases hp : piv s.2 c n (n - s.1) s.1 = n
      · right
        obtain ⟨x, h1, h2, h3⟩ := kernel_at hs h (by omega) e hp
        exact ⟨x, h1, ⟨c, by omega, by rw [h2]; decide⟩, h3⟩
      · left
        simp only [stepM]
        rw [if_neg hp]; show s.1 + 1 = c + 1; omega
    · exact .inr e

/-! ### What the columns behind do, nobody asks -/
def Agree (n q : Nat) (M M' : Nat → Nat → Int) : Prop := ∀ i j, i < n → j < q → M i j = M' i j
theorem piv_agree {n q c : Nat} {M M' : Nat → Nat → Int} (h : Agree n q M M') (hc : c < q) : ∀ k a, piv M c n k a = piv M' c n k a
  | 0, _ => rfl
  | k + 1, a => by
    simp only [piv]
    by_cases e : a < n
    · rw [h a c e hc, piv_agree h hc k (a + 1)]
    · rw [if_neg (fun hh => e hh.1), if_neg (fun hh => e hh.1)]
theorem step_agree {n q c : Nat} {s s' : Nat × (Nat → Nat → Int)} (h1 : s.1 = s'.1) (h : Agree n q s.2 s'.2) (hc : c < q) (hle : s.1 ≤ n) : (stepM n c s).1 = (stepM n c s').1 ∧ Agree n q (stepM n c s).2 (stepM n c s').2 := by
  obtain ⟨r, M⟩ := s
  obtain ⟨r', M'⟩ := s'
  have h1' : r = r' := h1
  subst h1'
  have h' : Agree n q M M' := h
  have hge := piv_ge M c n (n - r) r
  have hpl := piv_le M c n (n - r) r hle
  simp only [stepM]
  rw [← piv_agree h' hc]
  by_cases e : piv M c n (n - r) r = n
  · rw [if_pos e, if_pos e]; exact ⟨rfl, h'⟩
  · rw [if_neg e, if_neg e]
    generalize piv M c n (n - r) r = p at *
    refine ⟨rfl, ?_⟩
    have a1 : Agree n q (swapM M r p) (swapM M' r p) := by
      intro i j hi hj
      unfold swapM
      rw [h' r j (by omega) hj, h' p j (by omega) hj, h' i j hi hj]
    have a2 : Agree n q (normM (swapM M r p) r (ginv (swapM M r p r c))) (normM (swapM M' r p) r (ginv (swapM M' r p r c))) := by
      intro i j hi hj
      unfold normM
      rw [a1 r c (by omega) hc, a1 i j hi hj]
    intro i j hi hj
    show elimM _ _ _ i j = elimM _ _ _ i j
    unfold elimM
    rw [a2 i j hi hj, a2 i c hi hc, a2 r j (by omega) hj]
theorem rank_le {n : Nat} (M : Nat → Nat → Int) : ∀ c, (sweepM n c (0, M)).1 ≤ n
  | 0 => Nat.zero_le _
  | c + 1 => by
    have h := rank_le (n := n) M c
    show (stepM n c (sweepM n c (0, M))).1 ≤ n
    generalize sweepM n c (0, M) = s at *
    have h1 := piv_ge s.2 c n (n - s.1) s.1
    have h2 := piv_le s.2 c n (n - s.1) s.1 h
    simp only [stepM]
    split
    · exact h
    · show s.1 + 1 ≤ n; omega
theorem sweep_agree {n q : Nat} {M M' : Nat → Nat → Int} (h : Agree n q M M') : ∀ c, c ≤ q → (sweepM n c (0, M)).1 = (sweepM n c (0, M')).1 ∧ Agree n q (sweepM n c (0, M)).2 (sweepM n c (0, M')).2
  | 0, _ => ⟨rfl, h⟩
  | c + 1, hc => by
    obtain ⟨h1, h2⟩ := sweep_agree h c (by omega)
    exact step_agree h1 h2 (by omega) (rank_le M c)
end Go.Proofs.Ythmlimkmcofkfaa.L

/- Lists of numbers by places; what Mul comes to. -/
namespace Go.Proofs.Ythmlimkmcofkfaa.L
open Go.RowKit Go.Proofs.YthmlimkmcofkfaaW.PrintWords Go.Proofs.Ythmlimkmcofkfaa.E Go.Proofs.Ythmlimkmcofkfaa.B
set_option linter.unusedVariables false

theorem rdP : P.rd_L1 = B.rd_L1 := rfl
theorem mul_ev {a b : Int} (ha : Byte a) (hb : Byte b) : Ev (fun k => gf_Mul.f k a b) (gmul a b) := by
  refine Ev.of (fun k => gf_Mul.mono a b k) (k := 9) ?_
  have h := mul_f 0 a.toNat b.toNat (byte_nat ha).2 (byte_nat hb).2
  rw [(byte_nat ha).1, (byte_nat hb).1] at h
  exact h
def tab (m : Nat) (f : Nat → Int) : List Int := (List.range m).map f
theorem tab_len (m : Nat) (f : Nat → Int) : (tab m f).length = m := by simp [tab]
theorem tab_rd {m : Nat} {f : Nat → Int} {j : Nat} (h : j < m) : rd (tab m f) j = f j := by rw [rd_nat]; simp [tab, h]
theorem tab_set {m : Nat} {f g : Nat → Int} {j : Nat} (v : Int) (h : ∀ q, q < m → (if q = j then v else f q) = g q) : (tab m f).set j v = tab m g := by
  apply List.ext_getElem
  · simp [tab]
  · intro q h1 h2
    simp [tab] at h1 h2
    rw [List.getElem_set]
    have := h q h2
    by_cases e : j = q
    · subst e; simp [tab] at this ⊢; exact this
    · have e2 : ¬ q = j := fun h => e h.symm
      rw [if_neg e]; simp [tab, e2] at this ⊢; exact this
theorem tab_congr {m : Nat} {f g : Nat → Int} (h : ∀ q, q < m → f q = g q) : tab m f = tab m g := List.map_congr_left (fun q hq => h q (List.mem_range.1 hq))
end Go.Proofs.Ythmlimkmcofkfaa.L

/- Equal lists. -/
namespace Go.Proofs.Ythmlimkmcofkfaa.L
open Go.RowKit Go.Proofs.YthmlimkmcofkfaaW.PrintWords Go.Proofs.Ythmlimkmcofkfaa.E Go.Proofs.Ythmlimkmcofkfaa.B
set_option linter.unusedVariables false

theorem sameBytes_self (l : List Int) : stowagekit_SameBytes.f l l = some true := by unfold stowagekit_SameBytes.f; simp
theorem same_l0 (l : List (List Int)) (hn : l.length ≤ 1000) : ∀ (d i : Nat), l.length = i + d → Ev (fun k => stowagekit_SameLists.l0 k l l i) true
  | 0, i, hi => by
    refine Ev.step (f := fun _ => some true) (fun k => ?_) (Ev.now _)
    simp only [stowagekit_SameLists.l0]
    rw [if_neg (by omega)]
  | d + 1, i, hi => by
    refine Ev.step (f := fun k => stowagekit_SameLists.l0 k l l ((i + 1 : Nat) : Int)) (fun k => ?_) (same_l0 l hn d (i + 1) (by omega))
    simp only [stowagekit_SameLists.l0]
    rw [if_pos (by omega), if_pos (by omega), if_pos (by omega), sameBytes_self]
    simp only [Option.bind_some, if_true]
    rw [wrap_succ (show i < l.length by omega) (by omega)]
theorem same_self (l : List (List Int)) (hn : l.length ≤ 1000) : Ev (fun k => stowagekit_SameLists.f k l l) true := by
  refine Ev.congr (fun k => ?_) (same_l0 l hn l.length 0 (by omega))
  unfold stowagekit_SameLists.f
  rw [if_pos rfl]; rfl
theorem evc {α : Type} {x : Option α} {r : α} (h : x = some r) : Ev (fun _ => x) r := ⟨0, fun _ _ => h⟩
end Go.Proofs.Ythmlimkmcofkfaa.L

/- Which matrices may be; right halves; the one. -/
namespace Go.Proofs.Ythmlimkmcofkfaa.L
open Go.RowKit Go.Proofs.YthmlimkmcofkfaaW.PrintWords Go.Proofs.Ythmlimkmcofkfaa.E Go.Proofs.Ythmlimkmcofkfaa.B
set_option linter.unusedVariables false

theorem check_of {l : List (List Int)} {m : Nat} (h1 : 0 < l.length) (h2 : l.length ≤ 32) (h3 : 0 < m) (h4 : m ≤ 32) (hr : Rect m l) : check l = 0 := by
  have r0 := hr 0 h1
  have hmem : ∀ x ∈ l, x.length = m := by
    intro x hx
    obtain ⟨i, hi, rfl⟩ := List.getElem_of_mem hx
    have := hr i hi
    rw [rdL_nat] at this
    simpa [hi] using this
  unfold check
  rw [if_neg, if_neg]
  · rintro (h | h)
    · omega
    · obtain ⟨x, hx, hp⟩ := List.any_eq_true.1 h
      have := hmem x hx
      have r0' : (rd_L1 l 0).length = m := r0
      simp [P2, r0', this] at hp
      omega
  · rintro (h | h)
    · omega
    · obtain ⟨x, hx, hp⟩ := List.any_eq_true.1 h
      have := hmem x hx
      simp [P1, this] at hp
      omega
theorem okB_of {l : List (List Int)} {m : Nat} (hr : Rect m l) (hb : Bytes l.length m (entry l)) : okB l = true := by
  unfold okB
  rw [List.all_eq_true]
  intro x hx
  obtain ⟨i, hi, rfl⟩ := List.getElem_of_mem hx
  have hl := hr i hi
  have e : rd_L1 l i = l[i] := by rw [rdL_nat]; simp [hi]
  rw [e] at hl
  rw [List.all_eq_true]
  intro y hy
  obtain ⟨j, hj, rfl⟩ := List.getElem_of_mem hy
  have := hb i j hi (by omega)
  unfold entry at this
  rw [e, rd_nat] at this
  simp [hj] at this
  simpa [Byte] using this
theorem rightL_len (S : Nat → Nat → Int) (n : Nat) : (rightL S n).length = n := by simp [rightL]
theorem rightL_row {S : Nat → Nat → Int} {n i : Nat} (h : i < n) : rd_L1 (rightL S n) i = rightRow S n i := by rw [rdL_nat]; simp [rightL, h]
theorem rightL_rect (S : Nat → Nat → Int) (n : Nat) : Rect n (rightL S n) := fun i hi => by rw [rightL_len] at hi; rw [rightL_row hi, rightRow_len]
theorem rightL_entry {S : Nat → Nat → Int} {n i j : Nat} (hi : i < n) (hj : j < n) : entry (rightL S n) i j = S i (n + j) := by unfold entry; rw [rightL_row hi, rd_nat]; simp [rightRow, hj]
theorem idRow_tab {n i : Nat} : idRow n i = tab n (one i) := by
  apply List.ext_getElem
  · simp [idRow, tab]
  · intro j h1 h2
    simp [tab] at h2
    by_cases e : i = j
    · subst e; simp [idRow, tab, one]
    · simp [idRow, tab, one, e]
theorem aug_Aug {l : List (List Int)} {n : Nat} : Aug n (entry l) (augM l n) := fun i hi => ⟨fun j hj => by unfold augM; rw [if_pos hj], fun j hj => by
  unfold augM one
  rw [if_neg (by omega), show n + j - n = j by omega]
  by_cases e : j = i
  · rw [if_pos e, if_pos e.symm]
  · rw [if_neg e, if_neg (fun h => e h.symm)]⟩

end Go.Proofs.Ythmlimkmcofkfaa.L
