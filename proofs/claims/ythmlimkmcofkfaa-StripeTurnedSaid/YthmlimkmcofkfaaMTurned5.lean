/- StripeTurned: shards of which one byte is turned do not go together, of any bytes of 1 to 1,000, any k and m that may be, any byte. (Part 6 of 7.) -/
import Derived.Test.YthmlimkmcofkfaaMTurned0
import Derived.Test.YthmlimkmcofkfaaMTurned1
import Derived.Test.YthmlimkmcofkfaaMTurned2
import Derived.Test.YthmlimkmcofkfaaMTurned3
import Derived.Test.YthmlimkmcofkfaaMTurned4
/- Contracts of functions of the program, written by a program of this session. -/
namespace Go.Proofs.Ythmlimkmcofkfaa.Q
open Go.RowKit Go.Proofs.YthmlimkmcofkfaaW.PrintWords Go.Proofs.YthmlimkmcofkfaaW.PrintLast Go.Proofs.YthmlimkmcofkfaaW.PrintMore
attribute [local go_sem] max2_int min2_int max_two min_two max_three min_three max_four min_four   -- for this text's walks alone
open Go.Proofs.Ythmlimkmcofkfaa.B Go.Proofs.Ythmlimkmcofkfaa.E
set_option linter.unusedVariables false
set_option linter.unusedSimpArgs false

/-! ### stowagelaw03_StripeTurned: function 10 -/
mutual
def stowagelaw03_StripeTurned.j0 : Nat → List Int → Int → Int → Int → Int → Int → Bool → Bool → Option (Bool)
  | 0, _, _, _, _, _, _, _, _ => none
  | k + 1, x0, x1, x2, x3, x4, x5, x13, x32 => if x32 = true then (some x13) else ((stripe_Split.f k x0 x1 x2).bind fun bt315 => (if bt315.2 = 0 then (if (bt315.1.length : Int) = (wrap64 (x1 + x2)) then (if 0 < (bt315.1.length : Int) then (stowagelaw03_StripeTurned.j1 k x1 x2 x3 x4 x5 x13 bt315.1 (((rd_L1 bt315.1 0).length : Int) == 0)) else (none)) else (stowagelaw03_StripeTurned.j1 k x1 x2 x3 x4 x5 x13 bt315.1 true)) else (some x13)))
def stowagelaw03_StripeTurned.j1 : Nat → Int → Int → Int → Int → Int → Bool → List (List Int) → Bool → Option (Bool)
  | 0, _, _, _, _, _, _, _, _ => none
  | k + 1, x1, x2, x3, x4, x5, x13, x14, x56 => if x56 = true then (some false) else ((stowagekit_Pick.f x3 (wrap64 (x1 + x2))).bind fun t320 => (if 0 ≤ t320 then (if t320 < (x14.length : Int) then ((stowagekit_Pick.f x4 ((rd_L1 x14 t320).length : Int)).bind fun t322 => (if 0 ≤ t322 then (if t322 < ((rd_L1 x14 t320).length : Int) then ((stripe_Sound.f k (x14.set (t320 : Int).toNat ((rd_L1 x14 t320).set (t322 : Int).toNat (Go.bits .xor .u8 (rd (rd_L1 x14 t320) t322) x5))) x1 x2).bind fun bt327 => (if x13 = true then (if bt327.2 = 0 then (some (!bt327.1)) else (some false)) else (some false))) else (none)) else (none))) else (none)) else (none)))
end
def stowagelaw03_StripeTurned.f (k : Nat) (l0 : List Int) (a1 : Int) (a2 : Int) (a3 : Int) (a4 : Int) (a5 : Int) : Option (Bool) := (stowagelaw03_StripeKnown.f k).bind fun t314 => (if (l0.length : Int) > 1000 then (stowagelaw03_StripeTurned.j0 k l0 a1 a2 a3 a4 a5 t314 true) else (if (l0.length : Int) = 0 then (stowagelaw03_StripeTurned.j0 k l0 a1 a2 a3 a4 a5 t314 true) else (stowagelaw03_StripeTurned.j0 k l0 a1 a2 a3 a4 a5 t314 (a5 == 0))))
theorem stowagelaw03_StripeTurned.mono_l : ∀ k, (∀ y0 y1 y2 y3 y4 y5 y6 y7, LeO (stowagelaw03_StripeTurned.j0 k y0 y1 y2 y3 y4 y5 y6 y7) (stowagelaw03_StripeTurned.j0 (k + 1) y0 y1 y2 y3 y4 y5 y6 y7)) ∧ (∀ y0 y1 y2 y3 y4 y5 y6 y7, LeO (stowagelaw03_StripeTurned.j1 k y0 y1 y2 y3 y4 y5 y6 y7) (stowagelaw03_StripeTurned.j1 (k + 1) y0 y1 y2 y3 y4 y5 y6 y7))
  | 0 => ⟨fun _ _ _ _ _ _ _ _ r h => by simp [stowagelaw03_StripeTurned.j0] at h, fun _ _ _ _ _ _ _ _ r h => by simp [stowagelaw03_StripeTurned.j1] at h⟩
  | k + 1 => by
    obtain ⟨ih0, ih1⟩ := stowagelaw03_StripeTurned.mono_l k
    refine ⟨?_, ?_⟩
    · intro y0 y1 y2 y3 y4 y5 y6 y7
      unfold stowagelaw03_StripeTurned.j0
      repeat' first
      | (with_reducible exact ih0 _ _ _ _ _ _ _ _)
      | (with_reducible exact ih1 _ _ _ _ _ _ _ _)
      | (with_reducible exact stowagelaw03_StripeKnown.mono _)
      | (with_reducible exact stripe_Sound.mono _ _ _ _)
      | (with_reducible exact stripe_Split.mono _ _ _ _)
      | (with_reducible exact LeO.refl _)
      | (with_reducible exact LeO.none _)
      | (with_reducible refine LeO.ite ?_ ?_)
      | (with_reducible refine LeO.bind ?_ (fun _ => ?_))
      | exact ih0 _ _ _ _ _ _ _ _
      | exact ih1 _ _ _ _ _ _ _ _
      | exact stowagelaw03_StripeKnown.mono _
      | exact stripe_Sound.mono _ _ _ _
      | exact stripe_Split.mono _ _ _ _
      | exact LeO.none _
      | refine LeO.ite ?_ ?_
      | refine LeO.bind ?_ (fun _ => ?_)
    · intro y0 y1 y2 y3 y4 y5 y6 y7
      unfold stowagelaw03_StripeTurned.j1
      repeat' first
      | (with_reducible exact ih0 _ _ _ _ _ _ _ _)
      | (with_reducible exact ih1 _ _ _ _ _ _ _ _)
      | (with_reducible exact stowagelaw03_StripeKnown.mono _)
      | (with_reducible exact stripe_Sound.mono _ _ _ _)
      | (with_reducible exact stripe_Split.mono _ _ _ _)
      | (with_reducible exact LeO.refl _)
      | (with_reducible exact LeO.none _)
      | (with_reducible refine LeO.ite ?_ ?_)
      | (with_reducible refine LeO.bind ?_ (fun _ => ?_))
      | exact ih0 _ _ _ _ _ _ _ _
      | exact ih1 _ _ _ _ _ _ _ _
      | exact stowagelaw03_StripeKnown.mono _
      | exact stripe_Sound.mono _ _ _ _
      | exact stripe_Split.mono _ _ _ _
      | exact LeO.none _
      | refine LeO.ite ?_ ?_
      | refine LeO.bind ?_ (fun _ => ?_)
theorem stowagelaw03_StripeTurned.mono : ∀ a0 a1 a2 a3 a4 a5 k, LeO (stowagelaw03_StripeTurned.f k a0 a1 a2 a3 a4 a5) (stowagelaw03_StripeTurned.f (k + 1) a0 a1 a2 a3 a4 a5) := by
  intro a0 a1 a2 a3 a4 a5 k
  obtain ⟨ih0, ih1⟩ := stowagelaw03_StripeTurned.mono_l k
  unfold stowagelaw03_StripeTurned.f
  repeat' first
      | (with_reducible exact ih0 _ _ _ _ _ _ _ _)
      | (with_reducible exact ih1 _ _ _ _ _ _ _ _)
      | (with_reducible exact stowagelaw03_StripeKnown.mono _)
      | (with_reducible exact stripe_Sound.mono _ _ _ _)
      | (with_reducible exact stripe_Split.mono _ _ _ _)
      | (with_reducible exact LeO.refl _)
      | (with_reducible exact LeO.none _)
      | (with_reducible refine LeO.ite ?_ ?_)
      | (with_reducible refine LeO.bind ?_ (fun _ => ?_))
      | exact ih0 _ _ _ _ _ _ _ _
      | exact ih1 _ _ _ _ _ _ _ _
      | exact stowagelaw03_StripeKnown.mono _
      | exact stripe_Sound.mono _ _ _ _
      | exact stripe_Split.mono _ _ _ _
      | exact LeO.none _
      | refine LeO.ite ?_ ?_
      | refine LeO.bind ?_ (fun _ => ?_)
set_option maxHeartbeats 8000000 in
set_option maxRecDepth 100000 in
theorem stowagelaw03_StripeTurned.calls (k : Nat) (A0 : Option Addr) (c0 : Nat) (l0 : List Int) (a1 : Int) (a2 : Int) (a3 : Int) (a4 : Int) (a5 : Int) (r : Bool) (w : World) (hr0 : Kd.C (Kd.int .u8) w A0 l0.length l0) (hc0 : l0.length ≤ c0) (h : stowagelaw03_StripeTurned.f k l0 a1 a2 a3 a4 a5 = some r) :
    Calls Try.prog 10 #[.slice A0 l0.length c0, .int .i64 a1, .int .i64 a2, .int .i64 a3, .int .i64 a4, .int .u8 a5] w fun e w' => e = .returned (.bool r) ∧ Below w.heap.size w w' := by
  have HR0 := Aside0.mk hr0
  have HC0 := Aside0.mk hc0
  clear hr0 hc0
  have HB := Aside0.mk (Below.refl w.heap.size w)
  have H : ((stowagelaw03_StripeKnown.f k).bind fun t314 => (if (l0.length : Int) > 1000 then (stowagelaw03_StripeTurned.j0 k l0 a1 a2 a3 a4 a5 t314 true) else (if (l0.length : Int) = 0 then (stowagelaw03_StripeTurned.j0 k l0 a1 a2 a3 a4 a5 t314 true) else (stowagelaw03_StripeTurned.j0 k l0 a1 a2 a3 a4 a5 t314 (a5 == 0))))) = some r := h
  clear h
  replace H := Option.bind_eq_some_iff.mp H
  obtain ⟨t314, A70, H⟩ := H
  replace H : (if (l0.length : Int) > 1000 then (stowagelaw03_StripeTurned.j0 k l0 a1 a2 a3 a4 a5 t314 true) else (if (l0.length : Int) = 0 then (stowagelaw03_StripeTurned.j0 k l0 a1 a2 a3 a4 a5 t314 true) else (stowagelaw03_StripeTurned.j0 k l0 a1 a2 a3 a4 a5 t314 (a5 == 0)))) = some r := H
  have A7 := Aside0.mk A70
  clear A70
  have HC8 := Aside0.mk H
  clear H
  go_enter Try.func10, Try.ntmps10
  go_upto_region 2 with (first | ((with_reducible refine gate_callee (f := 45) rfl ?_); refine goesL_ (some 20) rfl rfl Try.func45 (by kernel_rfl) rfl #[] rfl (by (try simp only [List.map_toArray, List.map_cons, List.map_nil]); first | done | rfl | (simp only [List.length_drop, List.length_take]; rfl)) ?_; (with_reducible refine (stowagelaw03_StripeKnown.calls k  t314 _ A7.out).mono ?_); rintro e w9 ⟨rfl, hb⟩; refine ⟨_, rfl, ?_⟩; have n0_ := Aside0.mk (below_step (by repeat (first | (with_reducible first | exact HB.out | apply below_alloc | apply pw_below_drewN | apply below_drew1) | exact HB.out)) hb); clear HB; have HB := n0_; clear n0_; (try clear hb); (try clear hb2); (try clear hk); (try clear hi)))
  (try simp only [Act.put, List.setIfInBounds_toArray, List.set_cons_zero, List.set_cons_succ])
  go_cut [32] (fun v32 wc => ∃ (kq : Nat) (x32_7 : Bool), v32 = .bool x32_7 ∧ Aside0 (stowagelaw03_StripeTurned.j0 kq l0 a1 a2 a3 a4 a5 t314 x32_7 = some r) ∧ Aside0 (kq ≤ k) ∧ Aside0 (Below w.heap.size w wc))
  case first =>
    have H := HC8.out
    clear HC8
    by_cases c10 : (l0.length : Int) > 1000
    · rw [if_pos c10] at H
      have c10b0 : decide (1000 < (l0.length : Int)) = true := decide_eq_true c10
      have c10b1 : decide (1000 < l0.length) = true := decide_eq_true (by omega)
      clear c10
      (first | rw [c10b0] | (simp only [i64_w, i32_w]; rw [c10b0]) | skip)
      have H' := Aside0.mk H
      clear H
      go_wp2
      go_meet
      case rel => exact ⟨_, (true), (by first | rfl | (simp; done) | (simp [*]; done)), H', ⟨by first | omega | exact Nat.le_refl _⟩, ⟨by repeat (first | (with_reducible first | exact HB.out | apply below_alloc | apply pw_below_drewN | apply below_drew1) | exact HB.out)⟩⟩
    · rw [if_neg c10] at H
      have c10b0 : decide (1000 < (l0.length : Int)) = false := decide_eq_false c10
      have c10b1 : decide (1000 < l0.length) = false := decide_eq_false (by omega)
      clear c10
      (first | rw [c10b0] | (simp only [i64_w, i32_w]; rw [c10b0]) | skip)
      by_cases c11 : (l0.length : Int) = 0
      · rw [if_pos c11] at H
        have c11b0 : ((l0.length : Int) == 0) = true := beq_iff_eq.mpr c11
        have c11b1 : ((l0.length : Int) != 0) = false := bne_eq_false_iff_eq.mpr c11
        clear c11
        have H' := Aside0.mk H
        clear H
        go_wp2
        go_meet
        case rel => exact ⟨_, (true), (by first | rfl | (simp; done) | (simp [*]; done)), H', ⟨by first | omega | exact Nat.le_refl _⟩, ⟨by repeat (first | (with_reducible first | exact HB.out | apply below_alloc | apply pw_below_drewN | apply below_drew1) | exact HB.out)⟩⟩
      · rw [if_neg c11] at H
        have c11b0 : ((l0.length : Int) == 0) = false := beq_eq_false_iff_ne.mpr c11
        have c11b1 : ((l0.length : Int) != 0) = true := bne_iff_ne.mpr c11
        have c11b2 : ¬ (l0 = []) := fun h_ => c11 (by rw [h_]; rfl)
        have H' := Aside0.mk H
        clear H
        go_wp2
        go_meet
        case rel => exact ⟨_, ((a5 == 0)), (by first | rfl | (simp; done) | (simp [*]; done)), H', ⟨by first | omega | exact Nat.le_refl _⟩, ⟨by repeat (first | (with_reducible first | exact HB.out | apply below_alloc | apply pw_below_drewN | apply below_drew1) | exact HB.out)⟩⟩
  case rest =>
    clear HC8
    try clear c1
    try clear p2
    try clear c4
    try clear c10
    try clear c10b0
    try clear c10b1
    try clear c11
    try clear c11b0
    try clear c11b1
    try clear c11b2
    obtain ⟨kq, x32_7, rfl, HA, HJ7, HB⟩ := hcut
    cases kq with
    | zero => exact absurd HA.out (by simp [stowagelaw03_StripeTurned.j0])
    | succ kj7 =>
      have H := HA.out
      clear HA
      simp only [stowagelaw03_StripeTurned.j0] at H
      by_cases c12 : x32_7 = true
      · subst c12
        have H1 : (some t314) = some r := by rw [if_pos rfl] at H; exact H
        clear H
        have H := H1
        clear H1
        obtain rfl := Option.some.inj H
        go_wp2
        go_ret
        exact ⟨by first | rfl | (simp [errW_none, errW_some] <;> rfl) | (simp [*, errW_none, errW_some] <;> rfl), by repeat (first | (with_reducible first | exact HB.out | apply below_alloc | apply pw_below_drewN | apply below_drew1) | exact HB.out)⟩
      · replace c12 := Bool.eq_false_iff.mpr c12
        subst c12
        have H1 : ((stripe_Split.f kj7 l0 a1 a2).bind fun bt315 => (if bt315.2 = 0 then (if (bt315.1.length : Int) = (wrap64 (a1 + a2)) then (if 0 < (bt315.1.length : Int) then (stowagelaw03_StripeTurned.j1 kj7 a1 a2 a3 a4 a5 t314 bt315.1 (((rd_L1 bt315.1 0).length : Int) == 0)) else (none)) else (stowagelaw03_StripeTurned.j1 kj7 a1 a2 a3 a4 a5 t314 bt315.1 true)) else (some t314))) = some r := by rw [if_neg (show ¬ (false = true) by decide)] at H; exact H
        clear H
        have H := H1
        clear H1
        replace H := Option.bind_eq_some_iff.mp H
        obtain ⟨⟨t315, t316⟩, A130, H⟩ := H
        replace H : (if t316 = 0 then (if (t315.length : Int) = (wrap64 (a1 + a2)) then (if 0 < (t315.length : Int) then (stowagelaw03_StripeTurned.j1 kj7 a1 a2 a3 a4 a5 t314 t315 (((rd_L1 t315 0).length : Int) == 0)) else (none)) else (stowagelaw03_StripeTurned.j1 kj7 a1 a2 a3 a4 a5 t314 t315 true)) else (some t314)) = some r := H
        have A13 := Aside0.mk A130
        clear A130
        by_cases c14 : t316 = 0
        · rw [if_pos c14] at H
          have c14b0 : (t316 == 0) = true := beq_iff_eq.mpr c14
          have c14b1 : (t316 != 0) = false := bne_eq_false_iff_eq.mpr c14
          clear c14
          have HC15 := Aside0.mk H
          clear H
          go_upto_region 7 with (first | ((with_reducible refine gate_callee (f := 39) rfl ?_); refine goesL_ (some 38) rfl rfl Try.func39 (by kernel_rfl) rfl #[.slice A0 l0.length c0, .int .i64 a1, .int .i64 a2] rfl (by (try simp only [List.map_toArray, List.map_cons, List.map_nil]); first | done | rfl | (simp only [List.length_drop, List.length_take]; rfl)) ?_; (with_reducible refine (stripe_Split.calls kj7 _ _ l0 a1 a2 t315 t316 _ ?side1 ?side2 A13.out).mono ?_); (case side1 => repeat (first | exact (Kd.C_below HR0.out HB.out) | (with_reducible refine Kd.C_alloc ?_ _) | (with_reducible refine Kd.C_drewN ?_ _) | (with_reducible refine Kd.C_drew ?_))); (case side2 => exact HC0.out); rintro e w16 ⟨v317, rfl, ho0, hb⟩; refine ⟨_, rfl, ?_⟩; have n0_ := Aside0.mk (Kd.S_lower ho0 (below_size (by repeat (first | (with_reducible first | exact HB.out | apply below_alloc | apply pw_below_drewN | apply below_drew1) | exact HB.out)))); have n1_ := Aside0.mk (below_step (by repeat (first | (with_reducible first | exact HB.out | apply below_alloc | apply pw_below_drewN | apply below_drew1) | exact HB.out)) hb); clear HB; have HO318 := n0_; have HB := n1_; clear n0_ n1_; (try clear hb); (try clear hb2); (try clear hk); (try clear hi); (try clear ho0)))
          (try simp only [Act.put, List.setIfInBounds_toArray, List.set_cons_zero, List.set_cons_succ])
          go_cut [56] (fun v56 wc => ∃ (kq : Nat) (x56_14 : Bool), v56 = .bool x56_14 ∧ Aside0 (stowagelaw03_StripeTurned.j1 kq a1 a2 a3 a4 a5 t314 t315 x56_14 = some r) ∧ Aside0 (kq ≤ kj7) ∧ Aside0 (Kd.S (Kd.slice 5 (Kd.int .u8)) 41 wc w.heap.size (fun _ => True) v317 t315) ∧ Aside0 (Below w.heap.size w wc))
          case first =>
            have H := HC15.out
            clear HC15
            by_cases c17 : (t315.length : Int) = (wrap64 (a1 + a2))
            · rw [if_pos c17] at H
              have c17b0 : ((t315.length : Int) == (wrap64 (a1 + a2))) = true := beq_iff_eq.mpr c17
              have c17b1 : ((t315.length : Int) != (wrap64 (a1 + a2))) = false := bne_eq_false_iff_eq.mpr c17
              clear c17
              (first | rw [c17b0] | (simp only [i64_w, i32_w]; rw [c17b0]) | skip)
              by_cases c18 : 0 < (t315.length : Int)
              · rw [if_pos c18] at H
                have c18b0 : decide (0 < (t315.length : Int)) = true := decide_eq_true c18
                have c18b1 : decide (0 < t315.length) = true := decide_eq_true (by omega)
                clear c18
                have H' := Aside0.mk H
                clear H
                obtain ⟨Ao19, co19, eo19⟩ := Kd.S_slice HO318.out
                subst eo19
                have p319 : 0 ≤ (0 : Int) := (by omega)
                have q319 : 0 < (t315.length : Int) := of_decide_eq_true (by first | (with_reducible assumption) | assumption)
                obtain ⟨ad319, A319_0, c319_0, e319, hx319_0, hl319_0, hi319_0⟩ := at_L1 (Kd.S_reads' HO318.out).2.2 0 p319 q319
                cases e319
                obtain ⟨ce319, hce319, hMe319, hcc319⟩ := Kd.S_get HO318.out [] 0 p319 (by first | exact q319 | exact of_decide_eq_true (by first | (with_reducible assumption) | assumption) | (have e_ := (Kd.S_reads' HO318.out).1; omega))
                obtain ⟨ve319_0, rfl, ge319_0⟩ := hMe319
                have hv319_0 := hcc319 0 _ rfl
                rw [Nat.add_zero, show ((Kd.slice 5 (Kd.int .u8))).sz = 1 from rfl, Nat.mul_one] at hv319_0
                replace hv319_0 := Option.some.inj (hv319_0.symm.trans hx319_0)
                rw [hv319_0] at ge319_0
                have HL319_0 := Aside0.mk (show Kd.R (Kd.int .u8) 5 _ _ _ _ (rd_L1 t315 0) from ge319_0)
                clear hv319_0 ge319_0
                have HX319_0 := Aside0.mk hx319_0
                clear hcc319 hce319
                have qi319 : (0 < t315.length) = True := eq_true (by omega)
                (try rw [show ((0 : Int)).toNat = 0 from rfl] at hx319_0)
                (try rw [Addr.add_zero'] at hx319_0)
                have HR319_0 := Aside0.mk hi319_0
                have HC319_0 := Aside0.mk hl319_0
                clear hi319_0 hl319_0
                replace p319 := eq_true p319
                replace q319 := eq_true q319
                go_wp2
                go_meet
                case rel => exact ⟨_, ((((rd_L1 t315 0).length : Int) == 0)), (by first | rfl | (simp; done) | (simp [*]; done)), H', ⟨by have := HJ7.out; first | omega | exact Nat.le_refl _⟩, ⟨by (with_reducible repeat (first | apply Kd.S_alloc | apply Kd.S_drewN | apply Kd.S_drew)); exact HO318.out⟩, ⟨by repeat (first | (with_reducible first | exact HB.out | apply below_alloc | apply pw_below_drewN | apply below_drew1) | exact HB.out)⟩⟩
              · rw [if_neg c18] at H
                exact absurd H (by simp)
            · rw [if_neg c17] at H
              have c17b0 : ((t315.length : Int) == (wrap64 (a1 + a2))) = false := beq_eq_false_iff_ne.mpr c17
              have c17b1 : ((t315.length : Int) != (wrap64 (a1 + a2))) = true := bne_iff_ne.mpr c17
              (first | rw [c17b0] | (simp only [i64_w, i32_w]; rw [c17b0]) | skip)
              have H' := Aside0.mk H
              clear H
              obtain ⟨Ao20, co20, eo20⟩ := Kd.S_slice HO318.out
              subst eo20
              go_wp2
              go_meet
              case rel => exact ⟨_, (true), (by first | rfl | (simp; done) | (simp [*]; done)), H', ⟨by have := HJ7.out; first | omega | exact Nat.le_refl _⟩, ⟨by (with_reducible repeat (first | apply Kd.S_alloc | apply Kd.S_drewN | apply Kd.S_drew)); exact HO318.out⟩, ⟨by repeat (first | (with_reducible first | exact HB.out | apply below_alloc | apply pw_below_drewN | apply below_drew1) | exact HB.out)⟩⟩
          case rest =>
            clear HC15
            try clear c1
            try clear p2
            try clear c3
            try clear p3
            try clear q3
            try clear hx3
            try clear qi3
            try clear c4
            try clear p6
            try clear c10
            try clear c10b0
            try clear c10b1
            try clear c11
            try clear c11b0
            try clear c11b1
            try clear c11b2
            try clear c12
            try clear c14
            try clear c14b0
            try clear c14b1
            try clear c17
            try clear c17b0
            try clear c17b1
            try clear c18
            try clear c18b0
            try clear c18b1
            try clear hx319_0
            try clear p2
            try clear p319
            try clear q319
            obtain ⟨kq, x56_14, rfl, HA, HJ14, HO_14, HB⟩ := hcut
            cases kq with
            | zero => exact absurd HA.out (by simp [stowagelaw03_StripeTurned.j1])
            | succ kj14 =>
              have H := HA.out
              clear HA
              simp only [stowagelaw03_StripeTurned.j1] at H
              by_cases c21 : x56_14 = true
              · subst c21
                have H1 : (some false) = some r := by rw [if_pos rfl] at H; exact H
                clear H
                have H := H1
                clear H1
                obtain rfl := Option.some.inj H
                go_wp2
                go_ret
                exact ⟨by first | rfl | (simp [errW_none, errW_some] <;> rfl) | (simp [*, errW_none, errW_some] <;> rfl), by repeat (first | (with_reducible first | exact HB.out | apply below_alloc | apply pw_below_drewN | apply below_drew1) | exact HB.out)⟩
              · replace c21 := Bool.eq_false_iff.mpr c21
                subst c21
                have H1 : ((stowagekit_Pick.f a3 (wrap64 (a1 + a2))).bind fun t320 => (if 0 ≤ t320 then (if t320 < (t315.length : Int) then ((stowagekit_Pick.f a4 ((rd_L1 t315 t320).length : Int)).bind fun t322 => (if 0 ≤ t322 then (if t322 < ((rd_L1 t315 t320).length : Int) then ((stripe_Sound.f kj14 (t315.set (t320 : Int).toNat ((rd_L1 t315 t320).set (t322 : Int).toNat (Go.bits .xor .u8 (rd (rd_L1 t315 t320) t322) a5))) a1 a2).bind fun bt327 => (if t314 = true then (if bt327.2 = 0 then (some (!bt327.1)) else (some false)) else (some false))) else (none)) else (none))) else (none)) else (none))) = some r := by rw [if_neg (show ¬ (false = true) by decide)] at H; exact H
                clear H
                have H := H1
                clear H1
                replace H := Option.bind_eq_some_iff.mp H
                obtain ⟨t320, A220, H⟩ := H
                replace H : (if 0 ≤ t320 then (if t320 < (t315.length : Int) then ((stowagekit_Pick.f a4 ((rd_L1 t315 t320).length : Int)).bind fun t322 => (if 0 ≤ t322 then (if t322 < ((rd_L1 t315 t320).length : Int) then ((stripe_Sound.f kj14 (t315.set (t320 : Int).toNat ((rd_L1 t315 t320).set (t322 : Int).toNat (Go.bits .xor .u8 (rd (rd_L1 t315 t320) t322) a5))) a1 a2).bind fun bt327 => (if t314 = true then (if bt327.2 = 0 then (some (!bt327.1)) else (some false)) else (some false))) else (none)) else (none))) else (none)) else (none)) = some r := H
                have A22 := Aside0.mk A220
                clear A220
                by_cases c23 : 0 ≤ t320
                · rw [if_pos c23] at H
                  have c23b0 : decide (0 ≤ t320) = true := decide_eq_true c23
                  clear c23
                  by_cases c24 : t320 < (t315.length : Int)
                  · rw [if_pos c24] at H
                    have c24b0 : decide (t320 < (t315.length : Int)) = true := decide_eq_true c24
                    clear c24
                    replace H := Option.bind_eq_some_iff.mp H
                    obtain ⟨t322, A250, H⟩ := H
                    replace H : (if 0 ≤ t322 then (if t322 < ((rd_L1 t315 t320).length : Int) then ((stripe_Sound.f kj14 (t315.set (t320 : Int).toNat ((rd_L1 t315 t320).set (t322 : Int).toNat (Go.bits .xor .u8 (rd (rd_L1 t315 t320) t322) a5))) a1 a2).bind fun bt327 => (if t314 = true then (if bt327.2 = 0 then (some (!bt327.1)) else (some false)) else (some false))) else (none)) else (none)) = some r := H
                    have A25 := Aside0.mk A250
                    clear A250
                    by_cases c26 : 0 ≤ t322
                    · rw [if_pos c26] at H
                      have c26b0 : decide (0 ≤ t322) = true := decide_eq_true c26
                      clear c26
                      by_cases c27 : t322 < ((rd_L1 t315 t320).length : Int)
                      · rw [if_pos c27] at H
                        have c27b0 : decide (t322 < ((rd_L1 t315 t320).length : Int)) = true := decide_eq_true c27
                        clear c27
                        obtain ⟨y324, hy324⟩ : ∃ y_ : List Int, y_ = ((rd_L1 t315 t320).set (t322 : Int).toNat (Go.bits .xor .u8 (rd (rd_L1 t315 t320) t322) a5)) := ⟨_, rfl⟩
                        replace H : ((stripe_Sound.f kj14 (t315.set (t320 : Int).toNat y324) a1 a2).bind fun bt327 => (if t314 = true then (if bt327.2 = 0 then (some (!bt327.1)) else (some false)) else (some false))) = some r := by first | (rw [hy324]; with_reducible exact H) | (have H2_ := (Option.bind_some _ _).symm.trans H; rw [hy324]; with_reducible exact H2_) | (have H2_ := (Option.bind_some _ _).symm.trans H; with_reducible exact H2_) | with_reducible exact H | (rw [hy324]; exact H) | exact H
                        have Ny324 := Aside0.mk hy324
                        clear hy324
                        obtain ⟨y326, hy326⟩ : ∃ y_ : List (List Int), y_ = (t315.set (t320 : Int).toNat y324) := ⟨_, rfl⟩
                        replace H : ((stripe_Sound.f kj14 y326 a1 a2).bind fun bt327 => (if t314 = true then (if bt327.2 = 0 then (some (!bt327.1)) else (some false)) else (some false))) = some r := by first | (rw [hy326]; with_reducible exact H) | (have H2_ := (Option.bind_some _ _).symm.trans H; rw [hy326]; with_reducible exact H2_) | (have H2_ := (Option.bind_some _ _).symm.trans H; with_reducible exact H2_) | with_reducible exact H | (rw [hy326]; exact H) | exact H
                        have Ny326 := Aside0.mk hy326
                        clear hy326
                        replace H := Option.bind_eq_some_iff.mp H
                        obtain ⟨⟨t327, t328⟩, A290, H⟩ := H
                        replace H : (if t314 = true then (if t328 = 0 then (some (!t327)) else (some false)) else (some false)) = some r := H
                        have A29 := Aside0.mk A290
                        clear A290
                        by_cases c30 : t314 = true
                        · subst c30
                          have H1 : (if t328 = 0 then (some (!t327)) else (some false)) = some r := by rw [if_pos rfl] at H; exact H
                          clear H
                          have H := H1
                          clear H1
                          by_cases c31 : t328 = 0
                          · rw [if_pos c31] at H
                            have c31b0 : (t328 == 0) = true := beq_iff_eq.mpr c31
                            have c31b1 : (t328 != 0) = false := bne_eq_false_iff_eq.mpr c31
                            clear c31
                            obtain rfl := Option.some.inj H
                            go_wp2_with (first | ((with_reducible refine gate_callee (f := 37) rfl ?_); refine goesL_ (some 62) rfl rfl Try.func37 (by kernel_rfl) rfl #[.int .i64 a3, .int .i64 (wrap64 (a1 + a2))] rfl (by (try simp only [List.map_toArray, List.map_cons, List.map_nil]); first | done | rfl | (simp only [List.length_drop, List.length_take]; rfl)) ?_; (with_reducible refine (stowagekit_Pick.calls a3 (wrap64 (a1 + a2)) t320 _ A22.out).mono ?_); rintro e w' ⟨rfl, ⟨nd, rfl⟩⟩; refine ⟨_, rfl, ?_⟩; (try (rw [drewN_self wc]; generalize hq_ : World.drewN wc _ = wc; have n0_ : Aside0 (Kd.S (Kd.slice 5 (Kd.int .u8)) 41 wc w.heap.size (fun _ => True) v317 t315) := ⟨by rw [← hq_]; exact (by (with_reducible repeat (first | apply Kd.S_alloc | apply Kd.S_drewN | apply Kd.S_drew)); exact HO_14.out)⟩; have n1_ : Aside0 (Below w.heap.size w wc) := ⟨by rw [← hq_]; exact (by repeat (first | (with_reducible first | exact HB.out | apply below_alloc | apply pw_below_drewN | apply below_drew1) | exact HB.out))⟩; clear HO_14 HB hq_; have HO_14 := n0_; have HB := n1_; clear n0_ n1_)); obtain ⟨Ao32, co32, eo32⟩ := Kd.S_slice HO_14.out; subst eo32; have p321 : 0 ≤ (t320 : Int) := of_decide_eq_true (by first | (with_reducible assumption) | assumption); have q321 : t320 < (t315.length : Int) := of_decide_eq_true (by first | (with_reducible assumption) | assumption); obtain ⟨ad321, A321_0, c321_0, e321, hx321_0, hl321_0, hi321_0⟩ := at_L1 (Kd.S_reads' HO_14.out).2.2 t320 p321 q321; cases e321; obtain ⟨ce321, hce321, hMe321, hcc321⟩ := Kd.S_get HO_14.out [] t320 p321 (by first | exact q321 | exact of_decide_eq_true (by first | (with_reducible assumption) | assumption) | (have e_ := (Kd.S_reads' HO_14.out).1; omega)); obtain ⟨ve321_0, rfl, ge321_0⟩ := hMe321; have hv321_0 := hcc321 0 _ rfl; rw [Nat.add_zero, show ((Kd.slice 5 (Kd.int .u8))).sz = 1 from rfl, Nat.mul_one] at hv321_0; replace hv321_0 := Option.some.inj (hv321_0.symm.trans hx321_0); rw [hv321_0] at ge321_0; have HL321_0 := Aside0.mk (show Kd.R (Kd.int .u8) 5 _ _ _ _ (rd_L1 t315 t320) from ge321_0); clear hv321_0 ge321_0; have HX321_0 := Aside0.mk hx321_0; clear hcc321 hce321; have HR321_0 := Aside0.mk hi321_0; have HC321_0 := Aside0.mk hl321_0; clear hi321_0 hl321_0; replace p321 := eq_true p321; replace q321 := eq_true q321) | ((with_reducible refine gate_callee (f := 37) rfl ?_); refine goesL_ (some 68) rfl rfl Try.func37 (by kernel_rfl) rfl #[.int .i64 a4, .int .i64 ((rd_L1 t315 t320).length : Int)] rfl (by (try simp only [List.map_toArray, List.map_cons, List.map_nil]); first | done | rfl | (simp only [List.length_drop, List.length_take]; rfl)) ?_; (with_reducible refine (stowagekit_Pick.calls a4 ((rd_L1 t315 t320).length : Int) t322 _ A25.out).mono ?_); rintro e w' ⟨rfl, ⟨nd, rfl⟩⟩; refine ⟨_, rfl, ?_⟩; (try (rw [drewN_self wc]; generalize hq_ : World.drewN wc _ = wc; have n0_ : Aside0 (Kd.R (Kd.int .u8) 5 wc w.heap.size (fun k_ => some k_ ≠ (.slice (some ad321) t315.length co32 : Value).ownBlock) (.slice A321_0 (rd_L1 t315 t320).length c321_0) (rd_L1 t315 t320)) := ⟨by rw [← hq_]; exact (by (with_reducible repeat (first | apply Kd.R_alloc | apply Kd.R_drewN | apply Kd.R_drew)); exact Kd.R_mono HL321_0.out (fun _ hk => hk.2))⟩; have n1_ : Aside0 (Kd.S (Kd.slice 5 (Kd.int .u8)) 41 wc w.heap.size (fun _ => True) (.slice (some ad321) t315.length co32) t315) := ⟨by rw [← hq_]; exact (by (with_reducible repeat (first | apply Kd.S_alloc | apply Kd.S_drewN | apply Kd.S_drew)); exact HO_14.out)⟩; have n2_ : Aside0 (Below w.heap.size w wc) := ⟨by rw [← hq_]; exact (by repeat (first | (with_reducible first | exact HB.out | apply below_alloc | apply pw_below_drewN | apply below_drew1) | exact HB.out))⟩; have n3_ : Aside0 (Kd.C (Kd.int .u8) wc A321_0 (rd_L1 t315 t320).length (rd_L1 t315 t320)) := ⟨by rw [← hq_]; exact (by repeat (first | (with_reducible exact HR321_0.out) | (with_reducible refine Kd.C_alloc ?_ _) | (with_reducible refine Kd.C_drewN ?_ _) | (with_reducible refine Kd.C_drew ?_) | exact HR321_0.out))⟩; have nx_ : Aside0 (World.cell? wc (ad321.add t320.toNat) = some (.slice A321_0 (rd_L1 t315 t320).length c321_0)) := ⟨by rw [← hq_]; exact HX321_0.out⟩; clear HX321_0; have HX321_0 := nx_; clear nx_; clear HL321_0 HO_14 HB HR321_0 hq_; have HL321_0 := n0_; have HO_14 := n1_; have HB := n2_; have HR321_0 := n3_; clear n0_ n1_ n2_ n3_)); have p323 : 0 ≤ (t322 : Int) := of_decide_eq_true (by first | (with_reducible assumption) | assumption); have q323 : t322 < ((rd_L1 t315 t320).length : Int) := of_decide_eq_true (by first | (with_reducible assumption) | assumption); obtain ⟨ad323, e323, hx323_0⟩ := Kd.at_int (by repeat (first | (with_reducible exact HR321_0.out) | (with_reducible refine Kd.C_alloc ?_ _) | (with_reducible refine Kd.C_drewN ?_ _) | (with_reducible refine Kd.C_drew ?_) | exact HR321_0.out)) t322 p323 q323; cases e323; replace p323 := eq_true p323; replace q323 := eq_true q323; have p28 : 0 ≤ (t322 : Int) := of_decide_eq_true (by first | (with_reducible assumption) | assumption); have q28 : (t322 : Int) < (((rd_L1 t315 t320).length : Int) : Int) := of_decide_eq_true (by first | (with_reducible assumption) | assumption); obtain ⟨go28, co28, eo28, gb28, gl28, cl28, HG28⟩ := Kd.R_form HL321_0.out (by omega); (first | cases eo28 | (injection eo28 with ea_ en_ ec_; (first | subst ea_ | (injection ea_ with ea_; subst ea_)); subst ec_; clear en_)); have GB28 := Aside0.mk gb28; have GG28 := Aside0.mk HG28; clear gb28 gl28 HG28; (first | simp only [add_plain] at hx323_0 | skip); obtain ⟨hx28_0, hf28_0⟩ := Kd.R_celln 0 HL321_0.out (t322 : Int) p28 q28; replace p28 := eq_true p28; replace q28 := eq_true q28; have hq33 : (t320 : Int) < (t315.length : Int) := (by have h_ : (t320 : Int) < ((t315.length : Int) : Int) := of_decide_eq_true (by first | (with_reducible assumption) | assumption); first | exact h_ | (have e_ := (Kd.S_reads' HO_14.out).1; omega) | simpa only [List.length_set, List.length_set] using h_); obtain ⟨oki33, ce33, hcl33, hM33, hcc33, hok33, hbk33⟩ := Kd.S_borrow HO_14.out [] (t320 : Int) (of_decide_eq_true (by first | (with_reducible assumption) | assumption)) hq33; obtain ⟨ve33_0, rfl, ge33_0⟩ := hM33; have hv33 := hcc33 0 _ rfl; rw [Nat.add_zero, show ((Kd.slice 5 (Kd.int .u8))).sz = 1 from rfl, Nat.mul_one] at hv33; replace hv33 := Option.some.inj (hv33.symm.trans HX321_0.out); subst hv33; clear hcc33 hcl33; replace ge33_0 := (show Kd.R (Kd.int .u8) 5 _ _ _ _ (rd_L1 t315 t320) from ge33_0); have HP33 := Kd.R_putg ge33_0 (t322 : Int) (Go.bits .xor .u8 (rd (rd_L1 t315 t320) t322) a5)) | ((with_reducible refine gate_store (t := 5) (p := 77) rfl ?_); refine store_event (t := 5) (p := 77) (v := ?vo_w34) (w1 := (wc.setCell ⟨go28, (t322 : Int).toNat, none⟩ (.int .u8 (Go.bits .xor .u8 (rd (rd_L1 t315 t320) t322) a5)))) ?hg ?ho ?hn ?hr ?_; (case ho => rfl); (case hg => rfl); (case hn => rfl); (case hr => first | (go_simp; done) | (go_simp; rfl)); intro w34 hw; have hg : wc.grownBy w34 (some go28) := (by rw [hw]; exact HP33.2); have hz_ : Kd.R (Kd.int .u8) 5 w34 w.heap.size oki33 (.slice (some ⟨go28, 0, none⟩) (rd_L1 t315 t320).length c321_0) y324 := (by rw [hw, Ny324.out]; exact HP33.1); have hp_ : Kd.S (Kd.slice 5 (Kd.int .u8)) 41 w34 w.heap.size (fun _ => True) (.slice (some ad321) t315.length co32) y326 := (by rw [Ny326.out]; exact hbk33 hg (fun k_ e_ => by injection e_ with e_; subst e_; exact ge33_0.1 _ rfl) (Kd.M_row hz_)); have hm_ := Kd.R_mono hz_ hok33; clear HP33 hbk33; have n0_ := Aside0.mk (hp_); have n1_ := Aside0.mk ((by rw [hw]; exact below_set (HB.out) GB28.out : Below w.heap.size w w34)); have n2_ := Aside0.mk (hm_); have n3_ := Aside0.mk ((Kd.R_reads' hm_).2.1); clear HO_14; clear HB; clear HL321_0; have HO_14 := n0_; have HB := n1_; have HL329 := n2_; have HC325 := n3_; clear n0_ n1_ n2_ n3_; clear hg hw hp_ hz_ hm_ hok33) | ((with_reducible refine gate_callee (f := 49) rfl ?_); refine goesL_ (some 82) rfl rfl Try.func49 (by kernel_rfl) rfl #[.slice (some ad321) y326.length co32, .int .i64 a1, .int .i64 a2] rfl (by (try simp only [List.map_toArray, List.map_cons, List.map_nil]); first | done | (rw [show y326.length = t315.length from (Kd.S_reads' HO_14.out).1.symm] <;> rfl) | rfl | (simp only [List.length_drop, List.length_take]; rfl)) ?_; (with_reducible refine (stripe_Sound.calls kj14 _ _ y326 a1 a2 t327 t328 _ ?side1 ?side2 A29.out).mono ?_); (case side1 => repeat (first | exact (Kd.S_reads' HO_14.out).2.2 | (with_reducible refine Kd.C_alloc ?_ _) | (with_reducible refine Kd.C_drewN ?_ _) | (with_reducible refine Kd.C_drew ?_))); (case side2 => rw [show y326.length = t315.length from (Kd.S_reads' HO_14.out).1.symm]; exact (Kd.S_reads' HO_14.out).2.1); rintro e w35 ⟨rfl, hb⟩; refine ⟨_, rfl, ?_⟩; have n0_ := Aside0.mk (Kd.S_below (by (with_reducible repeat (first | apply Kd.S_alloc | apply Kd.S_drewN | apply Kd.S_drew)); exact HO_14.out) hb); have n1_ := Aside0.mk (Kd.R_below (by (with_reducible repeat (first | apply Kd.R_alloc | apply Kd.R_drewN | apply Kd.R_drew)); exact HL329.out) hb); have n2_ := Aside0.mk (below_step (by repeat (first | (with_reducible first | exact HB.out | apply below_alloc | apply pw_below_drewN | apply below_drew1) | exact HB.out)) hb); clear HO_14; clear HL329; clear HB; have HO_14 := n0_; have HL329 := n1_; have HB := n2_; clear n0_ n1_ n2_; (try clear hb); (try clear hb2); (try clear hk); (try clear hi)))
                            go_ret
                            exact ⟨by first | rfl | (simp [errW_none, errW_some] <;> rfl) | (simp [*, errW_none, errW_some] <;> rfl), by repeat (first | (with_reducible first | exact HB.out | apply below_alloc | apply pw_below_drewN | apply below_drew1) | exact HB.out)⟩
                          · rw [if_neg c31] at H
                            have c31b0 : (t328 == 0) = false := beq_eq_false_iff_ne.mpr c31
                            have c31b1 : (t328 != 0) = true := bne_iff_ne.mpr c31
                            obtain rfl := Option.some.inj H
                            go_wp2_with (first | ((with_reducible refine gate_callee (f := 37) rfl ?_); refine goesL_ (some 62) rfl rfl Try.func37 (by kernel_rfl) rfl #[.int .i64 a3, .int .i64 (wrap64 (a1 + a2))] rfl (by (try simp only [List.map_toArray, List.map_cons, List.map_nil]); first | done | rfl | (simp only [List.length_drop, List.length_take]; rfl)) ?_; (with_reducible refine (stowagekit_Pick.calls a3 (wrap64 (a1 + a2)) t320 _ A22.out).mono ?_); rintro e w' ⟨rfl, ⟨nd, rfl⟩⟩; refine ⟨_, rfl, ?_⟩; (try (rw [drewN_self wc]; generalize hq_ : World.drewN wc _ = wc; have n0_ : Aside0 (Kd.S (Kd.slice 5 (Kd.int .u8)) 41 wc w.heap.size (fun _ => True) v317 t315) := ⟨by rw [← hq_]; exact (by (with_reducible repeat (first | apply Kd.S_alloc | apply Kd.S_drewN | apply Kd.S_drew)); exact HO_14.out)⟩; have n1_ : Aside0 (Below w.heap.size w wc) := ⟨by rw [← hq_]; exact (by repeat (first | (with_reducible first | exact HB.out | apply below_alloc | apply pw_below_drewN | apply below_drew1) | exact HB.out))⟩; clear HO_14 HB hq_; have HO_14 := n0_; have HB := n1_; clear n0_ n1_)); obtain ⟨Ao36, co36, eo36⟩ := Kd.S_slice HO_14.out; subst eo36; have p321 : 0 ≤ (t320 : Int) := of_decide_eq_true (by first | (with_reducible assumption) | assumption); have q321 : t320 < (t315.length : Int) := of_decide_eq_true (by first | (with_reducible assumption) | assumption); obtain ⟨ad321, A321_0, c321_0, e321, hx321_0, hl321_0, hi321_0⟩ := at_L1 (Kd.S_reads' HO_14.out).2.2 t320 p321 q321; cases e321; obtain ⟨ce321, hce321, hMe321, hcc321⟩ := Kd.S_get HO_14.out [] t320 p321 (by first | exact q321 | exact of_decide_eq_true (by first | (with_reducible assumption) | assumption) | (have e_ := (Kd.S_reads' HO_14.out).1; omega)); obtain ⟨ve321_0, rfl, ge321_0⟩ := hMe321; have hv321_0 := hcc321 0 _ rfl; rw [Nat.add_zero, show ((Kd.slice 5 (Kd.int .u8))).sz = 1 from rfl, Nat.mul_one] at hv321_0; replace hv321_0 := Option.some.inj (hv321_0.symm.trans hx321_0); rw [hv321_0] at ge321_0; have HL321_0 := Aside0.mk (show Kd.R (Kd.int .u8) 5 _ _ _ _ (rd_L1 t315 t320) from ge321_0); clear hv321_0 ge321_0; have HX321_0 := Aside0.mk hx321_0; clear hcc321 hce321; have HR321_0 := Aside0.mk hi321_0; have HC321_0 := Aside0.mk hl321_0; clear hi321_0 hl321_0; replace p321 := eq_true p321; replace q321 := eq_true q321) | ((with_reducible refine gate_callee (f := 37) rfl ?_); refine goesL_ (some 68) rfl rfl Try.func37 (by kernel_rfl) rfl #[.int .i64 a4, .int .i64 ((rd_L1 t315 t320).length : Int)] rfl (by (try simp only [List.map_toArray, List.map_cons, List.map_nil]); first | done | rfl | (simp only [List.length_drop, List.length_take]; rfl)) ?_; (with_reducible refine (stowagekit_Pick.calls a4 ((rd_L1 t315 t320).length : Int) t322 _ A25.out).mono ?_); rintro e w' ⟨rfl, ⟨nd, rfl⟩⟩; refine ⟨_, rfl, ?_⟩; (try (rw [drewN_self wc]; generalize hq_ : World.drewN wc _ = wc; have n0_ : Aside0 (Kd.R (Kd.int .u8) 5 wc w.heap.size (fun k_ => some k_ ≠ (.slice (some ad321) t315.length co36 : Value).ownBlock) (.slice A321_0 (rd_L1 t315 t320).length c321_0) (rd_L1 t315 t320)) := ⟨by rw [← hq_]; exact (by (with_reducible repeat (first | apply Kd.R_alloc | apply Kd.R_drewN | apply Kd.R_drew)); exact Kd.R_mono HL321_0.out (fun _ hk => hk.2))⟩; have n1_ : Aside0 (Kd.S (Kd.slice 5 (Kd.int .u8)) 41 wc w.heap.size (fun _ => True) (.slice (some ad321) t315.length co36) t315) := ⟨by rw [← hq_]; exact (by (with_reducible repeat (first | apply Kd.S_alloc | apply Kd.S_drewN | apply Kd.S_drew)); exact HO_14.out)⟩; have n2_ : Aside0 (Below w.heap.size w wc) := ⟨by rw [← hq_]; exact (by repeat (first | (with_reducible first | exact HB.out | apply below_alloc | apply pw_below_drewN | apply below_drew1) | exact HB.out))⟩; have n3_ : Aside0 (Kd.C (Kd.int .u8) wc A321_0 (rd_L1 t315 t320).length (rd_L1 t315 t320)) := ⟨by rw [← hq_]; exact (by repeat (first | (with_reducible exact HR321_0.out) | (with_reducible refine Kd.C_alloc ?_ _) | (with_reducible refine Kd.C_drewN ?_ _) | (with_reducible refine Kd.C_drew ?_) | exact HR321_0.out))⟩; have nx_ : Aside0 (World.cell? wc (ad321.add t320.toNat) = some (.slice A321_0 (rd_L1 t315 t320).length c321_0)) := ⟨by rw [← hq_]; exact HX321_0.out⟩; clear HX321_0; have HX321_0 := nx_; clear nx_; clear HL321_0 HO_14 HB HR321_0 hq_; have HL321_0 := n0_; have HO_14 := n1_; have HB := n2_; have HR321_0 := n3_; clear n0_ n1_ n2_ n3_)); have p323 : 0 ≤ (t322 : Int) := of_decide_eq_true (by first | (with_reducible assumption) | assumption); have q323 : t322 < ((rd_L1 t315 t320).length : Int) := of_decide_eq_true (by first | (with_reducible assumption) | assumption); obtain ⟨ad323, e323, hx323_0⟩ := Kd.at_int (by repeat (first | (with_reducible exact HR321_0.out) | (with_reducible refine Kd.C_alloc ?_ _) | (with_reducible refine Kd.C_drewN ?_ _) | (with_reducible refine Kd.C_drew ?_) | exact HR321_0.out)) t322 p323 q323; cases e323; replace p323 := eq_true p323; replace q323 := eq_true q323; have p28 : 0 ≤ (t322 : Int) := of_decide_eq_true (by first | (with_reducible assumption) | assumption); have q28 : (t322 : Int) < (((rd_L1 t315 t320).length : Int) : Int) := of_decide_eq_true (by first | (with_reducible assumption) | assumption); obtain ⟨go28, co28, eo28, gb28, gl28, cl28, HG28⟩ := Kd.R_form HL321_0.out (by omega); (first | cases eo28 | (injection eo28 with ea_ en_ ec_; (first | subst ea_ | (injection ea_ with ea_; subst ea_)); subst ec_; clear en_)); have GB28 := Aside0.mk gb28; have GG28 := Aside0.mk HG28; clear gb28 gl28 HG28; (first | simp only [add_plain] at hx323_0 | skip); obtain ⟨hx28_0, hf28_0⟩ := Kd.R_celln 0 HL321_0.out (t322 : Int) p28 q28; replace p28 := eq_true p28; replace q28 := eq_true q28; have hq37 : (t320 : Int) < (t315.length : Int) := (by have h_ : (t320 : Int) < ((t315.length : Int) : Int) := of_decide_eq_true (by first | (with_reducible assumption) | assumption); first | exact h_ | (have e_ := (Kd.S_reads' HO_14.out).1; omega) | simpa only [List.length_set, List.length_set] using h_); obtain ⟨oki37, ce37, hcl37, hM37, hcc37, hok37, hbk37⟩ := Kd.S_borrow HO_14.out [] (t320 : Int) (of_decide_eq_true (by first | (with_reducible assumption) | assumption)) hq37; obtain ⟨ve37_0, rfl, ge37_0⟩ := hM37; have hv37 := hcc37 0 _ rfl; rw [Nat.add_zero, show ((Kd.slice 5 (Kd.int .u8))).sz = 1 from rfl, Nat.mul_one] at hv37; replace hv37 := Option.some.inj (hv37.symm.trans HX321_0.out); subst hv37; clear hcc37 hcl37; replace ge37_0 := (show Kd.R (Kd.int .u8) 5 _ _ _ _ (rd_L1 t315 t320) from ge37_0); have HP37 := Kd.R_putg ge37_0 (t322 : Int) (Go.bits .xor .u8 (rd (rd_L1 t315 t320) t322) a5)) | ((with_reducible refine gate_store (t := 5) (p := 77) rfl ?_); refine store_event (t := 5) (p := 77) (v := ?vo_w38) (w1 := (wc.setCell ⟨go28, (t322 : Int).toNat, none⟩ (.int .u8 (Go.bits .xor .u8 (rd (rd_L1 t315 t320) t322) a5)))) ?hg ?ho ?hn ?hr ?_; (case ho => rfl); (case hg => rfl); (case hn => rfl); (case hr => first | (go_simp; done) | (go_simp; rfl)); intro w38 hw; have hg : wc.grownBy w38 (some go28) := (by rw [hw]; exact HP37.2); have hz_ : Kd.R (Kd.int .u8) 5 w38 w.heap.size oki37 (.slice (some ⟨go28, 0, none⟩) (rd_L1 t315 t320).length c321_0) y324 := (by rw [hw, Ny324.out]; exact HP37.1); have hp_ : Kd.S (Kd.slice 5 (Kd.int .u8)) 41 w38 w.heap.size (fun _ => True) (.slice (some ad321) t315.length co36) y326 := (by rw [Ny326.out]; exact hbk37 hg (fun k_ e_ => by injection e_ with e_; subst e_; exact ge37_0.1 _ rfl) (Kd.M_row hz_)); have hm_ := Kd.R_mono hz_ hok37; clear HP37 hbk37; have n0_ := Aside0.mk (hp_); have n1_ := Aside0.mk ((by rw [hw]; exact below_set (HB.out) GB28.out : Below w.heap.size w w38)); have n2_ := Aside0.mk (hm_); have n3_ := Aside0.mk ((Kd.R_reads' hm_).2.1); clear HO_14; clear HB; clear HL321_0; have HO_14 := n0_; have HB := n1_; have HL330 := n2_; have HC325 := n3_; clear n0_ n1_ n2_ n3_; clear hg hw hp_ hz_ hm_ hok37) | ((with_reducible refine gate_callee (f := 49) rfl ?_); refine goesL_ (some 82) rfl rfl Try.func49 (by kernel_rfl) rfl #[.slice (some ad321) y326.length co36, .int .i64 a1, .int .i64 a2] rfl (by (try simp only [List.map_toArray, List.map_cons, List.map_nil]); first | done | (rw [show y326.length = t315.length from (Kd.S_reads' HO_14.out).1.symm] <;> rfl) | rfl | (simp only [List.length_drop, List.length_take]; rfl)) ?_; (with_reducible refine (stripe_Sound.calls kj14 _ _ y326 a1 a2 t327 t328 _ ?side1 ?side2 A29.out).mono ?_); (case side1 => repeat (first | exact (Kd.S_reads' HO_14.out).2.2 | (with_reducible refine Kd.C_alloc ?_ _) | (with_reducible refine Kd.C_drewN ?_ _) | (with_reducible refine Kd.C_drew ?_))); (case side2 => rw [show y326.length = t315.length from (Kd.S_reads' HO_14.out).1.symm]; exact (Kd.S_reads' HO_14.out).2.1); rintro e w39 ⟨rfl, hb⟩; refine ⟨_, rfl, ?_⟩; have n0_ := Aside0.mk (Kd.S_below (by (with_reducible repeat (first | apply Kd.S_alloc | apply Kd.S_drewN | apply Kd.S_drew)); exact HO_14.out) hb); have n1_ := Aside0.mk (Kd.R_below (by (with_reducible repeat (first | apply Kd.R_alloc | apply Kd.R_drewN | apply Kd.R_drew)); exact HL330.out) hb); have n2_ := Aside0.mk (below_step (by repeat (first | (with_reducible first | exact HB.out | apply below_alloc | apply pw_below_drewN | apply below_drew1) | exact HB.out)) hb); clear HO_14; clear HL330; clear HB; have HO_14 := n0_; have HL330 := n1_; have HB := n2_; clear n0_ n1_ n2_; (try clear hb); (try clear hb2); (try clear hk); (try clear hi)))
                            go_ret
                            exact ⟨by first | rfl | (simp [errW_none, errW_some] <;> rfl) | (simp [*, errW_none, errW_some] <;> rfl), by repeat (first | (with_reducible first | exact HB.out | apply below_alloc | apply pw_below_drewN | apply below_drew1) | exact HB.out)⟩
                        · replace c30 := Bool.eq_false_iff.mpr c30
                          subst c30
                          have H1 : (some false) = some r := by rw [if_neg (show ¬ (false = true) by decide)] at H; exact H
                          clear H
                          have H := H1
                          clear H1
                          obtain rfl := Option.some.inj H
                          go_wp2_with (first | ((with_reducible refine gate_callee (f := 37) rfl ?_); refine goesL_ (some 62) rfl rfl Try.func37 (by kernel_rfl) rfl #[.int .i64 a3, .int .i64 (wrap64 (a1 + a2))] rfl (by (try simp only [List.map_toArray, List.map_cons, List.map_nil]); first | done | rfl | (simp only [List.length_drop, List.length_take]; rfl)) ?_; (with_reducible refine (stowagekit_Pick.calls a3 (wrap64 (a1 + a2)) t320 _ A22.out).mono ?_); rintro e w' ⟨rfl, ⟨nd, rfl⟩⟩; refine ⟨_, rfl, ?_⟩; (try (rw [drewN_self wc]; generalize hq_ : World.drewN wc _ = wc; have n0_ : Aside0 (Kd.S (Kd.slice 5 (Kd.int .u8)) 41 wc w.heap.size (fun _ => True) v317 t315) := ⟨by rw [← hq_]; exact (by (with_reducible repeat (first | apply Kd.S_alloc | apply Kd.S_drewN | apply Kd.S_drew)); exact HO_14.out)⟩; have n1_ : Aside0 (Below w.heap.size w wc) := ⟨by rw [← hq_]; exact (by repeat (first | (with_reducible first | exact HB.out | apply below_alloc | apply pw_below_drewN | apply below_drew1) | exact HB.out))⟩; clear HO_14 HB hq_; have HO_14 := n0_; have HB := n1_; clear n0_ n1_)); obtain ⟨Ao40, co40, eo40⟩ := Kd.S_slice HO_14.out; subst eo40; have p321 : 0 ≤ (t320 : Int) := of_decide_eq_true (by first | (with_reducible assumption) | assumption); have q321 : t320 < (t315.length : Int) := of_decide_eq_true (by first | (with_reducible assumption) | assumption); obtain ⟨ad321, A321_0, c321_0, e321, hx321_0, hl321_0, hi321_0⟩ := at_L1 (Kd.S_reads' HO_14.out).2.2 t320 p321 q321; cases e321; obtain ⟨ce321, hce321, hMe321, hcc321⟩ := Kd.S_get HO_14.out [] t320 p321 (by first | exact q321 | exact of_decide_eq_true (by first | (with_reducible assumption) | assumption) | (have e_ := (Kd.S_reads' HO_14.out).1; omega)); obtain ⟨ve321_0, rfl, ge321_0⟩ := hMe321; have hv321_0 := hcc321 0 _ rfl; rw [Nat.add_zero, show ((Kd.slice 5 (Kd.int .u8))).sz = 1 from rfl, Nat.mul_one] at hv321_0; replace hv321_0 := Option.some.inj (hv321_0.symm.trans hx321_0); rw [hv321_0] at ge321_0; have HL321_0 := Aside0.mk (show Kd.R (Kd.int .u8) 5 _ _ _ _ (rd_L1 t315 t320) from ge321_0); clear hv321_0 ge321_0; have HX321_0 := Aside0.mk hx321_0; clear hcc321 hce321; have HR321_0 := Aside0.mk hi321_0; have HC321_0 := Aside0.mk hl321_0; clear hi321_0 hl321_0; replace p321 := eq_true p321; replace q321 := eq_true q321) | ((with_reducible refine gate_callee (f := 37) rfl ?_); refine goesL_ (some 68) rfl rfl Try.func37 (by kernel_rfl) rfl #[.int .i64 a4, .int .i64 ((rd_L1 t315 t320).length : Int)] rfl (by (try simp only [List.map_toArray, List.map_cons, List.map_nil]); first | done | rfl | (simp only [List.length_drop, List.length_take]; rfl)) ?_; (with_reducible refine (stowagekit_Pick.calls a4 ((rd_L1 t315 t320).length : Int) t322 _ A25.out).mono ?_); rintro e w' ⟨rfl, ⟨nd, rfl⟩⟩; refine ⟨_, rfl, ?_⟩; (try (rw [drewN_self wc]; generalize hq_ : World.drewN wc _ = wc; have n0_ : Aside0 (Kd.R (Kd.int .u8) 5 wc w.heap.size (fun k_ => some k_ ≠ (.slice (some ad321) t315.length co40 : Value).ownBlock) (.slice A321_0 (rd_L1 t315 t320).length c321_0) (rd_L1 t315 t320)) := ⟨by rw [← hq_]; exact (by (with_reducible repeat (first | apply Kd.R_alloc | apply Kd.R_drewN | apply Kd.R_drew)); exact Kd.R_mono HL321_0.out (fun _ hk => hk.2))⟩; have n1_ : Aside0 (Kd.S (Kd.slice 5 (Kd.int .u8)) 41 wc w.heap.size (fun _ => True) (.slice (some ad321) t315.length co40) t315) := ⟨by rw [← hq_]; exact (by (with_reducible repeat (first | apply Kd.S_alloc | apply Kd.S_drewN | apply Kd.S_drew)); exact HO_14.out)⟩; have n2_ : Aside0 (Below w.heap.size w wc) := ⟨by rw [← hq_]; exact (by repeat (first | (with_reducible first | exact HB.out | apply below_alloc | apply pw_below_drewN | apply below_drew1) | exact HB.out))⟩; have n3_ : Aside0 (Kd.C (Kd.int .u8) wc A321_0 (rd_L1 t315 t320).length (rd_L1 t315 t320)) := ⟨by rw [← hq_]; exact (by repeat (first | (with_reducible exact HR321_0.out) | (with_reducible refine Kd.C_alloc ?_ _) | (with_reducible refine Kd.C_drewN ?_ _) | (with_reducible refine Kd.C_drew ?_) | exact HR321_0.out))⟩; have nx_ : Aside0 (World.cell? wc (ad321.add t320.toNat) = some (.slice A321_0 (rd_L1 t315 t320).length c321_0)) := ⟨by rw [← hq_]; exact HX321_0.out⟩; clear HX321_0; have HX321_0 := nx_; clear nx_; clear HL321_0 HO_14 HB HR321_0 hq_; have HL321_0 := n0_; have HO_14 := n1_; have HB := n2_; have HR321_0 := n3_; clear n0_ n1_ n2_ n3_)); have p323 : 0 ≤ (t322 : Int) := of_decide_eq_true (by first | (with_reducible assumption) | assumption); have q323 : t322 < ((rd_L1 t315 t320).length : Int) := of_decide_eq_true (by first | (with_reducible assumption) | assumption); obtain ⟨ad323, e323, hx323_0⟩ := Kd.at_int (by repeat (first | (with_reducible exact HR321_0.out) | (with_reducible refine Kd.C_alloc ?_ _) | (with_reducible refine Kd.C_drewN ?_ _) | (with_reducible refine Kd.C_drew ?_) | exact HR321_0.out)) t322 p323 q323; cases e323; replace p323 := eq_true p323; replace q323 := eq_true q323; have p28 : 0 ≤ (t322 : Int) := of_decide_eq_true (by first | (with_reducible assumption) | assumption); have q28 : (t322 : Int) < (((rd_L1 t315 t320).length : Int) : Int) := of_decide_eq_true (by first | (with_reducible assumption) | assumption); obtain ⟨go28, co28, eo28, gb28, gl28, cl28, HG28⟩ := Kd.R_form HL321_0.out (by omega); (first | cases eo28 | (injection eo28 with ea_ en_ ec_; (first | subst ea_ | (injection ea_ with ea_; subst ea_)); subst ec_; clear en_)); have GB28 := Aside0.mk gb28; have GG28 := Aside0.mk HG28; clear gb28 gl28 HG28; (first | simp only [add_plain] at hx323_0 | skip); obtain ⟨hx28_0, hf28_0⟩ := Kd.R_celln 0 HL321_0.out (t322 : Int) p28 q28; replace p28 := eq_true p28; replace q28 := eq_true q28; have hq41 : (t320 : Int) < (t315.length : Int) := (by have h_ : (t320 : Int) < ((t315.length : Int) : Int) := of_decide_eq_true (by first | (with_reducible assumption) | assumption); first | exact h_ | (have e_ := (Kd.S_reads' HO_14.out).1; omega) | simpa only [List.length_set, List.length_set] using h_); obtain ⟨oki41, ce41, hcl41, hM41, hcc41, hok41, hbk41⟩ := Kd.S_borrow HO_14.out [] (t320 : Int) (of_decide_eq_true (by first | (with_reducible assumption) | assumption)) hq41; obtain ⟨ve41_0, rfl, ge41_0⟩ := hM41; have hv41 := hcc41 0 _ rfl; rw [Nat.add_zero, show ((Kd.slice 5 (Kd.int .u8))).sz = 1 from rfl, Nat.mul_one] at hv41; replace hv41 := Option.some.inj (hv41.symm.trans HX321_0.out); subst hv41; clear hcc41 hcl41; replace ge41_0 := (show Kd.R (Kd.int .u8) 5 _ _ _ _ (rd_L1 t315 t320) from ge41_0); have HP41 := Kd.R_putg ge41_0 (t322 : Int) (Go.bits .xor .u8 (rd (rd_L1 t315 t320) t322) a5)) | ((with_reducible refine gate_store (t := 5) (p := 77) rfl ?_); refine store_event (t := 5) (p := 77) (v := ?vo_w42) (w1 := (wc.setCell ⟨go28, (t322 : Int).toNat, none⟩ (.int .u8 (Go.bits .xor .u8 (rd (rd_L1 t315 t320) t322) a5)))) ?hg ?ho ?hn ?hr ?_; (case ho => rfl); (case hg => rfl); (case hn => rfl); (case hr => first | (go_simp; done) | (go_simp; rfl)); intro w42 hw; have hg : wc.grownBy w42 (some go28) := (by rw [hw]; exact HP41.2); have hz_ : Kd.R (Kd.int .u8) 5 w42 w.heap.size oki41 (.slice (some ⟨go28, 0, none⟩) (rd_L1 t315 t320).length c321_0) y324 := (by rw [hw, Ny324.out]; exact HP41.1); have hp_ : Kd.S (Kd.slice 5 (Kd.int .u8)) 41 w42 w.heap.size (fun _ => True) (.slice (some ad321) t315.length co40) y326 := (by rw [Ny326.out]; exact hbk41 hg (fun k_ e_ => by injection e_ with e_; subst e_; exact ge41_0.1 _ rfl) (Kd.M_row hz_)); have hm_ := Kd.R_mono hz_ hok41; clear HP41 hbk41; have n0_ := Aside0.mk (hp_); have n1_ := Aside0.mk ((by rw [hw]; exact below_set (HB.out) GB28.out : Below w.heap.size w w42)); have n2_ := Aside0.mk (hm_); have n3_ := Aside0.mk ((Kd.R_reads' hm_).2.1); clear HO_14; clear HB; clear HL321_0; have HO_14 := n0_; have HB := n1_; have HL331 := n2_; have HC325 := n3_; clear n0_ n1_ n2_ n3_; clear hg hw hp_ hz_ hm_ hok41) | ((with_reducible refine gate_callee (f := 49) rfl ?_); refine goesL_ (some 82) rfl rfl Try.func49 (by kernel_rfl) rfl #[.slice (some ad321) y326.length co40, .int .i64 a1, .int .i64 a2] rfl (by (try simp only [List.map_toArray, List.map_cons, List.map_nil]); first | done | (rw [show y326.length = t315.length from (Kd.S_reads' HO_14.out).1.symm] <;> rfl) | rfl | (simp only [List.length_drop, List.length_take]; rfl)) ?_; (with_reducible refine (stripe_Sound.calls kj14 _ _ y326 a1 a2 t327 t328 _ ?side1 ?side2 A29.out).mono ?_); (case side1 => repeat (first | exact (Kd.S_reads' HO_14.out).2.2 | (with_reducible refine Kd.C_alloc ?_ _) | (with_reducible refine Kd.C_drewN ?_ _) | (with_reducible refine Kd.C_drew ?_))); (case side2 => rw [show y326.length = t315.length from (Kd.S_reads' HO_14.out).1.symm]; exact (Kd.S_reads' HO_14.out).2.1); rintro e w43 ⟨rfl, hb⟩; refine ⟨_, rfl, ?_⟩; have n0_ := Aside0.mk (Kd.S_below (by (with_reducible repeat (first | apply Kd.S_alloc | apply Kd.S_drewN | apply Kd.S_drew)); exact HO_14.out) hb); have n1_ := Aside0.mk (Kd.R_below (by (with_reducible repeat (first | apply Kd.R_alloc | apply Kd.R_drewN | apply Kd.R_drew)); exact HL331.out) hb); have n2_ := Aside0.mk (below_step (by repeat (first | (with_reducible first | exact HB.out | apply below_alloc | apply pw_below_drewN | apply below_drew1) | exact HB.out)) hb); clear HO_14; clear HL331; clear HB; have HO_14 := n0_; have HL331 := n1_; have HB := n2_; clear n0_ n1_ n2_; (try clear hb); (try clear hb2); (try clear hk); (try clear hi)))
                          go_ret
                          exact ⟨by first | rfl | (simp [errW_none, errW_some] <;> rfl) | (simp [*, errW_none, errW_some] <;> rfl), by repeat (first | (with_reducible first | exact HB.out | apply below_alloc | apply pw_below_drewN | apply below_drew1) | exact HB.out)⟩
                      · rw [if_neg c27] at H
                        exact absurd H (by simp)
                    · rw [if_neg c26] at H
                      exact absurd H (by simp)
                  · rw [if_neg c24] at H
                    exact absurd H (by simp)
                · rw [if_neg c23] at H
                  exact absurd H (by simp)
        · rw [if_neg c14] at H
          have c14b0 : (t316 == 0) = false := beq_eq_false_iff_ne.mpr c14
          have c14b1 : (t316 != 0) = true := bne_iff_ne.mpr c14
          obtain rfl := Option.some.inj H
          go_wp2_with (first | ((with_reducible refine gate_callee (f := 39) rfl ?_); refine goesL_ (some 38) rfl rfl Try.func39 (by kernel_rfl) rfl #[.slice A0 l0.length c0, .int .i64 a1, .int .i64 a2] rfl (by (try simp only [List.map_toArray, List.map_cons, List.map_nil]); first | done | rfl | (simp only [List.length_drop, List.length_take]; rfl)) ?_; (with_reducible refine (stripe_Split.calls kj7 _ _ l0 a1 a2 t315 t316 _ ?side1 ?side2 A13.out).mono ?_); (case side1 => repeat (first | exact (Kd.C_below HR0.out HB.out) | (with_reducible refine Kd.C_alloc ?_ _) | (with_reducible refine Kd.C_drewN ?_ _) | (with_reducible refine Kd.C_drew ?_))); (case side2 => exact HC0.out); rintro e w44 ⟨v317, rfl, ho0, hb⟩; refine ⟨_, rfl, ?_⟩; have n0_ := Aside0.mk (Kd.S_lower ho0 (below_size (by repeat (first | (with_reducible first | exact HB.out | apply below_alloc | apply pw_below_drewN | apply below_drew1) | exact HB.out)))); have n1_ := Aside0.mk (below_step (by repeat (first | (with_reducible first | exact HB.out | apply below_alloc | apply pw_below_drewN | apply below_drew1) | exact HB.out)) hb); clear HB; have HO318 := n0_; have HB := n1_; clear n0_ n1_; (try clear hb); (try clear hb2); (try clear hk); (try clear hi); (try clear ho0)))
          go_ret
          exact ⟨by first | rfl | (simp [errW_none, errW_some] <;> rfl) | (simp [*, errW_none, errW_some] <;> rfl), by repeat (first | (with_reducible first | exact HB.out | apply below_alloc | apply pw_below_drewN | apply below_drew1) | exact HB.out)⟩

/-- THE ONE PURE STATEMENT of stowagelaw03_StripeTurned: yours. -/
def stowagelaw03_StripeTurned.Pure : Prop := ∀ (l0 : List Int) (a1 : Int) (a2 : Int) (a3 : Int) (a4 : Int) (a5 : Int), l0.length ≤ maxLen → l0.length * 1 ≤ 140737488351232 → (∀ x ∈ l0, (Lit.int .u8 x).wf = true) → (Lit.int .i64 a1).wf = true → (Lit.int .i64 a2).wf = true → (Lit.int .i64 a3).wf = true → (Lit.int .i64 a4).wf = true → (Lit.int .u8 a5).wf = true → ∃ k, stowagelaw03_StripeTurned.f k l0 a1 a2 a3 a4 a5 = some true
theorem stowagelaw03_StripeTurned.walk (P : stowagelaw03_StripeTurned.Pure) (a0 : Option Addr) (len0 cap0 : Nat) (z0 : List Int) (a1 : Int) (a2 : Int) (a3 : Int) (a4 : Int) (a5 : Int) (w : World) (w0 : (a0 = none ∧ len0 = 0 ∧ cap0 = 0 ∧ z0 = []) ∨ ∃ x, a0 = some x ∧ len0 ≤ cap0 ∧ cap0 ≤ maxLen ∧ z0.length = cap0 ∧ (∀ i, i < z0.length → w.cell? (x.add i) = some (.int .u8 (z0.getD i 0))) ∧ ∀ n ∈ z0, (Lit.int .u8 n).wf = true) (y0 : len0 * 1 ≤ 140737488351232) (w1 : (Lit.int .i64 a1).wf = true) (w2 : (Lit.int .i64 a2).wf = true) (w3 : (Lit.int .i64 a3).wf = true) (w4 : (Lit.int .i64 a4).wf = true) (w5 : (Lit.int .u8 a5).wf = true) :
    Calls Try.prog 10 #[.slice a0 len0 cap0, .int .i64 a1, .int .i64 a2, .int .i64 a3, .int .i64 a4, .int .u8 a5] w fun e w' => e = .returned (.bool true) ∧ Below w.heap.size w w' := by
  obtain ⟨l0, rfl, hr0, hm0, hw0, hc0⟩ := ReadsInt.ofRowC w0
  obtain ⟨k, h⟩ := P l0 a1 a2 a3 a4 a5 hm0 y0 hw0 w1 w2 w3 w4 w5
  refine (stowagelaw03_StripeTurned.calls k _ _ l0 a1 a2 a3 a4 a5 true w (Kd.C_of_reads (d := (0 : Int)) (h1 := fun _ => rfl) hr0) hc0 h).mono ?_
  rintro e w' ⟨rfl, hd⟩
  exact ⟨rfl, hd⟩

end Go.Proofs.Ythmlimkmcofkfaa.Q

/- Sums and matrices over the field of 256 numbers: plain laws; what sweeping a matrix with the one beside it comes to. -/
namespace Go.Proofs.Ythmlimkmcofkfaa.L
open Go.Proofs.Ythmlimkmcofkfaa.E
set_option linter.unusedVariables false

theorem byte_zero : Byte 0 := by unfold Byte; omega
theorem byte_one : Byte 1 := by unfold Byte; omega
theorem byte_nat {a : Int} (h : Byte a) : ((a.toNat : Nat) : Int) = a ∧ a.toNat < 256 := by unfold Byte at h; omega
theorem gadd_comm (a b : Int) : gadd a b = gadd b a := by unfold gadd; rw [Nat.xor_comm]
theorem gadd_assoc (a b c : Int) : gadd (gadd a b) c = gadd a (gadd b c) := by unfold gadd; simp only [Int.toNat_natCast]; rw [Nat.xor_assoc]
theorem gadd_self (a : Int) : gadd a a = 0 := by unfold gadd; simp
theorem gadd_zero {a : Int} (h : Byte a) : gadd a 0 = a := by unfold gadd; simp; exact (byte_nat h).1 ▸ by simp
theorem zero_gadd {a : Int} (h : Byte a) : gadd 0 a = a := by rw [gadd_comm, gadd_zero h]
theorem gadd_left_comm (a b c : Int) : gadd a (gadd b c) = gadd b (gadd a c) := by rw [← gadd_assoc, gadd_comm a b, gadd_assoc]
theorem gadd4 (a b c d : Int) : gadd (gadd a b) (gadd c d) = gadd (gadd a c) (gadd b d) := by rw [gadd_assoc, gadd_assoc, gadd_left_comm b c d]
theorem gmul_comm {a b : Int} (ha : Byte a) (hb : Byte b) : gmul a b = gmul b a := by unfold gmul; rw [Gf.mul_comm (byte_nat ha).2 (byte_nat hb).2]
theorem gmul_assoc {a b c : Int} (ha : Byte a) (hb : Byte b) (hc : Byte c) : gmul (gmul a b) c = gmul a (gmul b c) := by
  unfold gmul; simp only [Int.toNat_natCast]; rw [Gf.mul_assoc (byte_nat ha).2 (byte_nat hb).2 (byte_nat hc).2]
theorem gmul_gadd (a b c : Int) : gmul a (gadd b c) = gadd (gmul a b) (gmul a c) := by unfold gmul gadd; simp only [Int.toNat_natCast]; rw [Gf.mul_lin_b]
theorem gadd_gmul {a b : Int} (c : Int) (ha : Byte a) (hb : Byte b) : gmul (gadd a b) c = gadd (gmul a c) (gmul b c) := by
  unfold gmul gadd; simp only [Int.toNat_natCast]; rw [Gf.mul_lin_a _ (byte_nat ha).2 (byte_nat hb).2]
theorem gmul_zero (a : Int) : gmul a 0 = 0 := by unfold gmul; simp [Gf.mul_zero]
theorem zero_gmul (a : Int) : gmul 0 a = 0 := by unfold gmul; simp [Gf.zero_mul]
theorem gmul_one {a : Int} (h : Byte a) : gmul a 1 = a := by
  have := Gf.mul_one (byte_nat h).2
  unfold gmul; rw [show (1 : Int).toNat = 1 from rfl, this]; exact (byte_nat h).1
theorem one_gmul {a : Int} (h : Byte a) : gmul 1 a = a := by rw [gmul_comm byte_one h, gmul_one h]
theorem gmul_ginv {a : Int} (h : Byte a) (h0 : a ≠ 0) : gmul a (ginv a) = 1 := by
  have h1 := byte_nat h
  have := Gf.mul_inv h1.2 (by omega)
  unfold gmul ginv; simp only [Int.toNat_natCast]; rw [this]; rfl
theorem gmul_eq_zero {a b : Int} (ha : Byte a) (hb : Byte b) (h : gmul a b = 0) : a = 0 ∨ b = 0 := by
  have h1 := byte_nat ha
  have h2 := byte_nat hb
  unfold gmul at h
  rcases Gf.mul_eq_zero h1.2 h2.2 (by omega) with e | e
  · left; omega
  · right; omega

/-! ### Sums -/
def gsum : Nat → (Nat → Int) → Int
  | 0, _ => 0
  | n + 1, f => gadd (gsum n f) (f n)
theorem gsum_byte {f : Nat → Int} : ∀ {n : Nat}, (∀ i, i < n → Byte (f i)) → Byte (gsum n f)
  | 0, _ => byte_zero
  | n + 1, h => gadd_byte (gsum_byte (fun i hi => h i (by omega))) (h n (by omega))
theorem gsum_congr {f g : Nat → Int} : ∀ {n : Nat}, (∀ i, i < n → f i = g i) → gsum n f = gsum n g
  | 0, _ => rfl
  | n + 1, h => by simp only [gsum]; rw [gsum_congr (fun i hi => h i (by omega)), h n (by omega)]
theorem gsum_gadd (f g : Nat → Int) : ∀ n : Nat, gsum n (fun i => gadd (f i) (g i)) = gadd (gsum n f) (gsum n g)
  | 0 => by simp [gsum, gadd]
  | n + 1 => by simp only [gsum]; rw [gsum_gadd f g n, gadd4]
theorem gsum_zero : ∀ n : Nat, gsum n (fun _ => 0) = 0
  | 0 => rfl
  | n + 1 => by simp only [gsum]; rw [gsum_zero n]; rfl
theorem gmul_gsum (a : Int) (f : Nat → Int) : ∀ n : Nat, gmul a (gsum n f) = gsum n (fun i => gmul a (f i))
  | 0 => gmul_zero a
  | n + 1 => by simp only [gsum]; rw [gmul_gadd, gmul_gsum a f n]
theorem gsum_gmul {f : Nat → Int} (a : Int) : ∀ {n : Nat}, (∀ i, i < n → Byte (f i)) → gmul (gsum n f) a = gsum n (fun i => gmul (f i) a)
  | 0, _ => zero_gmul a
  | n + 1, h => by simp only [gsum]; rw [gadd_gmul a (gsum_byte (fun i hi => h i (by omega))) (h n (by omega)), gsum_gmul a (fun i hi => h i (by omega))]
theorem gsum_swap (f : Nat → Nat → Int) (m : Nat) : ∀ n : Nat, gsum n (fun i => gsum m (fun j => f i j)) = gsum m (fun j => gsum n (fun i => f i j))
  | 0 => by simp [gsum, gsum_zero]
  | n + 1 => by simp only [gsum]; rw [gsum_swap f m n, gsum_gadd]
theorem gsum_one {r : Nat} {a : Int} (ha : Byte a) : ∀ {n : Nat}, r < n → gsum n (fun i => if i = r then a else 0) = a
  | 0, h => by omega
  | n + 1, h => by
    simp only [gsum]
    by_cases e : n = r
    · subst e
      rw [if_pos rfl, gsum_congr (g := fun _ => 0) (fun i hi => if_neg (by omega)), gsum_zero, zero_gadd ha]
    · rw [if_neg e, gsum_one ha (by omega), gadd_zero ha]
/-- A sum of what two places give alone. -/
theorem gsum_at {f : Nat → Int} {n r : Nat} (hr : r < n) (hf : Byte (f r)) (h : ∀ i, i < n → i ≠ r → f i = 0) : gsum n f = f r := by
  rw [gsum_congr (g := fun i => if i = r then f r else 0) (fun i hi => ?_), gsum_one hf hr]
  by_cases e : i = r
  · subst e; simp
  · rw [if_neg e]; exact h i hi e

/-! ### Products -/
def prod (n : Nat) (A B : Nat → Nat → Int) : Nat → Nat → Int := fun i j => gsum n (fun t => gmul (A i t) (B t j))
def one : Nat → Nat → Int := fun i j => if i = j then 1 else 0
theorem prod_byte {n p q : Nat} {A B : Nat → Nat → Int} (hA : Bytes p n A) : Bytes p q (prod n A B) := fun i j hi _ => gsum_byte (fun t ht => gmul_byte (hA i t hi ht))
theorem prod_assoc {p n m q : Nat} {A B C : Nat → Nat → Int} (hA : Bytes p n A) (hB : Bytes n m B) (hC : Bytes m q C) {i j : Nat} (hi : i < p) (hj : j < q) :
    prod m (prod n A B) C i j = prod n A (prod m B C) i j := by
  unfold prod
  rw [gsum_congr (g := fun s => gsum n (fun t => gmul (gmul (A i t) (B t s)) (C s j))) (fun s hs => gsum_gmul (C s j) (fun t ht => gmul_byte (hA i t hi ht))), gsum_swap]
  refine gsum_congr (fun t ht => ?_)
  rw [gmul_gsum]
  exact gsum_congr (fun s hs => gmul_assoc (hA i t hi ht) (hB t s ht hs) (hC s j hs hj))
end Go.Proofs.Ythmlimkmcofkfaa.L

/- What sweeping a matrix with the one beside it comes to: the inverse, on either side; or a kernel. -/
namespace Go.Proofs.Ythmlimkmcofkfaa.L
open Go.Proofs.Ythmlimkmcofkfaa.E
set_option linter.unusedVariables false

theorem gmul_left_comm {a b c : Int} (ha : Byte a) (hb : Byte b) (hc : Byte c) : gmul (gmul a b) c = gmul (gmul a c) b := by
  rw [gmul_assoc ha hb hc, gmul_comm hb hc, ← gmul_assoc ha hc hb]
theorem gsum_transp {g : Nat → Int} {n r p : Nat} (hr : r < n) (hp : p < n) (hg : ∀ t, t < n → Byte (g t)) : gsum n (fun t => if t = p then g r else if t = r then g p else g t) = gsum n g := by
  by_cases e : r = p
  · subst e
    refine gsum_congr (fun t ht => ?_)
    by_cases e2 : t = r
    · subst e2; simp
    · simp [e2]
  have hd : Byte (gadd (g r) (g p)) := gadd_byte (hg r hr) (hg p hp)
  have h1 : gsum n (fun t => if t = p then g r else if t = r then g p else g t) = gsum n (fun t => gadd (g t) (gadd (if t = p then gadd (g r) (g p) else 0) (if t = r then gadd (g r) (g p) else 0))) := by
    refine gsum_congr (fun t ht => ?_)
    by_cases e1 : t = p
    · subst e1
      have e2 : ¬ t = r := fun h => e h.symm
      simp only [if_true, if_neg e2]
      rw [gadd_zero hd, gadd_left_comm, gadd_self, gadd_zero (hg r hr)]
    · by_cases e2 : t = r
      · subst e2
        simp only [if_true, if_neg e1]
        rw [zero_gadd hd, ← gadd_assoc, gadd_self, zero_gadd (hg p hp)]
      · simp only [if_neg e1, if_neg e2]
        rw [gadd_zero byte_zero, gadd_zero (hg t ht)]
  rw [h1, gsum_gadd, gsum_gadd, gsum_one hd hp, gsum_one hd hr, gadd_self, gadd_zero (gsum_byte hg)]

/-- The left half is what the right half makes of A; all is what some F makes of it, back. -/
structure Two (n : Nat) (A G M : Nat → Nat → Int) : Prop where
  b : Bytes n (n + n) M
  left : ∀ i j, i < n → j < n → M i j = gsum n (fun t => gmul (M i (n + t)) (A t j))
  right : ∃ F, Bytes n n F ∧ ∀ i j, i < n → j < n + n → G i j = gsum n (fun t => gmul (F i t) (M t j))

section
variable {n r p c : Nat} {A G M : Nat → Nat → Int}
theorem Two.swap (h : Two n A G M) (hr : r < n) (hp : p < n) : Two n A G (swapM M r p) := by
  refine ⟨swap_bytes h.b hr hp, fun i j hi hj => ?_, ?_⟩
  · unfold swapM
    by_cases e1 : i = p
    · simp only [if_pos e1]; exact h.left r j hr hj
    · by_cases e2 : i = r
      · simp only [if_neg e1, if_pos e2]; exact h.left p j hp hj
      · simp only [if_neg e1, if_neg e2]; exact h.left i j hi hj
  · obtain ⟨F, hF, hG⟩ := h.right
    refine ⟨fun i t => if t = p then F i r else if t = r then F i p else F i t, fun i t hi ht => ?_, fun i j hi hj => ?_⟩
    · simp only
      split
      · exact hF i r hi hr
      · split
        · exact hF i p hi hp
        · exact hF i t hi ht
    · rw [hG i j hi hj, ← gsum_transp hr hp (fun t ht => gmul_byte (hF i t hi ht))]
      refine gsum_congr (fun t ht => ?_)
      unfold swapM
      by_cases e1 : t = p
      · simp only [if_pos e1]
      · by_cases e2 : t = r
        · simp only [if_neg e1, if_pos e2]
        · simp only [if_neg e1, if_neg e2]
theorem Two.norm (h : Two n A G M) (hA : Bytes n n A) (hr : r < n) {f g : Int} (hf : Byte f) (hg : Byte g) (hfg : gmul f g = 1) : Two n A G (normM M r f) := by
  refine ⟨norm_bytes h.b r f, fun i j hi hj => ?_, ?_⟩
  · unfold normM
    by_cases e : i = r
    · subst e
      simp only [if_true]
      rw [h.left i j hi hj, gsum_gmul f (fun t ht => gmul_byte (h.b i _ hi (by omega)))]
      exact gsum_congr (fun t ht => gmul_left_comm (h.b i _ hi (by omega)) (hA t j ht hj) hf)
    · simp only [if_neg e]; exact h.left i j hi hj
  · obtain ⟨F, hF, hG⟩ := h.right
    refine ⟨fun i t => if t = r then gmul (F i t) g else F i t, fun i t hi ht => ?_, fun i j hi hj => ?_⟩
    · simp only
      split
      · exact gmul_byte (hF i t hi ht)
      · exact hF i t hi ht
    · rw [hG i j hi hj]
      refine gsum_congr (fun t ht => ?_)
      unfold normM
      by_cases e : t = r
      · subst e
        simp only [if_true]
        have b1 := hF i t hi ht
        have b2 := h.b t j ht hj
        rw [gmul_assoc b1 hg (gmul_byte b2), ← gmul_assoc hg b2 hf, gmul_comm hg b2, gmul_assoc b2 hg hf, gmul_comm hg hf, hfg, gmul_one b2]
      · simp only [if_neg e]
def kE (M : Nat → Nat → Int) (r c i : Nat) : Int := if i ≠ r ∧ M i c ≠ 0 then M i c else 0
theorem elim_eq {M : Nat → Nat → Int} {r c i j : Nat} (hb : Byte (M i j)) : elimM M r c i j = gadd (M i j) (gmul (kE M r c i) (M r j)) := by
  unfold elimM kE
  by_cases h : i ≠ r ∧ M i c ≠ 0
  · rw [if_pos h, if_pos h]
  · rw [if_neg h, if_neg h, zero_gmul, gadd_zero hb]
theorem kE_byte (hb : Bytes n (n + n) M) (hc : c < n) {i : Nat} (hi : i < n) : Byte (kE M r c i) := by
  unfold kE
  split
  · exact hb i c hi (by omega)
  · exact byte_zero
theorem Two.elim (h : Two n A G M) (hA : Bytes n n A) (hr : r < n) (hc : c < n) : Two n A G (elimM M r c) := by
  have hk : ∀ i, i < n → Byte (kE M r c i) := fun i hi => kE_byte h.b hc hi
  refine ⟨elim_bytes h.b (by omega), fun i j hi hj => ?_, ?_⟩
  · rw [elim_eq (h.b i j hi (by omega)), h.left i j hi hj, h.left r j hr hj, gmul_gsum, ← gsum_gadd]
    refine gsum_congr (fun t ht => ?_)
    have b1 := h.b i (n + t) hi (by omega)
    have b2 := h.b r (n + t) hr (by omega)
    rw [elim_eq b1, gadd_gmul _ b1 (gmul_byte (hk i hi)), gmul_assoc (hk i hi) b2 (hA t j ht hj)]
  · obtain ⟨F, hF, hG⟩ := h.right
    have hS : ∀ i, i < n → Byte (gsum n (fun s => gmul (F i s) (kE M r c s))) := fun i hi => gsum_byte (fun s hs => gmul_byte (hF i s hi hs))
    refine ⟨fun i t => if t = r then gadd (F i t) (gsum n (fun s => gmul (F i s) (kE M r c s))) else F i t, fun i t hi ht => ?_, fun i j hi hj => ?_⟩
    · simp only
      split
      · exact gadd_byte (hF i t hi ht) (hS i hi)
      · exact hF i t hi ht
    · have bj : ∀ t, t < n → Byte (M t j) := fun t ht => h.b t j ht hj
      have key : gsum n (fun t => gmul (if t = r then gadd (F i t) (gsum n (fun s => gmul (F i s) (kE M r c s))) else F i t) (elimM M r c t j)) =
          gsum n (fun t => gadd (gmul (F i t) (M t j)) (gadd (gmul (gmul (F i t) (kE M r c t)) (M r j)) (if t = r then gmul (gsum n (fun s => gmul (F i s) (kE M r c s))) (M r j) else 0))) := by
        refine gsum_congr (fun t ht => ?_)
        rw [elim_eq (bj t ht)]
        have b1 := hF i t hi ht
        by_cases e : t = r
        · subst e
          have k0 : kE M t c t = 0 := by unfold kE; simp
          simp only [if_true]
          rw [k0, zero_gmul, gadd_zero (bj t ht), gmul_zero, zero_gmul, zero_gadd (gmul_byte (hS i hi)), gadd_gmul _ b1 (hS i hi)]
        · simp only [if_neg e]
          rw [gmul_gadd, ← gmul_assoc b1 (hk t ht) (bj r hr), gadd_zero (gmul_byte (gmul_byte b1))]
      rw [hG i j hi hj, key, gsum_gadd, gsum_gadd, gsum_one (gmul_byte (hS i hi)) hr, ← gsum_gmul (M r j) (fun t ht => gmul_byte (hF i t hi ht)), gadd_self, gadd_zero (gsum_byte (fun t ht => gmul_byte (hF i t hi ht)))]

/-- How far the left half is the one. -/
structure State (n c : Nat) (A G : Nat → Nat → Int) (s : Nat × (Nat → Nat → Int)) : Prop where
  two : Two n A G s.2
  le : s.1 ≤ c
  id : s.1 = c → ∀ i j, i < n → j < c → s.2 i j = one i j

theorem piv_zero (M : Nat → Nat → Int) (c n : Nat) : ∀ k a, piv M c n k a = n → n ≤ a + k → ∀ i, a ≤ i → i < n → M i c = 0
  | 0, a, h, h2, i, h3, h4 => by omega
  | k + 1, a, h, h2, i, h3, h4 => by
    simp only [piv] at h
    by_cases e : a < n ∧ M a c = 0
    · rw [if_pos e] at h
      by_cases e2 : i = a
      · subst e2; exact e.2
      · exact piv_zero M c n k (a + 1) h (by omega) i (by omega) h4
    · rw [if_neg e] at h; omega
theorem State.step {s : Nat × (Nat → Nat → Int)} (h : State n c A G s) (hA : Bytes n n A) (hc : c < n) : State n (c + 1) A G (stepM n c s) := by
  obtain ⟨r, M⟩ := s
  have hb := h.two.b
  have hle : r ≤ c := h.le
  have hge := piv_ge M c n (n - r) r
  have hpl := piv_le M c n (n - r) r (by omega)
  have hne := piv_ne M c n (n - r) r (by omega)
  simp only [stepM]
  by_cases e : piv M c n (n - r) r = n
  · rw [if_pos e]
    exact ⟨h.two, by show r ≤ c + 1; omega, fun e2 => by exfalso; have : r = c + 1 := e2; omega⟩
  · rw [if_neg e]
    generalize piv M c n (n - r) r = p at *
    have hp : p < n := by omega
    have hpv := hne hp
    have t1 := h.two.swap (show r < n by omega) hp
    have hs : swapM M r p r c = M p c := by
      unfold swapM
      by_cases e2 : r = p
      · subst e2; simp
      · simp [e2]
    have hbp : Byte (swapM M r p r c) := t1.b r c (by omega) (by omega)
    have hnz : swapM M r p r c ≠ 0 := by rw [hs]; exact hpv
    have t2 := t1.norm hA (show r < n by omega) (ginv_byte hbp) hbp (by rw [gmul_comm (ginv_byte hbp) hbp]; exact gmul_ginv hbp hnz)
    have t3 := t2.elim hA (show r < n by omega) hc
    refine ⟨t3, by show r + 1 ≤ c + 1; omega, fun e2 i j hi hj => ?_⟩
    have hrc : r = c := by have : r + 1 = c + 1 := e2; omega
    have hid : ∀ i j, i < n → j < c → M i j = one i j := h.id hrc
    subst hrc
    show elimM (normM (swapM M r p) r (ginv (swapM M r p r r))) r r i j = one i j
    rw [elim_eq (t2.b i j hi (by omega))]
    by_cases ej : j = r
    · subst ej
      have h1 : normM (swapM M j p) j (ginv (swapM M j p j j)) j j = 1 := by unfold normM; rw [if_pos rfl]; exact gmul_ginv hbp hnz
      rw [h1]
      by_cases ei : i = j
      · subst ei
        rw [h1]
        have k0 : kE (normM (swapM M i p) i (ginv (swapM M i p i i))) i i i = 0 := by unfold kE; simp
        rw [k0, zero_gmul, gadd_zero byte_one]; simp [one]
      · have kk : kE (normM (swapM M j p) j (ginv (swapM M j p j j))) j j i = normM (swapM M j p) j (ginv (swapM M j p j j)) i j := by
          unfold kE
          by_cases z : normM (swapM M j p) j (ginv (swapM M j p j j)) i j = 0
          · rw [if_neg (fun hh => hh.2 z), z]
          · rw [if_pos ⟨ei, z⟩]
        rw [kk, gmul_one (t2.b i j hi (by omega)), gadd_self]; simp [one, ei]
    · have hjr : j < r := by omega
      have hrow : ∀ i, i < n → swapM M r p i j = one i j := by
        intro i hi
        unfold swapM
        by_cases e1 : i = p
        · rw [if_pos e1, hid r j (by omega) hjr]
          simp [one, show ¬ r = j by omega, show ¬ i = j by omega]
        · rw [if_neg e1]
          by_cases e3 : i = r
          · rw [if_pos e3, hid p j hp hjr]
            simp [one, show ¬ p = j by omega, show ¬ i = j by omega]
          · rw [if_neg e3, hid i j hi hjr]
      have hrz : normM (swapM M r p) r (ginv (swapM M r p r r)) r j = 0 := by
        unfold normM
        rw [if_pos rfl, hrow r (by omega)]
        simp [one, show ¬ r = j by omega, zero_gmul]
      rw [hrz, gmul_zero, gadd_zero (t2.b i j hi (by omega))]
      unfold normM
      by_cases e3 : i = r
      · rw [if_pos e3, hrow i hi]
        simp [one, show ¬ i = j by omega, zero_gmul]
      · rw [if_neg e3, hrow i hi]
end

/-- G is A with the one beside it. -/
def Aug (n : Nat) (A G : Nat → Nat → Int) : Prop := ∀ i, i < n → (∀ j, j < n → G i j = A i j) ∧ ∀ j, j < n → G i (n + j) = one i j
theorem aug_bytes' {n : Nat} {A G : Nat → Nat → Int} (h : Aug n A G) (hA : Bytes n n A) : Bytes n (n + n) G := by
  intro i j hi hj
  by_cases e : j < n
  · rw [(h i hi).1 j e]; exact hA i j hi e
  · rw [show j = n + (j - n) by omega, (h i hi).2 (j - n) (by omega)]
    unfold one; split <;> (unfold Byte; omega)
theorem one_byte (i j : Nat) : Byte (one i j) := by unfold one; split <;> (unfold Byte; omega)
theorem one_prod {n i : Nat} {f : Nat → Int} (hi : i < n) (hf : Byte (f i)) : gsum n (fun t => gmul (one i t) (f t)) = f i := by
  rw [gsum_at hi (gmul_byte (one_byte i i)) (fun t ht e => by unfold one; rw [if_neg (fun h => e h.symm), zero_gmul])]
  unfold one; rw [if_pos rfl, one_gmul hf]
theorem start {n : Nat} {A G : Nat → Nat → Int} (h : Aug n A G) (hA : Bytes n n A) : State n 0 A G (0, G) := by
  have hG := aug_bytes' h hA
  refine ⟨⟨hG, fun i j hi hj => ?_, ⟨one, fun i j _ _ => one_byte i j, fun i j hi hj => (one_prod (f := fun t => G t j) hi (hG i j hi hj)).symm⟩⟩, Nat.le_refl _, fun _ i j _ hj => by omega⟩
  show G i j = _
  rw [(h i hi).1 j hj, gsum_congr (g := fun t => gmul (one i t) (A t j)) (fun t ht => by show gmul (G i (n + t)) (A t j) = _; rw [(h i hi).2 t ht]), one_prod (f := fun t => A t j) hi (hA i j hi hj)]
theorem states {n : Nat} {A G : Nat → Nat → Int} (h : Aug n A G) (hA : Bytes n n A) : ∀ c, c ≤ n → State n c A G (sweepM n c (0, G))
  | 0, _ => start h hA
  | c + 1, hc => (states h hA c (by omega)).step hA (by omega)

/-- Where all columns have a pivot, the right half is the inverse, on either side. -/
theorem inverse {n : Nat} {A G : Nat → Nat → Int} (h : Aug n A G) (hA : Bytes n n A) (hr : (sweepM n n (0, G)).1 = n) :
    Bytes n n (fun i j => (sweepM n n (0, G)).2 i (n + j)) ∧ (∀ i j, i < n → j < n → prod n (fun i j => (sweepM n n (0, G)).2 i (n + j)) A i j = one i j) ∧
      ∀ i j, i < n → j < n → prod n A (fun i j => (sweepM n n (0, G)).2 i (n + j)) i j = one i j := by
  have hs := states h hA n (Nat.le_refl _)
  generalize sweepM n n (0, G) = s at *
  have hid := hs.id hr
  have hb : Bytes n n (fun i j => s.2 i (n + j)) := fun i j hi hj => hs.two.b i (n + j) hi (by omega)
  refine ⟨hb, fun i j hi hj => ?_, fun i j hi hj => ?_⟩
  · show gsum n (fun t => gmul (s.2 i (n + t)) (A t j)) = _
    rw [← hs.two.left i j hi hj, hid i j hi hj]
  · obtain ⟨F, hF, hG⟩ := hs.two.right
    have hFA : ∀ i t, i < n → t < n → A i t = F i t := by
      intro i t hi ht
      rw [← (h i hi).1 t ht, hG i t hi (by omega), gsum_congr (g := fun q => gmul (F i q) (one q t)) (fun q hq => by rw [hid q t hq ht])]
      rw [gsum_at ht (gmul_byte (hF i t hi ht)) (fun q hq e => by unfold one; rw [if_neg e, gmul_zero])]
      unfold one; rw [if_pos rfl, gmul_one (hF i t hi ht)]
    show gsum n (fun t => gmul (A i t) (s.2 t (n + j))) = _
    rw [gsum_congr (g := fun t => gmul (F i t) (s.2 t (n + j))) (fun t ht => by rw [hFA i t hi ht]), ← hG i (n + j) hi (by omega), (h i hi).2 j hj]

/-- Where a column has none, A has a kernel. -/
theorem kernel_at {n c : Nat} {A G : Nat → Nat → Int} {s : Nat × (Nat → Nat → Int)} (hs : State n c A G s) (h : Aug n A G) (hc : c < n) (hr : s.1 = c) (hp : piv s.2 c n (n - s.1) s.1 = n) :
    ∃ x : Nat → Int, (∀ j, j < n → Byte (x j)) ∧ x c = 1 ∧ ∀ i, i < n → gsum n (fun j => gmul (A i j) (x j)) = 0 := by
  have hb := hs.two.b
  have hz := piv_zero s.2 c n (n - s.1) s.1 hp (by omega)
  have hid := hs.id hr
  obtain ⟨F, hF, hG⟩ := hs.two.right
  have hx : ∀ j, j < n → Byte ((fun j => if j = c then 1 else if j < c then s.2 j c else 0 : Nat → Int) j) := by
    intro j hj
    simp only
    split
    · exact byte_one
    · split
      · exact hb j c hj (by omega)
      · exact byte_zero
  refine ⟨fun j => if j = c then 1 else if j < c then s.2 j c else 0, hx, by simp, fun i hi => ?_⟩
  have hM : ∀ t, t < n → gsum n (fun j => gmul (s.2 t j) ((fun j => if j = c then 1 else if j < c then s.2 j c else 0 : Nat → Int) j)) = 0 := by
    intro t ht
    have e1 : gsum n (fun j => gmul (s.2 t j) ((fun j => if j = c then 1 else if j < c then s.2 j c else 0 : Nat → Int) j)) = gsum n (fun j => gadd (if j = c then s.2 t c else 0) (if j = t then (if t < c then s.2 t c else 0) else 0)) := by
      refine gsum_congr (fun j hj => ?_)
      by_cases e : j = c
      · subst e
        simp only [if_true]
        rw [gmul_one (hb t j ht (by omega))]
        by_cases e2 : j = t
        · rw [if_pos e2, if_neg (by omega), gadd_zero (hb t j ht (by omega))]
        · rw [if_neg e2, gadd_zero (hb t j ht (by omega))]
      · simp only [if_neg e]
        by_cases e2 : j < c
        · rw [if_pos e2, hid t j ht e2]
          by_cases e3 : j = t
          · subst e3
            rw [if_pos rfl, if_pos e2]; unfold one; rw [if_pos rfl, one_gmul (hb j c hj (by omega)), zero_gadd (hb j c hj (by omega))]
          · rw [if_neg e3]; unfold one; rw [if_neg (fun h => e3 h.symm), zero_gmul, gadd_zero byte_zero]
        · rw [if_neg e2, gmul_zero]
          by_cases e3 : j = t
          · rw [if_pos e3, if_neg (by omega), gadd_zero byte_zero]
          · rw [if_neg e3, gadd_zero byte_zero]
    rw [e1, gsum_gadd, gsum_one (hb t c ht (by omega)) hc]
    by_cases e : t < c
    · rw [if_pos e, gsum_one (hb t c ht (by omega)) ht, gadd_self]
    · rw [if_neg e, hz t (by omega) ht]
      rw [gsum_congr (g := fun _ => 0) (fun j hj => by split <;> rfl), gsum_zero]; rfl
  have hAF : ∀ j, j < n → A i j = gsum n (fun t => gmul (F i t) (s.2 t j)) := fun j hj => by rw [← (h i hi).1 j hj, hG i j hi (by omega)]
  rw [gsum_congr (g := fun j => gsum n (fun t => gmul (F i t) (gmul (s.2 t j) ((fun j => if j = c then 1 else if j < c then s.2 j c else 0 : Nat → Int) j)))) (fun j hj => ?_), gsum_swap]
  · rw [gsum_congr (g := fun _ => 0) (fun t ht => by rw [← gmul_gsum, hM t ht, gmul_zero]), gsum_zero]
  · rw [hAF j hj, gsum_gmul _ (fun t ht => gmul_byte (hF i t hi ht))]
    exact gsum_congr (fun t ht => gmul_assoc (hF i t hi ht) (hb t j ht (by omega)) (hx j hj))
theorem kernel {n : Nat} {A G : Nat → Nat → Int} (h : Aug n A G) (hA : Bytes n n A) : ∀ c, c ≤ n → (sweepM n c (0, G)).1 = c ∨ ∃ x : Nat → Int, (∀ j, j < n → Byte (x j)) ∧ (∃ c, c < n ∧ x c ≠ 0) ∧ ∀ i, i < n → gsum n (fun j => gmul (A i j) (x j)) = 0
  | 0, _ => .inl rfl
  | c + 1, hc => by
    rcases kernel h hA c (by omega) with e | e
    · have hs := states h hA c (by omega)
      show (stepM n c (sweepM n c (0, G))).1 = c + 1 ∨ _
      generalize sweepM n c (0, G) = s at *
      by_cases hp : piv s.2 c n (n - s.1) s.1 = n
      · right
        obtain ⟨x, h1, h2, h3⟩ := kernel_at hs h (by omega) e hp
        exact ⟨x, h1, ⟨c, by omega, by rw [h2]; decide⟩, h3⟩
      · left
        simp only [stepM]
        rw [if_neg hp]; show s.1 + 1 = c + 1; omega
    · exact .inr e

/-! ### What the columns behind do, nobody asks -/
def Agree (n q : Nat) (M M' : Nat → Nat → Int) : Prop := ∀ i j, i < n → j < q → M i j = M' i j
theorem piv_agree {n q c : Nat} {M M' : Nat → Nat → Int} (h : Agree n q M M') (hc : c < q) : ∀ k a, piv M c n k a = piv M' c n k a
  | 0, _ => rfl
  | k + 1, a => by
    simp only [piv]
    by_cases e : a < n
    · rw [h a c e hc, piv_agree h hc k (a + 1)]
    · rw [if_neg (fun hh => e hh.1), if_neg (fun hh => e hh.1)]
theorem step_agree {n q c : Nat} {s s' : Nat × (Nat → Nat → Int)} (h1 : s.1 = s'.1) (h : Agree n q s.2 s'.2) (hc : c < q) (hle : s.1 ≤ n) : (stepM n c s).1 = (stepM n c s').1 ∧ Agree n q (stepM n c s).2 (stepM n c s').2 := by
  obtain ⟨r, M⟩ := s
  obtain ⟨r', M'⟩ := s'
  have h1' : r = r' := h1
  subst h1'
  have h' : Agree n q M M' := h
  have hge := piv_ge M c n (n - r) r
  have hpl := piv_le M c n (n - r) r hle
  simp only [stepM]
  rw [← piv_agree h' hc]
  by_cases e : piv M c n (n - r) r = n
  · rw [if_pos e, if_pos e]; exact ⟨rfl, h'⟩
  · rw [if_neg e, if_neg e]
    generalize piv M c n (n - r) r = p at *
    refine ⟨rfl, ?_⟩
    have a1 : Agree n q (swapM M r p) (swapM M' r p) := by
      intro i j hi hj
      unfold swapM
      rw [h' r j (by omega) hj, h' p j (by omega) hj, h' i j hi hj]
    have a2 : Agree n q (normM (swapM M r p) r (ginv (swapM M r p r c))) (normM (swapM M' r p) r (ginv (swapM M' r p r c))) := by
      intro i j hi hj
      unfold normM
      rw [a1 r c (by omega) hc, a1 i j hi hj]
    intro i j hi hj
    show elimM _ _ _ i j = elimM _ _ _ i j
    unfold elimM
    rw [a2 i j hi hj, a2 i c hi hc, a2 r j (by omega) hj]
theorem rank_le {n : Nat} (M : Nat → Nat → Int) : ∀ c, (sweepM n c (0, M)).1 ≤ n
  | 0 => Nat.zero_le _
  | c + 1 => by
    have h := rank_le (n := n) M c
    show (stepM n c (sweepM n c (0, M))).1 ≤ n
    generalize sweepM n c (0, M) = s at *
    have h1 := piv_ge s.2 c n (n - s.1) s.1
    have h2 := piv_le s.2 c n (n - s.1) s.1 h
    simp only [stepM]
    split
    · exact h
    · show s.1 + 1 ≤ n; omega
theorem sweep_agree {n q : Nat} {M M' : Nat → Nat → Int} (h : Agree n q M M') : ∀ c, c ≤ q → (sweepM n c (0, M)).1 = (sweepM n c (0, M')).1 ∧ Agree n q (sweepM n c (0, M)).2 (sweepM n c (0, M')).2
  | 0, _ => ⟨rfl, h⟩
  | c + 1, hc => by
    obtain ⟨h1, h2⟩ := sweep_agree h c (by omega)
    exact step_agree h1 h2 (by omega) (rank_le M c)
end Go.Proofs.Ythmlimkmcofkfaa.L

/- Lists of numbers by places; what Mul comes to. -/
namespace Go.Proofs.Ythmlimkmcofkfaa.L
open Go.RowKit Go.Proofs.YthmlimkmcofkfaaW.PrintWords Go.Proofs.Ythmlimkmcofkfaa.E Go.Proofs.Ythmlimkmcofkfaa.B
set_option linter.unusedVariables false

theorem rdP : P.rd_L1 = B.rd_L1 := rfl
theorem mul_ev {a b : Int} (ha : Byte a) (hb : Byte b) : Ev (fun k => gf_Mul.f k a b) (gmul a b) := by
  refine Ev.of (fun k => gf_Mul.mono a b k) (k := 9) ?_
  have h := mul_f 0 a.toNat b.toNat (byte_nat ha).2 (byte_nat hb).2
  rw [(byte_nat ha).1, (byte_nat hb).1] at h
  exact h
def tab (m : Nat) (f : Nat → Int) : List Int := (List.range m).map f
theorem tab_len (m : Nat) (f : Nat → Int) : (tab m f).length = m := by simp [tab]
theorem tab_rd {m : Nat} {f : Nat → Int} {j : Nat} (h : j < m) : rd (tab m f) j = f j := by rw [rd_nat]; simp [tab, h]
theorem tab_set {m : Nat} {f g : Nat → Int} {j : Nat} (v : Int) (h : ∀ q, q < m → (if q = j then v else f q) = g q) : (tab m f).set j v = tab m g := by
  apply List.ext_getElem
  · simp [tab]
  · intro q h1 h2
    simp [tab] at h1 h2
    rw [List.getElem_set]
    have := h q h2
    by_cases e : j = q
    · subst e; simp [tab] at this ⊢; exact this
    · have e2 : ¬ q = j := fun h => e h.symm
      rw [if_neg e]; simp [tab, e2] at this ⊢; exact this
theorem tab_congr {m : Nat} {f g : Nat → Int} (h : ∀ q, q < m → f q = g q) : tab m f = tab m g := List.map_congr_left (fun q hq => h q (List.mem_range.1 hq))
end Go.Proofs.Ythmlimkmcofkfaa.L

/- Equal lists. -/
namespace Go.Proofs.Ythmlimkmcofkfaa.L
open Go.RowKit Go.Proofs.YthmlimkmcofkfaaW.PrintWords Go.Proofs.Ythmlimkmcofkfaa.E Go.Proofs.Ythmlimkmcofkfaa.B
set_option linter.unusedVariables false

theorem sameBytes_self (l : List Int) : stowagekit_SameBytes.f l l = some true := by unfold stowagekit_SameBytes.f; simp
theorem same_l0 (l : List (List Int)) (hn : l.length ≤ 1000) : ∀ (d i : Nat), l.length = i + d → Ev (fun k => stowagekit_SameLists.l0 k l l i) true
  | 0, i, hi => by
    refine Ev.step (f := fun _ => some true) (fun k => ?_) (Ev.now _)
    simp only [stowagekit_SameLists.l0]
    rw [if_neg (by omega)]
  | d + 1, i, hi => by
    refine Ev.step (f := fun k => stowagekit_SameLists.l0 k l l ((i + 1 : Nat) : Int)) (fun k => ?_) (same_l0 l hn d (i + 1) (by omega))
    simp only [stowagekit_SameLists.l0]
    rw [if_pos (by omega), if_pos (by omega), if_pos (by omega), sameBytes_self]
    simp only [Option.bind_some, if_true]
    rw [wrap_succ (show i < l.length by omega) (by omega)]
theorem same_self (l : List (List Int)) (hn : l.length ≤ 1000) : Ev (fun k => stowagekit_SameLists.f k l l) true := by
  refine Ev.congr (fun k => ?_) (same_l0 l hn l.length 0 (by omega))
  unfold stowagekit_SameLists.f
  rw [if_pos rfl]; rfl
theorem evc {α : Type} {x : Option α} {r : α} (h : x = some r) : Ev (fun _ => x) r := ⟨0, fun _ _ => h⟩
end Go.Proofs.Ythmlimkmcofkfaa.L

/- Which matrices may be; right halves; the one. -/
namespace Go.Proofs.Ythmlimkmcofkfaa.L
open Go.RowKit Go.Proofs.YthmlimkmcofkfaaW.PrintWords Go.Proofs.Ythmlimkmcofkfaa.E Go.Proofs.Ythmlimkmcofkfaa.B
set_option linter.unusedVariables false

theorem check_of {l : List (List Int)} {m : Nat} (h1 : 0 < l.length) (h2 : l.length ≤ 32) (h3 : 0 < m) (h4 : m ≤ 32) (hr : Rect m l) : check l = 0 := by
  have r0 := hr 0 h1
  have hmem : ∀ x ∈ l, x.length = m := by
    intro x hx
    obtain ⟨i, hi, rfl⟩ := List.getElem_of_mem hx
    have := hr i hi
    rw [rdL_nat] at this
    simpa [hi] using this
  unfold check
  rw [if_neg, if_neg]
  · rintro (h | h)
    · omega
    · obtain ⟨x, hx, hp⟩ := List.any_eq_true.1 h
      have := hmem x hx
      have r0' : (rd_L1 l 0).length = m := r0
      simp [P2, r0', this] at hp
      omega
  · rintro (h | h)
    · omega
    · obtain ⟨x, hx, hp⟩ := List.any_eq_true.1 h
      have := hmem x hx
      simp [P1, this] at hp
      omega
theorem okB_of {l : List (List Int)} {m : Nat} (hr : Rect m l) (hb : Bytes l.length m (entry l)) : okB l = true := by
  unfold okB
  rw [List.all_eq_true]
  intro x hx
  obtain ⟨i, hi, rfl⟩ := List.getElem_of_mem hx
  have hl := hr i hi
  have e : rd_L1 l i = l[i] := by rw [rdL_nat]; simp [hi]
  rw [e] at hl
  rw [List.all_eq_true]
  intro y hy
  obtain ⟨j, hj, rfl⟩ := List.getElem_of_mem hy
  have := hb i j hi (by omega)
  unfold entry at this
  rw [e, rd_nat] at this
  simp [hj] at this
  simpa [Byte] using this
theorem rightL_len (S : Nat → Nat → Int) (n : Nat) : (rightL S n).length = n := by simp [rightL]
theorem rightL_row {S : Nat → Nat → Int} {n i : Nat} (h : i < n) : rd_L1 (rightL S n) i = rightRow S n i := by rw [rdL_nat]; simp [rightL, h]
theorem rightL_rect (S : Nat → Nat → Int) (n : Nat) : Rect n (rightL S n) := fun i hi => by rw [rightL_len] at hi; rw [rightL_row hi, rightRow_len]
theorem rightL_entry {S : Nat → Nat → Int} {n i j : Nat} (hi : i < n) (hj : j < n) : entry (rightL S n) i j = S i (n + j) := by unfold entry; rw [rightL_row hi, rd_nat]; simp [rightRow, hj]
theorem idRow_tab {n i : Nat} : idRow n i = tab n (one i) := by
  apply List.ext_getElem
  · simp [idRow, tab]
  · intro j h1 h2
    simp [tab] at h2
    by_cases e : i = j
    · subst e; simp [idRow, tab, one]
    · simp [idRow, tab, one, e]
theorem aug_Aug {l : List (List Int)} {n : Nat} : Aug n (entry l) (augM l n) := fun i hi => ⟨fun j hj => by unfold augM; rw [if_pos hj], fun j hj => by
  unfold augM one
  rw [if_neg (by omega), show n + j - n = j by omega]
  by_cases e : j = i
  · rw [if_pos e, if_pos e.symm]
  · rw [if_neg e, if_neg (fun h => e h.symm)]⟩

end Go.Proofs.Ythmlimkmcofkfaa.L

/- A matrix of inverses of sums (all unlike) has no kernel. -/
namespace Go.Proofs.Ythmlimkmcofkfaa.L
open Go.Proofs.Ythmlimkmcofkfaa.E
set_option linter.unusedVariables false

def lsum (f : Nat → Int) : List Nat → Int
  | [] => 0
  | j :: l => gadd (f j) (lsum f l)
theorem lsum_byte {f : Nat → Int} : ∀ {l : List Nat}, (∀ j ∈ l, Byte (f j)) → Byte (lsum f l)
  | [], _ => byte_zero
  | j :: l, h => gadd_byte (h j (by simp)) (lsum_byte (fun i hi => h i (by simp [hi])))
theorem lsum_congr {f g : Nat → Int} : ∀ {l : List Nat}, (∀ j ∈ l, f j = g j) → lsum f l = lsum g l
  | [], _ => rfl
  | j :: l, h => by simp only [lsum]; rw [h j (by simp), lsum_congr (fun i hi => h i (by simp [hi]))]
theorem lsum_gadd (f g : Nat → Int) : ∀ l : List Nat, lsum (fun j => gadd (f j) (g j)) l = gadd (lsum f l) (lsum g l)
  | [] => by simp [lsum, gadd]
  | j :: l => by simp only [lsum]; rw [lsum_gadd f g l, gadd4]
theorem gmul_lsum (a : Int) (f : Nat → Int) : ∀ l : List Nat, gmul a (lsum f l) = lsum (fun j => gmul a (f j)) l
  | [] => gmul_zero a
  | j :: l => by simp only [lsum]; rw [gmul_gadd, gmul_lsum a f l]
theorem lsum_filter {f : Nat → Int} (u : Nat → Bool) : ∀ {l : List Nat}, (∀ j ∈ l, Byte (f j)) → (∀ j ∈ l, u j = false → f j = 0) → lsum f l = lsum f (l.filter u)
  | [], _, _ => rfl
  | j :: l, hb, h => by
    have ih := lsum_filter u (fun i hi => hb i (List.mem_cons_of_mem _ hi)) (fun i hi => h i (List.mem_cons_of_mem _ hi))
    by_cases e : u j = true
    · rw [List.filter_cons_of_pos e]; simp only [lsum]; rw [ih]
    · rw [List.filter_cons_of_neg e]; simp only [lsum]
      rw [h j (by simp) (by simpa using e), ih, zero_gadd (lsum_byte (fun i hi => hb i (List.mem_cons_of_mem _ (List.mem_filter.1 hi).1)))]
theorem lsum_append (f : Nat → Int) : ∀ (l l' : List Nat), (∀ j ∈ l', Byte (f j)) → lsum f (l ++ l') = gadd (lsum f l) (lsum f l')
  | [], l', h => by simp only [List.nil_append, lsum]; rw [zero_gadd (lsum_byte h)]
  | j :: l, l', h => by simp only [List.cons_append, lsum]; rw [lsum_append f l l' h, gadd_assoc]
theorem gsum_lsum (f : Nat → Int) : ∀ n : Nat, (∀ j, j < n → Byte (f j)) → gsum n f = lsum f (List.range n)
  | 0, _ => rfl
  | n + 1, h => by
    rw [List.range_succ, lsum_append f _ _ (fun j hj => h j (by simp at hj; omega)), ← gsum_lsum f n (fun j hj => h j (by omega))]
    simp only [gsum, lsum]
    rw [gadd_zero (h n (by omega))]

theorem sub_mul {a b c d : Int} (ha : Byte a) (hb : Byte b) (hc : Byte c) (h : gadd a b = 0) : a = b := by
  have h1 : gadd (gadd a b) b = b := by rw [h, zero_gadd hb]
  rwa [gadd_assoc, gadd_self, gadd_zero ha] at h1

/-- 1 / (p + c) -/
def qq (p c : Nat) : Int := ginv (gadd p c)
def Small (n : Nat) : Prop := n < 256
theorem small_byte {n : Nat} (h : Small n) : Byte (n : Int) := by unfold Small at h; unfold Byte; omega
theorem gadd_ne {p c : Nat} (hp : Small p) (hc : Small c) (h : p ≠ c) : gadd (p : Int) (c : Int) ≠ 0 := by
  intro e
  have h1 : gadd (gadd (p : Int) c) c = c := by rw [e, zero_gadd (small_byte hc)]
  rw [gadd_assoc, gadd_self, gadd_zero (small_byte hp)] at h1
  omega
theorem qq_byte {p c : Nat} (hp : Small p) (hc : Small c) : Byte (qq p c) := ginv_byte (gadd_byte (small_byte hp) (small_byte hc))
theorem qq_inv {p c : Nat} (hp : Small p) (hc : Small c) (h : p ≠ c) : gmul (gadd (p : Int) c) (qq p c) = 1 := gmul_ginv (gadd_byte (small_byte hp) (small_byte hc)) (gadd_ne hp hc h)
theorem qq_ne {p c : Nat} (hp : Small p) (hc : Small c) (h : p ≠ c) : qq p c ≠ 0 := by
  intro e
  have := qq_inv hp hc h
  rw [e, gmul_zero] at this
  cases this
/-- (p + s) / (p + c) = 1 + (s + c) / (p + c) -/
theorem qq_part {p s c : Nat} (hp : Small p) (hs : Small s) (hc : Small c) (h : p ≠ c) : gmul (gadd (p : Int) s) (qq p c) = gadd 1 (gmul (gadd (s : Int) c) (qq p c)) := by
  have e : gadd (p : Int) s = gadd (gadd (p : Int) c) (gadd (s : Int) c) := by
    rw [gadd4, gadd_self, gadd_zero (gadd_byte (small_byte hp) (small_byte hs))]
  rw [e, gadd_gmul _ (gadd_byte (small_byte hp) (small_byte hc)) (gadd_byte (small_byte hs) (small_byte hc)), qq_inv hp hc h]
/-- 1 / (p + c) + 1 / (s + c) = (p + s) / ((p + c) (s + c)) -/
theorem qq_two {p s c : Nat} (hp : Small p) (hs : Small s) (hc : Small c) (h1 : p ≠ c) (h2 : s ≠ c) : gadd (qq p c) (qq s c) = gmul (gadd (p : Int) s) (gmul (qq p c) (qq s c)) := by
  have bp := qq_byte hp hc
  have bs := qq_byte hs hc
  rw [← gmul_assoc (gadd_byte (small_byte hp) (small_byte hs)) bp bs, qq_part hp hs hc h1, gadd_gmul _ byte_one (gmul_byte (gadd_byte (small_byte hs) (small_byte hc))), one_gmul bs]
  rw [gmul_left_comm (gadd_byte (small_byte hs) (small_byte hc)) bp bs, qq_inv hs hc h2, one_gmul bp, gadd_comm]

theorem cauchy : ∀ (C P : List Nat) (x : Nat → Int), C.length ≤ P.length → C.Nodup → P.Nodup → (∀ c ∈ C, Small c) → (∀ p ∈ P, Small p) → (∀ p ∈ P, ∀ c ∈ C, p ≠ c) → (∀ c ∈ C, Byte (x c)) →
    (∀ p ∈ P, lsum (fun c => gmul (x c) (qq p c)) C = 0) → ∀ c ∈ C, x c = 0
  | [], _, _, _, _, _, _, _, _, _, _ => fun c hc => by cases hc
  | s :: C, [], _, hl, _, _, _, _, _, _, _ => by simp at hl
  | s :: C, p :: P, x, hl, hC, hP, sC, sP, hne, hx, h => by
    rw [List.nodup_cons] at hC hP
    have ss : Small s := sC s (by simp)
    have sp : Small p := sP p (by simp)
    have sC' : ∀ c ∈ C, Small c := fun c hc => sC c (List.mem_cons_of_mem _ hc)
    have sP' : ∀ r ∈ P, Small r := fun r hr => sP r (List.mem_cons_of_mem _ hr)
    have hx' : ∀ c ∈ C, Byte (x c) := fun c hc => hx c (List.mem_cons_of_mem _ hc)
    have hps : p ≠ s := hne p (by simp) s (by simp)
    -- each equation, times (r + s)
    have eqn : ∀ r, r ∈ p :: P → gadd (x s) (gadd (lsum x C) (lsum (fun c => gmul (gmul (x c) (gadd (s : Int) c)) (qq r c)) C)) = 0 := by
      intro r hr
      have sr := sP r hr
      have h1 := h r hr
      have h2 : gmul (gadd (r : Int) s) (lsum (fun c => gmul (x c) (qq r c)) (s :: C)) = 0 := by rw [h1, gmul_zero]
      rw [gmul_lsum] at h2
      simp only [lsum] at h2
      have brs := gadd_byte (small_byte sr) (small_byte ss)
      have e1 : gmul (gadd (r : Int) s) (gmul (x s) (qq r s)) = x s := by
        rw [← gmul_assoc brs (hx s (by simp)) (qq_byte sr ss), gmul_left_comm brs (hx s (by simp)) (qq_byte sr ss), qq_inv sr ss (hne r hr s (by simp)), one_gmul (hx s (by simp))]
      have e2 : lsum (fun c => gmul (gadd (r : Int) s) (gmul (x c) (qq r c))) C = gadd (lsum x C) (lsum (fun c => gmul (gmul (x c) (gadd (s : Int) c)) (qq r c)) C) := by
        rw [← lsum_gadd]
        refine lsum_congr (fun c hc => ?_)
        have bc := hx' c hc
        have bq := qq_byte sr (sC' c hc)
        have bsc := gadd_byte (small_byte ss) (small_byte (sC' c hc))
        rw [← gmul_assoc brs bc bq, gmul_left_comm brs bc bq, qq_part sr ss (sC' c hc) (hne r hr c (List.mem_cons_of_mem _ hc)), gadd_gmul _ byte_one (gmul_byte bsc), one_gmul bc]
        rw [gmul_left_comm bsc bq bc, gmul_comm bsc bc]
      rw [e1, e2] at h2
      exact h2
    have low : ∀ c ∈ C, gmul (gmul (x c) (gadd (s : Int) c)) (qq p c) = 0 := by
      refine cauchy C P (fun c => gmul (gmul (x c) (gadd (s : Int) c)) (qq p c)) (by simp at hl; exact hl) hC.2 hP.2 sC' sP' (fun r hr c hc => hne r (List.mem_cons_of_mem _ hr) c (List.mem_cons_of_mem _ hc)) (fun c hc => gmul_byte (gmul_byte (hx' c hc))) (fun r hr => ?_)
      have sr := sP' r hr
      have hrp : r ≠ p := fun e => hP.1 (e ▸ hr)
      have a1 := eqn r (List.mem_cons_of_mem _ hr)
      have a2 := eqn p (by simp)
      have bY : ∀ q, Small q → Byte (lsum (fun c => gmul (gmul (x c) (gadd (s : Int) c)) (qq q c)) C) := fun q hq => lsum_byte (fun c hc => gmul_byte (gmul_byte (hx' c hc)))
      have diff : gadd (lsum (fun c => gmul (gmul (x c) (gadd (s : Int) c)) (qq r c)) C) (lsum (fun c => gmul (gmul (x c) (gadd (s : Int) c)) (qq p c)) C) = 0 := by
        have bx := lsum_byte (f := x) hx'
        have k1 := gadd4 (x s) (gadd (lsum x C) (lsum (fun c => gmul (gmul (x c) (gadd (s : Int) c)) (qq r c)) C)) (x s) (gadd (lsum x C) (lsum (fun c => gmul (gmul (x c) (gadd (s : Int) c)) (qq p c)) C))
        rw [a1, a2, gadd_self, gadd4 (lsum x C), gadd_self, gadd_self, zero_gadd (gadd_byte (bY r sr) (bY p sp)), zero_gadd (gadd_byte (bY r sr) (bY p sp))] at k1
        exact k1.symm
      rw [← lsum_gadd] at diff
      have e3 : lsum (fun c => gadd (gmul (gmul (x c) (gadd (s : Int) c)) (qq r c)) (gmul (gmul (x c) (gadd (s : Int) c)) (qq p c))) C = gmul (gadd (r : Int) p) (lsum (fun c => gmul (gmul (gmul (x c) (gadd (s : Int) c)) (qq p c)) (qq r c)) C) := by
        rw [gmul_lsum]
        refine lsum_congr (fun c hc => ?_)
        have bz := gmul_byte (b := gadd (s : Int) c) (hx' c hc)
        have sc := sC' c hc
        have brp := gadd_byte (small_byte sr) (small_byte sp)
        have bqr := qq_byte sr sc
        have bqp := qq_byte sp sc
        rw [← gmul_gadd, qq_two sr sp sc (hne r (List.mem_cons_of_mem _ hr) c (List.mem_cons_of_mem _ hc)) (hne p (by simp) c (List.mem_cons_of_mem _ hc))]
        rw [← gmul_assoc bz brp (gmul_byte bqr), gmul_comm bz brp, gmul_assoc brp bz (gmul_byte bqr), gmul_comm bqr bqp, gmul_assoc bz bqp bqr]
      rw [e3] at diff
      rcases gmul_eq_zero (gadd_byte (small_byte sr) (small_byte sp)) (lsum_byte (fun c hc => gmul_byte (gmul_byte (gmul_byte (hx' c hc))))) diff with e | e
      · exact absurd e (gadd_ne sr sp hrp)
      · exact e
    have lowx : ∀ c ∈ C, x c = 0 := by
      intro c hc
      have sc := sC' c hc
      rcases gmul_eq_zero (gmul_byte (hx' c hc)) (qq_byte sp sc) (low c hc) with e | e
      · rcases gmul_eq_zero (hx' c hc) (gadd_byte (small_byte ss) (small_byte sc)) e with e | e
        · exact e
        · exact absurd e (gadd_ne ss sc (fun e2 => hC.1 (e2 ▸ hc)))
      · exact absurd e (qq_ne sp sc (hne p (by simp) c (List.mem_cons_of_mem _ hc)))
    intro c hc
    rcases List.mem_cons.1 hc with e | hc
    · subst e
      have h1 := h p (by simp)
      simp only [lsum] at h1
      rw [lsum_congr (g := fun _ => 0) (fun d hd => by rw [lowx d hd, zero_gmul])] at h1
      have z : ∀ l : List Nat, lsum (fun _ => 0) l = 0 := by
        intro l
        induction l with
        | nil => rfl
        | cons a l ih => simp only [lsum]; rw [ih]; rfl
      rw [z, gadd_zero (gmul_byte (hx c (by simp)))] at h1
      rcases gmul_eq_zero (hx c (by simp)) (qq_byte sp ss) h1 with e | e
      · exact e
      · exact absurd e (qq_ne sp ss hps)
    · exact lowx c hc
end Go.Proofs.Ythmlimkmcofkfaa.L

/- The code of k and m, told of lists; any k of its rows have no kernel. -/
namespace Go.Proofs.Ythmlimkmcofkfaa.L
open Go.RowKit Go.Proofs.YthmlimkmcofkfaaW.PrintWords Go.Proofs.Ythmlimkmcofkfaa.E Go.Proofs.Ythmlimkmcofkfaa.B
set_option linter.unusedVariables false

theorem ofInt_i64 (a : Nat) (ha : a < 9223372036854775808) : (BitVec.ofInt 64 (a : Int)).toNat = a := by
  rw [BitVec.ofInt_natCast, BitVec.toNat_ofNat]; exact Nat.mod_eq_of_lt (by omega)
theorem i64_xor_nat (a b : Nat) (ha : a < 9223372036854775808) (hb : b < 9223372036854775808) : Go.bits .xor .i64 (a : Int) (b : Int) = ((a ^^^ b : Nat) : Int) := by
  have hx : a ^^^ b < 2 ^ 63 := Nat.xor_lt_two_pow (by omega) (by omega)
  show IntKind.i64.wrap ((BitVec.ofInt 64 (a : Int) ^^^ BitVec.ofInt 64 (b : Int)).toNat : Int) = _
  rw [BitVec.toNat_xor, ofInt_i64 a ha, ofInt_i64 b hb, IntKind.wrap_i64]
  omega
theorem inv_ev {a : Int} (ha : Byte a) (h0 : a ≠ 0) : Ev (fun k => gf_Inv.f k a) (ginv a, 0) := by
  refine Ev.of (fun k => gf_Inv.mono a k) (k := 18) ?_
  have h1 := byte_nat ha
  have h := inv_f a.toNat h1.2 (by omega)
  rw [h1.1] at h
  exact h
theorem code_arg {k i j : Nat} (hk : k + i < 16) (hj : j < k) : (Go.bits .xor .i64 (wrap64 ((k : Int) + (i : Int))) (j : Int)) % 256 = gadd ((k + i : Nat) : Int) (j : Int) := by
  have e : wrap64 ((k : Int) + (i : Int)) = ((k + i : Nat) : Int) := by unfold wrap64; omega
  have hx : (k + i) ^^^ j < 16 := Nat.xor_lt_two_pow (n := 4) (by omega) (by omega)
  rw [e, i64_xor_nat _ _ (by omega) (by omega)]
  unfold gadd
  simp only [Int.toNat_natCast]
  omega
def parRow (k i : Nat) : List Int := tab k (fun j => qq (k + i) j)
def codeL (k m : Nat) : List (List Int) := idL k ++ (List.range' 0 m).map (parRow k)

section
variable {k m : Nat} (hk : 0 < k) (hm : 0 < m) (hkm : k + m ≤ 16)
include hk hm hkm
theorem Code_l1 {i : Nat} (hi : i < m) (acc : List (List Int)) (ha : acc.length ≤ 1000) {r : List (List Int) × Int}
    (h : Ev (fun q => matrix_Code.l0 q (k : Int) (acc ++ [parRow k i]) (m : Int) ((i + 1 : Nat) : Int)) r) :
    ∀ (d j : Nat), k = j + d → Ev (fun q => matrix_Code.l1 q (k : Int) acc i (tab k (fun s => if s < j then qq (k + i) s else 0)) (m : Int) i (k : Int) j) r
  | 0, j, hj => by
    refine Ev.step (f := fun q => matrix_Code.l0 q (k : Int) (acc ++ [parRow k i]) (m : Int) ((i + 1 : Nat) : Int)) (fun q => ?_) h
    simp only [matrix_Code.l1]
    rw [if_neg (by omega), if_pos (by omega), wrap_succ hi (by omega)]
    congr 3
    exact tab_congr (fun s hs => by simp [show s < j by omega])
  | d + 1, j, hj => by
    have ih := Code_l1 hi acc ha h d (j + 1) (by omega)
    have sa : Small (k + i) := by unfold Small; omega
    have sj : Small j := by unfold Small; omega
    have hne : k + i ≠ j := by omega
    have hinv := inv_ev (gadd_byte (small_byte sa) (small_byte sj)) (gadd_ne sa sj hne)
    refine Ev.step (f := fun q => (gf_Inv.f q (gadd ((k + i : Nat) : Int) (j : Int))).bind fun bt158 => matrix_Code.l1 q (k : Int) acc i ((tab k (fun s => if s < j then qq (k + i) s else 0)).set j bt158.1) (m : Int) i (k : Int) ((j + 1 : Nat) : Int)) (fun q => ?_) ?_
    · simp only [matrix_Code.l1]
      rw [if_pos (by omega), code_arg (by omega) (by omega)]
      congr 1
      funext bt
      rw [if_pos (by omega), if_pos (by rw [tab_len]; omega), wrap_succ (show j < k by omega) (by omega)]
      rfl
    · refine Ev.bind hinv ?_
      have e : (tab k (fun s => if s < j then qq (k + i) s else 0)).set j (ginv (gadd ((k + i : Nat) : Int) (j : Int))) = tab k (fun s => if s < j + 1 then qq (k + i) s else 0) := by
        refine tab_set _ (fun s hs => ?_)
        by_cases e2 : s = j
        · subst e2; simp [qq]
        · rw [if_neg e2]; simp only [show (s < j + 1) = (s < j) from propext ⟨fun h => by omega, fun h => by omega⟩]
      simp only [e]
      exact ih
theorem Code_l0 : ∀ (d i : Nat) (acc : List (List Int)), m = i + d → acc = idL k ++ (List.range' 0 i).map (parRow k) → Ev (fun q => matrix_Code.l0 q (k : Int) acc (m : Int) i) (codeL k m, 0)
  | 0, i, acc, hi, he => by
    refine Ev.step (f := fun q => some (codeL k m, 0)) (fun q => ?_) (Ev.now _)
    simp only [matrix_Code.l0]
    rw [if_neg (by omega), he, show i = m by omega]; rfl
  | d + 1, i, acc, hi, he => by
    have ih := Code_l0 d (i + 1) (acc ++ [parRow k i]) (by omega) (by rw [he, List.range'_concat]; simp)
    have h1 := Code_l1 hk hm hkm (show i < m by omega) acc (by rw [he]; simp [idL_len]; omega) ih k 0 (by omega)
    refine Ev.step (f := fun q => matrix_Code.l1 q (k : Int) acc i (tab k (fun s => if s < 0 then qq (k + i) s else 0)) (m : Int) i (k : Int) ((0 : Nat) : Int)) (fun q => ?_) h1
    simp only [matrix_Code.l0]
    rw [if_pos (by omega), if_pos (by omega), if_pos (by omega)]
    simp only [Option.bind_some, Int.toNat_natCast, List.length_replicate]
    have e : (List.replicate k (0 : Int)) = tab k (fun s => if s < 0 then qq (k + i) s else 0) := by
      apply List.ext_getElem
      · simp [tab]
      · intro s h1 h2; simp [tab]
    rw [e]; rfl
theorem code_ev : Ev (fun q => matrix_Code.f q (k : Int) (m : Int)) (codeL k m, 0) := by
  have e : wrap64 (16 - (k : Int)) = ((16 - k : Nat) : Int) := by unfold wrap64; omega
  refine Ev.congr (f := fun q => matrix_Code.j0 q (k : Int) (m : Int) false) (fun q => ?_) ?_
  · unfold matrix_Code.f
    rw [if_neg (by omega), if_neg (by omega), if_neg (by omega), e]
    have : decide ((m : Int) > ((16 - k : Nat) : Int)) = false := by simp; omega
    rw [this]
  · refine Ev.step (f := fun q => (matrix_one.f q (k : Int)).bind fun t152 => (matrix_Code.l0 q (k : Int) t152 (m : Int) ((0 : Nat) : Int))) (fun q => by simp only [matrix_Code.j0]; rfl) ?_
    exact Ev.bind (Ev.of (fun q => matrix_one.mono _ q) (one_f k (by omega))) (Code_l0 hk hm hkm m 0 _ (by omega) (by simp [idL]))
omit hk hm hkm in
theorem code_len (k m : Nat) : (codeL k m).length = k + m := by simp [codeL, idL_len]
omit hk hm hkm in
theorem code_row {k m r : Nat} (h : r < k + m) : rd_L1 (codeL k m) r = if r < k then idRow k r else parRow k (r - k) := by
  rw [rdL_nat]
  unfold codeL
  by_cases e : r < k
  · rw [if_pos e, List.getD_eq_getElem?_getD, List.getElem?_append_left (by rw [idL_len]; exact e)]
    simp [idL, e]
  · rw [if_neg e, List.getD_eq_getElem?_getD, List.getElem?_append_right (by rw [idL_len]; omega), idL_len]
    simp [show r - k < m by omega]
omit hk hm hkm in
theorem code_row_len {k m r : Nat} (h : r < k + m) : (rd_L1 (codeL k m) r).length = k := by
  rw [code_row h]; split
  · exact idRow_len k r
  · unfold parRow; rw [tab_len]
omit hk hm hkm in
theorem code_entry {k m r j : Nat} (h : r < k + m) (hj : j < k) : entry (codeL k m) r j = if r < k then one r j else qq r j := by
  unfold entry
  rw [code_row h]
  by_cases e : r < k
  · rw [if_pos e, if_pos e, idRow_tab, tab_rd hj]
  · rw [if_neg e, if_neg e]; unfold parRow; rw [tab_rd hj, show k + (r - k) = r by omega]
omit hk hm in
theorem code_bytes : Bytes (k + m) k (entry (codeL k m)) := by
  intro r j hr hj
  rw [code_entry hr hj]
  split
  · exact one_byte r j
  · exact qq_byte (by unfold Small; omega) (by unfold Small; omega)
theorem code_check : check (codeL k m) = 0 := check_of (m := k) (by rw [code_len]; omega) (by rw [code_len]; omega) hk (by omega) (fun i hi => by rw [code_len] at hi; exact code_row_len hi)
omit hk hm in
theorem code_ok : okB (codeL k m) = true := okB_of (m := k) (fun i hi => by rw [code_len] at hi; exact code_row_len hi) (by rw [code_len]; exact code_bytes hkm)
end

/-! ### Any k rows, all unlike -/
theorem nodup_sub : ∀ {l l' : List Nat}, l.Nodup → (∀ x ∈ l, x ∈ l') → l.length ≤ l'.length
  | [], _, _, _ => Nat.zero_le _
  | a :: l, l', hn, h => by
    rw [List.nodup_cons] at hn
    have ha := h a (by simp)
    have := nodup_sub (l' := l'.erase a) hn.2 (fun x hx => (List.mem_erase_of_ne (fun e => hn.1 (by rw [← e]; exact hx))).2 (h x (List.mem_cons_of_mem _ hx)))
    rw [List.length_erase_of_mem ha] at this
    have hpos : 0 < l'.length := List.length_pos_of_mem ha
    simp only [List.length_cons]; omega
def pickL (k m : Nat) (R : List Nat) : List (List Int) := R.map fun (r : Nat) => rd_L1 (codeL k m) (r : Int)
theorem filter_parts (u : Nat → Bool) : ∀ l : List Nat, l.length = (l.filter u).length + (l.filter (fun x => !u x)).length
  | [] => rfl
  | a :: l => by
    have ih := filter_parts u l
    by_cases e : u a = true
    · rw [List.filter_cons_of_pos e, List.filter_cons_of_neg (by simp [e])]; simp only [List.length_cons]; omega
    · rw [List.filter_cons_of_neg e, List.filter_cons_of_pos (by simpa using e)]; simp only [List.length_cons]; omega
/-- No kernel. -/
theorem pick_kernel {k m : Nat} (hkm : k + m ≤ 16) {R : List Nat} (hR : R.Nodup) (hr : ∀ r ∈ R, r < k + m) (hl : R.length = k) (x : Nat → Int) (hx : ∀ j, j < k → Byte (x j))
    (h : ∀ i, i < k → gsum k (fun j => gmul (entry (pickL k m R) i j) (x j)) = 0) : ∀ j, j < k → x j = 0 := by
  have hrow : ∀ r ∈ R, gsum k (fun j => gmul (if r < k then one r j else qq r j) (x j)) = 0 := by
    intro r hrm
    obtain ⟨i, hi, rfl⟩ := List.getElem_of_mem hrm
    have h1 := h i (by omega)
    rw [← h1]
    refine gsum_congr (fun j hj => ?_)
    have e : entry (pickL k m R) i j = entry (codeL k m) R[i] j := by
      unfold entry
      congr 1
      rw [rdL_nat]; simp [pickL, hi]
    rw [e, code_entry (hr _ hrm) hj]
  have hD : ∀ r ∈ R, r < k → x r = 0 := by
    intro r hrm hk
    have h1 := hrow r hrm
    rw [gsum_congr (g := fun j => gmul (one r j) (x j)) (fun j hj => by rw [if_pos hk]), one_prod (f := x) hk (hx r hk)] at h1
    exact h1
  let u : Nat → Bool := fun j => !(R.contains j)
  let U := (List.range k).filter u
  let Pq := R.filter (fun r => !decide (r < k))
  have hUk : ∀ c ∈ U, c < k ∧ c ∉ R := by
    intro c hc
    obtain ⟨h1, h2⟩ := List.mem_filter.1 hc
    exact ⟨List.mem_range.1 h1, by simpa [u] using h2⟩
  have hPk : ∀ p ∈ Pq, p ∈ R ∧ k ≤ p := by
    intro p hp
    obtain ⟨h1, h2⟩ := List.mem_filter.1 hp
    exact ⟨h1, by simpa using h2⟩
  have hlen : U.length ≤ Pq.length := by
    have a1 := filter_parts u (List.range k)
    have a2 := filter_parts (fun r => decide (r < k)) R
    have a3 : (R.filter (fun r => decide (r < k))).length ≤ ((List.range k).filter (fun x => !u x)).length := by
      refine nodup_sub (List.Nodup.sublist List.filter_sublist hR) (fun r hrm => ?_)
      obtain ⟨h1, h2⟩ := List.mem_filter.1 hrm
      refine List.mem_filter.2 ⟨List.mem_range.2 (by simpa using h2), ?_⟩
      simp [u, h1]
    rw [List.length_range] at a1
    show ((List.range k).filter u).length ≤ (R.filter (fun r => !decide (r < k))).length
    omega
  have hz := cauchy U Pq x hlen (List.Nodup.sublist List.filter_sublist List.nodup_range) (List.Nodup.sublist List.filter_sublist hR)
    (fun c hc => by have := (hUk c hc).1; unfold Small; omega) (fun p hp => by have := hr p (hPk p hp).1; unfold Small; omega)
    (fun p hp c hc => by have h1 := (hPk p hp).2; have h2 := (hUk c hc).1; omega) (fun c hc => hx c (hUk c hc).1) (fun p hp => by
      obtain ⟨h1, h2⟩ := hPk p hp
      have h3 := hrow p h1
      have sp : Small p := by have := hr p h1; unfold Small; omega
      rw [gsum_congr (g := fun j => gmul (x j) (qq p j)) (fun j hj => by rw [if_neg (by omega), gmul_comm (qq_byte sp (by unfold Small; omega)) (hx j hj)]), gsum_lsum _ _ (fun j hj => gmul_byte (hx j hj)),
        lsum_filter u (fun j hj => gmul_byte (hx j (List.mem_range.1 hj))) (fun j hj hu => by
          have hjR : j ∈ R := by simpa [u] using hu
          rw [hD j hjR (List.mem_range.1 hj), zero_gmul])] at h3
      exact h3)
  intro j hj
  by_cases e : j ∈ R
  · exact hD j e hj
  · exact hz j (List.mem_filter.2 ⟨List.mem_range.2 hj, by simp [u, e]⟩)
end Go.Proofs.Ythmlimkmcofkfaa.L

/- Any k unlike rows of the code of k and m have an inverse. -/
namespace Go.Proofs.Ythmlimkmcofkfaa.L
open Go.RowKit Go.Proofs.YthmlimkmcofkfaaW.PrintWords Go.Proofs.Ythmlimkmcofkfaa.E Go.Proofs.Ythmlimkmcofkfaa.B
set_option linter.unusedVariables false

theorem kpick (x : Int) (n : Nat) (h : 0 < n) (hn : n ≤ 1000) : ∃ t : Nat, t < n ∧ stowagekit_Pick.f x (n : Int) = some (t : Int) := by
  have h1 : Int.tmod x n < n := Int.tmod_lt_of_pos x (by omega)
  have h2 : -(n : Int) < Int.tmod x n := by
    have h3 := Int.tmod_lt_of_pos (-x) (show (0 : Int) < n by omega)
    rw [Int.neg_tmod] at h3; omega
  unfold stowagekit_Pick.f
  rw [if_neg (by omega), if_neg (by omega)]
  by_cases e : Int.tmod x n < 0
  · rw [if_pos e]
    refine ⟨(Int.tmod x n + n).toNat, by omega, ?_⟩
    congr 1
    unfold wrap64; omega
  · rw [if_neg e]
    exact ⟨(Int.tmod x n).toNat, by omega, by congr 1; omega⟩
def castL (L : List Nat) : List Int := L.map fun (n : Nat) => (n : Int)
theorem castL_len (L : List Nat) : (castL L).length = L.length := by simp [castL]
theorem castL_rd {L : List Nat} {t : Nat} (h : t < L.length) : rd (castL L) (t : Int) = (L[t] : Nat) := by rw [rd_nat]; simp [castL, h]

/-- The rows that are picked, as the program picks them. -/
theorem Pick_l0 {k m : Nat} (hkm : k + m ≤ 16) (R : List Nat) (hr : ∀ r ∈ R, r < k + m) (hl : R.length ≤ 32) : ∀ (d i : Nat) (acc : List (List Int)), R.length = i + d → acc = pickL k m (R.take i) →
    Ev (fun q => P.matrix_Pick.l0 q (codeL k m) acc (castL R) (R.length : Int) i) (pickL k m R, 0)
  | 0, i, acc, hi, he => by
    refine Ev.step (f := fun q => some (pickL k m R, 0)) (fun q => ?_) (Ev.now _)
    simp only [P.matrix_Pick.l0]
    rw [if_neg (by omega), he, List.take_of_length_le (by omega)]
  | d + 1, i, acc, hi, he => by
    have hlt : i < R.length := by omega
    have hrr := hr R[i] (List.getElem_mem hlt)
    have ih := Pick_l0 hkm R hr hl d (i + 1) (acc ++ [rd_L1 (codeL k m) (R[i] : Nat)]) (by omega) (by rw [he, List.take_succ_eq_append_getElem hlt]; unfold pickL; rw [List.map_append]; rfl)
    refine Ev.step (f := fun q => P.matrix_Pick.l0 q (codeL k m) (acc ++ [rd_L1 (codeL k m) (R[i] : Nat)]) (castL R) (R.length : Int) ((i + 1 : Nat) : Int)) (fun q => ?_) ih
    have hle := code_row_len hrr
    have ha : acc.length ≤ 32 := by rw [he]; simp [pickL]; omega
    simp only [P.matrix_Pick.l0]
    rw [rdP, castL_len, castL_rd hlt, code_len, if_pos (by omega), if_pos (by omega), if_pos (by omega), if_neg (by omega), if_neg (by omega), if_pos (by omega), if_pos (by omega)]
    unfold slices_Clone_byte_byte.f
    rw [if_pos (by omega)]
    simp only [Option.bind_some]
    rw [if_pos (by omega), wrap_succ hlt (by omega)]
theorem erase_perm : ∀ (L : List Nat) (t : Nat) (h : t < L.length), List.Perm (L[t] :: L.eraseIdx t) L
  | a :: L, 0, h => by simp
  | a :: L, t + 1, h => by
    simp only [List.getElem_cons_succ, List.eraseIdx_cons_succ]
    exact (List.Perm.swap _ _ _).trans (List.Perm.cons a (erase_perm L t (by simpa using h)))
theorem Pick_ev {k m : Nat} (hk : 0 < k) (hm : 0 < m) (hkm : k + m ≤ 16) (R : List Nat) (hr : ∀ r ∈ R, r < k + m) (hl : R.length = k) : Ev (fun q => P.matrix_Pick.f q (codeL k m) (castL R)) (pickL k m R, 0) := by
  refine Ev.congr (f := fun q => P.matrix_Pick.l0 q (codeL k m) [] (castL R) (R.length : Int) ((0 : Nat) : Int)) (fun q => ?_) (Pick_l0 hkm R hr (by omega) R.length 0 [] (by omega) (by simp [pickL]))
  simp only [P.matrix_Pick.f, matrix_Check.f, Option.bind_some]
  rw [if_pos (code_check hk hm hkm), castL_len, if_neg (by omega), if_neg (by omega)]
  rfl
theorem pick_len (k m : Nat) (R : List Nat) : (pickL k m R).length = R.length := by simp [pickL]
theorem pick_row {k m : Nat} {R : List Nat} {i : Nat} (h : i < R.length) : rd_L1 (pickL k m R) i = rd_L1 (codeL k m) (R[i] : Nat) := by rw [rdL_nat]; simp [pickL, h]
theorem pick_invert {k m : Nat} (hk : 0 < k) (hm : 0 < m) (hkm : k + m ≤ 16) (R : List Nat) (hR : R.Nodup) (hr : ∀ r ∈ R, r < k + m) (hl : R.length = k) : ∃ X, matrix_Invert.f (pickL k m R) = some (X, 0) := by
  have rct : Rect k (pickL k m R) := fun i hi => by
    rw [pick_len] at hi
    rw [pick_row hi]; exact code_row_len (hr _ (List.getElem_mem hi))
  have byt : Bytes k k (entry (pickL k m R)) := by
    intro i j hi hj
    have hi' : i < R.length := by omega
    have := code_bytes hkm R[i] j (hr _ (List.getElem_mem hi')) hj
    unfold entry at this ⊢
    rw [pick_row hi']; exact this
  have hln : (pickL k m R).length = k := by rw [pick_len, hl]
  have ok : okB (pickL k m R) = true := okB_of rct (by rw [hln]; exact byt)
  have hc : check (pickL k m R) = 0 := check_of (by omega) (by omega) hk (by omega) rct
  have hr0 : (rd_L1 (pickL k m R) 0).length = k := rct 0 (by omega)
  unfold matrix_Invert.f
  rw [if_pos ok]
  unfold invertV invS
  rw [if_neg (by simp [hc]), hr0, hln, if_neg (by simp)]
  rcases kernel (aug_Aug (l := pickL k m R) (n := k)) byt k (Nat.le_refl _) with e | ⟨x, h1, ⟨c, hck, h2⟩, h3⟩
  · rw [if_neg (by omega)]; exact ⟨_, rfl⟩
  · exact absurd (pick_kernel hkm hR hr hl x h1 h3 c hck) h2

end Go.Proofs.Ythmlimkmcofkfaa.L

/- Shards, told of lists: which shards stripe.Split makes of bytes. -/
namespace Go.Proofs.Ythmlimkmcofkfaa.L
open Go.RowKit Go.Proofs.YthmlimkmcofkfaaW.PrintWords Go.Proofs.Ythmlimkmcofkfaa.E Go.Proofs.Ythmlimkmcofkfaa.B
set_option linter.unusedVariables false
set_option linter.unusedSectionVars false

theorem xsum_gsum (f : Nat → Int) : ∀ n : Nat, xsum f n = gsum n f
  | 0 => rfl
  | n + 1 => by simp only [xsum, gsum]; rw [xsum_gsum f n]
/-- Data shards: k of them, each of n bytes. -/
structure Data (k n : Nat) (D : List (List Int)) : Prop where
  len : D.length = k
  row : ∀ i, i < k → (rd_L1 D (i : Int)).length = n
  byte : ∀ i p, i < k → p < n → Byte (rd (rd_L1 D (i : Int)) (p : Int))
theorem Data.ok {k n : Nat} {D : List (List Int)} (h : Data k n D) : okB D = true := okB_of (m := n) (fun i hi => h.row i (by rw [← h.len]; exact hi)) (fun i j hi hj => by rw [h.len] at hi; exact h.byte i j hi hj)
theorem Data.all {k n : Nat} {D : List (List Int)} (h : Data k n D) : D.all (fun s => decide ((n : Int) ≤ s.length)) = true := by
  refine List.all_eq_true.2 fun s hs => ?_
  obtain ⟨i, hi, rfl⟩ := List.getElem_of_mem hs
  have := h.row i (by rw [← h.len]; exact hi)
  rw [rdL_nat] at this
  simp [hi] at this
  simp; omega
/-- What a row makes of shards. -/
def appL (row : List Int) (D : List (List Int)) (k n : Nat) : List Int := tab n (fun p => gsum k (fun i => gmul (rd row (i : Int)) (rd (rd_L1 D (i : Int)) (p : Int))))
theorem appL_len (row : List Int) (D : List (List Int)) (k n : Nat) : (appL row D k n).length = n := tab_len _ _
theorem apply_ok {row : List Int} {D : List (List Int)} {k n : Nat} (hD : Data k n D) (hk : k ≤ 16) (hn : n ≤ 65536) (hr : row.length = k) (hb : ∀ i, i < k → Byte (rd row (i : Int))) : stripe_apply.f row D (n : Int) = some (appL row D k n) := by
  unfold stripe_apply.f
  rw [if_pos]
  · congr 1
    unfold applyL appL tab
    rw [Int.toNat_natCast]
    refine List.map_congr_left fun p _ => ?_
    unfold applyAt
    rw [xsum_gsum, hr]
  · refine ⟨by omega, by rw [hr, hD.len], by rw [hD.len]; exact hk, ?_, hD.ok, hD.all⟩
    refine List.all_eq_true.2 fun x hx => ?_
    obtain ⟨i, hi, rfl⟩ := List.getElem_of_mem hx
    have := hb i (by omega)
    rw [rd_nat] at this
    simpa [hi, Byte] using this
theorem appL_byte {row : List Int} {D : List (List Int)} {k n : Nat} (hD : Data k n D) (hb : ∀ i, i < k → Byte (rd row (i : Int))) {p : Nat} (hp : p < n) : Byte (rd (appL row D k n) (p : Int)) := by
  unfold appL; rw [tab_rd hp]; exact gsum_byte fun i hi => gmul_byte (hb i hi)

theorem parRow_len (k i : Nat) : (parRow k i).length = k := tab_len _ _
theorem drop_code {k m : Nat} : (codeL k m).drop k = (List.range' 0 m).map (parRow k) := by
  unfold codeL; rw [List.drop_append_of_le_length (by rw [idL_len]; exact Nat.le_refl _), List.drop_of_length_le (by rw [idL_len]; exact Nat.le_refl _), List.nil_append]
theorem drop_row {k m j : Nat} (h : j < m) : rd_L1 ((codeL k m).drop k) (j : Int) = parRow k j := by
  rw [drop_code, rdL_nat]; simp [h]
theorem parRow_byte {k m j : Nat} (hkm : k + m ≤ 16) (h : j < m) : ∀ i, i < k → Byte (rd (parRow k j) (i : Int)) := fun i hi => by
  have := code_bytes hkm (k + j) i (by omega) hi
  unfold entry at this
  rw [code_row (by omega), if_neg (by omega), Nat.add_sub_cancel_left] at this
  exact this
/-- All shards of data shards. -/
def allL (D : List (List Int)) (k m n : Nat) : List (List Int) := D ++ (List.range m).map fun j => appL (parRow k j) D k n
def parts (D : List (List Int)) (k n j : Nat) : List (List Int) := D ++ (List.range j).map fun j => appL (parRow k j) D k n
theorem parts_len {D : List (List Int)} {k n j : Nat} (h : D.length = k) : (parts D k n j).length = k + j := by simp [parts, h]
theorem parts_take {D : List (List Int)} {k n j : Nat} (h : D.length = k) : (parts D k n j).take k = D := by unfold parts; rw [List.take_append_of_le_length (by omega), List.take_of_length_le (by omega)]
theorem parts_succ (D : List (List Int)) (k n j : Nat) : parts D k n (j + 1) = parts D k n j ++ [appL (parRow k j) D k n] := by unfold parts; rw [List.range_succ, List.map_append, List.append_assoc]; rfl

section
variable {k m n : Nat} (hk : 0 < k) (hm : 0 < m) (hkm : k + m ≤ 16) (hn : n ≤ 65536) {D : List (List Int)} (hD : Data k n D)
include hk hm hkm hn hD
theorem drop_len : ((codeL k m).drop k).length = m := by rw [List.length_drop, code_len]; omega
theorem Split_l1 : ∀ (d j : Nat), m = j + d → Ev (fun q => stripe_Split.l1 q (k : Int) (n : Int) (parts D k n j) ((codeL k m).drop k) (((codeL k m).drop k).length : Int) (j : Int)) (allL D k m n, 0)
  | 0, j, hj => by
    obtain rfl : m = j := by omega
    refine Ev.step (f := fun _ => some (allL D k m n, 0)) (fun q => ?_) (Ev.now _)
    have hl := drop_len hk hm hkm hn hD
    simp only [stripe_Split.l1]
    rw [if_neg (by omega)]; rfl
  | d + 1, j, hj => by
    have ih := Split_l1 d (j + 1) (by omega)
    refine Ev.step (f := fun q => stripe_Split.l1 q (k : Int) (n : Int) (parts D k n (j + 1)) ((codeL k m).drop k) (((codeL k m).drop k).length : Int) ((j + 1 : Nat) : Int)) (fun q => ?_) ih
    have hl := drop_len hk hm hkm hn hD
    have hp : (parts D k n j).length = k + j := parts_len hD.len
    simp only [stripe_Split.l1]
    rw [hl, if_pos (by omega), if_pos (by omega), if_pos (by omega), if_pos (by omega), if_pos (by omega), Int.toNat_natCast, parts_take hD.len, drop_row (by omega),
      apply_ok hD (by omega) hn (parRow_len k j) (parRow_byte hkm (by omega))]
    simp only [Option.bind_some]
    rw [if_pos (by omega), parts_succ, wrap_succ (show j < m by omega) (by omega)]
end

theorem may_ok {k m : Nat} (hk : 0 < k) (hm : 0 < m) (hkm : k + m ≤ 16) : stripe_may.f (k : Int) (m : Int) = some true := by
  unfold stripe_may.f
  rw [if_pos (by omega), if_pos (by omega), if_pos (by omega)]
  have : (m : Int) ≤ wrap64 (16 - (k : Int)) := by unfold wrap64; omega
  simp [this]
/-- k and m may be, or may tells no. -/
theorem may_cases (a b : Int) (wa : (Lit.int .i64 a).wf = true) (wb : (Lit.int .i64 b).wf = true) : (∃ k m : Nat, a = k ∧ b = m ∧ 0 < k ∧ 0 < m ∧ k + m ≤ 16) ∨ stripe_may.f a b = some false := by
  by_cases h : 1 ≤ a ∧ 1 ≤ b ∧ a ≤ 16 ∧ b ≤ 16 - a
  · left
    refine ⟨a.toNat, b.toNat, by omega, by omega, by omega, by omega, by omega⟩
  · right
    unfold stripe_may.f
    by_cases h1 : a ≥ 1
    · rw [if_pos h1]
      by_cases h2 : b ≥ 1
      · rw [if_pos h2]
        by_cases h3 : a ≤ 16
        · rw [if_pos h3]
          have : ¬ b ≤ wrap64 (16 - a) := by unfold wrap64; omega
          simp [this]
        · rw [if_neg h3]
      · rw [if_neg h2]
    · rw [if_neg h1]
def lenS (L k : Nat) : Nat := (L + k - 1) / k
theorem Length_ok {L k : Nat} (hL : L ≤ 65536) (hk : 0 < k) (hk15 : k ≤ 15) : stripe_Length.f (L : Int) (k : Int) = some ((lenS L k : Int), 0) := by
  unfold stripe_Length.f
  rw [if_neg (by omega), if_neg (by omega), if_neg (by omega), if_neg (by omega), if_neg (by omega)]
  have e1 : wrap64 ((L : Int) + (k : Int)) = ((L + k : Nat) : Int) := by unfold wrap64; omega
  have e2 : wrap64 (((L + k : Nat) : Int) - 1) = ((L + k - 1 : Nat) : Int) := by unfold wrap64; omega
  have e3 : Int.tdiv ((L + k - 1 : Nat) : Int) (k : Int) = ((lenS L k : Nat) : Int) := by unfold lenS; rfl
  have e4 : lenS L k ≤ L + k - 1 := Nat.div_le_self _ _
  rw [e1, e2, e3]
  have e5 : wrap64 ((lenS L k : Nat) : Int) = ((lenS L k : Nat) : Int) := by unfold wrap64; omega
  rw [e5]
/-- The data shards of bytes. -/
def dsh (x : List Int) (n i : Nat) : List Int := tab n (fun p => rd x ((i * n + p : Nat) : Int))
def dataL (x : List Int) (n i : Nat) : List (List Int) := (List.range i).map (dsh x n)
theorem dataL_len (x : List Int) (n i : Nat) : (dataL x n i).length = i := by simp [dataL]
theorem dataL_row {x : List Int} {n k i : Nat} (h : i < k) : rd_L1 (dataL x n k) (i : Int) = dsh x n i := by rw [rdL_nat]; simp [dataL, h]
theorem rd_byte {x : List Int} (hx : ∀ y ∈ x, Byte y) (i : Nat) : Byte (rd x (i : Int)) := by
  rw [rd_nat, List.getD_eq_getElem?_getD]
  by_cases h : i < x.length
  · rw [List.getElem?_eq_getElem h]; exact hx _ (List.getElem_mem h)
  · rw [List.getElem?_eq_none (by omega)]; exact byte_zero
theorem dataL_Data {x : List Int} (hx : ∀ y ∈ x, Byte y) (n k : Nat) : Data k n (dataL x n k) :=
  ⟨dataL_len x n k, fun i hi => by rw [dataL_row hi]; exact tab_len _ _, fun i p hi hp => by rw [dataL_row hi]; unfold dsh; rw [tab_rd hp]; exact rd_byte hx _⟩
theorem dsh_copy {x : List Int} {n i : Nat} (h : i * n < x.length) : copyL (List.replicate n 0) (x.drop (i * n)) = dsh x n i := by
  apply List.ext_getElem?
  intro p
  unfold copyL dsh tab
  rw [List.length_replicate, List.length_drop, List.drop_replicate, List.getElem?_map]
  by_cases hp : p < n
  · rw [List.getElem?_range hp]
    by_cases hq : i * n + p < x.length
    · rw [List.getElem?_append_left (by rw [List.length_take, List.length_drop]; omega), List.getElem?_take, if_pos hp, List.getElem?_drop, List.getElem?_eq_getElem hq]
      simp only [Option.map_some]
      rw [rd_nat, List.getD_eq_getElem?_getD, List.getElem?_eq_getElem hq]; rfl
    · rw [List.getElem?_append_right (by rw [List.length_take, List.length_drop]; omega), List.length_take, List.length_drop, List.getElem?_replicate, if_pos (by omega)]
      simp only [Option.map_some]
      rw [rd_nat, List.getD_eq_getElem?_getD, List.getElem?_eq_none (by omega)]; rfl
  · rw [List.getElem?_eq_none (by rw [List.length_append, List.length_take, List.length_drop, List.length_replicate]; omega), List.getElem?_eq_none (by rw [List.length_range]; omega)]; rfl
theorem dsh_none {x : List Int} {n i : Nat} (h : ¬ i * n < x.length) : List.replicate n 0 = dsh x n i := by
  apply List.ext_getElem?
  intro p
  unfold dsh tab
  rw [List.getElem?_map]
  by_cases hp : p < n
  · rw [List.getElem?_range hp, List.getElem?_replicate, if_pos hp]
    simp only [Option.map_some]
    rw [rd_nat, List.getD_eq_getElem?_getD, List.getElem?_eq_none (by omega)]; rfl
  · rw [List.getElem?_replicate, if_neg hp, List.getElem?_eq_none (by rw [List.length_range]; omega)]; rfl
theorem dataL_succ (x : List Int) (n i : Nat) : dataL x n (i + 1) = dataL x n i ++ [dsh x n i] := by unfold dataL; rw [List.range_succ, List.map_append]; rfl

section
variable {k m : Nat} (hk : 0 < k) (hm : 0 < m) (hkm : k + m ≤ 16) {x : List Int} (hL : x.length ≤ 65536) (hx : ∀ y ∈ x, Byte y)
include hk hm hkm hL hx
theorem lenS_le : lenS x.length k ≤ 65536 := by
  have h : lenS x.length k ≤ x.length := by
    unfold lenS
    rw [Nat.div_le_iff_le_mul_add_pred hk]
    have : x.length ≤ k * x.length := Nat.le_mul_of_pos_left _ hk
    omega
  omega
theorem Split_round {n i : Nat} (hn : n ≤ 65536) (hpos : 0 < x.length → 0 < n) (hi : i < k) (q : Nat) : stripe_Split.l0 (q + 1) x (k : Int) (m : Int) (n : Int) (dataL x n i) (k : Int) (i : Int) = stripe_Split.l0 q x (k : Int) (m : Int) (n : Int) (dataL x n (i + 1)) (k : Int) ((i + 1 : Nat) : Int) := by
  have hin : i * n ≤ 16 * 65536 := Nat.mul_le_mul (by omega) hn
  have ew : Aside0 (wrap64 ((i : Int) * (n : Int)) = ((i * n : Nat) : Int)) := ⟨by rw [← Int.natCast_mul]; unfold wrap64; omega⟩
  have hdl := dataL_len x n i
  have es := dataL_succ x n i
  have ec := @dsh_copy x n i
  have en := @dsh_none x n i
  rw [es]
  generalize dsh x n i = dd at ec en
  generalize i * n = t at hin ew ec en
  rw [stripe_Split.l0.eq_2, if_pos (by omega), if_pos (by omega), Int.toNat_natCast, if_pos (by omega), Option.bind_some]
  rw [ew.out, wrap_succ (show i < k by omega) (by omega), List.length_replicate, Int.toNat_natCast]
  by_cases hc : t < x.length
  · have hp := hpos (by omega)
    rw [if_pos (by omega), if_pos (by omega), if_pos (by omega), if_pos (by omega), if_pos (by omega), ec hc]
  · rw [if_neg (by omega), if_pos (by omega), en hc]
theorem Split_end {n : Nat} (hn : n ≤ 65536) : Ev (fun q => stripe_Split.l0 q x (k : Int) (m : Int) (n : Int) (dataL x n k) (k : Int) (k : Int)) (allL (dataL x n k) k m n, 0) := by
  have hD := dataL_Data hx n k
  refine Ev.step (f := fun q => (matrix_Code.f q (k : Int) (m : Int)).bind fun bt139 => (if (0 : Int) ≤ (k : Int) then (if (k : Int) ≤ (bt139.1.length : Int) then ((some (bt139.1.drop (k : Int).toNat : List (List Int))).bind fun y143 => (stripe_Split.l1 q (k : Int) (n : Int) (dataL x n k) y143 (y143.length : Int) 0)) else (none)) else (none))) (fun q => ?_) ?_
  · simp only [stripe_Split.l0]
    rw [if_neg (by omega)]
  · refine Ev.bind (code_ev hk hm hkm) ?_
    refine Ev.congr (fun q => if_pos (by omega)) ?_
    refine Ev.congr (fun q => if_pos (by rw [code_len]; omega)) ?_
    simp only [Option.bind_some, Int.toNat_natCast]
    have h := Split_l1 hk hm hkm hn hD m 0 (by omega)
    have e : parts (dataL x n k) k n 0 = dataL x n k := by simp [parts]
    rw [e] at h
    exact h
theorem Split_l0 {n : Nat} (hn : n ≤ 65536) (hpos : 0 < x.length → 0 < n) : ∀ (d i : Nat), k = i + d → Ev (fun q => stripe_Split.l0 q x (k : Int) (m : Int) (n : Int) (dataL x n i) (k : Int) (i : Int)) (allL (dataL x n k) k m n, 0) := by
  intro d
  induction d with
  | zero => intro i hi; obtain rfl : k = i := by omega
            exact Split_end hk hm hkm hL hx hn
  | succ d ih => intro i hi; exact Ev.step (fun q => Split_round hk hm hkm hL hx hn hpos (by omega) q) (ih (i + 1) (by omega))
theorem Split_ev : Ev (fun q => stripe_Split.f q x (k : Int) (m : Int)) (allL (dataL x (lenS x.length k) k) k m (lenS x.length k), 0) := by
  have h := Split_l0 hk hm hkm hL hx (lenS_le hk hm hkm hL hx) (fun h0 => by unfold lenS; exact Nat.div_pos (by omega) hk) k 0 (by omega)
  refine Ev.congr (fun q => ?_) h
  unfold stripe_Split.f
  rw [may_ok hk hm hkm]
  simp only [Option.bind_some, if_true]
  rw [if_neg (by omega), Length_ok hL hk (by omega)]
  rfl
end
end Go.Proofs.Ythmlimkmcofkfaa.L

/- Shards, told of lists: any k of them tell the data shards; fewer tell nothing. -/
namespace Go.Proofs.Ythmlimkmcofkfaa.L
open Go.RowKit Go.Proofs.YthmlimkmcofkfaaW.PrintWords Go.Proofs.Ythmlimkmcofkfaa.E Go.Proofs.Ythmlimkmcofkfaa.B
set_option linter.unusedVariables false
set_option linter.unusedSectionVars false

/-- The inverse of k picked rows. -/
theorem pick_inverse {k m : Nat} (hk : 0 < k) (hm : 0 < m) (hkm : k + m ≤ 16) (R : List Nat) (hR : R.Nodup) (hr : ∀ r ∈ R, r < k + m) (hl : R.length = k) :
    ∃ X, matrix_Invert.f (pickL k m R) = some (X, 0) ∧ X.length = k ∧ (∀ i : Nat, i < k → (rd_L1 X (i : Int)).length = k) ∧ Bytes k k (entry X) ∧ (∀ i j, i < k → j < k → prod k (entry X) (entry (pickL k m R)) i j = one i j) ∧ Bytes k k (entry (pickL k m R)) := by
  have rct : Rect k (pickL k m R) := fun i hi => by
    rw [pick_len] at hi
    rw [pick_row hi]; exact code_row_len (hr _ (List.getElem_mem hi))
  have byt : Bytes k k (entry (pickL k m R)) := by
    intro i j hi hj
    have hi' : i < R.length := by omega
    have := code_bytes hkm R[i] j (hr _ (List.getElem_mem hi')) hj
    unfold entry at this ⊢
    rw [pick_row hi']; exact this
  have hln : (pickL k m R).length = k := by rw [pick_len, hl]
  have ok : okB (pickL k m R) = true := okB_of rct (by rw [hln]; exact byt)
  have hc : check (pickL k m R) = 0 := check_of (by omega) (by omega) hk (by omega) rct
  have hr0 : (rd_L1 (pickL k m R) 0).length = k := rct 0 (by omega)
  unfold matrix_Invert.f
  rw [if_pos ok]
  unfold invertV invS
  rw [if_neg (by simp [hc]), hr0, hln, if_neg (by simp)]
  rcases kernel (aug_Aug (l := pickL k m R) (n := k)) byt k (Nat.le_refl _) with e | ⟨x, h1, ⟨c, hck, h2⟩, h3⟩
  · rw [if_neg (by omega)]
    obtain ⟨i1, i2, i3⟩ := inverse (aug_Aug (l := pickL k m R)) byt e
    generalize (sweepM k k (0, augM (pickL k m R) k)).2 = S at *
    refine ⟨_, rfl, rightL_len _ _, fun i hi => rightL_rect S k i (by rw [rightL_len]; exact hi), fun i j hi hj => by rw [rightL_entry hi hj]; exact i1 i j hi hj, fun i j hi hj => ?_, byt⟩
    rw [← i2 i j hi hj]
    exact gsum_congr (fun t ht => by rw [rightL_entry hi ht])
  · exact absurd (pick_kernel hkm hR hr hl x h1 h3 c hck) h2

/-- All shards, byte by byte. -/
theorem allL_len {D : List (List Int)} {k m n : Nat} (h : D.length = k) : (allL D k m n).length = k + m := by simp [allL, h]
theorem one_gsum {k r : Nat} {f : Nat → Int} (hr : r < k) (hf : ∀ i, i < k → Byte (f i)) : gsum k (fun i => gmul (one r i) (f i)) = f r := by
  rw [gsum_at hr (gmul_byte (one_byte r r)) (fun i hi e => by unfold one; rw [if_neg (fun h => e h.symm), zero_gmul])]
  unfold one; rw [if_pos rfl, one_gmul (hf r hr)]
theorem allL_row {D : List (List Int)} {k m n r : Nat} (hkm : k + m ≤ 16) (hD : Data k n D) (hr : r < k + m) :
    (rd_L1 (allL D k m n) (r : Int)).length = n ∧ ∀ p, p < n → rd (rd_L1 (allL D k m n) (r : Int)) (p : Int) = gsum k (fun i => gmul (entry (codeL k m) r i) (rd (rd_L1 D (i : Int)) (p : Int))) := by
  by_cases h : r < k
  · have e : rd_L1 (allL D k m n) (r : Int) = rd_L1 D (r : Int) := by
      rw [rdL_nat, rdL_nat]; unfold allL
      rw [List.getD_eq_getElem?_getD, List.getD_eq_getElem?_getD, List.getElem?_append_left (by rw [hD.len]; exact h)]
    rw [e]
    refine ⟨hD.row r h, fun p hp => ?_⟩
    rw [gsum_congr (g := fun i => gmul (one r i) (rd (rd_L1 D (i : Int)) (p : Int))) (fun i hi => by rw [code_entry hr hi, if_pos h]), one_gsum h (fun i hi => hD.byte i p hi hp)]
  · have e : rd_L1 (allL D k m n) (r : Int) = appL (parRow k (r - k)) D k n := by
      rw [rdL_nat]; unfold allL
      rw [List.getD_eq_getElem?_getD, List.getElem?_append_right (by rw [hD.len]; omega), hD.len, List.getElem?_map, List.getElem?_range (by omega)]; rfl
    rw [e]
    refine ⟨appL_len _ _ _ _, fun p hp => ?_⟩
    unfold appL
    rw [tab_rd hp]
    refine gsum_congr fun i hi => ?_
    rw [code_entry hr hi, if_neg h]
    unfold parRow
    rw [tab_rd hi, show k + (r - k) = r by omega]
theorem allL_byte {D : List (List Int)} {k m n r p : Nat} (hkm : k + m ≤ 16) (hD : Data k n D) (hr : r < k + m) (hp : p < n) : Byte (rd (rd_L1 (allL D k m n) (r : Int)) (p : Int)) := by
  rw [(allL_row hkm hD hr).2 p hp]
  exact gsum_byte fun i hi => gmul_byte (code_bytes hkm r i hr hi)
theorem row_tab {x : List Int} {n : Nat} (h : x.length = n) : x = tab n (fun p => rd x (p : Int)) := by
  subst h
  apply List.ext_getElem?
  intro i
  unfold tab
  rw [List.getElem?_map]
  by_cases hi : i < x.length
  · rw [List.getElem?_range hi, List.getElem?_eq_getElem hi]; simp [rd_nat, hi]
  · rw [List.getElem?_eq_none (by omega), List.getElem?_eq_none (by rw [List.length_range]; omega)]; rfl
theorem rows_map {X : List (List Int)} {k : Nat} (h : X.length = k) : X = (List.range k).map (fun i => rd_L1 X ((i : Nat) : Int)) := by
  subst h
  apply List.ext_getElem?
  intro i
  rw [List.getElem?_map]
  by_cases hi : i < X.length
  · rw [List.getElem?_range hi, List.getElem?_eq_getElem hi]; simp [rdL_nat, hi]
  · rw [List.getElem?_eq_none (by omega), List.getElem?_eq_none (by rw [List.length_range]; omega)]; rfl

/-- Which are there, of the first i. -/
def trues (hv : List Bool) (i : Nat) : List Nat := (List.range i).filter (fun t => rdOf false hv ((t : Nat) : Int))
theorem trues_succ (hv : List Bool) (i : Nat) : trues hv (i + 1) = if rdOf false hv (i : Int) = true then trues hv i ++ [i] else trues hv i := by
  unfold trues
  rw [List.range_succ, List.filter_append]
  by_cases h : rdOf false hv (i : Int) = true
  · rw [if_pos h]; simp [h]
  · rw [if_neg h]; simp [h]
theorem trues_nodup (hv : List Bool) (i : Nat) : (trues hv i).Nodup := List.Pairwise.filter _ List.nodup_range
theorem trues_lt {hv : List Bool} {i r : Nat} (h : r ∈ trues hv i) : r < i := List.mem_range.1 (List.mem_filter.1 h).1
theorem trues_true {hv : List Bool} {i r : Nat} (h : r ∈ trues hv i) : rdOf false hv (r : Int) = true := (List.mem_filter.1 h).2
theorem trues_le {hv : List Bool} : ∀ {i j : Nat}, i ≤ j → (trues hv i).length ≤ (trues hv j).length
  | i, j, h => by
    obtain ⟨d, rfl⟩ := Nat.exists_eq_add_of_le h
    induction d with
    | zero => exact Nat.le_refl _
    | succ d ih =>
      refine Nat.le_trans (ih (by omega)) ?_
      rw [← Nat.add_assoc, trues_succ]
      split
      · simp
      · exact Nat.le_refl _
def ofL (sh : List (List Int)) (R : List Nat) : List (List Int) := R.map fun r => rd_L1 sh ((r : Nat) : Int)
section
variable {k m N : Nat} {n : Int} {sh : List (List Int)} {hv : List Bool} (hsh : sh.length = N) (hhv : hv.length = N) (hN : N ≤ 1000)
include hsh hhv hN
theorem data_l0 {r : List (List Int) × Bool} (h : ∀ i, i ≤ N → (trues hv i).length ≤ k → ((trues hv i).length = k ∨ i = N) → Ev (fun q => stripe_data.j1 q (k : Int) (m : Int) n (castL (trues hv i)) (ofL sh (trues hv i))) r) :
    ∀ (d i : Nat), N = i + d → (trues hv i).length ≤ k → Ev (fun q => stripe_data.l0 q sh (k : Int) (m : Int) n (castL (trues hv i)) (ofL sh (trues hv i)) hv (hv.length : Int) (i : Int)) r
  | 0, i, hi, hl => by
    refine Ev.step (fun q => ?_) (h i (by omega) hl (.inr (by omega)))
    simp only [stripe_data.l0]
    rw [if_neg (by omega)]
  | d + 1, i, hi, hl => by
    have htl : (trues hv i).length ≤ i := by
      have := List.length_filter_le (fun t : Nat => rdOf false hv ((t : Nat) : Int)) (List.range i)
      rw [List.length_range] at this; exact this
    by_cases e : (trues hv i).length = k
    · refine Ev.step (fun q => ?_) (h i (by omega) hl (.inl e))
      simp only [stripe_data.l0]
      rw [if_pos (by omega), if_pos (by omega), if_pos (by omega), castL_len, if_pos (by omega)]
    · have ih := data_l0 h d (i + 1) (by omega) (by rw [trues_succ]; split <;> (first | omega | (simp; omega)))
      refine Ev.step (fun q => ?_) ih
      simp only [stripe_data.l0]
      rw [if_pos (by omega), if_pos (by omega), if_pos (by omega), castL_len, if_neg (by omega), trues_succ, wrap_succ (show i < N by omega) (by omega)]
      have hol : (ofL sh (trues hv i)).length = (trues hv i).length := by simp [ofL]
      by_cases c : rdOf false hv (i : Int) = true
      · rw [if_pos c, if_pos c, if_pos (by omega), if_pos (by omega), if_pos (by omega)]
        have e1 : castL (trues hv i ++ [i]) = castL (trues hv i) ++ [(i : Int)] := by simp [castL]
        have e2 : ofL sh (trues hv i ++ [i]) = ofL sh (trues hv i) ++ [rd_L1 sh (i : Int)] := by simp [ofL]
        rw [e1, e2]
      · rw [if_neg c, if_neg c]
theorem data_few (hf : (trues hv N).length < k) : Ev (fun q => stripe_data.f q sh hv (k : Int) (m : Int) n) (([] : List (List Int)), false) := by
  have h := data_l0 (k := k) (m := m) (n := n) hsh hhv hN (r := (([] : List (List Int)), false)) (fun i hi hl he => by
    have hle := trues_le (hv := hv) hi
    refine Ev.step (f := fun _ => some (([] : List (List Int)), false)) (fun q => ?_) (Ev.now _)
    simp only [stripe_data.j1]
    rw [castL_len, if_pos (by omega)]) N 0 (by omega) (by simp [trues])
  exact h
end
section
variable {k m n : Nat} (hk : 0 < k) (hm : 0 < m) (hkm : k + m ≤ 16) (hn : n ≤ 65536) {D : List (List Int)} (hD : Data k n D) {sh : List (List Int)} {hv : List Bool}
include hk hm hkm hn hD
theorem data_l1 {X O : List (List Int)} (hO : Data k n O) (hX : X.length = k) (rX : ∀ i : Nat, i < k → (rd_L1 X (i : Int)).length = k) (bX : Bytes k k (entry X)) :
    ∀ (d i : Nat), k = i + d → Ev (fun q => stripe_data.l1 q (n : Int) O ((List.range i).map fun i => appL (rd_L1 X ((i : Nat) : Int)) O k n) X (X.length : Int) (i : Int)) ((List.range k).map (fun i => appL (rd_L1 X ((i : Nat) : Int)) O k n), true)
  | 0, i, hi => by
    obtain rfl : k = i := by omega
    refine Ev.step (f := fun _ => some ((List.range k).map (fun i => appL (rd_L1 X ((i : Nat) : Int)) O k n), true)) (fun q => ?_) (Ev.now _)
    simp only [stripe_data.l1]
    rw [if_neg (by omega)]
  | d + 1, i, hi => by
    have ih := data_l1 hO hX rX bX d (i + 1) (by omega)
    refine Ev.step (fun q => ?_) ih
    simp only [stripe_data.l1]
    rw [if_pos (by omega), if_pos (by omega), if_pos (by omega), apply_ok hO (by omega) hn (rX i (by omega)) (fun j hj => bX i j (by omega) hj)]
    simp only [Option.bind_some]
    rw [if_pos (by rw [List.length_map, List.length_range]; omega), List.range_succ, List.map_append, wrap_succ (show i < k by omega) (by omega)]
    rfl
theorem data_ok (hsh : sh.length = k + m) (hhv : hv.length = k + m) (hc : k ≤ (trues hv (k + m)).length) (he : ∀ r, r < k + m → rdOf false hv (r : Int) = true → rd_L1 sh (r : Int) = rd_L1 (allL D k m n) (r : Int)) :
    Ev (fun q => stripe_data.f q sh hv (k : Int) (m : Int) (n : Int)) (D, true) := by
  refine data_l0 (k := k) (m := m) hsh hhv (by omega) (r := (D, true)) (fun i hi hl hend => ?_) (k + m) 0 (by omega) (by simp [trues])
  have hlen : (trues hv i).length = k := by
    rcases hend with h | h
    · exact h
    · subst h; omega
  have hlt : ∀ r ∈ trues hv i, r < k + m := fun r hr => by have := trues_lt hr; omega
  obtain ⟨X, hX, lX, rX, bX, pX, bP⟩ := pick_inverse hk hm hkm (trues hv i) (trues_nodup hv i) hlt hlen
  have hO : Data k n (ofL sh (trues hv i)) := by
    have hrow : ∀ t (ht : t < (trues hv i).length), rd_L1 (ofL sh (trues hv i)) (t : Int) = rd_L1 (allL D k m n) ((trues hv i)[t] : Nat) := fun t ht => by
      have hmem := List.getElem_mem ht
      rw [← he _ (hlt _ hmem) (trues_true hmem), rdL_nat]; simp [ofL, ht]
    refine ⟨by simp [ofL, hlen], fun t ht => ?_, fun t p ht hp => ?_⟩
    · have ht' : t < (trues hv i).length := by omega
      rw [hrow t ht']; exact (allL_row hkm hD (hlt _ (List.getElem_mem ht'))).1
    · have ht' : t < (trues hv i).length := by omega
      rw [hrow t ht']; exact allL_byte hkm hD (hlt _ (List.getElem_mem ht')) hp
  have hOv : ∀ t p, t < k → p < n → rd (rd_L1 (ofL sh (trues hv i)) (t : Int)) (p : Int) = prod k (entry (pickL k m (trues hv i))) (fun i p => rd (rd_L1 D (i : Int)) (p : Int)) t p := by
    intro t p ht hp
    have ht' : t < (trues hv i).length := by omega
    have hmem := List.getElem_mem ht'
    have e1 : rd_L1 (ofL sh (trues hv i)) (t : Int) = rd_L1 (allL D k m n) ((trues hv i)[t] : Nat) := by
      rw [← he _ (hlt _ hmem) (trues_true hmem), rdL_nat]; simp [ofL, ht']
    rw [e1, (allL_row hkm hD (hlt _ hmem)).2 p hp]
    refine gsum_congr fun j hj => ?_
    unfold entry
    rw [pick_row ht']
  have hfin : ((List.range k).map fun i_1 => appL (rd_L1 X ((i_1 : Nat) : Int)) (ofL sh (trues hv i)) k n) = D := by
    conv => rhs; rw [rows_map hD.len]
    refine List.map_congr_left fun a ha => ?_
    have ha' : a < k := List.mem_range.1 ha
    rw [row_tab (hD.row a ha')]
    refine tab_congr fun p hp => ?_
    rw [gsum_congr (g := fun t => gmul (entry X a t) (prod k (entry (pickL k m (trues hv i))) (fun i p => rd (rd_L1 D (i : Int)) (p : Int)) t p)) (fun t ht => by rw [hOv t p ht hp]; rfl)]
    show prod k (entry X) (prod k (entry (pickL k m (trues hv i))) (fun i p => rd (rd_L1 D (i : Int)) (p : Int))) a p = _
    rw [← prod_assoc (p := k) (n := k) (m := k) (q := n) bX bP (fun i p hi hp => hD.byte i p hi hp) ha' hp]
    unfold prod
    rw [gsum_congr (g := fun t => gmul (one a t) (rd (rd_L1 D (t : Int)) (p : Int))) (fun t ht => by rw [← pX a t ha' ht]; rfl), one_gsum ha' (fun t ht => hD.byte t p ht hp)]
  have h1 := data_l1 hk hm hkm hn hD hO lX rX bX k 0 (by omega)
  rw [hfin] at h1
  refine Ev.step (f := fun q => (matrix_Code.f q (k : Int) (m : Int)).bind fun bt149 => ((P.matrix_Pick.f q bt149.1 (castL (trues hv i))).bind fun bt153 => ((matrix_Invert.f bt153.1).bind fun bt157 => (stripe_data.l1 q (n : Int) (ofL sh (trues hv i)) ([] : List (List Int)) bt157.1 (bt157.1.length : Int) 0)))) (fun q => ?_) ?_
  · simp only [stripe_data.j1]
    rw [castL_len, if_neg (by omega)]
  · refine Ev.bind (code_ev hk hm hkm) ?_
    refine Ev.bind (Pick_ev hk hm hkm (trues hv i) hlt hlen) ?_
    refine Ev.bind (evc hX) ?_
    exact h1
end
end Go.Proofs.Ythmlimkmcofkfaa.L
