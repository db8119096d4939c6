/- StripeTurned: shards of which one byte is turned do not go together, of any bytes of 1 to 1,000, any k and m that may be, any byte. (Part 7 of 7.) -/
import Derived.Lib.Bytes
import Derived.Test.YthmlimkmcofkfaaRows
import Derived.WalkKit
import Derived.ProofKit
import Derived.OpenShut
import Derived.ShutString
import Derived.ChangeOld
import Derived.Below
import Derived.SizedLaws
import Derived.Test.YthmlimkmcofkfaaWSized
import Derived.Test.YthmlimkmcofkfaaMTurned3
import Derived.Test.YthmlimkmcofkfaaMTurned4
import Derived.Test.YthmlimkmcofkfaaMTurned5
/- Contracts of functions of the program, written by a program of this session. -/
namespace Go.Proofs.Ythmlimkmcofkfaa.Q
open Go.RowKit Go.Proofs.YthmlimkmcofkfaaW.PrintWords Go.Proofs.YthmlimkmcofkfaaW.PrintLast Go.Proofs.YthmlimkmcofkfaaW.PrintMore
attribute [local go_sem] max2_int min2_int max_two min_two max_three min_three max_four min_four   -- for this text's walks alone
open Go.Proofs.Ythmlimkmcofkfaa.B Go.Proofs.Ythmlimkmcofkfaa.E
set_option linter.unusedVariables false
set_option linter.unusedSimpArgs false

/-! ### stripe_Mend: function 47 -/
def stripe_Mend.l0 : Nat → Int → Int → List (List Int) → List (List Int) → Int → Int → Option ((List (List Int)) × Int)
  | 0, _, _, _, _, _, _ => none
  | k + 1, x2, x10, x12, x52, x53, x54 => if x54 < x53 then (if 0 ≤ x54 then (if x54 < (x52.length : Int) then (if 0 ≤ x2 then (if x2 ≤ (x12.length : Int) then ((stripe_apply.f (rd_L1 x52 x54) (x12.take (x2 : Int).toNat) x10).bind fun t267 => (if x12.length < 5864062014805 then (stripe_Mend.l0 k x2 x10 (x12 ++ [t267]) x52 x53 (wrap64 (x54 + 1))) else (none))) else (none)) else (none)) else (none)) else (none)) else (some (x12, 0))
def stripe_Mend.f (k : Nat) (l0 : List (List Int)) (l1 : List Bool) (a2 : Int) (a3 : Int) : Option ((List (List Int)) × Int) := (stripe_may.f a2 a3).bind fun t247 => (if t247 = true then ((stripe_look.f k l0 l1 a2 a3 (-1)).bind fun bt248 => (if bt248.2 = 0 then ((stripe_data.f k l0 l1 a2 a3 bt248.1).bind fun bt250 => (if bt250.2 = true then ((matrix_Code.f k a2 a3).bind fun bt254 => (if 0 ≤ a2 then (if a2 ≤ (bt254.1.length : Int) then ((some (bt254.1.drop (a2 : Int).toNat : List (List Int))).bind fun y258 => (stripe_Mend.l0 k a2 bt248.1 bt250.1 y258 (y258.length : Int) 0)) else (none)) else (none))) else (some (([] : List (List Int)), 10)))) else (some (([] : List (List Int)), bt248.2)))) else (some (([] : List (List Int)), 5)))
theorem stripe_Mend.mono_l : ∀ k, (∀ y0 y1 y2 y3 y4 y5, LeO (stripe_Mend.l0 k y0 y1 y2 y3 y4 y5) (stripe_Mend.l0 (k + 1) y0 y1 y2 y3 y4 y5))
  | 0 => fun _ _ _ _ _ _ r h => by simp [stripe_Mend.l0] at h
  | k + 1 => by
    have ih0 := stripe_Mend.mono_l k
    · intro y0 y1 y2 y3 y4 y5
      unfold stripe_Mend.l0
      repeat' first
      | (with_reducible exact ih0 _ _ _ _ _ _)
      | (with_reducible exact matrix_Code.mono _ _ _)
      | (with_reducible exact stripe_data.mono _ _ _ _ _ _)
      | (with_reducible exact stripe_look.mono _ _ _ _ _ _)
      | (with_reducible exact LeO.refl _)
      | (with_reducible exact LeO.none _)
      | (with_reducible refine LeO.ite ?_ ?_)
      | (with_reducible refine LeO.bind ?_ (fun _ => ?_))
      | exact ih0 _ _ _ _ _ _
      | exact matrix_Code.mono _ _ _
      | exact stripe_data.mono _ _ _ _ _ _
      | exact stripe_look.mono _ _ _ _ _ _
      | exact LeO.none _
      | refine LeO.ite ?_ ?_
      | refine LeO.bind ?_ (fun _ => ?_)
theorem stripe_Mend.mono : ∀ a0 a1 a2 a3 k, LeO (stripe_Mend.f k a0 a1 a2 a3) (stripe_Mend.f (k + 1) a0 a1 a2 a3) := by
  intro a0 a1 a2 a3 k
  have ih0 := stripe_Mend.mono_l k
  unfold stripe_Mend.f
  repeat' first
      | (with_reducible exact ih0 _ _ _ _ _ _)
      | (with_reducible exact matrix_Code.mono _ _ _)
      | (with_reducible exact stripe_data.mono _ _ _ _ _ _)
      | (with_reducible exact stripe_look.mono _ _ _ _ _ _)
      | (with_reducible exact LeO.refl _)
      | (with_reducible exact LeO.none _)
      | (with_reducible refine LeO.ite ?_ ?_)
      | (with_reducible refine LeO.bind ?_ (fun _ => ?_))
      | exact ih0 _ _ _ _ _ _
      | exact matrix_Code.mono _ _ _
      | exact stripe_data.mono _ _ _ _ _ _
      | exact stripe_look.mono _ _ _ _ _ _
      | exact LeO.none _
      | refine LeO.ite ?_ ?_
      | refine LeO.bind ?_ (fun _ => ?_)
set_option maxHeartbeats 8000000 in
set_option maxRecDepth 100000 in
theorem stripe_Mend.calls (k : Nat) (A0 : Option Addr) (c0 : Nat) (l0 : List (List Int)) (A1 : Option Addr) (c1 : Nat) (l1 : List Bool) (a2 : Int) (a3 : Int) (r1 : List (List Int)) (r2 : Int) (w : World) (hr0 : Kd.C (Kd.slice 5 (Kd.int .u8)) w A0 l0.length l0) (hc0 : l0.length ≤ c0) (hr1 : Kd.C Kd.bool w A1 l1.length l1) (hc1 : l1.length ≤ c1) (h : stripe_Mend.f k l0 l1 a2 a3 = some (r1, r2)) :
    Calls Try.prog 47 #[.slice A0 l0.length c0, .slice A1 l1.length c1, .int .i64 a2, .int .i64 a3] w fun e w' => ∃ v0_ : Value, e = .returned (.tuple #[v0_, .int .i64 r2]) ∧ Kd.S (Kd.slice 5 (Kd.int .u8)) 41 w' w.heap.size (fun _ => True) v0_ r1 ∧ Below w.heap.size w w' := by
  have HR0 := Aside0.mk hr0
  have HC0 := Aside0.mk hc0
  clear hr0 hc0
  have HR1 := Aside0.mk hr1
  have HC1 := Aside0.mk hc1
  clear hr1 hc1
  have HB := Aside0.mk (Below.refl w.heap.size w)
  have H : ((stripe_may.f a2 a3).bind fun t247 => (if t247 = true then ((stripe_look.f k l0 l1 a2 a3 (-1)).bind fun bt248 => (if bt248.2 = 0 then ((stripe_data.f k l0 l1 a2 a3 bt248.1).bind fun bt250 => (if bt250.2 = true then ((matrix_Code.f k a2 a3).bind fun bt254 => (if 0 ≤ a2 then (if a2 ≤ (bt254.1.length : Int) then ((some (bt254.1.drop (a2 : Int).toNat : List (List Int))).bind fun y258 => (stripe_Mend.l0 k a2 bt248.1 bt250.1 y258 (y258.length : Int) 0)) else (none)) else (none))) else (some (([] : List (List Int)), 10)))) else (some (([] : List (List Int)), bt248.2)))) else (some (([] : List (List Int)), 5)))) = some (r1, r2) := h
  clear h
  replace H := Option.bind_eq_some_iff.mp H
  obtain ⟨t247, A50, H⟩ := H
  replace H : (if t247 = true then ((stripe_look.f k l0 l1 a2 a3 (-1)).bind fun bt248 => (if bt248.2 = 0 then ((stripe_data.f k l0 l1 a2 a3 bt248.1).bind fun bt250 => (if bt250.2 = true then ((matrix_Code.f k a2 a3).bind fun bt254 => (if 0 ≤ a2 then (if a2 ≤ (bt254.1.length : Int) then ((some (bt254.1.drop (a2 : Int).toNat : List (List Int))).bind fun y258 => (stripe_Mend.l0 k a2 bt248.1 bt250.1 y258 (y258.length : Int) 0)) else (none)) else (none))) else (some (([] : List (List Int)), 10)))) else (some (([] : List (List Int)), bt248.2)))) else (some (([] : List (List Int)), 5))) = some (r1, r2) := H
  have A5 := Aside0.mk A50
  clear A50
  by_cases c6 : t247 = true
  · subst c6
    have H1 : ((stripe_look.f k l0 l1 a2 a3 (-1)).bind fun bt248 => (if bt248.2 = 0 then ((stripe_data.f k l0 l1 a2 a3 bt248.1).bind fun bt250 => (if bt250.2 = true then ((matrix_Code.f k a2 a3).bind fun bt254 => (if 0 ≤ a2 then (if a2 ≤ (bt254.1.length : Int) then ((some (bt254.1.drop (a2 : Int).toNat : List (List Int))).bind fun y258 => (stripe_Mend.l0 k a2 bt248.1 bt250.1 y258 (y258.length : Int) 0)) else (none)) else (none))) else (some (([] : List (List Int)), 10)))) else (some (([] : List (List Int)), bt248.2)))) = some (r1, r2) := by rw [if_pos rfl] at H; exact H
    clear H
    have H := H1
    clear H1
    replace H := Option.bind_eq_some_iff.mp H
    obtain ⟨⟨t248, t249⟩, A70, H⟩ := H
    replace H : (if t249 = 0 then ((stripe_data.f k l0 l1 a2 a3 t248).bind fun bt250 => (if bt250.2 = true then ((matrix_Code.f k a2 a3).bind fun bt254 => (if 0 ≤ a2 then (if a2 ≤ (bt254.1.length : Int) then ((some (bt254.1.drop (a2 : Int).toNat : List (List Int))).bind fun y258 => (stripe_Mend.l0 k a2 t248 bt250.1 y258 (y258.length : Int) 0)) else (none)) else (none))) else (some (([] : List (List Int)), 10)))) else (some (([] : List (List Int)), t249))) = some (r1, r2) := H
    have A7 := Aside0.mk A70
    clear A70
    by_cases c8 : t249 = 0
    · rw [if_pos c8] at H
      have c8b0 : (t249 == 0) = true := beq_iff_eq.mpr c8
      have c8b1 : (t249 != 0) = false := bne_eq_false_iff_eq.mpr c8
      clear c8
      replace H := Option.bind_eq_some_iff.mp H
      obtain ⟨⟨t250, t251⟩, A90, H⟩ := H
      replace H : (if t251 = true then ((matrix_Code.f k a2 a3).bind fun bt254 => (if 0 ≤ a2 then (if a2 ≤ (bt254.1.length : Int) then ((some (bt254.1.drop (a2 : Int).toNat : List (List Int))).bind fun y258 => (stripe_Mend.l0 k a2 t248 t250 y258 (y258.length : Int) 0)) else (none)) else (none))) else (some (([] : List (List Int)), 10))) = some (r1, r2) := H
      have A9 := Aside0.mk A90
      clear A90
      by_cases c10 : t251 = true
      · subst c10
        have H1 : ((matrix_Code.f k a2 a3).bind fun bt254 => (if 0 ≤ a2 then (if a2 ≤ (bt254.1.length : Int) then ((some (bt254.1.drop (a2 : Int).toNat : List (List Int))).bind fun y258 => (stripe_Mend.l0 k a2 t248 t250 y258 (y258.length : Int) 0)) else (none)) else (none))) = some (r1, r2) := by rw [if_pos rfl] at H; exact H
        clear H
        have H := H1
        clear H1
        replace H := Option.bind_eq_some_iff.mp H
        obtain ⟨⟨t254, t255⟩, A110, H⟩ := H
        replace H : (if 0 ≤ a2 then (if a2 ≤ (t254.length : Int) then ((some (t254.drop (a2 : Int).toNat : List (List Int))).bind fun y258 => (stripe_Mend.l0 k a2 t248 t250 y258 (y258.length : Int) 0)) else (none)) else (none)) = some (r1, r2) := H
        have A11 := Aside0.mk A110
        clear A110
        by_cases c12 : 0 ≤ a2
        · rw [if_pos c12] at H
          have c12b0 := eq_true c12
          have c12b1 : decide (0 ≤ a2) = true := decide_eq_true c12
          clear c12
          by_cases c13 : a2 ≤ (t254.length : Int)
          · rw [if_pos c13] at H
            have c13b0 := eq_true c13
            have c13b1 : decide (a2 ≤ (t254.length : Int)) = true := decide_eq_true c13
            clear c13
            obtain ⟨y258, hy258⟩ : ∃ y_ : List (List Int), y_ = (t254.drop (a2 : Int).toNat) := ⟨_, rfl⟩
            replace H : (stripe_Mend.l0 k a2 t248 t250 y258 (y258.length : Int) 0) = some (r1, r2) := by first | (rw [hy258]; with_reducible exact H) | (have H2_ := (Option.bind_some _ _).symm.trans H; rw [hy258]; with_reducible exact H2_) | (have H2_ := (Option.bind_some _ _).symm.trans H; with_reducible exact H2_) | with_reducible exact H | (rw [hy258]; exact H) | exact H
            have Ny258 := Aside0.mk hy258
            clear hy258
            have H' := Aside0.mk H
            clear H
            go_enter Try.func47, Try.ntmps47
            go_wp2_with (first | ((with_reducible refine gate_callee (f := 75) rfl ?_); refine goesL_ (some 20) rfl rfl Try.func75 (by kernel_rfl) rfl #[.int .i64 a2, .int .i64 a3] rfl (by (try simp only [List.map_toArray, List.map_cons, List.map_nil]); first | done | rfl | (simp only [List.length_drop, List.length_take]; rfl)) ?_; (with_reducible refine (stripe_may.calls a2 a3 true _ A5.out).mono ?_); rintro e w' ⟨rfl, ⟨nd, rfl⟩⟩; refine ⟨_, rfl, ?_⟩) | ((with_reducible refine gate_callee (f := 81) rfl ?_); refine goesL_ (some 27) rfl rfl Try.func81 (by kernel_rfl) rfl #[.slice A0 l0.length c0, .slice A1 l1.length c1, .int .i64 a2, .int .i64 a3, .int .i64 (-1)] rfl (by (try simp only [List.map_toArray, List.map_cons, List.map_nil]); first | done | rfl | (simp only [List.length_drop, List.length_take]; rfl)) ?_; (with_reducible refine (stripe_look.calls k _ _ l0 _ _ l1 a2 a3 (-1) t248 t249 _ ?side1 ?side2 ?side3 ?side4 A7.out).mono ?_); (case side1 => repeat (first | exact HR0.out | (with_reducible refine Kd.C_alloc ?_ _) | (with_reducible refine Kd.C_drewN ?_ _) | (with_reducible refine Kd.C_drew ?_))); (case side2 => exact HC0.out); (case side3 => repeat (first | exact HR1.out | (with_reducible refine Kd.C_alloc ?_ _) | (with_reducible refine Kd.C_drewN ?_ _) | (with_reducible refine Kd.C_drew ?_))); (case side4 => exact HC1.out); rintro e w' ⟨rfl, ⟨nd, rfl⟩⟩; refine ⟨_, rfl, ?_⟩) | ((with_reducible refine gate_callee (f := 82) rfl ?_); refine goesL_ (some 39) rfl rfl Try.func82 (by kernel_rfl) rfl #[.slice A0 l0.length c0, .slice A1 l1.length c1, .int .i64 a2, .int .i64 a3, .int .i64 t248] rfl (by (try simp only [List.map_toArray, List.map_cons, List.map_nil]); first | done | rfl | (simp only [List.length_drop, List.length_take]; rfl)) ?_; (with_reducible refine (stripe_data.calls k _ _ l0 _ _ l1 a2 a3 t248 t250 true _ ?side1 ?side2 ?side3 ?side4 A9.out).mono ?_); (case side1 => repeat (first | exact HR0.out | (with_reducible refine Kd.C_alloc ?_ _) | (with_reducible refine Kd.C_drewN ?_ _) | (with_reducible refine Kd.C_drew ?_))); (case side2 => exact HC0.out); (case side3 => repeat (first | exact HR1.out | (with_reducible refine Kd.C_alloc ?_ _) | (with_reducible refine Kd.C_drewN ?_ _) | (with_reducible refine Kd.C_drew ?_))); (case side4 => exact HC1.out); rintro e w14 ⟨v252, rfl, ho0, hb⟩; refine ⟨_, rfl, ?_⟩; have n0_ := Aside0.mk (Kd.S_lower ho0 (below_size (by repeat (first | (with_reducible first | exact HB.out | apply below_alloc | apply pw_below_drewN | apply below_drew1) | exact HB.out)))); have n1_ := Aside0.mk (below_step (by repeat (first | (with_reducible first | exact HB.out | apply below_alloc | apply pw_below_drewN | apply below_drew1) | exact HB.out)) hb); clear HB; have HO253 := n0_; have HB := n1_; clear n0_ n1_; (try clear hb); (try clear hb2); (try clear hk); (try clear hi); (try clear ho0)) | ((with_reducible refine gate_callee (f := 20) rfl ?_); refine goesL_ (some 47) rfl rfl Try.func20 (by kernel_rfl) rfl #[.int .i64 a2, .int .i64 a3] rfl (by (try simp only [List.map_toArray, List.map_cons, List.map_nil]); first | done | rfl | (simp only [List.length_drop, List.length_take]; rfl)) ?_; (with_reducible refine (matrix_Code.calls k a2 a3 t254 t255 _ A11.out).mono ?_); rintro e w15 ⟨v256, rfl, ho0, hb⟩; refine ⟨_, rfl, ?_⟩; have NF_ : Aside0 (∃ N, Kd.S (Kd.slice 5 (Kd.int .u8)) 41 w15 w.heap.size (fun k => True ∧ k < N) v252 t250 ∧ Kd.S (Kd.slice 5 (Kd.int .u8)) 41 w15 N (fun _ => True) v256 t254) := ⟨⟨_, Kd.S_old (by (with_reducible repeat (first | apply Kd.S_alloc | apply Kd.S_drewN | apply Kd.S_drew)); exact HO253.out) hb, ho0⟩⟩; have n0_ := Aside0.mk (Kd.S_elder' (by (with_reducible repeat (first | apply Kd.S_alloc | apply Kd.S_drewN | apply Kd.S_drew)); exact HO253.out) (Kd.S_base ho0) hb); have n1_ := Aside0.mk (Kd.S_lower (Kd.S_new' ho0 (Kd.S_lt (by (with_reducible repeat (first | apply Kd.S_alloc | apply Kd.S_drewN | apply Kd.S_drew)); exact HO253.out))) (below_size (by repeat (first | (with_reducible first | exact HB.out | apply below_alloc | apply pw_below_drewN | apply below_drew1) | exact HB.out)))); have n2_ := Aside0.mk (below_step (by repeat (first | (with_reducible first | exact HB.out | apply below_alloc | apply pw_below_drewN | apply below_drew1) | exact HB.out)) hb); clear HO253; clear HB; have HO253 := n0_; have HO257 := n1_; have HB := n2_; clear n0_ n1_ n2_; (try clear hb); (try clear hb2); (try clear hk); (try clear hi); (try clear ho0); obtain ⟨Ao17, co17, eo17⟩ := Kd.S_slice HO257.out; subst eo17; have q16 : (a2 : Int) ≤ ((t254.length : Int) : Int) := of_decide_eq_true (by first | (with_reducible assumption) | assumption); obtain ⟨i016, hi016, _, hsz16, _⟩ := info_parts info41; have hroom16 : t254.length ≤ co17 := (Kd.S_reads' HO257.out).2.1; have hC16 : Kd.C (Kd.slice 5 (Kd.int .u8)) _ Ao17 t254.length t254 := (Kd.S_reads' HO257.out).2.2; have q016 : (0 : Int) ≤ (a2 : Int) := of_decide_eq_true (by first | (with_reducible assumption) | assumption); have hcut16 := cut_from (P := Try.prog) 22 41 .i64 Try.underlying22 hi016 1 hsz16 Ao17 t254.length co17 a2 q016 q16; have hr16 := Kd.C_drop (m := (a2 : Int).toNat) (c := co17) hC16 (by omega) hroom16; obtain ⟨A16, hA16⟩ : ∃ A1, A1 = (if co17 = (a2 : Int).toNat then Ao17 else (Ao17 : Option Addr).map (·.add ((a2 : Int).toNat * 1))) := ⟨_, rfl⟩; obtain ⟨c16, hc16⟩ : ∃ c1, c1 = co17 - (a2 : Int).toNat := ⟨_, rfl⟩; have hy16 : y258.length = t254.length - (a2 : Int).toNat := (by rw [Ny258.out, List.length_drop] <;> omega); rw [show (t254).drop (a2 : Int).toNat = y258 from Ny258.out.symm] at hr16; replace hr16 : Kd.C (Kd.slice 5 (Kd.int .u8)) _ A16 y258.length y258 := (by rw [hA16]; exact hr16); rw [← hy16, ← hA16, ← hc16] at hcut16; have HR261 := Aside0.mk hr16; have HC261 := Aside0.mk (show y258.length ≤ c16 from by rw [hy16, hc16]; exact Nat.sub_le_sub_right hroom16 _); clear hr16 hC16 hroom16 hi016 hsz16 hc16; have KY16 := Aside0.mk hy16; have KA16 := Aside0.mk hA16; clear hy16 hA16; have KL16 := Aside0.mk (show (a2 : Int).toNat ≤ t254.length from by omega); replace q16 := eq_true q16))
            obtain ⟨N_, hs10_, hsc_⟩ := NF_.out
            have HS10 := Aside0.mk (Kd.S_mono hs10_ (ok' := fun k => ¬ (N_ ≤ k ∧ k < w15.heap.size)) (fun k hk => by have := hk.2; omega))
            have HF := Aside0.mk (drop_frame hsc_ KL16.out KA16.out Ny258.out)
            clear hs10_ hsc_ NF_
            go_loopg [12, 54] k (fun kq v12 v54 w' => ∃ (x12_1 : List (List Int)) (x54_1 : Int), v54 = .int .i64 x54_1 ∧ Aside0 (stripe_Mend.l0 kq a2 t248 x12_1 y258 (y258.length : Int) x54_1 = some (r1, r2)) ∧ Aside0 (kq ≤ k) ∧ Aside0 (Kd.S (Kd.slice 5 (Kd.int .u8)) 41 w' w.heap.size (fun k => ¬ (N_ ≤ k ∧ k < w15.heap.size)) v12 x12_1) ∧ Aside0 (Keeps w15 N_ w') ∧ Aside0 (Below w.heap.size w w'))
            case atStart => exact ⟨(t250), (0), (by first | rfl | (simp; done) | (simp [*]; done)), H', ⟨Nat.le_refl _⟩, ⟨by (with_reducible repeat (first | apply Kd.S_alloc | apply Kd.S_drewN | apply Kd.S_drew)); exact HS10.out⟩, ⟨by (repeat first | exact Keeps.refl _ _ | apply Keeps.alloc | apply Keeps.drewN | apply Keeps.drew)⟩, ⟨by repeat (first | (with_reducible first | exact HB.out | apply below_alloc | apply pw_below_drewN | apply below_drew1) | exact HB.out)⟩⟩
            case round =>
              clear H'
              try clear c1
              try clear q1
              try clear c2
              try clear p2
              try clear c4
              try clear c6
              try clear c7
              try clear c8
              try clear c8b0
              try clear c8b1
              try clear c10
              try clear c12
              try clear c12b0
              try clear c12b1
              try clear c13
              try clear c13b0
              try clear c13b1
              try clear c16
              try clear q16
              try clear q016
              try clear q16
              obtain ⟨x12_1, x54_1, rfl, HA, HK1, HO_12, HKP, HB⟩ := hrel
              cases gk with
              | zero => exact absurd HA.out (by simp [stripe_Mend.l0])
              | succ k1 =>
                have H := HA.out
                clear HA
                simp only [stripe_Mend.l0] at H
                by_cases c18 : x54_1 < (y258.length : Int)
                · rw [if_pos c18] at H
                  have c18b0 : decide (x54_1 < (y258.length : Int)) = true := decide_eq_true c18
                  clear c18
                  by_cases c19 : 0 ≤ x54_1
                  · rw [if_pos c19] at H
                    have c19b0 : decide (0 ≤ x54_1) = true := decide_eq_true c19
                    clear c19
                    by_cases c20 : x54_1 < (y258.length : Int)
                    · rw [if_pos c20] at H
                      have c20b0 : decide (x54_1 < (y258.length : Int)) = true := decide_eq_true c20
                      clear c20
                      by_cases c21 : 0 ≤ a2
                      · rw [if_pos c21] at H
                        have c21b0 := eq_true c21
                        have c21b1 : decide (0 ≤ a2) = true := decide_eq_true c21
                        clear c21
                        by_cases c22 : a2 ≤ (x12_1.length : Int)
                        · rw [if_pos c22] at H
                          have c22b0 := eq_true c22
                          have c22b1 : decide (a2 ≤ (x12_1.length : Int)) = true := decide_eq_true c22
                          clear c22
                          obtain ⟨y263, hy263⟩ : ∃ y_ : List (List Int), y_ = (x12_1.take (a2 : Int).toNat) := ⟨_, rfl⟩
                          replace H : ((stripe_apply.f (rd_L1 y258 x54_1) y263 t248).bind fun t267 => (if x12_1.length < 5864062014805 then (stripe_Mend.l0 k1 a2 t248 (x12_1 ++ [t267]) y258 (y258.length : Int) (wrap64 (x54_1 + 1))) else (none))) = some (r1, r2) := by first | (rw [hy263]; with_reducible exact H) | (have H2_ := (Option.bind_some _ _).symm.trans H; rw [hy263]; with_reducible exact H2_) | (have H2_ := (Option.bind_some _ _).symm.trans H; with_reducible exact H2_) | with_reducible exact H | (rw [hy263]; exact H) | exact H
                          have Ny263 := Aside0.mk hy263
                          clear hy263
                          replace H := Option.bind_eq_some_iff.mp H
                          obtain ⟨t267, A230, H⟩ := H
                          replace H : (if x12_1.length < 5864062014805 then (stripe_Mend.l0 k1 a2 t248 (x12_1 ++ [t267]) y258 (y258.length : Int) (wrap64 (x54_1 + 1))) else (none)) = some (r1, r2) := H
                          have A23 := Aside0.mk A230
                          clear A230
                          by_cases c24 : x12_1.length < 5864062014805
                          · rw [if_pos c24] at H
                            have LMc24 := Aside0.mk c24
                            clear c24
                            obtain ⟨y270, hy270⟩ : ∃ y_ : List (List Int), y_ = (x12_1 ++ [t267]) := ⟨_, rfl⟩
                            replace H : (stripe_Mend.l0 k1 a2 t248 y270 y258 (y258.length : Int) (wrap64 (x54_1 + 1))) = some (r1, r2) := by first | (rw [hy270]; with_reducible exact H) | (have H2_ := (Option.bind_some _ _).symm.trans H; rw [hy270]; with_reducible exact H2_) | (have H2_ := (Option.bind_some _ _).symm.trans H; with_reducible exact H2_) | with_reducible exact H | (rw [hy270]; exact H) | exact H
                            have Ny270 := Aside0.mk hy270
                            clear hy270
                            have H' := Aside0.mk H
                            clear H
                            have p262 : 0 ≤ (x54_1 : Int) := of_decide_eq_true (by first | (with_reducible assumption) | assumption)
                            have q262 : x54_1 < (y258.length : Int) := of_decide_eq_true (by first | (with_reducible assumption) | assumption)
                            obtain ⟨ad262, A262_0, c262_0, e262, hx262_0, hl262_0, hi262_0⟩ := at_L1 (HF.out _ HKP.out) x54_1 p262 q262
                            cases e262
                            have HR262_0 := Aside0.mk hi262_0
                            have HC262_0 := Aside0.mk hl262_0
                            clear hi262_0 hl262_0
                            replace p262 := eq_true p262
                            replace q262 := eq_true q262
                            obtain ⟨Ao26, co26, eo26⟩ := Kd.S_slice HO_12.out
                            subst eo26
                            have q25 : (a2 : Int) ≤ ((x12_1.length : Int) : Int) := of_decide_eq_true (by first | (with_reducible assumption) | assumption)
                            obtain ⟨i025, hi025, _, hsz25, _⟩ := info_parts info41
                            have hroom25 : x12_1.length ≤ co26 := (Kd.S_reads' HO_12.out).2.1
                            have hC25 : Kd.C (Kd.slice 5 (Kd.int .u8)) _ Ao26 x12_1.length x12_1 := (Kd.S_reads' HO_12.out).2.2
                            have hcut25 := cut_to (P := Try.prog) 22 41 .i64 Try.underlying22 hi025 Ao26 x12_1.length co26 a2 (of_decide_eq_true (by first | (with_reducible assumption) | assumption)) q25 hroom25
                            have hr25 := Kd.C_take (m := (a2 : Int).toNat) hC25 (by omega)
                            have hy25 : y263.length = (a2 : Int).toNat := (by rw [Ny263.out, List.length_take]; omega)
                            rw [← Ny263.out] at hr25
                            rw [← hy25] at hcut25
                            have HR266 := Aside0.mk hr25
                            have HC266 := Aside0.mk (show y263.length ≤ co26 from by omega)
                            clear hr25 hC25 hroom25 hi025 hsz25
                            have KY25 := Aside0.mk hy25
                            clear hy25
                            have KL25 := Aside0.mk (show (a2 : Int).toNat ≤ x12_1.length from by omega)
                            replace q25 := eq_true q25
                            go_wp2_with (first | ((with_reducible refine gate_callee (f := 76) rfl ?_); refine goesL_ (some 64) rfl rfl Try.func76 (by kernel_rfl) rfl #[.slice A262_0 (rd_L1 y258 x54_1).length c262_0, .slice Ao26 y263.length co26, .int .i64 t248] rfl (by (try simp only [List.map_toArray, List.map_cons, List.map_nil]); first | done | rfl | (simp only [List.length_drop, List.length_take]; rfl)) ?_; (with_reducible refine (stripe_apply.calls _ _ (rd_L1 y258 x54_1) _ _ y263 t248 t267 _ ?side1 ?side2 ?side3 ?side4 A23.out).mono ?_); (case side1 => repeat (first | exact HR262_0.out | (with_reducible refine Kd.C_alloc ?_ _) | (with_reducible refine Kd.C_drewN ?_ _) | (with_reducible refine Kd.C_drew ?_))); (case side2 => exact HC262_0.out); (case side3 => repeat (first | exact (by repeat (first | (with_reducible exact HR266.out) | (with_reducible refine Kd.C_alloc ?_ _) | (with_reducible refine Kd.C_drewN ?_ _) | (with_reducible refine Kd.C_drew ?_) | exact HR266.out)) | (with_reducible refine Kd.C_alloc ?_ _) | (with_reducible refine Kd.C_drewN ?_ _) | (with_reducible refine Kd.C_drew ?_))); (case side4 => exact HC266.out); rintro e w27 ⟨v268, rfl, ho0, hb⟩; refine ⟨_, rfl, ?_⟩; have NK_ := Aside0.mk (Keeps.below (by (repeat first | exact HKP.out | apply Keeps.alloc | apply Keeps.drewN | apply Keeps.drew) : Keeps w15 N_ _) hb); have NB_ := Aside0.mk (fun k_ hk_ => Keeps.fresh (by (repeat first | exact HKP.out | apply Keeps.alloc | apply Keeps.drewN | apply Keeps.drew) : Keeps w15 N_ _) (Kd.R_base ho0 k_ hk_)); clear HKP; have HKP := NK_; clear NK_; have n0_ := Aside0.mk (Kd.S_elder' (by (with_reducible repeat (first | apply Kd.S_alloc | apply Kd.S_drewN | apply Kd.S_drew)); exact HO_12.out) (Kd.R_base ho0) hb); have n1_ := Aside0.mk (Kd.R_lower ho0 (below_size (by repeat (first | (with_reducible first | exact HB.out | apply below_alloc | apply pw_below_drewN | apply below_drew1) | exact HB.out)))); have n2_ := Aside0.mk (Kd.C_below (by repeat (first | (with_reducible exact HR266.out) | (with_reducible refine Kd.C_alloc ?_ _) | (with_reducible refine Kd.C_drewN ?_ _) | (with_reducible refine Kd.C_drew ?_) | exact HR266.out)) hb); have n3_ := Aside0.mk (below_step (by repeat (first | (with_reducible first | exact HB.out | apply below_alloc | apply pw_below_drewN | apply below_drew1) | exact HB.out)) hb); clear HO_12; clear HR266; clear HB; have HO_12 := n0_; have HO269 := n1_; have HR266 := n2_; have HB := n3_; clear n0_ n1_ n2_ n3_; (try clear hb); (try clear hb2); (try clear hk); (try clear hi); (try clear ho0); obtain ⟨Ao29, co29, eo29⟩ := Kd.R_slice HO269.out; subst eo29) | ((with_reducible refine gate_builtin (b := .append) (xs := #[.tmp 58, .tmp 65]) rfl ?_); at_builtin; refine Kd.S_append (Kd.slice 5 (Kd.int .u8)) (w0 := w) w.heap.size rfl (.tmp 58) (.tmp 65) 22 41 (.slice none 0 0) 24 rfl Try.underlying22 info41 rfl (by decide) (by omega) (.slice Ao26 x12_1.length co26) x12_1 t267 [.slice Ao29 t267.length co29] (fun k => ¬ (N_ ≤ k ∧ k < w15.heap.size)) (fun k_ => some k_ = (.slice Ao29 t267.length co29 : Value).ownBlock) rfl rfl ?aP (fun k_ hk_ => ⟨NB_.out k_ hk_.symm, (((Kd.R_mono (ok' := fun k_ => ((fun _ => True)) k_ ∧ some k_ ≠ (.slice Ao26 x12_1.length co26 : Value).ownBlock) (Kd.R_apart' (HO269.out) (Kd.S_typed HO_12.out) (by decide)) (fun k_ hk => ⟨trivial, hk.2⟩))).1 k_ hk_.symm).2⟩) ?aF ?aO ?aB ?aS ?aL ?_; (case aP => exact Kd.M_row (Kd.R_mono (Kd.R_tight rfl (Kd.R_mono (ok' := fun k_ => ((fun _ => True)) k_ ∧ some k_ ≠ (.slice Ao26 x12_1.length co26 : Value).ownBlock) (Kd.R_apart' (HO269.out) (Kd.S_typed HO_12.out) (by decide)) (fun k_ hk => ⟨trivial, hk.2⟩))) (fun _ h_ => h_))); (case aB => exact (by repeat (first | (with_reducible first | exact HB.out | apply below_alloc | apply pw_below_drewN | apply below_drew1) | exact HB.out))); (case aF => exact (fun k_ hk_ => Keeps.fresh (by (repeat first | exact HKP.out | apply Keeps.alloc | apply Keeps.drewN | apply Keeps.drew) : Keeps w15 N_ _) hk_)); (case aO => exact (by (with_reducible repeat (first | apply Kd.S_alloc | apply Kd.S_drewN | apply Kd.S_drew)); exact Kd.S_mono HO_12.out (fun k_ hk => ⟨hk.1, fun e_ => hk.2 e_⟩))); (case aS => exact (below_size (by repeat (first | (with_reducible first | exact HB.out | apply below_alloc | apply pw_below_drewN | apply below_drew1) | exact HB.out)))); (case aL => have := LMc24.out; omega); intro v271 w28 ho hb hg hat; rw [← Ny270.out] at ho; have n0_ := Aside0.mk (hb); have n1_ := Aside0.mk (ho); have NK_ := Aside0.mk (Keeps.grown (by (repeat first | exact HKP.out | apply Keeps.alloc | apply Keeps.drewN | apply Keeps.drew) : Keeps w15 N_ _) hg (fun k_ hk_ => (Kd.S_own1 HO_12.out) k_ hk_)); clear HKP; have HKP := NK_; clear NK_; clear HB; clear HO_12; clear HO269; have HB := n0_; have HO272 := n1_; clear n0_ n1_; clear ho hb hg hat))
                            go_roundg k1
                            case measure => have := HK1.out; omega
                            case rel => exact ⟨(y270), (wrap64 (x54_1 + 1)), (by first | rfl | (simp; done) | (simp [*]; done)), H', ⟨by have := HK1.out; omega⟩, ⟨by (with_reducible repeat (first | apply Kd.S_alloc | apply Kd.S_drewN | apply Kd.S_drew)); exact HO272.out⟩, ⟨by (repeat first | exact HKP.out | apply Keeps.alloc | apply Keeps.drewN | apply Keeps.drew)⟩, ⟨by repeat (first | (with_reducible first | exact HB.out | apply below_alloc | apply pw_below_drewN | apply below_drew1) | exact HB.out)⟩⟩
                          · rw [if_neg c24] at H
                            exact absurd H (by simp)
                        · rw [if_neg c22] at H
                          exact absurd H (by simp)
                      · rw [if_neg c21] at H
                        exact absurd H (by simp)
                    · rw [if_neg c20] at H
                      exact absurd H (by simp)
                  · rw [if_neg c19] at H
                    exact absurd H (by simp)
                · rw [if_neg c18] at H
                  have c18b0 : decide (x54_1 < (y258.length : Int)) = false := decide_eq_false c18
                  clear c18
                  simp only [Option.some.injEq, Prod.mk.injEq] at H
                  obtain ⟨rfl, rfl⟩ := H
                  go_wp2
                  go_ret2
                  exact ⟨_, by first | rfl | (simp [errW_none, errW_some] <;> rfl) | (simp [*, errW_none, errW_some] <;> rfl), by (with_reducible repeat (first | apply Kd.S_alloc | apply Kd.S_drewN | apply Kd.S_drew)); exact Kd.S_mono HO_12.out (fun _ _ => trivial), by repeat (first | (with_reducible first | exact HB.out | apply below_alloc | apply pw_below_drewN | apply below_drew1) | exact HB.out)⟩
          · rw [if_neg c13] at H
            exact absurd H (by simp)
        · rw [if_neg c12] at H
          exact absurd H (by simp)
      · replace c10 := Bool.eq_false_iff.mpr c10
        subst c10
        have H1 : (some (([] : List (List Int)), 10)) = some (r1, r2) := by rw [if_neg (show ¬ (false = true) by decide)] at H; exact H
        clear H
        have H := H1
        clear H1
        simp only [Option.some.injEq, Prod.mk.injEq] at H
        obtain ⟨rfl, rfl⟩ := H
        go_enter Try.func47, Try.ntmps47
        go_wp2_with (first | ((with_reducible refine gate_callee (f := 75) rfl ?_); refine goesL_ (some 20) rfl rfl Try.func75 (by kernel_rfl) rfl #[.int .i64 a2, .int .i64 a3] rfl (by (try simp only [List.map_toArray, List.map_cons, List.map_nil]); first | done | rfl | (simp only [List.length_drop, List.length_take]; rfl)) ?_; (with_reducible refine (stripe_may.calls a2 a3 true _ A5.out).mono ?_); rintro e w' ⟨rfl, ⟨nd, rfl⟩⟩; refine ⟨_, rfl, ?_⟩) | ((with_reducible refine gate_callee (f := 81) rfl ?_); refine goesL_ (some 27) rfl rfl Try.func81 (by kernel_rfl) rfl #[.slice A0 l0.length c0, .slice A1 l1.length c1, .int .i64 a2, .int .i64 a3, .int .i64 (-1)] rfl (by (try simp only [List.map_toArray, List.map_cons, List.map_nil]); first | done | rfl | (simp only [List.length_drop, List.length_take]; rfl)) ?_; (with_reducible refine (stripe_look.calls k _ _ l0 _ _ l1 a2 a3 (-1) t248 t249 _ ?side1 ?side2 ?side3 ?side4 A7.out).mono ?_); (case side1 => repeat (first | exact HR0.out | (with_reducible refine Kd.C_alloc ?_ _) | (with_reducible refine Kd.C_drewN ?_ _) | (with_reducible refine Kd.C_drew ?_))); (case side2 => exact HC0.out); (case side3 => repeat (first | exact HR1.out | (with_reducible refine Kd.C_alloc ?_ _) | (with_reducible refine Kd.C_drewN ?_ _) | (with_reducible refine Kd.C_drew ?_))); (case side4 => exact HC1.out); rintro e w' ⟨rfl, ⟨nd, rfl⟩⟩; refine ⟨_, rfl, ?_⟩) | ((with_reducible refine gate_callee (f := 82) rfl ?_); refine goesL_ (some 39) rfl rfl Try.func82 (by kernel_rfl) rfl #[.slice A0 l0.length c0, .slice A1 l1.length c1, .int .i64 a2, .int .i64 a3, .int .i64 t248] rfl (by (try simp only [List.map_toArray, List.map_cons, List.map_nil]); first | done | rfl | (simp only [List.length_drop, List.length_take]; rfl)) ?_; (with_reducible refine (stripe_data.calls k _ _ l0 _ _ l1 a2 a3 t248 t250 false _ ?side1 ?side2 ?side3 ?side4 A9.out).mono ?_); (case side1 => repeat (first | exact HR0.out | (with_reducible refine Kd.C_alloc ?_ _) | (with_reducible refine Kd.C_drewN ?_ _) | (with_reducible refine Kd.C_drew ?_))); (case side2 => exact HC0.out); (case side3 => repeat (first | exact HR1.out | (with_reducible refine Kd.C_alloc ?_ _) | (with_reducible refine Kd.C_drewN ?_ _) | (with_reducible refine Kd.C_drew ?_))); (case side4 => exact HC1.out); rintro e w30 ⟨v252, rfl, ho0, hb⟩; refine ⟨_, rfl, ?_⟩; have n0_ := Aside0.mk (Kd.S_lower ho0 (below_size (by repeat (first | (with_reducible first | exact HB.out | apply below_alloc | apply pw_below_drewN | apply below_drew1) | exact HB.out)))); have n1_ := Aside0.mk (below_step (by repeat (first | (with_reducible first | exact HB.out | apply below_alloc | apply pw_below_drewN | apply below_drew1) | exact HB.out)) hb); clear HB; have HO253 := n0_; have HB := n1_; clear n0_ n1_; (try clear hb); (try clear hb2); (try clear hk); (try clear hi); (try clear ho0)))
        go_ret2
        exact ⟨_, by first | rfl | (simp [errW_none, errW_some] <;> rfl) | (simp [*, errW_none, errW_some] <;> rfl), by first | exact Kd.S_nil _ _ _ _ _ | exact Kd.N_nil _ _ _ _ _ | exact Kd.V_nil _ _ _ _ _ | exact Kd.Q_nil _ _ _ _ _ | exact Kd.R_nil _ _ _ _ _, by repeat (first | (with_reducible first | exact HB.out | apply below_alloc | apply pw_below_drewN | apply below_drew1) | exact HB.out)⟩
    · rw [if_neg c8] at H
      have c8b0 : (t249 == 0) = false := beq_eq_false_iff_ne.mpr c8
      have c8b1 : (t249 != 0) = true := bne_iff_ne.mpr c8
      simp only [Option.some.injEq, Prod.mk.injEq] at H
      obtain ⟨rfl, rfl⟩ := H
      go_enter Try.func47, Try.ntmps47
      go_wp2_with (first | ((with_reducible refine gate_callee (f := 75) rfl ?_); refine goesL_ (some 20) rfl rfl Try.func75 (by kernel_rfl) rfl #[.int .i64 a2, .int .i64 a3] rfl (by (try simp only [List.map_toArray, List.map_cons, List.map_nil]); first | done | rfl | (simp only [List.length_drop, List.length_take]; rfl)) ?_; (with_reducible refine (stripe_may.calls a2 a3 true _ A5.out).mono ?_); rintro e w' ⟨rfl, ⟨nd, rfl⟩⟩; refine ⟨_, rfl, ?_⟩) | ((with_reducible refine gate_callee (f := 81) rfl ?_); refine goesL_ (some 27) rfl rfl Try.func81 (by kernel_rfl) rfl #[.slice A0 l0.length c0, .slice A1 l1.length c1, .int .i64 a2, .int .i64 a3, .int .i64 (-1)] rfl (by (try simp only [List.map_toArray, List.map_cons, List.map_nil]); first | done | rfl | (simp only [List.length_drop, List.length_take]; rfl)) ?_; (with_reducible refine (stripe_look.calls k _ _ l0 _ _ l1 a2 a3 (-1) t248 t249 _ ?side1 ?side2 ?side3 ?side4 A7.out).mono ?_); (case side1 => repeat (first | exact HR0.out | (with_reducible refine Kd.C_alloc ?_ _) | (with_reducible refine Kd.C_drewN ?_ _) | (with_reducible refine Kd.C_drew ?_))); (case side2 => exact HC0.out); (case side3 => repeat (first | exact HR1.out | (with_reducible refine Kd.C_alloc ?_ _) | (with_reducible refine Kd.C_drewN ?_ _) | (with_reducible refine Kd.C_drew ?_))); (case side4 => exact HC1.out); rintro e w' ⟨rfl, ⟨nd, rfl⟩⟩; refine ⟨_, rfl, ?_⟩))
      go_ret2
      exact ⟨_, by first | rfl | (simp [errW_none, errW_some] <;> rfl) | (simp [*, errW_none, errW_some] <;> rfl), by first | exact Kd.S_nil _ _ _ _ _ | exact Kd.N_nil _ _ _ _ _ | exact Kd.V_nil _ _ _ _ _ | exact Kd.Q_nil _ _ _ _ _ | exact Kd.R_nil _ _ _ _ _, by repeat (first | (with_reducible first | exact HB.out | apply below_alloc | apply pw_below_drewN | apply below_drew1) | exact HB.out)⟩
  · replace c6 := Bool.eq_false_iff.mpr c6
    subst c6
    have H1 : (some (([] : List (List Int)), 5)) = some (r1, r2) := by rw [if_neg (show ¬ (false = true) by decide)] at H; exact H
    clear H
    have H := H1
    clear H1
    simp only [Option.some.injEq, Prod.mk.injEq] at H
    obtain ⟨rfl, rfl⟩ := H
    go_enter Try.func47, Try.ntmps47
    go_wp2_with (first | ((with_reducible refine gate_callee (f := 75) rfl ?_); refine goesL_ (some 20) rfl rfl Try.func75 (by kernel_rfl) rfl #[.int .i64 a2, .int .i64 a3] rfl (by (try simp only [List.map_toArray, List.map_cons, List.map_nil]); first | done | rfl | (simp only [List.length_drop, List.length_take]; rfl)) ?_; (with_reducible refine (stripe_may.calls a2 a3 false _ A5.out).mono ?_); rintro e w' ⟨rfl, ⟨nd, rfl⟩⟩; refine ⟨_, rfl, ?_⟩))
    go_ret2
    exact ⟨_, by first | rfl | (simp [errW_none, errW_some] <;> rfl) | (simp [*, errW_none, errW_some] <;> rfl), by first | exact Kd.S_nil _ _ _ _ _ | exact Kd.N_nil _ _ _ _ _ | exact Kd.V_nil _ _ _ _ _ | exact Kd.Q_nil _ _ _ _ _ | exact Kd.R_nil _ _ _ _ _, by repeat (first | (with_reducible first | exact HB.out | apply below_alloc | apply pw_below_drewN | apply below_drew1) | exact HB.out)⟩

end Go.Proofs.Ythmlimkmcofkfaa.Q

/- Shards, told of lists: look, Mend, Join, Sound. -/
namespace Go.Proofs.Ythmlimkmcofkfaa.L
open Go.RowKit Go.Proofs.YthmlimkmcofkfaaW.PrintWords Go.Proofs.Ythmlimkmcofkfaa.E Go.Proofs.Ythmlimkmcofkfaa.B
open Go.Proofs.Ythmlimkmcofkfaa.Q (stripe_Mend.f stripe_Mend.l0 stripe_Mend.l0.eq_2 stripe_Join.f stripe_Join.l0 stripe_Join.l0.eq_2)
set_option linter.unusedVariables false
set_option linter.unusedSectionVars false

theorem rdQ : Q.rd_L1 = B.rd_L1 := rfl
section
variable {N n : Nat} {sh : List (List Int)} {hv : List Bool} (hsh : sh.length = N) (hhv : hv.length = N) (hN : N ≤ 1000) (hn : n ≤ 65536) (hrow : ∀ i : Nat, i < N → rdOf false hv (i : Int) = true → (rd_L1 sh (i : Int)).length = n)
include hsh hhv hN hn hrow
theorem look_l1 : ∀ (d i : Nat) (w : Int) (s : Bool), N = i + d → (s = true → w = n) → ∃ v, Ev (fun q => stripe_look.l1 q hv w s sh (sh.length : Int) (i : Int)) (v, 0) ∧ ((s = true ∨ ∃ j, i ≤ j ∧ j < N ∧ rdOf false hv (j : Int) = true) → v = n) := by
  intro d
  induction d with
  | zero =>
    intro i w s hi hs
    refine ⟨w, Ev.step (f := fun _ => some (w, 0)) (fun q => ?_) (Ev.now _), fun h => ?_⟩
    · simp only [stripe_look.l1]; rw [if_neg (by omega)]
    · rcases h with h | ⟨j, h1, h2, _⟩
      · exact hs h
      · omega
  | succ d ih =>
    intro i w s hi hs
    by_cases c : rdOf false hv (i : Int) = true
    · have hr := hrow i (by omega) c
      cases s with
      | true =>
        have hw := hs rfl
        obtain ⟨v, hv1, hv2⟩ := ih (i + 1) w true (by omega) hs
        refine ⟨v, Ev.step (fun q => ?_) hv1, fun _ => hv2 (.inl rfl)⟩
        simp only [stripe_look.l1]
        rw [if_pos (by omega), if_pos (by omega), if_pos (by omega), if_pos (by omega), if_pos c, if_true, if_pos (by omega), wrap_succ (show i < N by omega) (by omega)]
      | false =>
        obtain ⟨v, hv1, hv2⟩ := ih (i + 1) (n : Int) true (by omega) (fun _ => rfl)
        refine ⟨v, Ev.step (fun q => ?_) hv1, fun _ => hv2 (.inl rfl)⟩
        simp only [stripe_look.l1]
        rw [if_pos (by omega), if_pos (by omega), if_pos (by omega), if_pos (by omega), if_pos c, if_neg (by simp), hr, wrap_succ (show i < N by omega) (by omega)]
    · obtain ⟨v, hv1, hv2⟩ := ih (i + 1) w s (by omega) hs
      refine ⟨v, Ev.step (fun q => ?_) hv1, fun h => hv2 ?_⟩
      · simp only [stripe_look.l1]
        rw [if_pos (by omega), if_pos (by omega), if_pos (by omega), if_pos (by omega), if_neg c, wrap_succ (show i < N by omega) (by omega)]
      · rcases h with h | ⟨j, h1, h2, h3⟩
        · exact .inl h
        · refine .inr ⟨j, ?_, h2, h3⟩
          rcases Nat.lt_or_ge i j with g | g
          · omega
          · obtain rfl : i = j := by omega
            exact absurd h3 c
theorem look_l0 {r : Int × Int} {w : Int} (h : Ev (fun q => stripe_look.l1 q hv w (decide (w ≥ 0)) sh (sh.length : Int) 0) r) : ∀ (d i : Nat), N = i + d → Ev (fun q => stripe_look.l0 q sh hv w sh (sh.length : Int) (i : Int)) r := by
  intro d
  induction d with
  | zero =>
    intro i hi
    refine Ev.step (fun q => ?_) h
    simp only [stripe_look.l0]; rw [if_neg (by omega)]
  | succ d ih =>
    intro i hi
    refine Ev.step (fun q => ?_) (ih (i + 1) (by omega))
    simp only [stripe_look.l0]
    rw [if_pos (by omega), if_pos (by omega), if_pos (by omega), if_pos (by omega), wrap_succ (show i < N by omega) (by omega)]
    by_cases c : rdOf false hv (i : Int) = true
    · have hr := hrow i (by omega) c
      rw [if_pos c, if_neg (by omega)]
    · rw [if_neg c]
theorem look_ev {k m : Nat} (hkm : k + m = N) (w : Int) (hw : 0 ≤ w → w = n) : ∃ v, Ev (fun q => stripe_look.f q sh hv (k : Int) (m : Int) w) (v, 0) ∧ ((0 ≤ w ∨ ∃ j : Nat, j < N ∧ rdOf false hv (j : Int) = true) → v = n) := by
  obtain ⟨v, h1, h2⟩ := look_l1 hsh hhv hN hn hrow N 0 w (decide (w ≥ 0)) (by omega) (fun h => hw (by simpa using h))
  refine ⟨v, ?_, fun h => h2 ?_⟩
  · have e : wrap64 ((k : Int) + (m : Int)) = (N : Int) := by unfold wrap64; omega
    unfold stripe_look.f
    rw [e]
    refine Ev.congr (fun q => if_pos (by omega)) ?_
    have e2 : ((hv.length : Int) != (N : Int)) = false := by simp; omega
    rw [e2]
    refine Ev.step (fun q => ?_) (look_l0 hsh hhv hN hn hrow h1 N 0 (by omega))
    simp only [stripe_look.j0]
    rw [if_neg (by simp)]; rfl
  · rcases h with h | ⟨j, hj, h⟩
    · left; simpa using h
    · exact .inr ⟨j, Nat.zero_le _, hj, h⟩
end

section
variable {k m n : Nat} (hk : 0 < k) (hm : 0 < m) (hkm : k + m ≤ 16) (hn : n ≤ 65536) {D : List (List Int)} (hD : Data k n D) {sh : List (List Int)} {hv : List Bool}
include hk hm hkm hn hD
theorem Mend_l0 : ∀ (d j : Nat), m = j + d → Ev (fun q => stripe_Mend.l0 q (k : Int) (n : Int) (parts D k n j) ((codeL k m).drop k) (((codeL k m).drop k).length : Int) (j : Int)) (allL D k m n, 0)
  | 0, j, hj => by
    obtain rfl : m = j := by omega
    refine Ev.step (f := fun _ => some (allL D k m n, 0)) (fun q => ?_) (Ev.now _)
    have hl := drop_len hk hm hkm hn hD
    simp only [stripe_Mend.l0]
    rw [if_neg (by omega)]; rfl
  | d + 1, j, hj => by
    have ih := Mend_l0 d (j + 1) (by omega)
    refine Ev.step (f := fun q => stripe_Mend.l0 q (k : Int) (n : Int) (parts D k n (j + 1)) ((codeL k m).drop k) (((codeL k m).drop k).length : Int) ((j + 1 : Nat) : Int)) (fun q => ?_) ih
    have hl := drop_len hk hm hkm hn hD
    have hp : (parts D k n j).length = k + j := parts_len hD.len
    simp only [stripe_Mend.l0]
    rw [rdQ, hl, if_pos (by omega), if_pos (by omega), if_pos (by omega), if_pos (by omega), if_pos (by omega), Int.toNat_natCast, parts_take hD.len, drop_row (by omega),
      apply_ok hD (by omega) hn (parRow_len k j) (parRow_byte hkm (by omega))]
    simp only [Option.bind_some]
    rw [if_pos (by omega), parts_succ, wrap_succ (show j < m by omega) (by omega)]
theorem Mend_ev (hsh : sh.length = k + m) (hhv : hv.length = k + m) (hc : k ≤ (trues hv (k + m)).length) (he : ∀ r, r < k + m → rdOf false hv (r : Int) = true → rd_L1 sh (r : Int) = rd_L1 (allL D k m n) (r : Int)) :
    Ev (fun q => stripe_Mend.f q sh hv (k : Int) (m : Int)) (allL D k m n, 0) := by
  obtain ⟨v, hv1, hv2⟩ := look_ev (n := n) hsh hhv (by omega) hn (fun i hi ht => by rw [he i hi ht]; exact (allL_row hkm hD hi).1) rfl (-1) (fun h => absurd h (by decide))
  have hvn : v = n := hv2 (.inr (by
    obtain ⟨a, ha⟩ : ∃ a, a ∈ trues hv (k + m) := List.exists_mem_of_length_pos (by omega)
    exact ⟨a, trues_lt ha, trues_true ha⟩))
  subst hvn
  have hd := data_ok hk hm hkm hn hD hsh hhv hc he
  unfold stripe_Mend.f
  refine Ev.bind (evc (may_ok hk hm hkm)) ?_
  refine Ev.congr (fun q => if_pos rfl) ?_
  refine Ev.bind hv1 ?_
  refine Ev.congr (fun q => if_pos rfl) ?_
  refine Ev.bind hd ?_
  refine Ev.congr (fun q => if_pos rfl) ?_
  refine Ev.bind (code_ev hk hm hkm) ?_
  refine Ev.congr (fun q => if_pos (by omega)) ?_
  refine Ev.congr (fun q => if_pos (by rw [code_len]; omega)) ?_
  simp only [Option.bind_some, Int.toNat_natCast]
  have h := Mend_l0 hk hm hkm hn hD m 0 (by omega)
  have e : parts D k n 0 = D := by simp [parts]
  rw [e] at h
  exact h
end
theorem Mend_few {k m n : Nat} (hk : 0 < k) (hm : 0 < m) (hkm : k + m ≤ 16) (hn : n ≤ 65536) {sh : List (List Int)} {hv : List Bool} (hsh : sh.length = k + m) (hhv : hv.length = k + m) (hc : (trues hv (k + m)).length < k)
    (hrow : ∀ i : Nat, i < k + m → rdOf false hv (i : Int) = true → (rd_L1 sh (i : Int)).length = n) : Ev (fun q => stripe_Mend.f q sh hv (k : Int) (m : Int)) (([] : List (List Int)), 10) := by
  obtain ⟨v, hv1, hv2⟩ := look_ev (n := n) hsh hhv (by omega) hn hrow rfl (-1) (fun h => absurd h (by decide))
  unfold stripe_Mend.f
  refine Ev.bind (evc (may_ok hk hm hkm)) ?_
  refine Ev.congr (fun q => if_pos rfl) ?_
  refine Ev.bind hv1 ?_
  refine Ev.congr (fun q => if_pos rfl) ?_
  refine Ev.bind (data_few (k := k) (m := m) (n := v) hsh hhv (by omega) hc) ?_
  exact Ev.congr (fun q => if_neg (by simp)) (Ev.now _)
theorem Join_few {k m L : Nat} (hk : 0 < k) (hm : 0 < m) (hkm : k + m ≤ 16) (hL : L ≤ 1000) (hl : lenS L k ≤ 65536) {sh : List (List Int)} {hv : List Bool} (hsh : sh.length = k + m) (hhv : hv.length = k + m) (hc : (trues hv (k + m)).length < k)
    (hrow : ∀ i : Nat, i < k + m → rdOf false hv (i : Int) = true → (rd_L1 sh (i : Int)).length = lenS L k) : Ev (fun q => stripe_Join.f q sh hv (k : Int) (m : Int) (L : Int)) (([] : List Int), 10) := by
  obtain ⟨v, hv1, hv2⟩ := look_ev (n := lenS L k) hsh hhv (by omega) hl hrow rfl (lenS L k : Int) (fun _ => rfl)
  have hlen := Length_ok (L := L) (k := k) (by omega) hk (by omega)
  unfold stripe_Join.f
  refine Ev.bind (evc (may_ok hk hm hkm)) ?_
  refine Ev.congr (fun q => if_pos rfl) ?_
  refine Ev.bind (evc hlen) ?_
  refine Ev.congr (fun q => if_pos rfl) ?_
  refine Ev.bind hv1 ?_
  refine Ev.congr (fun q => if_pos rfl) ?_
  refine Ev.bind (data_few (k := k) (m := m) (n := v) hsh hhv (by omega) hc) ?_
  exact Ev.congr (fun q => if_neg (by simp)) (Ev.now _)
theorem dsh_take {x : List Int} {n i : Nat} : (dsh x n i).take (min n (x.length - i * n)) = (x.drop (i * n)).take n := by
  apply List.ext_getElem?
  intro p
  unfold dsh tab
  rw [List.getElem?_take, List.getElem?_take, List.getElem?_map, List.getElem?_drop]
  by_cases h1 : p < n
  · by_cases h2 : i * n + p < x.length
    · rw [if_pos (by omega), if_pos h1, List.getElem?_range h1, List.getElem?_eq_getElem h2]
      simp only [Option.map_some]
      rw [rd_nat, List.getD_eq_getElem?_getD, List.getElem?_eq_getElem h2]; rfl
    · rw [if_neg (by omega), if_pos h1, List.getElem?_eq_none (by omega)]
  · rw [if_neg (by omega), if_neg h1]
theorem Join_round {x : List Int} {n k i : Nat} (hx : x.length ≤ 1000) (hn : n ≤ 65536) (hi : i < k) (hk : k ≤ 16) (q : Nat) :
    stripe_Join.l0 (q + 1) (x.length : Int) (x.take (i * n)) (dataL x n k) (k : Int) (i : Int) = stripe_Join.l0 q (x.length : Int) (x.take ((i + 1) * n)) (dataL x n k) (k : Int) ((i + 1 : Nat) : Int) := by
  have hr : rd_L1 (dataL x n k) (i : Int) = dsh x n i := dataL_row hi
  have hl : (dsh x n i).length = n := tab_len _ _
  have ht : x.take ((i + 1) * n) = x.take (i * n) ++ (dsh x n i).take (min n (x.length - i * n)) := by
    rw [dsh_take, Nat.add_mul, Nat.one_mul, List.take_add]
  have htl : (x.take (i * n)).length = min (i * n) x.length := by simp
  have htk : ((dsh x n i).take (min n (x.length - i * n))).length ≤ n := by rw [List.length_take]; omega
  rw [ht]
  generalize dsh x n i = dd at hr hl htk
  generalize x.take (i * n) = tt at htl
  generalize i * n = t at htl htk
  have hdl := dataL_len x n k
  have e1 : mn (n : Int) ((x.length : Int) - (tt.length : Int)) = ((min n (x.length - t) : Nat) : Int) := by unfold mn; split <;> omega
  have e2 : Aside0 (wrap64 ((x.length : Int) - (tt.length : Int)) = (x.length : Int) - (tt.length : Int)) := ⟨by unfold wrap64; omega⟩
  rw [stripe_Join.l0.eq_2, rdQ, hr, hl, e2.out, e1, if_pos (by omega), if_pos (by omega), if_pos (by omega), if_pos (by omega), if_pos (by omega), Option.bind_some, Int.toNat_natCast, if_pos (by omega), wrap_succ hi (by omega)]
theorem Join_l0 {x : List Int} {n k : Nat} (hx : x.length ≤ 1000) (hn : n ≤ 65536) (hk : k ≤ 16) (hcov : x.length ≤ k * n) : ∀ (d i : Nat), k = i + d → Ev (fun q => stripe_Join.l0 q (x.length : Int) (x.take (i * n)) (dataL x n k) (k : Int) (i : Int)) (x, 0) := by
  intro d
  induction d with
  | zero =>
    intro i hi
    obtain rfl : k = i := by omega
    refine Ev.step (f := fun _ => some (x, 0)) (fun q => ?_) (Ev.now _)
    rw [stripe_Join.l0.eq_2, if_neg (by omega), List.take_of_length_le hcov]
  | succ d ih => intro i hi; exact Ev.step (fun q => Join_round hx hn (by omega) hk q) (ih (i + 1) (by omega))
theorem lenS_cover (L k : Nat) (hk : 0 < k) : L ≤ k * lenS L k := by
  unfold lenS
  have h := Nat.div_add_mod (L + k - 1) k
  have h2 := Nat.mod_lt (L + k - 1) hk
  generalize (L + k - 1) / k = a at *
  generalize k * a = b at *
  omega
theorem Join_ev {k m : Nat} (hk : 0 < k) (hm : 0 < m) (hkm : k + m ≤ 16) {x : List Int} (hx : x.length ≤ 1000) (bx : ∀ y ∈ x, Byte y) {sh : List (List Int)} {hv : List Bool} (hsh : sh.length = k + m) (hhv : hv.length = k + m) (hc : k ≤ (trues hv (k + m)).length)
    (he : ∀ r, r < k + m → rdOf false hv (r : Int) = true → rd_L1 sh (r : Int) = rd_L1 (allL (dataL x (lenS x.length k) k) k m (lenS x.length k)) (r : Int)) :
    Ev (fun q => stripe_Join.f q sh hv (k : Int) (m : Int) (x.length : Int)) (x, 0) := by
  have hl := lenS_le hk hm hkm (by omega) bx
  have hcov := lenS_cover x.length k hk
  have hlen := Length_ok (L := x.length) (k := k) (by omega) hk (by omega)
  generalize lenS x.length k = n at *
  have hD := dataL_Data bx n k
  obtain ⟨v, hv1, hv2⟩ := look_ev (n := n) hsh hhv (by omega) hl (fun i hi ht => by rw [he i hi ht]; exact (allL_row hkm hD hi).1) rfl (n : Int) (fun _ => rfl)
  have hvn := hv2 (.inl (by omega))
  subst hvn
  have hd := data_ok hk hm hkm hl hD hsh hhv hc he
  unfold stripe_Join.f
  refine Ev.bind (evc (may_ok hk hm hkm)) ?_
  refine Ev.congr (fun q => if_pos rfl) ?_
  refine Ev.bind (evc hlen) ?_
  refine Ev.congr (fun q => if_pos rfl) ?_
  refine Ev.bind hv1 ?_
  refine Ev.congr (fun q => if_pos rfl) ?_
  refine Ev.bind hd ?_
  refine Ev.congr (fun q => if_pos rfl) ?_
  refine Ev.congr (fun q => if_pos (by omega)) ?_
  refine Ev.congr (fun q => if_pos (by omega)) ?_
  have h := Join_l0 hx hl (by omega) hcov k 0 (by omega)
  rw [dataL_len]
  simpa using h
end Go.Proofs.Ythmlimkmcofkfaa.L

/- The chapter's examples of shards; what the laws of shards share. -/
namespace Go.Proofs.Ythmlimkmcofkfaa.L
open Go.RowKit Go.Proofs.YthmlimkmcofkfaaW.PrintWords Go.Proofs.Ythmlimkmcofkfaa.E Go.Proofs.Ythmlimkmcofkfaa.B
set_option linter.unusedVariables false
set_option linter.unusedSectionVars false

theorem known3 : Q.stowagelaw03_StripeKnown.f 60 = some true := by decide +kernel
theorem known3_ev : Ev (fun q => Q.stowagelaw03_StripeKnown.f q) true := Ev.of (fun k => Q.stowagelaw03_StripeKnown.mono k) known3
theorem byte_of_wf {x : Int} (h : (Lit.int .u8 x).wf = true) : Byte x := by
  simp only [Lit.wf, Bool.and_eq_true, decide_eq_true_eq] at h
  unfold Byte
  have h1 : (IntKind.u8.min : Int) = 0 := rfl
  have h2 : (IntKind.u8.max : Int) = 255 := rfl
  omega
theorem lenS_le_len (L k : Nat) (hk : 0 < k) : lenS L k ≤ L := by
  unfold lenS
  rw [Nat.div_le_iff_le_mul_add_pred hk]
  have : L ≤ k * L := Nat.le_mul_of_pos_left _ hk
  omega
theorem split_no {a b : Int} (h : stripe_may.f a b = some false) (x : List Int) : Ev (fun q => stripe_Split.f q x a b) ([], 5) := by
  unfold stripe_Split.f
  refine Ev.bind (evc h) ?_
  exact Ev.congr (fun q => if_neg (by simp)) (Ev.now _)
theorem wrap_add {a b : Nat} (h : a + b ≤ 100000) : wrap64 ((a : Int) + (b : Int)) = ((a + b : Nat) : Int) := by unfold wrap64; omega

end Go.Proofs.Ythmlimkmcofkfaa.L

/- Shards, told of lists: Sound. -/
namespace Go.Proofs.Ythmlimkmcofkfaa.L
open Go.RowKit Go.Proofs.YthmlimkmcofkfaaW.PrintWords Go.Proofs.Ythmlimkmcofkfaa.E Go.Proofs.Ythmlimkmcofkfaa.B
open Go.Proofs.Ythmlimkmcofkfaa.Q (stripe_Sound.f stripe_Sound.l0 stripe_Sound.l1)
set_option linter.unusedVariables false
set_option linter.unusedSectionVars false

theorem u8_inj {a b : Int} (ha : Byte a) (hb : Byte b) (h : UInt8.ofNat a.toNat = UInt8.ofNat b.toNat) : a = b := by
  unfold Byte at ha hb
  have h2 := congrArg UInt8.toNat h
  simp at h2
  omega
theorem str_inj : ∀ {a b : List Int}, (∀ x ∈ a, Byte x) → (∀ x ∈ b, Byte x) → (strOfNums a).toList = (strOfNums b).toList → a = b := by
  intro a b ha hb h
  rw [Lib.strOfNums_toList, Lib.strOfNums_toList] at h
  unfold Lib.bytesOf at h
  induction a generalizing b with
  | nil => cases b with
    | nil => rfl
    | cons y b => simp at h
  | cons x a ih => cases b with
    | nil => simp at h
    | cons y b =>
      simp only [List.map_cons, List.cons.injEq] at h
      rw [u8_inj (ha x (by simp)) (hb y (by simp)) h.1, ih (fun z hz => ha z (by simp [hz])) (fun z hz => hb z (by simp [hz])) h.2]
theorem mem_byte {x : List Int} {n : Nat} (hl : x.length = n) (h : ∀ p, p < n → Byte (rd x ((p : Nat) : Int))) : ∀ y ∈ x, Byte y := by
  intro y hy
  obtain ⟨i, hi, rfl⟩ := List.getElem_of_mem hy
  have := h i (by omega)
  rw [rd_nat] at this
  simpa [hi] using this

/-- Shards that are all there. -/
structure Whole (k m n : Nat) (sh : List (List Int)) : Prop where
  len : sh.length = k + m
  row : ∀ i, i < k + m → (rd_L1 sh ((i : Nat) : Int)).length = n
  byte : ∀ i p, i < k + m → p < n → Byte (rd (rd_L1 sh ((i : Nat) : Int)) ((p : Nat) : Int))
theorem Whole.data {k m n : Nat} {sh : List (List Int)} (h : Whole k m n sh) : Data k n (sh.take k) := by
  have e : ∀ i, i < k → rd_L1 (sh.take k) ((i : Nat) : Int) = rd_L1 sh ((i : Nat) : Int) := fun i hi => by
    rw [rdL_nat, rdL_nat, List.getD_eq_getElem?_getD, List.getD_eq_getElem?_getD, List.getElem?_take, if_pos hi]
  exact ⟨by rw [List.length_take, h.len]; omega, fun i hi => by rw [e i hi]; exact h.row i (by omega), fun i p hi hp => by rw [e i hi]; exact h.byte i p (by omega) hp⟩
theorem rdOf_rep {N i : Nat} (h : i < N) : rdOf false (List.replicate N true) ((i : Nat) : Int) = true := by
  unfold rdOf; simp [h]
section
variable {k m n : Nat} (hk : 0 < k) (hm : 0 < m) (hkm : k + m ≤ 16) (hn : n ≤ 65536) {sh : List (List Int)} (hw : Whole k m n sh)
include hk hm hkm hn hw
theorem Sound_l1 (b : Bool) : ∀ (d j : Nat), m = j + d → (b = true → ∀ i, j ≤ i → i < m → appL (parRow k i) (sh.take k) k n = rd_L1 sh ((k + i : Nat) : Int)) → (b = false → ∃ i, j ≤ i ∧ i < m ∧ appL (parRow k i) (sh.take k) k n ≠ rd_L1 sh ((k + i : Nat) : Int)) →
    Ev (fun q => stripe_Sound.l1 q sh (k : Int) (n : Int) ((codeL k m).drop k) (((codeL k m).drop k).length : Int) (j : Int)) (b, 0) := by
  have hD := hw.data
  have hl := drop_len hk hm hkm hn hD
  intro d
  induction d with
  | zero =>
    intro j hj h1 h2
    obtain rfl : b = true := by
      cases b with
      | true => rfl
      | false => obtain ⟨i, a, c, _⟩ := h2 rfl; omega
    refine Ev.step (f := fun _ => some (true, 0)) (fun q => ?_) (Ev.now _)
    simp only [stripe_Sound.l1]
    rw [if_neg (by omega)]
  | succ d ih =>
    intro j hj h1 h2
    have hlen := hw.len
    have hj2 : wrap64 ((k : Int) + (j : Int)) = ((k + j : Nat) : Int) := by unfold wrap64; omega
    have head : ∀ q, stripe_Sound.l1 (q + 1) sh (k : Int) (n : Int) ((codeL k m).drop k) (((codeL k m).drop k).length : Int) (j : Int) = if (strOfNums (appL (parRow k j) (sh.take k) k n)).toList = (strOfNums (rd_L1 sh ((k + j : Nat) : Int))).toList then stripe_Sound.l1 q sh (k : Int) (n : Int) ((codeL k m).drop k) (((codeL k m).drop k).length : Int) ((j + 1 : Nat) : Int) else some (false, 0) := by
      intro q
      simp only [stripe_Sound.l1]
      rw [rdQ, hl, hj2, if_pos (by omega), if_pos (by omega), if_pos (by omega), if_pos (by omega), if_pos (by omega), Int.toNat_natCast, drop_row (by omega),
        apply_ok hD (by omega) hn (parRow_len k j) (parRow_byte hkm (by omega)), Option.bind_some, if_pos (by omega), if_pos (by omega), wrap_succ (show j < m by omega) (by omega)]
    by_cases e : appL (parRow k j) (sh.take k) k n = rd_L1 sh ((k + j : Nat) : Int)
    · refine Ev.step (fun q => ?_) (ih (j + 1) (by omega) (fun hb i hi him => h1 hb i (by omega) him) (fun hb => ?_))
      · rw [head q, if_pos (by rw [e])]
      · obtain ⟨i, a, c, hne⟩ := h2 hb
        refine ⟨i, ?_, c, hne⟩
        rcases Nat.lt_or_ge j i with g | g
        · omega
        · obtain rfl : i = j := by omega
          exact absurd e hne
    · obtain rfl : b = false := by
        cases b with
        | false => rfl
        | true => exact absurd (h1 rfl j (Nat.le_refl _) (by omega)) e
      refine Ev.step (f := fun _ => some (false, 0)) (fun q => ?_) (Ev.now _)
      rw [head q, if_neg]
      intro h
      refine e (str_inj ?_ ?_ h)
      · exact mem_byte (appL_len _ _ _ _) (fun p hp => appL_byte hD (parRow_byte hkm (by omega)) hp)
      · exact mem_byte (hw.row _ (by omega)) (fun p hp => hw.byte _ p (by omega) hp)
theorem Sound_l0 {r : Bool × Int} (h : Ev (fun q => (stripe_look.f q sh (List.replicate (k + m) true) (k : Int) (m : Int) (-1)).bind fun bt295 => (if bt295.2 = 0 then ((matrix_Code.f q (k : Int) (m : Int)).bind fun bt297 => (if (0 : Int) ≤ (k : Int) then (if (k : Int) ≤ (bt297.1.length : Int) then ((some (bt297.1.drop (k : Int).toNat : List (List Int))).bind fun y301 => (stripe_Sound.l1 q sh (k : Int) bt295.1 y301 (y301.length : Int) 0)) else (none)) else (none))) else (some (false, bt295.2)))) r) :
    ∀ (d i : Nat), k + m = i + d → Ev (fun q => stripe_Sound.l0 q sh (k : Int) (m : Int) (List.replicate i true ++ List.replicate d false) ((k + m : Nat) : Int) (i : Int)) r := by
  intro d
  induction d with
  | zero =>
    intro i hi
    obtain rfl : i = k + m := by omega
    refine Ev.step (fun q => ?_) h
    simp only [stripe_Sound.l0]
    rw [if_neg (by omega), List.replicate_zero, List.append_nil]
  | succ d ih =>
    intro i hi
    refine Ev.step (fun q => ?_) (ih (i + 1) (by omega))
    have hs : (List.replicate i true ++ List.replicate (d + 1) false).set i true = List.replicate (i + 1) true ++ List.replicate d false := by
      rw [List.set_append_right _ _ (by simp), List.length_replicate, Nat.sub_self, List.replicate_succ, List.set_cons_zero, List.replicate_succ', List.append_assoc]; rfl
    have hl : (List.replicate i true ++ List.replicate (d + 1) false).length = k + m := by simp; omega
    simp only [stripe_Sound.l0]
    rw [if_pos (by omega), if_pos (by omega), if_pos (by omega), Int.toNat_natCast, hs, wrap_succ (show i < k + m by omega) (by omega)]
theorem Sound_ev (b : Bool) (h1 : b = true → ∀ i, i < m → appL (parRow k i) (sh.take k) k n = rd_L1 sh ((k + i : Nat) : Int)) (h2 : b = false → ∃ i, i < m ∧ appL (parRow k i) (sh.take k) k n ≠ rd_L1 sh ((k + i : Nat) : Int)) :
    Ev (fun q => stripe_Sound.f q sh (k : Int) (m : Int)) (b, 0) := by
  have hlen := hw.len
  obtain ⟨v, hv1, hv2⟩ := look_ev (n := n) (sh := sh) (hv := List.replicate (k + m) true) hlen (by simp) (by omega) hn (fun i hi ht => hw.row i hi) rfl (-1) (fun h => absurd h (by decide))
  have hvn : v = n := hv2 (.inr ⟨0, by omega, rdOf_rep (by omega)⟩)
  subst hvn
  have hs := Sound_l1 hk hm hkm hn hw b m 0 (by omega) (fun hb i _ him => h1 hb i him) (fun hb => by obtain ⟨i, a, c⟩ := h2 hb; exact ⟨i, Nat.zero_le _, a, c⟩)
  have h0 := Sound_l0 hk hm hkm hn hw (r := (b, 0)) (by
    refine Ev.bind hv1 ?_
    refine Ev.congr (fun q => if_pos rfl) ?_
    refine Ev.bind (code_ev hk hm hkm) ?_
    refine Ev.congr (fun q => if_pos (by omega)) ?_
    refine Ev.congr (fun q => if_pos (by rw [code_len]; omega)) ?_
    simp only [Option.bind_some, Int.toNat_natCast]
    exact hs) (k + m) 0 (by omega)
  unfold stripe_Sound.f
  refine Ev.bind (evc (may_ok hk hm hkm)) ?_
  refine Ev.congr (fun q => if_pos rfl) ?_
  refine Ev.congr (fun q => if_pos (by omega)) ?_
  refine Ev.congr (fun q => if_pos (by omega)) ?_
  refine Ev.congr (fun q => ?_) h0
  rw [hlen, Option.bind_some, Int.toNat_natCast, List.length_replicate]
  rfl
end

end Go.Proofs.Ythmlimkmcofkfaa.L

/- StripeTurned, told of lists. -/
namespace Go.Proofs.Ythmlimkmcofkfaa.L
open Go.RowKit Go.Proofs.YthmlimkmcofkfaaW.PrintWords Go.Proofs.Ythmlimkmcofkfaa.E Go.Proofs.Ythmlimkmcofkfaa.B
open Go.Proofs.Ythmlimkmcofkfaa.Q (stripe_Mend.f stripe_Join.f stripe_Sound.f)
set_option linter.unusedVariables false
set_option linter.unusedSectionVars false

theorem whole_all {k m n : Nat} (hkm : k + m ≤ 16) {D : List (List Int)} (hD : Data k n D) : Whole k m n (allL D k m n) :=
  ⟨allL_len hD.len, fun i hi => (allL_row hkm hD hi).1, fun i p hi hp => allL_byte hkm hD hi hp⟩
theorem all_take {k m n : Nat} {D : List (List Int)} (hD : Data k n D) : (allL D k m n).take k = D := parts_take hD.len
theorem all_par {k m n i : Nat} {D : List (List Int)} (hD : Data k n D) (hi : i < m) : rd_L1 (allL D k m n) ((k + i : Nat) : Int) = appL (parRow k i) D k n := by
  rw [rdL_nat]; unfold allL
  rw [List.getD_eq_getElem?_getD, List.getElem?_append_right (by rw [hD.len]; omega), hD.len, Nat.add_sub_cancel_left, List.getElem?_map, List.getElem?_range hi]; rfl

/-! ### A byte that is turned -/
theorem gadd_cancel {a b : Int} (ha : Byte a) (hb : Byte b) (h : gadd a b = a) : b = 0 := by
  have h2 := congrArg (gadd a) h
  rw [← gadd_assoc, gadd_self, zero_gadd hb] at h2
  exact h2
theorem rd_set {x : List Int} {u p : Nat} {v : Int} (hu : u < x.length) : rd (x.set u v) ((p : Nat) : Int) = if p = u then v else rd x ((p : Nat) : Int) := by
  rw [rd_nat, rd_nat, List.getD_eq_getElem?_getD, List.getD_eq_getElem?_getD, List.getElem?_set]
  by_cases e : p = u
  · subst e; simp [hu]
  · rw [if_neg (fun h => e h.symm), if_neg e]
theorem rdL_set {x : List (List Int)} {u p : Nat} {v : List Int} (hu : u < x.length) : rd_L1 (x.set u v) ((p : Nat) : Int) = if p = u then v else rd_L1 x ((p : Nat) : Int) := by
  rw [rdL_nat, rdL_nat, List.getD_eq_getElem?_getD, List.getD_eq_getElem?_getD, List.getElem?_set]
  by_cases e : p = u
  · subst e; simp [hu]
  · rw [if_neg (fun h => e h.symm), if_neg e]
section
variable {k m n t u : Nat} (hk : 0 < k) (hm : 0 < m) (hkm : k + m ≤ 16) {D : List (List Int)} (hD : Data k n D) (ht : t < k + m) (hu : u < n) {z : Int} (hz : Byte z) (hz0 : z ≠ 0)
include hk hm hkm hD ht hu hz hz0
def turn (S : List (List Int)) (t u : Nat) (z : Int) : List (List Int) := S.set t ((rd_L1 S ((t : Nat) : Int)).set u (gadd (rd (rd_L1 S ((t : Nat) : Int)) ((u : Nat) : Int)) z))
theorem turn_row (i : Nat) : rd_L1 (turn (allL D k m n) t u z) ((i : Nat) : Int) = if i = t then (rd_L1 (allL D k m n) ((t : Nat) : Int)).set u (gadd (rd (rd_L1 (allL D k m n) ((t : Nat) : Int)) ((u : Nat) : Int)) z) else rd_L1 (allL D k m n) ((i : Nat) : Int) :=
  rdL_set (by rw [allL_len hD.len]; exact ht)
theorem turn_whole : Whole k m n (turn (allL D k m n) t u z) := by
  have hw := whole_all hkm hD
  refine ⟨by unfold turn; rw [List.length_set]; exact hw.len, fun i hi => ?_, fun i p hi hp => ?_⟩
  · rw [turn_row hk hm hkm hD ht hu hz hz0]
    split
    · rw [List.length_set]; exact hw.row t ht
    · exact hw.row i hi
  · rw [turn_row hk hm hkm hD ht hu hz hz0]
    split
    · rw [rd_set (by rw [hw.row t ht]; exact hu)]
      split
      · exact gadd_byte (hw.byte t u ht hu) hz
      · exact hw.byte t p ht hp
    · exact hw.byte i p hi hp
theorem turn_parts : ∃ i, i < m ∧ appL (parRow k i) ((turn (allL D k m n) t u z).take k) k n ≠ rd_L1 (turn (allL D k m n) t u z) ((k + i : Nat) : Int) := by
  have hw := whole_all hkm hD (m := m)
  have hrow := turn_row hk hm hkm hD ht hu hz hz0
  have htake : ∀ j, j < k → rd_L1 ((turn (allL D k m n) t u z).take k) ((j : Nat) : Int) = rd_L1 (turn (allL D k m n) t u z) ((j : Nat) : Int) := fun j hj => by
    rw [rdL_nat, rdL_nat, List.getD_eq_getElem?_getD, List.getD_eq_getElem?_getD, List.getElem?_take, if_pos hj]
  have hall : ∀ j, j < k → rd_L1 (allL D k m n) ((j : Nat) : Int) = rd_L1 D ((j : Nat) : Int) := fun j hj => by
    rw [rdL_nat, rdL_nat]; unfold allL
    rw [List.getD_eq_getElem?_getD, List.getD_eq_getElem?_getD, List.getElem?_append_left (by rw [hD.len]; exact hj)]
  by_cases h : t < k
  · refine ⟨0, hm, fun e => ?_⟩
    have e2 : rd (appL (parRow k 0) ((turn (allL D k m n) t u z).take k) k n) ((u : Nat) : Int) = rd (rd_L1 (turn (allL D k m n) t u z) ((k + 0 : Nat) : Int)) ((u : Nat) : Int) := by rw [e]
    rw [hrow, if_neg (show ¬ k + 0 = t by omega), all_par hD hm] at e2
    unfold appL at e2
    rw [tab_rd hu, tab_rd hu] at e2
    have bq : ∀ j, j < k → Byte (rd (parRow k 0) ((j : Nat) : Int)) := parRow_byte hkm hm
    rw [gsum_congr (g := fun j => gadd (gmul (rd (parRow k 0) ((j : Nat) : Int)) (rd (rd_L1 D ((j : Nat) : Int)) ((u : Nat) : Int))) (gmul (rd (parRow k 0) ((j : Nat) : Int)) (if j = t then z else 0))) (fun j hj => by
      rw [← gmul_gadd, htake j hj, hrow]
      by_cases ej : j = t
      · subst ej
        rw [if_pos rfl, if_pos rfl, rd_set (by rw [hw.row j ht]; exact hu), if_pos rfl, hall j hj]
      · rw [if_neg ej, if_neg ej, hall j hj, gadd_zero (hD.byte j u hj hu)]), gsum_gadd] at e2
    have h0 := gadd_cancel (gsum_byte fun j hj => gmul_byte (bq j hj)) (gsum_byte fun j hj => gmul_byte (bq j hj)) e2
    rw [gsum_at h (gmul_byte (bq t h)) (fun j hj hne => by rw [if_neg hne, gmul_zero]), if_pos rfl] at h0
    rcases gmul_eq_zero (bq t h) hz h0 with h1 | h1
    · unfold parRow at h1
      rw [tab_rd h] at h1
      exact qq_ne (by unfold Small; omega) (by unfold Small; omega) (by omega) h1
    · exact hz0 h1
  · refine ⟨t - k, by omega, fun e => ?_⟩
    have e2 : rd (appL (parRow k (t - k)) ((turn (allL D k m n) t u z).take k) k n) ((u : Nat) : Int) = rd (rd_L1 (turn (allL D k m n) t u z) ((k + (t - k) : Nat) : Int)) ((u : Nat) : Int) := by rw [e]
    have etake : (turn (allL D k m n) t u z).take k = D := by
      unfold turn
      rw [List.take_set_of_le (by omega), all_take hD]
    rw [etake, show k + (t - k) = t by omega, hrow, if_pos rfl, rd_set (by rw [hw.row t ht]; exact hu), if_pos rfl] at e2
    have e3 : appL (parRow k (t - k)) D k n = rd_L1 (allL D k m n) ((t : Nat) : Int) := by
      rw [← all_par hD (show t - k < m by omega), show k + (t - k) = t by omega]
    rw [e3] at e2
    exact hz0 (gadd_cancel (hw.byte t u ht hu) hz e2.symm)
end
theorem turned_pure (x : List Int) (a1 a2 a3 a4 z : Int) (bx : ∀ y ∈ x, Byte y) (bz : Byte z) (w1 : (Lit.int .i64 a1).wf = true) (w2 : (Lit.int .i64 a2).wf = true) : ∃ q, Q.stowagelaw03_StripeTurned.f q x a1 a2 a3 a4 z = some true := by
  refine Ev.rounds (g := fun q => Q.stowagelaw03_StripeTurned.f q x a1 a2 a3 a4 z) ?_
  unfold Q.stowagelaw03_StripeTurned.f
  refine Ev.bind known3_ev ?_
  have jt : Ev (fun q => Q.stowagelaw03_StripeTurned.j0 q x a1 a2 a3 a4 z true true) true := Ev.step (f := fun _ => some true) (fun q => by simp only [Q.stowagelaw03_StripeTurned.j0]; rfl) (Ev.now _)
  by_cases c1 : (x.length : Int) > 1000
  · exact Ev.congr (fun q => if_pos c1) jt
  · refine Ev.congr (fun q => if_neg c1) ?_
    by_cases c2 : (x.length : Int) = 0
    · exact Ev.congr (fun q => if_pos c2) jt
    · refine Ev.congr (fun q => if_neg c2) ?_
      by_cases c3 : z = 0
      · have : (z == 0) = true := by simpa using c3
        rw [this]; exact jt
      · have : (z == 0) = false := by simpa using c3
        rw [this]
        refine Ev.step (f := fun q => (stripe_Split.f q x a1 a2).bind fun bt315 => (if bt315.2 = 0 then (if (bt315.1.length : Int) = (wrap64 (a1 + a2)) then (if 0 < (bt315.1.length : Int) then (Q.stowagelaw03_StripeTurned.j1 q a1 a2 a3 a4 z true bt315.1 (((rd_L1 bt315.1 0).length : Int) == 0)) else (none)) else (Q.stowagelaw03_StripeTurned.j1 q a1 a2 a3 a4 z true bt315.1 true)) else (some true))) (fun q => by simp only [Q.stowagelaw03_StripeTurned.j0]; rfl) ?_
        rcases may_cases a1 a2 w1 w2 with ⟨k, m, rfl, rfl, hk, hm, hkm⟩ | hno
        · have hL : x.length ≤ 65536 := by omega
          have hle := lenS_le_len x.length k hk
          have hpos : 0 < lenS x.length k := by unfold lenS; exact Nat.div_pos (by omega) hk
          have hs := Split_ev hk hm hkm hL bx
          have hD := dataL_Data bx (lenS x.length k) k
          have hlen := allL_len (m := m) (n := lenS x.length k) hD.len
          generalize dataL x (lenS x.length k) k = D at *
          generalize lenS x.length k = n at *
          refine Ev.bind hs ?_
          refine Ev.congr (fun q => if_pos rfl) ?_
          have ekm : wrap64 ((k : Int) + (m : Int)) = ((k + m : Nat) : Int) := wrap_add (by omega)
          rw [ekm]
          refine Ev.congr (fun q => if_pos (by rw [hlen])) ?_
          refine Ev.congr (fun q => if_pos (by rw [hlen]; omega)) ?_
          have hr0 : (((rd_L1 (allL D k m n) 0).length : Int) == 0) = false := by
            have := (allL_row (m := m) hkm hD (r := 0) (by omega)).1
            have e : rd_L1 (allL D k m n) ((0 : Nat) : Int) = rd_L1 (allL D k m n) 0 := rfl
            rw [e] at this
            rw [this]; simp; omega
          rw [hr0]
          obtain ⟨t, ht, hp⟩ := kpick a3 (k + m) (by omega) (by omega)
          obtain ⟨u, hu, hq⟩ := kpick a4 n (by omega) (by omega)
          have hrt := (allL_row (m := m) hkm hD ht).1
          have hS := Sound_ev hk hm hkm (by omega) (turn_whole hk hm hkm hD ht hu bz c3) false (fun h => by cases h) (fun _ => turn_parts hk hm hkm hD ht hu bz c3)
          refine Ev.step (f := fun q => (Q.stripe_Sound.f q (turn (allL D k m n) t u z) (k : Int) (m : Int)).bind fun bt327 => (if true = true then (if bt327.2 = 0 then (some (!bt327.1)) else (some false)) else (some false))) (fun q => ?_) ?_
          · simp only [Q.stowagelaw03_StripeTurned.j1]
            have hb := bits_xor (allL_byte (m := m) hkm hD ht hu) bz
            rw [ekm, hp, if_neg (by decide), Option.bind_some, if_pos (by omega), if_pos (by omega), rdQ, hrt, hq, Option.bind_some, if_pos (by omega), if_pos (by omega), hb, Int.toNat_natCast, Int.toNat_natCast]
            rfl
          · refine Ev.bind hS ?_
            exact Ev.now _
        · refine Ev.bind (split_no hno x) ?_
          exact Ev.congr (fun q => if_neg (by decide)) (Ev.now _)
end Go.Proofs.Ythmlimkmcofkfaa.L

/- The plain law of StripeTurned, in the form that the row asks for: Shards of which one byte is turned do not go together. -/
namespace Go.Proofs.Ythmlimkmcofkfaa.Pure
theorem StripeTurned : Q.stowagelaw03_StripeTurned.Pure := fun l0 a1 a2 a3 a4 a5 _ _ h0 h1 h2 _ _ h5 => L.turned_pure l0 a1 a2 a3 a4 a5 (fun y hy => L.byte_of_wf (h0 y hy)) (L.byte_of_wf h5) h1 h2
end Go.Proofs.Ythmlimkmcofkfaa.Pure

/- Contracts of functions of the program, written by a program of this session. -/
namespace Go.Proofs.Ythmlimkmcofkfaa.stripeTurned
open Go.ChangeShapes Go.WideShapes Go.ChangeAt Go.RowKit
open Go.ChangeMaps (open_string shut_string)
set_option linter.unusedVariables false
theorem own : ownKnob Try.prog.godebug = none := by kernel_rfl
theorem laidOut : laidOutB Try.prog = true := by kernel_rfl
def IsRow (k : IntKind) (w : World) (a : Option Addr) (len cap : Nat) (zs : List Int) : Prop :=
  (a = none ∧ len = 0 ∧ cap = 0 ∧ zs = []) ∨
  ∃ x, a = some x ∧ len ≤ cap ∧ cap ≤ maxLen ∧ zs.length = cap ∧ (∀ i, i < zs.length → w.cell? (x.add i) = some (.int k (zs.getD i 0))) ∧ ∀ n ∈ zs, (Lit.int k n).wf = true
set_option maxRecDepth 100000 in
theorem lifted (os : Os) (started : os.Started) (H : Type) (enc : TypeId × Value → H) :
    ReturnsInHanded {} Try.checked os 10 .any (Rows.stripeTurnedSpec.pre6 enc Try.prog Try.f10 Rows.stripeTurnedRow.domain false) (Rows.stripeTurnedSpec.post enc Try.prog Try.f10 false true false false) := by
  refine returnsInHanded_of_change_sized (C := Try.checked) own started (by kernel_rfl) Try.func10
    (ChangeSpec.witness6 (enc := enc) (C := Try.checked) false ⟨#[], #[.slice none 0 0, .int .i64 0, .int .i64 0, .int .i64 0, .int .i64 0, .int .u8 0], []⟩ 8 (by kernel_rfl) (by kernel_rfl) (by kernel_rfl) (by kernel_rfl)) ?_
  intro W base args ds gs before hval0 hW hcnd hsz0 _
  have hsz : (DataW.weightsEach Try.prog (Try.f10.params.toList ++ Rows.stripeTurnedSpec.plain.varTypes Try.prog) (ds ++ gs)).all (· ≤ reachBytes) = true := hsz0
  have hval : ∀ (j : Nat) t v, Try.f10.params[j]? = some t → args[j]? = some v → Value.okWide Try.prog W .any base t v := hval0
  have hW' := hW
  obtain ⟨p, q, hA0, hV, rfl, hfz, hnd⟩ := hW
  have hA : DataW.TrodAll enc Try.prog W 0 (fun _ => true) true Try.f10.params.toList args.toList ds p := hA0
  rw [Try.params10] at hA hval hsz
  obtain ⟨v0, vs0, d0, ds0, p0, q0, hargs, rfl, rfl, h0, r0⟩ := trodAll_cons hA
  obtain ⟨v1, vs1, d1, ds1, p1, q1, rfl, rfl, rfl, h1, r1⟩ := trodAll_cons r0
  obtain ⟨v2, vs2, d2, ds2, p2, q2, rfl, rfl, rfl, h2, r2⟩ := trodAll_cons r1
  obtain ⟨v3, vs3, d3, ds3, p3, q3, rfl, rfl, rfl, h3, r3⟩ := trodAll_cons r2
  obtain ⟨v4, vs4, d4, ds4, p4, q4, rfl, rfl, rfl, h4, r4⟩ := trodAll_cons r3
  obtain ⟨v5, vs5, d5, ds5, p5, q5, rfl, rfl, rfl, h5, r5⟩ := trodAll_cons r4
  obtain ⟨rfl, rfl, rfl⟩ := trodAll_nil r5
  obtain rfl : args = #[v0, v1, v2, v3, v4, v5] := by cases args; simp_all
  obtain ⟨rfl, rfl⟩ := trodVars_none hV
  obtain ⟨a0, len0, cap0, rfl⟩ := okWide_slice Try.underlying41 (hval 0 41 v0 rfl rfl)
  have k0 := h0
  have lt0 : ∀ x ∈ p0, x.block < W.heap.size := by obtain ⟨m, hm⟩ := k0; exact DataW.trod_lt m _ _ _ hm
  obtain ⟨z0, w0⟩ : ∃ zs, IsRow .u8 W a0 len0 cap0 zs := by
    obtain ⟨fuel, hf⟩ := h0
    rcases open_ints Try.underlying41 Try.underlying5 (by kernel_rfl) hf with ⟨hcs, _⟩ | ⟨x, l, c, zs, hcs, _, hl, hm, hz, _, hcell, hwz⟩
    · simp [Value.cells] at hcs
      obtain ⟨rfl, rfl, rfl⟩ := hcs
      exact ⟨[], .inl ⟨rfl, rfl, rfl, rfl⟩⟩
    · simp [Value.cells] at hcs
      obtain ⟨rfl, rfl, rfl⟩ := hcs
      exact ⟨zs, .inr ⟨_, rfl, hl, hm, by simpa using hz, hcell, hwz⟩⟩
  have y0 : len0 * 1 ≤ 140737488351232 := Go.Proofs.YthmlimkmcofkfaaW.PrintWords.sized_ints hsz (j := 0) (t := 41) rfl rfl Try.underlying41 Try.underlying5 (by kernel_rfl) (by kernel_rfl) h0
  obtain ⟨a1, rfl, rfl, rfl, w1⟩ := open_int Try.underlying3 (hval 1 3 v1 rfl rfl) h1
  obtain ⟨a2, rfl, rfl, rfl, w2⟩ := open_int Try.underlying3 (hval 2 3 v2 rfl rfl) h2
  obtain ⟨a3, rfl, rfl, rfl, w3⟩ := open_int Try.underlying3 (hval 3 3 v3 rfl rfl) h3
  obtain ⟨a4, rfl, rfl, rfl, w4⟩ := open_int Try.underlying3 (hval 4 3 v4 rfl rfl) h4
  obtain ⟨a5, rfl, rfl, rfl, w5⟩ := open_int Try.underlying5 (hval 5 5 v5 rfl rfl) h5
  clear hA0 hval0 hsz0 hsz
  refine (Q.stowagelaw03_StripeTurned.walk Pure.StripeTurned a0 len0 cap0 z0 a1 a2 a3 a4 a5 W w0 y0 w1 w2 w3 w4 w5).mono fun e W' ⟨he, bel⟩ => ?_
  subst he
  exact ⟨_, rfl, _, _, _, [], _, [], hW', trodAll_mk1 (shut_bool Try.underlying4 _), (trodAll_cons_mk (Below.trod laidOut (by kernel_rfl) (of_decide_eq_true (by kernel_rfl)) k0 bel lt0) (trodAll_cons_mk (shut_int Try.underlying3 w1) (trodAll_cons_mk (shut_int Try.underlying3 w2) (trodAll_cons_mk (shut_int Try.underlying3 w3) (trodAll_cons_mk (shut_int Try.underlying3 w4) (trodAll_cons_mk (shut_int Try.underlying5 w5) trodAll_mk0)))))), rfl, bel.frame _, fun h => by cases h⟩
theorem over : Rows.stripeTurnedRow.holds Try.pinned (OpenSpec.ofChange Rows.stripeTurnedSpec) :=
  OpenClaim.holds_of_wide 10 Try.f10 rfl rfl rfl rfl rfl rfl rfl ⟨rfl, rfl, rfl, rfl, rfl⟩ rfl rfl rfl rfl rfl (by kernel_rfl) Try.func10 (by kernel_rfl)
    (of_decide_eq_true (by kernel_rfl)) (by unfold Func.isWrapper; first | (rw [if_pos (by decide +kernel)]; kernel_rfl) | (rw [if_neg (by decide +kernel)]; exact ⟨rfl, rfl⟩))
    (fun os started H enc _ => lifted os started H enc)
theorem proved : Rows.StripeTurnedSaid := over
#print axioms proved
end Go.Proofs.Ythmlimkmcofkfaa.stripeTurned
namespace Go.Proofs.Ythmlimkmcofkfaa
/-- The row, under a short name, for the claim. -/
theorem stripeTurned_holds : Rows.StripeTurnedSaid := stripeTurned.proved
end Go.Proofs.Ythmlimkmcofkfaa
