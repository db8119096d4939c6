/- StripeAny: any k shards tell the bytes and all other shards, of any bytes of at most 1,000, any k and m that may be, any choice of k, or of more, shards. (Part 3 of 8.) -/
import Derived.Deep.OwnRows
import Derived.Laws.CopyOwn
import Derived.Test.YthmlimkmcofkfaaProg
import Derived.Below
import Derived.Deep.Draws
import Derived.Deep.AppendLies
import Derived.Maps.AppendAt
import Derived.OwnWalk
import Derived.Laws.BytesArg
import Derived.Laws.MakeOwn
import Derived.Laws.OwnMore
import Derived.Tactics
import Derived.Lib.ConvBytes
import Derived.Laws.Slices
import Derived.WalkKit
import Derived.KernelRfl
import Derived.RowKit3
import Derived.Deep.LoopGhost
import Derived.Deep.QuietTactic
import Derived.BigQuiet
import Derived.WideLaws
import Derived.Deep.DeepCutAuto
import Derived.Deep.CutBlock
import Derived.Deep.RegionHeld3
import Derived.Laws.Rows
import Derived.Lib.AppendStr
import Derived.ArgAppend
import Derived.Laws.IdiomCopy
import Derived.OrdersHeld
import Derived.Laws.BitsLemmas
import Derived.RowKit
import Derived.Test.YthmlimkmcofkfaaWWords
import Derived.Test.YthmlimkmcofkfaaWLast
import Derived.Test.YthmlimkmcofkfaaWTab
import Derived.Test.YthmlimkmcofkfaaWFour
import Derived.Test.YthmlimkmcofkfaaWQPut
import Derived.Test.YthmlimkmcofkfaaWApart
import Derived.Test.YthmlimkmcofkfaaWArr
import Derived.Test.YthmlimkmcofkfaaWZeros
import Derived.Test.YthmlimkmcofkfaaWFoot
import Derived.Test.YthmlimkmcofkfaaWKept
import Derived.Test.YthmlimkmcofkfaaWShare
import Derived.Test.YthmlimkmcofkfaaWN
import Derived.Test.YthmlimkmcofkfaaWFootNe
import Derived.Test.YthmlimkmcofkfaaWAt
import Derived.Test.YthmlimkmcofkfaaWEqStruct
import Derived.Test.YthmlimkmcofkfaaWRepsOne
import Derived.Test.YthmlimkmcofkfaaWInv
import Derived.Test.YthmlimkmcofkfaaWInvWords
import Derived.Test.YthmlimkmcofkfaaWGuard
import Derived.Test.YthmlimkmcofkfaaWNEv
import Derived.Test.YthmlimkmcofkfaaWMore
import Derived.Test.YthmlimkmcofkfaaMAny3x0
import Derived.Test.YthmlimkmcofkfaaMAny3x1
/- Contracts of functions of the program, written by a program of this session. -/
namespace Go.Proofs.Ythmlimkmcofkfaa.B
open Go.RowKit Go.Proofs.YthmlimkmcofkfaaW.PrintWords Go.Proofs.YthmlimkmcofkfaaW.PrintLast Go.Proofs.YthmlimkmcofkfaaW.PrintMore
attribute [local go_sem] max2_int min2_int max_two min_two max_three min_three max_four min_four   -- for this text's walks alone
set_option linter.unusedVariables false
set_option linter.unusedSimpArgs false

/-! ### stowagelaw03_hidden: function 57 -/
mutual
def stowagelaw03_hidden.l0 : Nat → List (List Int) → List Bool → List (List Int) → Int → Option ((List (List Int)))
  | 0, _, _, _, _ => none
  | k + 1, x0, x1, x5, x6 => if x6 < (x0.length : Int) then ((some (([] : List Int) : List Int)).bind fun y445 => (if 0 ≤ x6 then (if y445.length + (rd_L1 x0 x6).length < 140737488355328 then ((some (y445 ++ (rd_L1 x0 x6) : List Int)).bind fun y449 => (if x6 < (x1.length : Int) then (if rdOf false x1 x6 = true then (if x5.length < 5864062014805 then (stowagelaw03_hidden.l0 k x0 x1 (x5 ++ [y449]) (wrap64 (x6 + 1))) else (none)) else (if y449.length < 140737488355328 then (stowagelaw03_hidden.l1 k x0 x1 x5 x6 (y449 ++ [7]) 0) else (none))) else (none))) else (none)) else (none))) else (some x5)
def stowagelaw03_hidden.l1 : Nat → List (List Int) → List Bool → List (List Int) → Int → List Int → Int → Option ((List (List Int)))
  | 0, _, _, _, _, _, _ => none
  | k + 1, x0, x1, x5, x6, x7, x8 => if x8 < (x7.length : Int) then (if 0 ≤ x8 then (stowagelaw03_hidden.l1 k x0 x1 x5 x6 (x7.set (x8 : Int).toNat (Go.bits .xor .u8 (rd x7 x8) 90)) (wrap64 (x8 + 1))) else (none)) else (if x5.length < 5864062014805 then (stowagelaw03_hidden.l0 k x0 x1 (x5 ++ [x7]) (wrap64 (x6 + 1))) else (none))
end
def stowagelaw03_hidden.f (k : Nat) (l0 : List (List Int)) (l1 : List Bool) : Option ((List (List Int))) := stowagelaw03_hidden.l0 k l0 l1 ([] : List (List Int)) 0
theorem stowagelaw03_hidden.mono_l : ∀ k, (∀ y0 y1 y2 y3, LeO (stowagelaw03_hidden.l0 k y0 y1 y2 y3) (stowagelaw03_hidden.l0 (k + 1) y0 y1 y2 y3)) ∧ (∀ y0 y1 y2 y3 y4 y5, LeO (stowagelaw03_hidden.l1 k y0 y1 y2 y3 y4 y5) (stowagelaw03_hidden.l1 (k + 1) y0 y1 y2 y3 y4 y5))
  | 0 => ⟨fun _ _ _ _ r h => by simp [stowagelaw03_hidden.l0] at h, fun _ _ _ _ _ _ r h => by simp [stowagelaw03_hidden.l1] at h⟩
  | k + 1 => by
    obtain ⟨ih0, ih1⟩ := stowagelaw03_hidden.mono_l k
    refine ⟨?_, ?_⟩
    · intro y0 y1 y2 y3
      unfold stowagelaw03_hidden.l0
      repeat' first
      | (with_reducible exact ih0 _ _ _ _)
      | (with_reducible exact ih1 _ _ _ _ _ _)
      | (with_reducible exact LeO.refl _)
      | (with_reducible exact LeO.none _)
      | (with_reducible refine LeO.ite ?_ ?_)
      | (with_reducible refine LeO.bind ?_ (fun _ => ?_))
      | exact ih0 _ _ _ _
      | exact ih1 _ _ _ _ _ _
      | exact LeO.none _
      | refine LeO.ite ?_ ?_
      | refine LeO.bind ?_ (fun _ => ?_)
    · intro y0 y1 y2 y3 y4 y5
      unfold stowagelaw03_hidden.l1
      repeat' first
      | (with_reducible exact ih0 _ _ _ _)
      | (with_reducible exact ih1 _ _ _ _ _ _)
      | (with_reducible exact LeO.refl _)
      | (with_reducible exact LeO.none _)
      | (with_reducible refine LeO.ite ?_ ?_)
      | (with_reducible refine LeO.bind ?_ (fun _ => ?_))
      | exact ih0 _ _ _ _
      | exact ih1 _ _ _ _ _ _
      | exact LeO.none _
      | refine LeO.ite ?_ ?_
      | refine LeO.bind ?_ (fun _ => ?_)
theorem stowagelaw03_hidden.mono : ∀ a0 a1 k, LeO (stowagelaw03_hidden.f k a0 a1) (stowagelaw03_hidden.f (k + 1) a0 a1) := by
  intro a0 a1 k
  obtain ⟨ih0, ih1⟩ := stowagelaw03_hidden.mono_l k
  unfold stowagelaw03_hidden.f
  repeat' first
      | (with_reducible exact ih0 _ _ _ _)
      | (with_reducible exact ih1 _ _ _ _ _ _)
      | (with_reducible exact LeO.refl _)
      | (with_reducible exact LeO.none _)
      | (with_reducible refine LeO.ite ?_ ?_)
      | (with_reducible refine LeO.bind ?_ (fun _ => ?_))
      | exact ih0 _ _ _ _
      | exact ih1 _ _ _ _ _ _
      | exact LeO.none _
      | refine LeO.ite ?_ ?_
      | refine LeO.bind ?_ (fun _ => ?_)
set_option maxHeartbeats 8000000 in
set_option maxRecDepth 100000 in
theorem stowagelaw03_hidden.calls (k : Nat) (A0 : Option Addr) (c0 : Nat) (l0 : List (List Int)) (A1 : Option Addr) (c1 : Nat) (l1 : List Bool) (r : List (List Int)) (w : World) (hr0 : Kd.C (Kd.slice 5 (Kd.int .u8)) w A0 l0.length l0) (hc0 : l0.length ≤ c0) (hr1 : Kd.C Kd.bool w A1 l1.length l1) (hc1 : l1.length ≤ c1) (h : stowagelaw03_hidden.f k l0 l1 = some r) :
    Calls Try.prog 57 #[.slice A0 l0.length c0, .slice A1 l1.length c1] w fun e w' => ∃ v0_ : Value, e = .returned (v0_) ∧ Kd.S (Kd.slice 5 (Kd.int .u8)) 41 w' w.heap.size (fun _ => True) v0_ r ∧ Below w.heap.size w w' := by
  have HR0 := Aside0.mk hr0
  have HC0 := Aside0.mk hc0
  clear hr0 hc0
  have HR1 := Aside0.mk hr1
  have HC1 := Aside0.mk hc1
  clear hr1 hc1
  have HB := Aside0.mk (Below.refl w.heap.size w)
  have H : (stowagelaw03_hidden.l0 k l0 l1 ([] : List (List Int)) 0) = some r := h
  clear h
  have H' := Aside0.mk H
  clear H
  go_enter Try.func57, Try.ntmps57
  go_wp2
  go_loopg [5, 6] k (fun kq v5 v6 w' => ∃ (x5_1 : List (List Int)) (x6_1 : Int), v6 = .int .i64 x6_1 ∧ Aside0 (stowagelaw03_hidden.l0 kq l0 l1 x5_1 x6_1 = some r) ∧ Aside0 (kq ≤ k) ∧ Aside0 (Kd.S (Kd.slice 5 (Kd.int .u8)) 41 w' w.heap.size (fun _ => True) v5 x5_1) ∧ Aside0 (Below w.heap.size w w'))
  case atStart => exact ⟨(([] : List (List Int))), (0), (by first | rfl | (simp; done) | (simp [*]; done)), H', ⟨Nat.le_refl _⟩, ⟨by first | exact Kd.S_nil _ _ _ _ _ | exact Kd.N_nil _ _ _ _ _ | exact Kd.V_nil _ _ _ _ _ | exact Kd.Q_nil _ _ _ _ _ | exact Kd.R_nil _ _ _ _ _⟩, ⟨by repeat (first | (with_reducible first | exact HB.out | apply below_alloc | apply pw_below_drewN | apply below_drew1) | exact HB.out)⟩⟩
  case round =>
    clear H'
    try clear c1
    try clear p2
    obtain ⟨x5_1, x6_1, rfl, HA, HK1, HO_5, HB⟩ := hrel
    cases gk with
    | zero => exact absurd HA.out (by simp [stowagelaw03_hidden.l0])
    | succ k1 =>
      have H := HA.out
      clear HA
      simp only [stowagelaw03_hidden.l0] at H
      by_cases c3 : x6_1 < (l0.length : Int)
      · rw [if_pos c3] at H
        have c3b0 : decide (x6_1 < (l0.length : Int)) = true := decide_eq_true c3
        clear c3
        obtain ⟨y445, hy445⟩ : ∃ y_ : List Int, y_ = (([] : List Int)) := ⟨_, rfl⟩
        replace H : (if 0 ≤ x6_1 then (if y445.length + (rd_L1 l0 x6_1).length < 140737488355328 then ((some (y445 ++ (rd_L1 l0 x6_1) : List Int)).bind fun y449 => (if x6_1 < (l1.length : Int) then (if rdOf false l1 x6_1 = true then (if x5_1.length < 5864062014805 then (stowagelaw03_hidden.l0 k1 l0 l1 (x5_1 ++ [y449]) (wrap64 (x6_1 + 1))) else (none)) else (if y449.length < 140737488355328 then (stowagelaw03_hidden.l1 k1 l0 l1 x5_1 x6_1 (y449 ++ [7]) 0) else (none))) else (none))) else (none)) else (none)) = some r := by first | (rw [hy445]; with_reducible exact H) | (have H2_ := (Option.bind_some _ _).symm.trans H; rw [hy445]; with_reducible exact H2_) | (have H2_ := (Option.bind_some _ _).symm.trans H; with_reducible exact H2_) | with_reducible exact H | (rw [hy445]; exact H) | exact H
        have Ny445 := Aside0.mk hy445
        clear hy445
        by_cases c4 : 0 ≤ x6_1
        · rw [if_pos c4] at H
          have c4b0 : decide (0 ≤ x6_1) = true := decide_eq_true c4
          clear c4
          by_cases c5 : y445.length + (rd_L1 l0 x6_1).length < 140737488355328
          · rw [if_pos c5] at H
            have LMc5 := Aside0.mk c5
            clear c5
            obtain ⟨y449, hy449⟩ : ∃ y_ : List Int, y_ = (y445 ++ (rd_L1 l0 x6_1)) := ⟨_, rfl⟩
            replace H : (if x6_1 < (l1.length : Int) then (if rdOf false l1 x6_1 = true then (if x5_1.length < 5864062014805 then (stowagelaw03_hidden.l0 k1 l0 l1 (x5_1 ++ [y449]) (wrap64 (x6_1 + 1))) else (none)) else (if y449.length < 140737488355328 then (stowagelaw03_hidden.l1 k1 l0 l1 x5_1 x6_1 (y449 ++ [7]) 0) else (none))) else (none)) = some r := by first | (rw [hy449]; with_reducible exact H) | (have H2_ := (Option.bind_some _ _).symm.trans H; rw [hy449]; with_reducible exact H2_) | (have H2_ := (Option.bind_some _ _).symm.trans H; with_reducible exact H2_) | with_reducible exact H | (rw [hy449]; exact H) | exact H
            have Ny449 := Aside0.mk hy449
            clear hy449
            by_cases c6 : x6_1 < (l1.length : Int)
            · rw [if_pos c6] at H
              have c6b0 : decide (x6_1 < (l1.length : Int)) = true := decide_eq_true c6
              clear c6
              obtain ⟨bq7, hbq7⟩ : ∃ b_ : Bool, b_ = (rdOf false l1 x6_1) := ⟨_, rfl⟩
              replace H : (if bq7 = true then (if x5_1.length < 5864062014805 then (stowagelaw03_hidden.l0 k1 l0 l1 (x5_1 ++ [y449]) (wrap64 (x6_1 + 1))) else (none)) else (if y449.length < 140737488355328 then (stowagelaw03_hidden.l1 k1 l0 l1 x5_1 x6_1 (y449 ++ [7]) 0) else (none))) = some r := by rw [← hbq7] at H; exact H
              have Nbq7 := Aside0.mk hbq7
              clear hbq7
              by_cases c8 : bq7 = true
              · subst c8
                have H1 : (if x5_1.length < 5864062014805 then (stowagelaw03_hidden.l0 k1 l0 l1 (x5_1 ++ [y449]) (wrap64 (x6_1 + 1))) else (none)) = some r := by rw [if_pos rfl] at H; exact H
                clear H
                have H := H1
                clear H1
                by_cases c9 : x5_1.length < 5864062014805
                · rw [if_pos c9] at H
                  have LMc9 := Aside0.mk c9
                  clear c9
                  obtain ⟨y453, hy453⟩ : ∃ y_ : List (List Int), y_ = (x5_1 ++ [y449]) := ⟨_, rfl⟩
                  replace H : (stowagelaw03_hidden.l0 k1 l0 l1 y453 (wrap64 (x6_1 + 1))) = some r := by first | (rw [hy453]; with_reducible exact H) | (have H2_ := (Option.bind_some _ _).symm.trans H; rw [hy453]; with_reducible exact H2_) | (have H2_ := (Option.bind_some _ _).symm.trans H; with_reducible exact H2_) | with_reducible exact H | (rw [hy453]; exact H) | exact H
                  have Ny453 := Aside0.mk hy453
                  clear hy453
                  have H' := Aside0.mk H
                  clear H
                  go_wp2_with (first | ((with_reducible refine gate_dst (N := 15) rfl ?_); refine Kd.R_lit (Kd.int .u8) _ 5 ?hg (N := 15) ?hd (xs := ([] : List Int)) (inner := []) (ok := fun _ => True) (okp := fun _ => True) ?hr ?hp (fun _ hk => hk) trivial (Below.refl _ _) (Nat.le_refl _) (by simp) ?_; (case hd => rfl); (case hg => rfl); (case hr => first | (go_simp; done) | (go_simp; rfl)); (case hp => exact (Reps.none _ _)); intro v446 w10 ho11 hb hg_ hnew_; clear hg_ hnew_; (first | rw [← Ny445.out] at ho11 | (simp only [Int.reduceToNat] at ho11; rw [← Ny445.out] at ho11)); have n0_ := Aside0.mk (Kd.S_elder' (by (with_reducible repeat (first | apply Kd.S_alloc | apply Kd.S_drewN | apply Kd.S_drew)); exact HO_5.out) (Kd.R_base ho11) hb); have n1_ := Aside0.mk (Kd.R_lower ho11 (below_size (by repeat (first | (with_reducible first | exact HB.out | apply below_alloc | apply pw_below_drewN | apply below_drew1) | exact HB.out)))); have n2_ := Aside0.mk (below_step (by repeat (first | (with_reducible first | exact HB.out | apply below_alloc | apply pw_below_drewN | apply below_drew1) | exact HB.out)) hb); clear HO_5; clear HB; have HO_5 := n0_; have HO447 := n1_; have HB := n2_; clear n0_ n1_ n2_; clear hb ho11; have p448 : 0 ≤ (x6_1 : Int) := of_decide_eq_true (by first | (with_reducible assumption) | assumption); have q448 : x6_1 < (l0.length : Int) := of_decide_eq_true (by first | (with_reducible assumption) | assumption); obtain ⟨ad448, A448_0, c448_0, e448, hx448_0, hl448_0, hi448_0⟩ := at_L1 HR0.out x6_1 p448 q448; cases e448; replace hx448_0 := (HB.out.cell (World.block_lt_of_cell? w _ hx448_0)).trans hx448_0; have HR448_0 := Aside0.mk hi448_0; have HC448_0 := Aside0.mk hl448_0; clear hi448_0 hl448_0; replace p448 := eq_true p448; replace q448 := eq_true q448) | ((with_reducible refine gate_builtin (b := .append) (xs := #[.tmp 15, .tmp 19]) rfl ?_); at_builtin; refine Kd.R_append_rows (Kd.int .u8) (w0 := w) w.heap.size rfl (.tmp 15) (.tmp 19) 41 5 (.int .u8 0) 1 rfl Try.underlying41 info5 rfl (by decide) (by omega) v446 y445 (rd_L1 l0 x6_1) _ _ _ (fun _ => True) (fun _ => False) rfl rfl ?aO ?aR (fun _ _ h => h) (fun _ h => h.elim) ?aF ?aB ?aS ?aL ?_; (case aR => repeat (first | exact (Kd.C_below HR448_0.out HB.out) | (with_reducible refine Kd.C_alloc ?_ _) | (with_reducible refine Kd.C_drewN ?_ _) | (with_reducible refine Kd.C_drew ?_))); (case aB => exact (by repeat (first | (with_reducible first | exact HB.out | apply below_alloc | apply pw_below_drewN | apply below_drew1) | exact HB.out))); (case aF => exact (fun _ _ => trivial)); (case aO => exact (by (with_reducible repeat (first | apply Kd.R_alloc | apply Kd.R_drewN | apply Kd.R_drew)); exact HO447.out)); (case aS => exact (below_size (by repeat (first | (with_reducible first | exact HB.out | apply below_alloc | apply pw_below_drewN | apply below_drew1) | exact HB.out)))); (case aL => have := LMc5.out; omega); intro v450 w12 ho hb hg hat; rw [← Ny449.out] at ho; have n0_ := Aside0.mk (Kd.S_after (ok := (fun _ => True)) (by (with_reducible repeat (first | apply Kd.S_alloc | apply Kd.S_drewN | apply Kd.S_drew)); exact HO_5.out) hg hat); have n1_ := Aside0.mk (hb); have n2_ := Aside0.mk (ho); clear HO_5; clear HB; clear HO447; have HO_5 := n0_; have HB := n1_; have HO451 := n2_; clear n0_ n1_ n2_; clear ho hb hg hat; have p452 : 0 ≤ (x6_1 : Int) := of_decide_eq_true (by first | (with_reducible assumption) | assumption); have q452 : x6_1 < (l1.length : Int) := of_decide_eq_true (by first | (with_reducible assumption) | assumption); obtain ⟨ad452, e452, hx452_0⟩ := Kd.at_bool HR1.out x6_1 p452 q452; (try rw [← Nbq7.out] at hx452_0); cases e452; replace hx452_0 := (HB.out.cell (World.block_lt_of_cell? w _ hx452_0)).trans hx452_0; replace p452 := eq_true p452; replace q452 := eq_true q452; obtain ⟨Ao14, co14, eo14⟩ := Kd.R_slice HO451.out; subst eo14) | ((with_reducible refine gate_builtin (b := .append) (xs := #[.tmp 43, .tmp 45]) rfl ?_); at_builtin; refine Kd.S_append (Kd.slice 5 (Kd.int .u8)) (w0 := w) w.heap.size rfl (.tmp 43) (.tmp 45) 22 41 (.slice none 0 0) 24 rfl Try.underlying22 info41 rfl (by decide) (by omega) u5 x5_1 y449 [.slice Ao14 y449.length co14] (fun _ => True) (fun k_ => some k_ = (.slice Ao14 y449.length co14 : Value).ownBlock) rfl rfl ?aP (fun k_ hk_ => ((Kd.R_mono (ok' := fun k_ => ((fun _ => True)) k_ ∧ some k_ ≠ (u5 : Value).ownBlock) (Kd.R_apart' (HO451.out) (Kd.S_typed HO_5.out) (by decide)) (fun k_ hk => ⟨trivial, hk.2⟩))).1 k_ hk_.symm) ?aF ?aO ?aB ?aS ?aL ?_; (case aP => exact Kd.M_row (Kd.R_mono (Kd.R_tight rfl (Kd.R_mono (ok' := fun k_ => ((fun _ => True)) k_ ∧ some k_ ≠ (u5 : Value).ownBlock) (Kd.R_apart' (HO451.out) (Kd.S_typed HO_5.out) (by decide)) (fun k_ hk => ⟨trivial, hk.2⟩))) (fun _ h_ => h_))); (case aB => exact (by repeat (first | (with_reducible first | exact HB.out | apply below_alloc | apply pw_below_drewN | apply below_drew1) | exact HB.out))); (case aF => exact (fun _ _ => trivial)); (case aO => exact (by (with_reducible repeat (first | apply Kd.S_alloc | apply Kd.S_drewN | apply Kd.S_drew)); exact Kd.S_mono HO_5.out (fun k_ hk => ⟨trivial, fun e_ => hk.2 e_⟩))); (case aS => exact (below_size (by repeat (first | (with_reducible first | exact HB.out | apply below_alloc | apply pw_below_drewN | apply below_drew1) | exact HB.out)))); (case aL => have := LMc9.out; omega); intro v454 w13 ho hb hg hat; rw [← Ny453.out] at ho; have n0_ := Aside0.mk (hb); have n1_ := Aside0.mk (ho); clear HB; clear HO_5; clear HO451; have HB := n0_; have HO455 := n1_; clear n0_ n1_; clear ho hb hg hat))
                  go_roundg k1
                  case measure => have := HK1.out; omega
                  case rel => exact ⟨(y453), (wrap64 (x6_1 + 1)), (by first | rfl | (simp; done) | (simp [*]; done)), H', ⟨by have := HK1.out; omega⟩, ⟨by (with_reducible repeat (first | apply Kd.S_alloc | apply Kd.S_drewN | apply Kd.S_drew)); exact HO455.out⟩, ⟨by repeat (first | (with_reducible first | exact HB.out | apply below_alloc | apply pw_below_drewN | apply below_drew1) | exact HB.out)⟩⟩
                · rw [if_neg c9] at H
                  exact absurd H (by simp)
              · replace c8 := Bool.eq_false_iff.mpr c8
                subst c8
                have H1 : (if y449.length < 140737488355328 then (stowagelaw03_hidden.l1 k1 l0 l1 x5_1 x6_1 (y449 ++ [7]) 0) else (none)) = some r := by rw [if_neg (show ¬ (false = true) by decide)] at H; exact H
                clear H
                have H := H1
                clear H1
                by_cases c15 : y449.length < 140737488355328
                · rw [if_pos c15] at H
                  have LMc15 := Aside0.mk c15
                  clear c15
                  obtain ⟨y456, hy456⟩ : ∃ y_ : List Int, y_ = (y449 ++ [7]) := ⟨_, rfl⟩
                  replace H : (stowagelaw03_hidden.l1 k1 l0 l1 x5_1 x6_1 y456 0) = some r := by first | (rw [hy456]; with_reducible exact H) | (have H2_ := (Option.bind_some _ _).symm.trans H; rw [hy456]; with_reducible exact H2_) | (have H2_ := (Option.bind_some _ _).symm.trans H; with_reducible exact H2_) | with_reducible exact H | (rw [hy456]; exact H) | exact H
                  have Ny456 := Aside0.mk hy456
                  clear hy456
                  have H' := Aside0.mk H
                  clear H
                  go_wp2_with (first | ((with_reducible refine gate_dst (N := 15) rfl ?_); refine Kd.R_lit (Kd.int .u8) _ 5 ?hg (N := 15) ?hd (xs := ([] : List Int)) (inner := []) (ok := fun _ => True) (okp := fun _ => True) ?hr ?hp (fun _ hk => hk) trivial (Below.refl _ _) (Nat.le_refl _) (by simp) ?_; (case hd => rfl); (case hg => rfl); (case hr => first | (go_simp; done) | (go_simp; rfl)); (case hp => exact (Reps.none _ _)); intro v446 w16 ho17 hb hg_ hnew_; clear hg_ hnew_; (first | rw [← Ny445.out] at ho17 | (simp only [Int.reduceToNat] at ho17; rw [← Ny445.out] at ho17)); have n0_ := Aside0.mk (Kd.S_elder' (by (with_reducible repeat (first | apply Kd.S_alloc | apply Kd.S_drewN | apply Kd.S_drew)); exact HO_5.out) (Kd.R_base ho17) hb); have n1_ := Aside0.mk (Kd.R_lower ho17 (below_size (by repeat (first | (with_reducible first | exact HB.out | apply below_alloc | apply pw_below_drewN | apply below_drew1) | exact HB.out)))); have n2_ := Aside0.mk (below_step (by repeat (first | (with_reducible first | exact HB.out | apply below_alloc | apply pw_below_drewN | apply below_drew1) | exact HB.out)) hb); clear HO_5; clear HB; have HO_5 := n0_; have HO447 := n1_; have HB := n2_; clear n0_ n1_ n2_; clear hb ho17; have p448 : 0 ≤ (x6_1 : Int) := of_decide_eq_true (by first | (with_reducible assumption) | assumption); have q448 : x6_1 < (l0.length : Int) := of_decide_eq_true (by first | (with_reducible assumption) | assumption); obtain ⟨ad448, A448_0, c448_0, e448, hx448_0, hl448_0, hi448_0⟩ := at_L1 HR0.out x6_1 p448 q448; cases e448; replace hx448_0 := (HB.out.cell (World.block_lt_of_cell? w _ hx448_0)).trans hx448_0; have HR448_0 := Aside0.mk hi448_0; have HC448_0 := Aside0.mk hl448_0; clear hi448_0 hl448_0; replace p448 := eq_true p448; replace q448 := eq_true q448) | ((with_reducible refine gate_builtin (b := .append) (xs := #[.tmp 15, .tmp 19]) rfl ?_); at_builtin; refine Kd.R_append_rows (Kd.int .u8) (w0 := w) w.heap.size rfl (.tmp 15) (.tmp 19) 41 5 (.int .u8 0) 1 rfl Try.underlying41 info5 rfl (by decide) (by omega) v446 y445 (rd_L1 l0 x6_1) _ _ _ (fun _ => True) (fun _ => False) rfl rfl ?aO ?aR (fun _ _ h => h) (fun _ h => h.elim) ?aF ?aB ?aS ?aL ?_; (case aR => repeat (first | exact (Kd.C_below HR448_0.out HB.out) | (with_reducible refine Kd.C_alloc ?_ _) | (with_reducible refine Kd.C_drewN ?_ _) | (with_reducible refine Kd.C_drew ?_))); (case aB => exact (by repeat (first | (with_reducible first | exact HB.out | apply below_alloc | apply pw_below_drewN | apply below_drew1) | exact HB.out))); (case aF => exact (fun _ _ => trivial)); (case aO => exact (by (with_reducible repeat (first | apply Kd.R_alloc | apply Kd.R_drewN | apply Kd.R_drew)); exact HO447.out)); (case aS => exact (below_size (by repeat (first | (with_reducible first | exact HB.out | apply below_alloc | apply pw_below_drewN | apply below_drew1) | exact HB.out)))); (case aL => have := LMc5.out; omega); intro v450 w18 ho hb hg hat; rw [← Ny449.out] at ho; have n0_ := Aside0.mk (Kd.S_after (ok := (fun _ => True)) (by (with_reducible repeat (first | apply Kd.S_alloc | apply Kd.S_drewN | apply Kd.S_drew)); exact HO_5.out) hg hat); have n1_ := Aside0.mk (hb); have n2_ := Aside0.mk (ho); clear HO_5; clear HB; clear HO447; have HO_5 := n0_; have HB := n1_; have HO451 := n2_; clear n0_ n1_ n2_; clear ho hb hg hat; have p452 : 0 ≤ (x6_1 : Int) := of_decide_eq_true (by first | (with_reducible assumption) | assumption); have q452 : x6_1 < (l1.length : Int) := of_decide_eq_true (by first | (with_reducible assumption) | assumption); obtain ⟨ad452, e452, hx452_0⟩ := Kd.at_bool HR1.out x6_1 p452 q452; (try rw [← Nbq7.out] at hx452_0); cases e452; replace hx452_0 := (HB.out.cell (World.block_lt_of_cell? w _ hx452_0)).trans hx452_0; replace p452 := eq_true p452; replace q452 := eq_true q452) | ((with_reducible refine gate_builtin (b := .append) (xs := #[.tmp 26, .tmp 27]) rfl ?_); at_builtin; refine Kd.R_append (Kd.int .u8) (w0 := w) w.heap.size rfl (.tmp 26) (.tmp 27) 41 5 (.int .u8 0) 1 rfl Try.underlying41 info5 rfl (by decide) (by omega) v450 y449 7 [.int .u8 7] (fun _ => True) (fun _ => False) rfl rfl ?aP (fun _ hk => hk.elim) ?aF ?aO ?aB ?aS ?aL ?_; (case aP => exact rfl); (case aB => exact (by repeat (first | (with_reducible first | exact HB.out | apply below_alloc | apply pw_below_drewN | apply below_drew1) | exact HB.out))); (case aF => exact (fun _ _ => trivial)); (case aO => exact (by (with_reducible repeat (first | apply Kd.R_alloc | apply Kd.R_drewN | apply Kd.R_drew)); exact HO451.out)); (case aS => exact (below_size (by repeat (first | (with_reducible first | exact HB.out | apply below_alloc | apply pw_below_drewN | apply below_drew1) | exact HB.out)))); (case aL => have := LMc15.out; omega); intro v457 w19 ho hb hg hat; rw [← Ny456.out] at ho; have n0_ := Aside0.mk (Kd.S_after (ok := (fun _ => True)) (by (with_reducible repeat (first | apply Kd.S_alloc | apply Kd.S_drewN | apply Kd.S_drew)); exact HO_5.out) hg hat); have n1_ := Aside0.mk (hb); have n2_ := Aside0.mk (ho); clear HO_5; clear HB; clear HO451; have HO_5 := n0_; have HB := n1_; have HO458 := n2_; clear n0_ n1_ n2_; clear ho hb hg hat))
                  go_loopg [8] k1 (fun kq v8 w' => ∃ (x7_2 : List Int) (x8_2 : Int), v8 = .int .i64 x8_2 ∧ Aside0 (stowagelaw03_hidden.l1 kq l0 l1 x5_1 x6_1 x7_2 x8_2 = some r) ∧ Aside0 (kq ≤ k1) ∧ Aside0 (Kd.S (Kd.slice 5 (Kd.int .u8)) 41 w' w.heap.size (fun k_ => some k_ ≠ (v457 : Value).ownBlock) u5 x5_1) ∧ Aside0 (Kd.R (Kd.int .u8) 5 w' w.heap.size (fun _ => True) v457 x7_2) ∧ Aside0 (Below w.heap.size w w'))
                  case atStart => exact ⟨(y456), (0), (by first | rfl | (simp; done) | (simp [*]; done)), H', ⟨Nat.le_refl _⟩, ⟨by (with_reducible repeat (first | apply Kd.S_alloc | apply Kd.S_drewN | apply Kd.S_drew)); exact Kd.S_mono HO_5.out (fun _ hk => hk.2)⟩, ⟨by (with_reducible repeat (first | apply Kd.R_alloc | apply Kd.R_drewN | apply Kd.R_drew)); exact HO458.out⟩, ⟨by repeat (first | (with_reducible first | exact HB.out | apply below_alloc | apply pw_below_drewN | apply below_drew1) | exact HB.out)⟩⟩
                  case round =>
                    clear H'
                    try clear c1
                    try clear p2
                    try clear c3
                    try clear c3b0
                    try clear c4
                    try clear c4b0
                    try clear p4
                    try clear q4
                    try clear hx4
                    try clear c5
                    try clear c6
                    try clear c6b0
                    try clear p6
                    try clear q7
                    try clear c8
                    try clear c9
                    try clear c15
                    try clear hx448_0
                    try clear hx452_0
                    try clear p2
                    try clear p448
                    try clear p452
                    try clear q448
                    try clear q452
                    obtain ⟨x7_2, x8_2, rfl, HA, HK2, HO_5, HO_7, HB⟩ := hrel
                    cases gk with
                    | zero => exact absurd HA.out (by simp [stowagelaw03_hidden.l1])
                    | succ k2 =>
                      have H := HA.out
                      clear HA
                      simp only [stowagelaw03_hidden.l1] at H
                      by_cases c20 : x8_2 < (x7_2.length : Int)
                      · rw [if_pos c20] at H
                        have c20b0 : decide (x8_2 < (x7_2.length : Int)) = true := decide_eq_true c20
                        clear c20
                        by_cases c21 : 0 ≤ x8_2
                        · rw [if_pos c21] at H
                          have c21b0 : decide (0 ≤ x8_2) = true := decide_eq_true c21
                          clear c21
                          obtain ⟨y460, hy460⟩ : ∃ y_ : List Int, y_ = (x7_2.set (x8_2 : Int).toNat (Go.bits .xor .u8 (rd x7_2 x8_2) 90)) := ⟨_, rfl⟩
                          replace H : (stowagelaw03_hidden.l1 k2 l0 l1 x5_1 x6_1 y460 (wrap64 (x8_2 + 1))) = some r := by first | (rw [hy460]; with_reducible exact H) | (have H2_ := (Option.bind_some _ _).symm.trans H; rw [hy460]; with_reducible exact H2_) | (have H2_ := (Option.bind_some _ _).symm.trans H; with_reducible exact H2_) | with_reducible exact H | (rw [hy460]; exact H) | exact H
                          have Ny460 := Aside0.mk hy460
                          clear hy460
                          have H' := Aside0.mk H
                          clear H
                          obtain ⟨Ao23, co23, eo23⟩ := Kd.R_slice HO_7.out
                          subst eo23
                          have p459 : 0 ≤ (x8_2 : Int) := of_decide_eq_true (by first | (with_reducible assumption) | assumption)
                          have q459 : x8_2 < (x7_2.length : Int) := of_decide_eq_true (by first | (with_reducible assumption) | assumption)
                          obtain ⟨ad459, e459, hx459_0⟩ := Kd.at_int (Kd.R_reads' HO_7.out).2.2 x8_2 p459 q459
                          cases e459
                          replace p459 := eq_true p459
                          replace q459 := eq_true q459
                          have p22 : 0 ≤ (x8_2 : Int) := of_decide_eq_true (by first | (with_reducible assumption) | assumption)
                          have q22 : (x8_2 : Int) < ((x7_2.length : Int) : Int) := of_decide_eq_true (by first | (with_reducible assumption) | assumption)
                          obtain ⟨go22, co22, eo22, gb22, gl22, cl22, HG22⟩ := Kd.R_form HO_7.out (by omega)
                          (first | cases eo22 | (injection eo22 with ea_ en_ ec_; (first | subst ea_ | (injection ea_ with ea_; subst ea_)); subst ec_; clear en_))
                          have GB22 := Aside0.mk gb22
                          have GG22 := Aside0.mk HG22
                          clear gb22 gl22 HG22
                          (first | simp only [add_plain] at hx459_0 | skip)
                          obtain ⟨hx22_0, hf22_0⟩ := Kd.R_celln 0 HO_7.out (x8_2 : Int) p22 q22
                          replace p22 := eq_true p22
                          replace q22 := eq_true q22
                          have HP24 := Kd.R_putg HO_7.out (x8_2 : Int) (Go.bits .xor .u8 (rd x7_2 x8_2) 90)
                          go_wp2_with (first | ((with_reducible refine gate_store (t := 5) (p := 42) rfl ?_); refine store_event (t := 5) (p := 42) (v := ?vo_w25) (w1 := (wr.setCell ⟨go22, (x8_2 : Int).toNat, none⟩ (.int .u8 (Go.bits .xor .u8 (rd x7_2 x8_2) 90)))) ?hg ?ho ?hn ?hr ?_; (case ho => rfl); (case hg => rfl); (case hn => rfl); (case hr => first | (go_simp; done) | (go_simp; rfl)); intro w25 hw; have hg : wr.grownBy w25 (some go22) := (by rw [hw]; exact HP24.2); have hp_ : Kd.R (Kd.int .u8) 5 w25 w.heap.size (fun _ => True) (.slice (some ⟨go22, 0, none⟩) x7_2.length co23) y460 := (by rw [hw, Ny460.out]; exact HP24.1); clear HP24; have n0_ := Aside0.mk (Kd.S_after (v := (.slice (some ⟨go22, 0, none⟩) x7_2.length co23)) (v1 := (.slice (some ⟨go22, 0, none⟩) x7_2.length co23)) (ok := (fun _ => True)) (by (with_reducible repeat (first | apply Kd.S_alloc | apply Kd.S_drewN | apply Kd.S_drew)); exact Kd.S_mono HO_5.out (fun _ hk => ⟨trivial, hk⟩)) hg (.inl rfl)); have n1_ := Aside0.mk (hp_); have n2_ := Aside0.mk ((by rw [hw]; exact below_set (HB.out) GB22.out : Below w.heap.size w w25)); clear HO_5; clear HO_7; clear HB; have HO_5 := n0_; have HO_7 := n1_; have HB := n2_; clear n0_ n1_ n2_; clear hg hw hp_))
                          go_roundg k2
                          case measure => have := HK1.out; have := HK2.out; omega
                          case rel => exact ⟨(y460), (wrap64 (x8_2 + 1)), (by first | rfl | (simp; done) | (simp [*]; done)), H', ⟨by have := HK1.out; have := HK2.out; omega⟩, ⟨by (with_reducible repeat (first | apply Kd.S_alloc | apply Kd.S_drewN | apply Kd.S_drew)); exact Kd.S_mono HO_5.out (fun _ hk => hk.2)⟩, ⟨by (with_reducible repeat (first | apply Kd.R_alloc | apply Kd.R_drewN | apply Kd.R_drew)); exact HO_7.out⟩, ⟨by repeat (first | (with_reducible first | exact HB.out | apply below_alloc | apply pw_below_drewN | apply below_drew1) | exact HB.out)⟩⟩
                        · rw [if_neg c21] at H
                          exact absurd H (by simp)
                      · rw [if_neg c20] at H
                        have c20b0 : decide (x8_2 < (x7_2.length : Int)) = false := decide_eq_false c20
                        clear c20
                        by_cases c26 : x5_1.length < 5864062014805
                        · rw [if_pos c26] at H
                          have LMc26 := Aside0.mk c26
                          clear c26
                          obtain ⟨y461, hy461⟩ : ∃ y_ : List (List Int), y_ = (x5_1 ++ [x7_2]) := ⟨_, rfl⟩
                          replace H : (stowagelaw03_hidden.l0 k2 l0 l1 y461 (wrap64 (x6_1 + 1))) = some r := by first | (rw [hy461]; with_reducible exact H) | (have H2_ := (Option.bind_some _ _).symm.trans H; rw [hy461]; with_reducible exact H2_) | (have H2_ := (Option.bind_some _ _).symm.trans H; with_reducible exact H2_) | with_reducible exact H | (rw [hy461]; exact H) | exact H
                          have Ny461 := Aside0.mk hy461
                          clear hy461
                          have H' := Aside0.mk H
                          clear H
                          obtain ⟨Ao27, co27, eo27⟩ := Kd.R_slice HO_7.out
                          subst eo27
                          go_wp2_with (first | ((with_reducible refine gate_builtin (b := .append) (xs := #[.tmp 43, .tmp 45]) rfl ?_); at_builtin; refine Kd.S_append (Kd.slice 5 (Kd.int .u8)) (w0 := w) w.heap.size rfl (.tmp 43) (.tmp 45) 22 41 (.slice none 0 0) 24 rfl Try.underlying22 info41 rfl (by decide) (by omega) u5 x5_1 x7_2 [.slice Ao27 x7_2.length co27] (fun _ => True) (fun k_ => some k_ = (.slice Ao27 x7_2.length co27 : Value).ownBlock) rfl rfl ?aP (fun k_ hk_ => ((Kd.R_mono (ok' := fun k_ => ((fun _ => True)) k_ ∧ some k_ ≠ (u5 : Value).ownBlock) (Kd.R_apart' (HO_7.out) (Kd.S_typed HO_5.out) (by decide)) (fun k_ hk => ⟨trivial, hk.2⟩))).1 k_ hk_.symm) ?aF ?aO ?aB ?aS ?aL ?_; (case aP => exact Kd.M_row (Kd.R_mono (Kd.R_tight rfl (Kd.R_mono (ok' := fun k_ => ((fun _ => True)) k_ ∧ some k_ ≠ (u5 : Value).ownBlock) (Kd.R_apart' (HO_7.out) (Kd.S_typed HO_5.out) (by decide)) (fun k_ hk => ⟨trivial, hk.2⟩))) (fun _ h_ => h_))); (case aB => exact (by repeat (first | (with_reducible first | exact HB.out | apply below_alloc | apply pw_below_drewN | apply below_drew1) | exact HB.out))); (case aF => exact (fun _ _ => trivial)); (case aO => exact (by (with_reducible repeat (first | apply Kd.S_alloc | apply Kd.S_drewN | apply Kd.S_drew)); exact Kd.S_mono HO_5.out (fun k_ hk => ⟨trivial, fun e_ => hk e_⟩))); (case aS => exact (below_size (by repeat (first | (with_reducible first | exact HB.out | apply below_alloc | apply pw_below_drewN | apply below_drew1) | exact HB.out)))); (case aL => have := LMc26.out; omega); intro v462 w28 ho hb hg hat; rw [← Ny461.out] at ho; have n0_ := Aside0.mk (hb); have n1_ := Aside0.mk (ho); clear HB; clear HO_5; clear HO_7; have HB := n0_; have HO463 := n1_; clear n0_ n1_; clear ho hb hg hat))
                          go_roundg k2
                          case measure => have := HK1.out; have := HK2.out; omega
                          case rel => exact ⟨(y461), (wrap64 (x6_1 + 1)), (by first | rfl | (simp; done) | (simp [*]; done)), H', ⟨by have := HK1.out; have := HK2.out; omega⟩, ⟨by (with_reducible repeat (first | apply Kd.S_alloc | apply Kd.S_drewN | apply Kd.S_drew)); exact HO463.out⟩, ⟨by repeat (first | (with_reducible first | exact HB.out | apply below_alloc | apply pw_below_drewN | apply below_drew1) | exact HB.out)⟩⟩
                        · rw [if_neg c26] at H
                          exact absurd H (by simp)
                · rw [if_neg c15] at H
                  exact absurd H (by simp)
            · rw [if_neg c6] at H
              exact absurd H (by simp)
          · rw [if_neg c5] at H
            exact absurd H (by simp)
        · rw [if_neg c4] at H
          exact absurd H (by simp)
      · rw [if_neg c3] at H
        have c3b0 : decide (x6_1 < (l0.length : Int)) = false := decide_eq_false c3
        clear c3
        obtain rfl := Option.some.inj H
        go_wp2
        go_ret
        exact ⟨_, by first | rfl | (simp [errW_none, errW_some] <;> rfl) | (simp [*, errW_none, errW_some] <;> rfl), by (with_reducible repeat (first | apply Kd.S_alloc | apply Kd.S_drewN | apply Kd.S_drew)); exact HO_5.out, by repeat (first | (with_reducible first | exact HB.out | apply below_alloc | apply pw_below_drewN | apply below_drew1) | exact HB.out)⟩

end Go.Proofs.Ythmlimkmcofkfaa.B

/- The contract of stripe.apply. -/
namespace Go.Proofs.Ythmlimkmcofkfaa.E
open Go.RowKit Go.Proofs.YthmlimkmcofkfaaW.PrintWords Go.Proofs.YthmlimkmcofkfaaW.PrintLast Go.Proofs.YthmlimkmcofkfaaW.PrintMore Go.Proofs.Ythmlimkmcofkfaa.B
set_option linter.unusedVariables false
set_option linter.unusedSimpArgs false

def xsum (f : Nat → Int) : Nat → Int
  | 0 => 0
  | k + 1 => gadd (xsum f k) (f k)
def applyAt (row : List Int) (sh : List (List Int)) (p : Nat) : Int := xsum (fun i => gmul (rd row i) (rd (rd_L1 sh i) p)) row.length
def applyL (row : List Int) (sh : List (List Int)) (n : Nat) : List Int := (List.range n).map fun p => applyAt row sh p
def bytesB (l : List Int) : Bool := l.all fun x => decide (0 ≤ x ∧ x < 256)
def stripe_apply.f (row : List Int) (sh : List (List Int)) (n : Int) : Option (List Int) :=
  if (0 ≤ n ∧ n ≤ 65536) ∧ row.length = sh.length ∧ sh.length ≤ 16 ∧ bytesB row = true ∧ okB sh = true ∧ sh.all (fun s => decide (n ≤ s.length)) = true then some (applyL row sh n.toNat) else none
theorem bytesB_rd {l : List Int} (h : bytesB l = true) {i : Nat} (hi : i < l.length) : Byte (rd l i) := by
  have h1 := List.all_eq_true.1 h (rd l i) (by rw [rd_nat]; simp [hi])
  simpa [Byte] using h1
theorem okB_rd {sh : List (List Int)} (h : okB sh = true) {i p : Nat} (hi : i < sh.length) (hp : p < (rd_L1 sh i).length) : Byte (rd (rd_L1 sh i) p) := by
  have h1 := List.all_eq_true.1 h (rd_L1 sh i) (by rw [rdL_nat]; simp [hi])
  exact bytesB_rd (by simpa [bytesB] using h1) hp
theorem xsum_byte {f : Nat → Int} : ∀ k, (∀ i, i < k → Byte (f i)) → Byte (xsum f k)
  | 0, _ => by unfold xsum Byte; omega
  | k + 1, h => gadd_byte (xsum_byte k fun i hi => h i (by omega)) (h k (by omega))

theorem row_R {w : World} {G n base : Nat} {f : Nat → Int} (h : w.rowIs G 5 n (fun j => .int .u8 (f j))) (hb : base ≤ G) (hn : n ≤ maxLen) : Kd.R (Kd.int .u8) 5 w base (fun _ => True) (.slice (some ⟨G, 0, none⟩) n n) ((List.range n).map f) := by
  obtain ⟨c, hh, hs, hc⟩ := h
  refine Kd.R_of_own ⟨by simp [encs], .inr ⟨G, n, c, by simp, hb, hh, by simp, hn, by omega, ?_⟩⟩ (fun _ _ => trivial)
  apply List.ext_getElem?
  intro i
  by_cases hi : i < n
  · rw [List.getElem?_take, if_pos (by simpa using hi), Array.getElem?_toList, hc i hi]; simp [encs, hi]
  · rw [List.getElem?_take, if_neg (by simpa using hi)]; exact (List.getElem?_eq_none (by simp [encs]; omega)).symm

set_option maxHeartbeats 1000000 in
set_option maxRecDepth 100000 in
theorem stripe_apply.calls (A0 : Option Addr) (c0 : Nat) (l0 : List Int) (A1 : Option Addr) (c1 : Nat) (l1 : List (List Int)) (a2 : Int) (r1 : List Int) (w : World) (hr0 : Kd.C (Kd.int .u8) w A0 l0.length l0) (hc0 : l0.length ≤ c0) (hr1 : Kd.C (Kd.slice 5 (Kd.int .u8)) w A1 l1.length l1) (hc1 : l1.length ≤ c1) (h : stripe_apply.f l0 l1 a2 = some r1) :
    Calls Try.prog 76 #[.slice A0 l0.length c0, .slice A1 l1.length c1, .int .i64 a2] w fun e w' => ∃ v0_ : Value, e = .returned v0_ ∧ Kd.R (Kd.int .u8) 5 w' w.heap.size (fun _ => True) v0_ r1 ∧ Below w.heap.size w w' := by
  unfold stripe_apply.f at h
  split at h
  case isFalse => cases h
  case isTrue hh =>
    obtain ⟨⟨hn0, hn1⟩, hlen, h16, hby, hok, hall⟩ := hh
    obtain rfl := Option.some.inj h
    clear h
    obtain ⟨n, rfl⟩ := Int.eq_ofNat_of_zero_le hn0
    have HR0 := Aside0.mk hr0
    have HC0 := Aside0.mk hc0
    have HR1 := Aside0.mk hr1
    have HC1 := Aside0.mk hc1
    have HBY := Aside0.mk (fun (i : Nat) (hi : i < l0.length) => bytesB_rd hby hi)
    have hln : ∀ i : Nat, i < l1.length → n ≤ (rd_L1 l1 i).length := fun i hi => by
      have := List.all_eq_true.1 hall (rd_L1 l1 i) (by rw [rdL_nat]; simp [hi])
      simp at this; exact this
    have HOK := Aside0.mk (fun (i p : Nat) (hi : i < l1.length) (hp : p < n) => okB_rd hok hi (Nat.lt_of_lt_of_le hp (hln i hi)))
    have HLN := Aside0.mk hln
    have hle : l0.length ≤ l1.length := Nat.le_of_eq hlen
    clear hr0 hc0 hr1 hc1 hby hok hall hln hn0 hlen
    have hmk := run_make_row' (P := Try.prog) 41 5 (.int .u8 0) 1 Try.underlying41 info5 rfl .i64 .i64 n (by omega) (by omega)
    go_enter Try.func76, Try.ntmps76
    go_wp2
    go_loopw [18] (fun v wr => ∃ p : Nat, p ≤ n ∧ v = .int .i64 p ∧ Aside0 (wr.rowIs w.heap.size 5 n (fun j => .int .u8 (if j < p then applyAt l0 l1 j else 0))) ∧ Aside0 (∃ col : Nat → Int, wr.rowIs (w.heap.size + 1) 89 16 (fun j => .int .u8 (col j))) ∧ Aside0 (Below w.heap.size w wr)) (fun v _ => n - (intOf v).toNat)
    case atStart =>
      refine ⟨0, Nat.zero_le _, rfl, ⟨((World.rowIs_made w (.int .u8 0) n 5).alloc _).congr (fun i _ => by simp)⟩, ⟨fun _ => 0, ?_⟩, ⟨below_alloc (below_alloc (Below.refl _ _) _) _⟩⟩
      have h := World.rowIs_alloc (w.alloc (.cells (madeCells #[.int .u8 0] n) 5)) (Array.replicate 16 (.int .u8 0)) 89 (fun _ => .int .u8 0) (fun i hi => by simp at hi; simp [hi])
      rw [show (#[Value.int IntKind.u8 0, Value.int IntKind.u8 0, Value.int IntKind.u8 0, Value.int IntKind.u8 0, Value.int IntKind.u8 0, Value.int IntKind.u8 0, Value.int IntKind.u8 0, Value.int IntKind.u8 0, Value.int IntKind.u8 0, Value.int IntKind.u8 0, Value.int IntKind.u8 0, Value.int IntKind.u8 0, Value.int IntKind.u8 0, Value.int IntKind.u8 0, Value.int IntKind.u8 0, Value.int IntKind.u8 0] : Array Value) = Array.replicate 16 (.int .u8 0) from rfl]
      simpa using h
    case round =>
      obtain ⟨p, hp, rfl, HO, HC, HB⟩ := hrel
      by_cases hpn : p < n
      · obtain ⟨col, hcol⟩ := HC.out
        have HCL := Aside0.mk hcol
        clear hcol HC
        go_wp2
        go_loopw [23] (fun v wr => ∃ i : Nat, i ≤ l1.length ∧ v = .int .i64 i ∧ Aside0 (wr.rowIs w.heap.size 5 n (fun j => .int .u8 (if j < p then applyAt l0 l1 j else 0))) ∧ Aside0 (wr.rowIs (w.heap.size + 1) 89 16 (fun j => .int .u8 (if j < i then rd (rd_L1 l1 j) p else col j))) ∧ Aside0 (Below w.heap.size w wr)) (fun v _ => l1.length - (intOf v).toNat)
        case atStart => exact ⟨0, Nat.zero_le _, rfl, HO, ⟨HCL.out.congr (fun i _ => by simp)⟩, HB⟩
        case round =>
          clear HO HCL HB
          obtain ⟨i, hi, rfl, HO, HC, HB⟩ := hrel
          by_cases hil : i < l1.length
          · obtain ⟨ad, A2, c2, e1, hx, hxc, hxr⟩ := at_L1 HR1.out (i : Int) (by omega) (by omega)
            cases e1
            have hx' := (HB.out.cell (World.block_lt_of_cell? w _ hx)).trans hx
            clear hx
            have hpl := HLN.out i hil
            obtain ⟨ad2, e2, hy⟩ := Kd.at_int hxr (p : Int) (by omega) (by omega)
            cases e2
            have hy' := (HB.out.cell (World.block_lt_of_cell? w _ hy)).trans hy
            clear hy hxr
            have hz := HC.out.cell (show i < 16 by omega)
            have hfz := HC.out.frozen i
            simp only [Int.toNat_natCast] at hx' hy'
            go_wp2
            go_roundw
            case rel => exact ⟨i + 1, by omega, by go_num, ⟨HO.out.setOther (by simp) _⟩, ⟨(HC.out.set i _).congr (fun j hj => by
                by_cases e : j = i
                · subst e; simp
                · rw [if_neg e]; simp [show (j < i + 1) = (j < i) from propext ⟨fun h => by omega, fun h => by omega⟩])⟩, ⟨HB.out.setCell (Nat.le_succ _) _⟩⟩
            case measure => simp [intOf]; omega
          · have HC2 : Aside0 (wr.rowIs (w.heap.size + 1) 89 16 (fun j => .int .u8 (if j < l1.length then rd (rd_L1 l1 j) p else col j))) := ⟨HC.out.congr (fun j hj => by rw [show i = l1.length by omega])⟩
            clear HC
            go_wp2
            go_loopw [37, 12] (fun v s wr => ∃ i : Nat, i ≤ l0.length ∧ v = .int .i64 i ∧ s = .int .u8 (xsum (fun i => gmul (rd l0 i) (rd (rd_L1 l1 i) p)) i) ∧ Aside0 (wr.rowIs w.heap.size 5 n (fun j => .int .u8 (if j < p then applyAt l0 l1 j else 0))) ∧ Aside0 (wr.rowIs (w.heap.size + 1) 89 16 (fun j => .int .u8 (if j < l1.length then rd (rd_L1 l1 j) p else col j))) ∧ Aside0 (Below w.heap.size w wr)) (fun v _ _ => l0.length - (intOf v).toNat)
            case atStart => exact ⟨0, Nat.zero_le _, rfl, rfl, HO, HC2, HB⟩
            case round =>
              clear HO HC2 HB
              obtain ⟨i, hi, rfl, rfl, HO, HC, HB⟩ := hrel
              by_cases hil : i < l0.length
              · obtain ⟨ad, e1, hx⟩ := Kd.at_int HR0.out (i : Int) (by omega) (by omega)
                cases e1
                have hx' := (HB.out.cell (World.block_lt_of_cell? w _ hx)).trans hx
                clear hx
                have hz := HC.out.cell (show i < 16 by omega)
                rw [if_pos (show i < l1.length by omega)] at hz
                have HBa := Aside0.mk (HBY.out i hil)
                have HBb := Aside0.mk (HOK.out i p (by omega) hpn)
                have HXX := Lib.hid (bits_xor (xsum_byte (f := fun i => gmul (rd l0 i) (rd (rd_L1 l1 i) p)) i (fun j hj => gmul_byte (HBY.out j (by omega)))) (gmul_byte (b := rd (rd_L1 l1 i) p) (HBY.out i hil)))
                simp only [Int.toNat_natCast] at hx'
                go_wp2_with fail
                refine (mul_still _ _ _ HBa.out HBb.out).mono ?_
                rintro e w' ⟨rfl, rfl⟩
                go_wp2
                go_roundw
                case rel => exact ⟨i + 1, by omega, by go_num, by rw [HXX.out]; rfl, HO, HC, HB⟩
                case measure => simp [intOf]; omega
              · have hfz := HO.out.frozen p
                have hz := HO.out.cell hpn
                have HE := Lib.hid (show xsum (fun i => gmul (rd l0 i) (rd (rd_L1 l1 i) p)) i = applyAt l0 l1 p by unfold applyAt; rw [show i = l0.length by omega])
                go_wp2
                go_roundw
                case rel => exact ⟨p + 1, by omega, by go_num, ⟨by
                  rw [HE.out]
                  exact (HO.out.set p _).congr (fun j hj => by
                    by_cases e : j = p
                    · subst e; simp
                    · rw [if_neg e]; simp [show (j < p + 1) = (j < p) from propext ⟨fun h => by omega, fun h => by omega⟩])⟩, ⟨_, HC.out.setOther (by simp) _⟩, ⟨HB.out.setCell (Nat.le_refl _) _⟩⟩
                case measure => simp [intOf]; omega
      · have HRES : Aside0 (wr.rowIs w.heap.size 5 n (fun j => .int .u8 (applyAt l0 l1 j))) := ⟨HO.out.congr (fun j hj => by rw [if_pos (show j < p by omega)])⟩
        clear HO HC
        go_wp2
        go_ret
        refine ⟨_, rfl, ?_, HB.out⟩
        exact row_R HRES.out (Nat.le_refl _) (by unfold maxLen; omega)
end Go.Proofs.Ythmlimkmcofkfaa.E

/- copy into a slice that the call made. -/
namespace Go.Proofs.Ythmlimkmcofkfaa.E
open Go.RowKit Go.Proofs.YthmlimkmcofkfaaW.PrintWords Go.Proofs.YthmlimkmcofkfaaW.PrintLast Go.Proofs.YthmlimkmcofkfaaW.PrintMore Go.Proofs.Ythmlimkmcofkfaa.B
set_option linter.unusedVariables false
set_option linter.unusedSimpArgs false

def copyL (d s : List Int) : List Int := s.take d.length ++ d.drop s.length
theorem copyL_len (d s : List Int) : (copyL d s).length = d.length := by simp [copyL]; omega
theorem copy_R {P : Program} {w w0 : World} {base : Nat} {ops : Array Oper} {rest : List Oper} {o : Oper} {a : Act} {Q : Exit → Act → World → Prop} (hgd : o.guard = none) (d s : Operand) (ho : o.op = .call { callee := .builtin .copy, args := #[d, s], argTypes := #[41, 41] }) (hu : P.underlying 41 = some (.slice 5)) (hsz : (P.info? 5).map (·.size) = some 1)
    (g co : Nat) (xs ys : List Int) (A2 : Option Addr) (c2 n2 : Nat) (hn2 : ys.length = n2) (hd : a.eval d = .slice (some ⟨g, 0, none⟩) xs.length co) (hs : a.eval s = .slice A2 n2 c2)
    (HR : Kd.R (Kd.int .u8) 5 w base (fun _ => True) (.slice (some ⟨g, 0, none⟩) xs.length co) xs) (HC : Kd.C (Kd.int .u8) w A2 ys.length ys) (hpos : 0 < ys.length) (hb : Below base w0 w)
    (h : ∀ v w', w.grownBy w' (some g) → Kd.R (Kd.int .u8) 5 w' base (fun _ => True) (.slice (some ⟨g, 0, none⟩) xs.length co) (copyL xs ys) → Below base w0 w' → wpList P ops Q rest (a.put o.dst v) w') :
    wpList P ops Q (o :: rest) a w := by
  subst hn2
  obtain ⟨hl0, hv⟩ := Kd.own_of_R HR
  rcases hv with ⟨hv, _⟩ | ⟨g', cap, cur, hv, hbg, hh, hnc, hcm, hcs, htake⟩
  · cases hv
  · injection hv with e1 e2 e3
    injection e1 with e1
    injection e1 with e1
    subst e1 e3
    rw [Nat.mul_one] at hcs htake
    obtain ⟨ad, rfl, _⟩ := Kd.at_int HC 0 (by omega) (by omega)
    have hE : encs (Value.int .u8) ys = ys.map (Value.int .u8) := rfl
    have hE2 : encs (Value.int .u8) xs = xs.map (Value.int .u8) := rfl
    have hcl : ((encs (Value.int .u8) ys).take xs.length).length = min xs.length ys.length := by rw [hE]; simp
    have hlen : cur.toList.length = co := by simpa using hcs
    refine wpList_copy_own hgd d s 41 41 ho 5 hu hsz g 0 xs.length co ad ys.length c2 hd hs cur 5 hh ((encs (Value.int .u8) ys).take xs.length) (by rw [hcl]; exact Nat.min_comm _ _) ?_ (by rw [hcl]; omega) ?_ (h _ _ ?_ ?_ ?_)
    · intro j v hj
      rw [hE, List.getElem?_take] at hj
      split at hj
      · rw [List.getElem?_map] at hj
        obtain ⟨x, hx, rfl⟩ := Option.map_eq_some_iff.1 hj
        obtain ⟨hl, rfl⟩ := List.getElem?_eq_some_iff.1 hx
        obtain ⟨ad', e, hc⟩ := Kd.at_int HC (j : Int) (by omega) (by omega)
        cases e
        rw [Int.toNat_natCast] at hc
        rw [hc, rd_nat]; simp [hl]
      · cases hj
    · intro v hv
      have := List.mem_of_mem_take hv
      rw [hE] at this
      obtain ⟨x, _, rfl⟩ := List.mem_map.1 this
      rfl
    · exact ⟨rfl, rfl, rfl, by simp [World.setRow], fun k hk hne => setRow_other _ _ _ _ (fun e => hne (by rw [e]))⟩
    · refine Kd.R_of_own ⟨by simp [encs_length], .inr ⟨g, co, _, by rw [copyL_len], hbg, setRow_heap _ _ _ _ _ _ hh, by rw [copyL_len]; exact hnc, hcm, ?_, ?_⟩⟩ (fun _ _ => trivial)
      · simp only [List.size_toArray, List.length_append, List.length_take, List.length_drop, hlen, hcl, Nat.zero_add, Nat.mul_one]
        omega
      · rw [copyL_len, Nat.mul_one]
        simp only [List.take_zero, List.nil_append, Nat.zero_add]
        rw [List.take_append, hcl, ← List.drop_take, htake, List.take_take, Nat.min_self]
        show _ = (copyL xs ys).map (Value.int .u8)
        unfold copyL
        rw [List.map_append, List.map_take, List.map_drop, hE, hE2]
        congr 1
        rcases Nat.le_total ys.length xs.length with e | e
        · rw [Nat.min_eq_right e]
        · rw [Nat.min_eq_left e, List.drop_eq_nil_of_le (by simp), List.drop_eq_nil_of_le (by simpa using e)]
    · exact below_setRow hb hbg _
/-- What a stood on from place N to its end stands still in w. -/
def Keeps (a : World) (N : Nat) (w : World) : Prop := a.heap.size ≤ w.heap.size ∧ ∀ k, N ≤ k → k < a.heap.size → w.heap[k]? = a.heap[k]?
section
variable {a w w1 : World} {N : Nat}
theorem Keeps.refl (a : World) (N : Nat) : Keeps a N a := ⟨Nat.le_refl _, fun _ _ _ => rfl⟩
theorem Keeps.below (h : Keeps a N w) (hb : Below w.heap.size w w1) : Keeps a N w1 := ⟨Nat.le_trans h.1 hb.size, fun k h1 h2 => (hb.block k (Nat.lt_of_lt_of_le h2 h.1)).trans (h.2 k h1 h2)⟩
theorem Keeps.alloc (h : Keeps a N w) (o : Obj) : Keeps a N (w.alloc o) := h.below (below_alloc (Below.refl _ _) o)
theorem Keeps.drew (h : Keeps a N w) : Keeps a N w.drew := h.below (below_drew (Below.refl _ _))
theorem Keeps.drewN (h : Keeps a N w) (m : Nat) : Keeps a N (w.drewN m) := h.below (pw_below_drewN (Below.refl _ _) m)
theorem Keeps.grown (h : Keeps a N w) {row : Option Nat} (hg : w.grownBy w1 row) (hr : ∀ k, row = some k → ¬ (N ≤ k ∧ k < a.heap.size)) : Keeps a N w1 :=
  ⟨Nat.le_trans h.1 hg.size, fun k h1 h2 => (hg.block k (Nat.lt_of_lt_of_le h2 h.1) (fun e => hr k e.symm ⟨h1, h2⟩)).trans (h.2 k h1 h2)⟩
theorem Keeps.fresh (h : Keeps a N w) {k : Nat} (hk : w.heap.size ≤ k) : ¬ (N ≤ k ∧ k < a.heap.size) := fun e => by have := h.1; omega
end
theorem drop_frame {w : World} {N : Nat} {A : Option Addr} {c : Nat} {l y : List (List Int)} {m : Nat} (hs : Kd.S (Kd.slice 5 (Kd.int .u8)) 41 w N (fun _ => True) (.slice A l.length c) l) (hm : m ≤ l.length) {A1 : Option Addr} (hA : A1 = (if c = m then A else (A : Option Addr).map (·.add (m * 1)))) (hy : y = l.drop m) :
    ∀ W', Keeps w N W' → Kd.C (Kd.slice 5 (Kd.int .u8)) W' A1 y.length y := by
  intro W' hk
  have h2 := Kd.S_step (w1 := W') (Kd.S_bound hs) (fun k ho hlt => hk.2 k ho.2.1 hlt)
  obtain ⟨_, hroom, hC⟩ := Kd.S_reads' h2
  have h3 := Kd.C_drop (m := m) (c := c) hC hm hroom
  rw [hA, hy]; exact h3
theorem Kd.S_own1 {α : Type} {d : Kd α} {e : Nat} {w : World} {base : Nat} {ok ok2 : Nat → Prop} {v : Value} {xs : List α} (h : Kd.S d e w base (fun k => ok k ∧ ok2 k) v xs) : ∀ k, v.ownBlock = some k → ok k := by
  obtain ⟨f, h1, _⟩ := h
  exact fun k hk => (h1 k hk).1
end Go.Proofs.Ythmlimkmcofkfaa.E

/- The contract of stripe.Split. (Printed by a program of this session, and turned by hand where it copies.) -/
namespace Go.Proofs.Ythmlimkmcofkfaa.E
open Go.RowKit Go.Proofs.YthmlimkmcofkfaaW.PrintWords Go.Proofs.YthmlimkmcofkfaaW.PrintLast Go.Proofs.YthmlimkmcofkfaaW.PrintMore
attribute [local go_sem] max2_int min2_int max_two min_two max_three min_three max_four min_four   -- for this text's walks alone
open Go.Proofs.Ythmlimkmcofkfaa.B
set_option linter.unusedVariables false
set_option linter.unusedSimpArgs false

/-! ### stripe_Split: function 39 -/
mutual
def stripe_Split.l0 : Nat → List Int → Int → Int → Int → List (List Int) → Int → Int → Option ((List (List Int)) × Int)
  | 0, _, _, _, _, _, _, _ => none
  | k + 1, x0, x1, x2, x8, x10, x31, x32 => if x32 < x31 then (if 0 ≤ x8 then (if (x8 : Int).toNat ≤ 281474976710656 then ((some (List.replicate (x8 : Int).toNat 0 : List Int)).bind fun y128 => (if (wrap64 (x32 * x8)) < (x0.length : Int) then (if 0 ≤ (wrap64 (x32 * x8)) then (if (wrap64 (x32 * x8)) ≤ (x0.length : Int) then (if 0 < (y128.length : Int) then (if x10.length < 5864062014805 then (stripe_Split.l0 k x0 x1 x2 x8 (x10 ++ [(copyL y128 (x0.drop ((wrap64 (x32 * x8))).toNat))]) x31 (wrap64 (x32 + 1))) else (none)) else (none)) else (none)) else (none)) else (if x10.length < 5864062014805 then (stripe_Split.l0 k x0 x1 x2 x8 (x10 ++ [y128]) x31 (wrap64 (x32 + 1))) else (none)))) else (none)) else (none)) else ((matrix_Code.f k x1 x2).bind fun bt139 => (if 0 ≤ x1 then (if x1 ≤ (bt139.1.length : Int) then ((some (bt139.1.drop (x1 : Int).toNat : List (List Int))).bind fun y143 => (stripe_Split.l1 k x1 x8 x10 y143 (y143.length : Int) 0)) else (none)) else (none)))
def stripe_Split.l1 : Nat → Int → Int → List (List Int) → List (List Int) → Int → Int → Option ((List (List Int)) × Int)
  | 0, _, _, _, _, _, _ => none
  | k + 1, x1, x8, x10, x63, x64, x65 => if x65 < x64 then (if 0 ≤ x65 then (if x65 < (x63.length : Int) then (if 0 ≤ x1 then (if x1 ≤ (x10.length : Int) then ((stripe_apply.f (rd_L1 x63 x65) (x10.take (x1 : Int).toNat) x8).bind fun t152 => (if x10.length < 5864062014805 then (stripe_Split.l1 k x1 x8 (x10 ++ [t152]) x63 x64 (wrap64 (x65 + 1))) else (none))) else (none)) else (none)) else (none)) else (none)) else (some (x10, 0))
end
def stripe_Split.f (k : Nat) (l0 : List Int) (a1 : Int) (a2 : Int) : Option ((List (List Int)) × Int) := (stripe_may.f a1 a2).bind fun t125 => (if t125 = true then (if (l0.length : Int) > 65536 then (some (([] : List (List Int)), 3)) else ((stripe_Length.f (l0.length : Int) a1).bind fun bt126 => (stripe_Split.l0 k l0 a1 a2 bt126.1 ([] : List (List Int)) a1 0))) else (some (([] : List (List Int)), 5)))
theorem stripe_Split.mono_l : ∀ k, (∀ y0 y1 y2 y3 y4 y5 y6, LeO (stripe_Split.l0 k y0 y1 y2 y3 y4 y5 y6) (stripe_Split.l0 (k + 1) y0 y1 y2 y3 y4 y5 y6)) ∧ (∀ y0 y1 y2 y3 y4 y5, LeO (stripe_Split.l1 k y0 y1 y2 y3 y4 y5) (stripe_Split.l1 (k + 1) y0 y1 y2 y3 y4 y5))
  | 0 => ⟨fun _ _ _ _ _ _ _ r h => by simp [stripe_Split.l0] at h, fun _ _ _ _ _ _ r h => by simp [stripe_Split.l1] at h⟩
  | k + 1 => by
    obtain ⟨ih0, ih1⟩ := stripe_Split.mono_l k
    refine ⟨?_, ?_⟩
    · intro y0 y1 y2 y3 y4 y5 y6
      unfold stripe_Split.l0
      repeat' first
      | (with_reducible exact ih0 _ _ _ _ _ _ _)
      | (with_reducible exact ih1 _ _ _ _ _ _)
      | (with_reducible exact matrix_Code.mono _ _ _)
      | (with_reducible exact LeO.refl _)
      | (with_reducible exact LeO.none _)
      | (with_reducible refine LeO.ite ?_ ?_)
      | (with_reducible refine LeO.bind ?_ (fun _ => ?_))
      | exact ih0 _ _ _ _ _ _ _
      | exact ih1 _ _ _ _ _ _
      | exact matrix_Code.mono _ _ _
      | exact LeO.none _
      | refine LeO.ite ?_ ?_
      | refine LeO.bind ?_ (fun _ => ?_)
    · intro y0 y1 y2 y3 y4 y5
      unfold stripe_Split.l1
      repeat' first
      | (with_reducible exact ih0 _ _ _ _ _ _ _)
      | (with_reducible exact ih1 _ _ _ _ _ _)
      | (with_reducible exact matrix_Code.mono _ _ _)
      | (with_reducible exact LeO.refl _)
      | (with_reducible exact LeO.none _)
      | (with_reducible refine LeO.ite ?_ ?_)
      | (with_reducible refine LeO.bind ?_ (fun _ => ?_))
      | exact ih0 _ _ _ _ _ _ _
      | exact ih1 _ _ _ _ _ _
      | exact matrix_Code.mono _ _ _
      | exact LeO.none _
      | refine LeO.ite ?_ ?_
      | refine LeO.bind ?_ (fun _ => ?_)
theorem stripe_Split.mono : ∀ a0 a1 a2 k, LeO (stripe_Split.f k a0 a1 a2) (stripe_Split.f (k + 1) a0 a1 a2) := by
  intro a0 a1 a2 k
  obtain ⟨ih0, ih1⟩ := stripe_Split.mono_l k
  unfold stripe_Split.f
  repeat' first
      | (with_reducible exact ih0 _ _ _ _ _ _ _)
      | (with_reducible exact ih1 _ _ _ _ _ _)
      | (with_reducible exact matrix_Code.mono _ _ _)
      | (with_reducible exact LeO.refl _)
      | (with_reducible exact LeO.none _)
      | (with_reducible refine LeO.ite ?_ ?_)
      | (with_reducible refine LeO.bind ?_ (fun _ => ?_))
      | exact ih0 _ _ _ _ _ _ _
      | exact ih1 _ _ _ _ _ _
      | exact matrix_Code.mono _ _ _
      | exact LeO.none _
      | refine LeO.ite ?_ ?_
      | refine LeO.bind ?_ (fun _ => ?_)
theorem size5 : (Try.prog.info? 5).map (·.size) = some 1 := by kernel_rfl
set_option maxHeartbeats 8000000 in
set_option maxRecDepth 100000 in
theorem stripe_Split.calls (k : Nat) (A0 : Option Addr) (c0 : Nat) (l0 : List Int) (a1 : Int) (a2 : Int) (r1 : List (List Int)) (r2 : Int) (w : World) (hr0 : Kd.C (Kd.int .u8) w A0 l0.length l0) (hc0 : l0.length ≤ c0) (h : stripe_Split.f k l0 a1 a2 = some (r1, r2)) :
    Calls Try.prog 39 #[.slice A0 l0.length c0, .int .i64 a1, .int .i64 a2] w fun e w' => ∃ v0_ : Value, e = .returned (.tuple #[v0_, .int .i64 r2]) ∧ Kd.S (Kd.slice 5 (Kd.int .u8)) 41 w' w.heap.size (fun _ => True) v0_ r1 ∧ Below w.heap.size w w' := by
  have HR0 := Aside0.mk hr0
  have HC0 := Aside0.mk hc0
  clear hr0 hc0
  have HB := Aside0.mk (Below.refl w.heap.size w)
  have H : ((stripe_may.f a1 a2).bind fun t125 => (if t125 = true then (if (l0.length : Int) > 65536 then (some (([] : List (List Int)), 3)) else ((stripe_Length.f (l0.length : Int) a1).bind fun bt126 => (stripe_Split.l0 k l0 a1 a2 bt126.1 ([] : List (List Int)) a1 0))) else (some (([] : List (List Int)), 5)))) = some (r1, r2) := h
  clear h
  replace H := Option.bind_eq_some_iff.mp H
  obtain ⟨t125, A40, H⟩ := H
  replace H : (if t125 = true then (if (l0.length : Int) > 65536 then (some (([] : List (List Int)), 3)) else ((stripe_Length.f (l0.length : Int) a1).bind fun bt126 => (stripe_Split.l0 k l0 a1 a2 bt126.1 ([] : List (List Int)) a1 0))) else (some (([] : List (List Int)), 5))) = some (r1, r2) := H
  have A4 := Aside0.mk A40
  clear A40
  by_cases c5 : t125 = true
  · subst c5
    have H1 : (if (l0.length : Int) > 65536 then (some (([] : List (List Int)), 3)) else ((stripe_Length.f (l0.length : Int) a1).bind fun bt126 => (stripe_Split.l0 k l0 a1 a2 bt126.1 ([] : List (List Int)) a1 0))) = some (r1, r2) := by rw [if_pos rfl] at H; exact H
    clear H
    have H := H1
    clear H1
    by_cases c6 : (l0.length : Int) > 65536
    · rw [if_pos c6] at H
      have c6b0 : decide (65536 < (l0.length : Int)) = true := decide_eq_true c6
      have c6b1 : decide (65536 < l0.length) = true := decide_eq_true (by omega)
      clear c6
      simp only [Option.some.injEq, Prod.mk.injEq] at H
      obtain ⟨rfl, rfl⟩ := H
      go_enter Try.func39, Try.ntmps39
      go_wp2_with (first | ((with_reducible refine gate_callee (f := 75) rfl ?_); refine goesL_ (some 19) rfl rfl Try.func75 (by kernel_rfl) rfl #[.int .i64 a1, .int .i64 a2] rfl (by (try simp only [List.map_toArray, List.map_cons, List.map_nil]); first | done | rfl | (simp only [List.length_drop, List.length_take]; rfl)) ?_; (with_reducible refine (stripe_may.calls a1 a2 true _ A4.out).mono ?_); rintro e w' ⟨rfl, ⟨nd, rfl⟩⟩; refine ⟨_, rfl, ?_⟩))
      go_ret2
      exact ⟨_, by first | rfl | (simp [errW_none, errW_some] <;> rfl) | (simp [*, errW_none, errW_some] <;> rfl), by first | exact Kd.S_nil _ _ _ _ _ | exact Kd.N_nil _ _ _ _ _ | exact Kd.V_nil _ _ _ _ _ | exact Kd.Q_nil _ _ _ _ _ | exact Kd.R_nil _ _ _ _ _, by repeat (first | (with_reducible first | exact HB.out | apply below_alloc | apply pw_below_drewN | apply below_drew1) | exact HB.out)⟩
    · rw [if_neg c6] at H
      have c6b0 : decide (65536 < (l0.length : Int)) = false := decide_eq_false c6
      have c6b1 : decide (65536 < l0.length) = false := decide_eq_false (by omega)
      clear c6
      replace H := Option.bind_eq_some_iff.mp H
      obtain ⟨⟨t126, t127⟩, A70, H⟩ := H
      replace H : (stripe_Split.l0 k l0 a1 a2 t126 ([] : List (List Int)) a1 0) = some (r1, r2) := H
      have A7 := Aside0.mk A70
      clear A70
      have H' := Aside0.mk H
      clear H
      go_enter Try.func39, Try.ntmps39
      go_wp2_with (first | ((with_reducible refine gate_callee (f := 75) rfl ?_); refine goesL_ (some 19) rfl rfl Try.func75 (by kernel_rfl) rfl #[.int .i64 a1, .int .i64 a2] rfl (by (try simp only [List.map_toArray, List.map_cons, List.map_nil]); first | done | rfl | (simp only [List.length_drop, List.length_take]; rfl)) ?_; (with_reducible refine (stripe_may.calls a1 a2 true _ A4.out).mono ?_); rintro e w' ⟨rfl, ⟨nd, rfl⟩⟩; refine ⟨_, rfl, ?_⟩) | ((with_reducible refine gate_callee (f := 41) rfl ?_); refine goesL_ (some 28) rfl rfl Try.func41 (by kernel_rfl) rfl #[.int .i64 (l0.length : Int), .int .i64 a1] rfl (by (try simp only [List.map_toArray, List.map_cons, List.map_nil]); first | done | rfl | (simp only [List.length_drop, List.length_take]; rfl)) ?_; (with_reducible refine (stripe_Length.calls (l0.length : Int) a1 t126 t127 _ A7.out).mono ?_); rintro e w' ⟨rfl, ⟨nd, rfl⟩⟩; refine ⟨_, rfl, ?_⟩))
      go_loopg [10, 32] k (fun kq v10 v32 w' => ∃ (x10_1 : List (List Int)) (x32_1 : Int), v32 = .int .i64 x32_1 ∧ Aside0 (stripe_Split.l0 kq l0 a1 a2 t126 x10_1 a1 x32_1 = some (r1, r2)) ∧ Aside0 (kq ≤ k) ∧ Aside0 (Kd.S (Kd.slice 5 (Kd.int .u8)) 41 w' w.heap.size (fun _ => True) v10 x10_1) ∧ Aside0 (Below w.heap.size w w'))
      case atStart => exact ⟨(([] : List (List Int))), (0), (by first | rfl | (simp; done) | (simp [*]; done)), H', ⟨Nat.le_refl _⟩, ⟨by first | exact Kd.S_nil _ _ _ _ _ | exact Kd.N_nil _ _ _ _ _ | exact Kd.V_nil _ _ _ _ _ | exact Kd.Q_nil _ _ _ _ _ | exact Kd.R_nil _ _ _ _ _⟩, ⟨by repeat (first | (with_reducible first | exact HB.out | apply below_alloc | apply pw_below_drewN | apply below_drew1) | exact HB.out)⟩⟩
      case round =>
        clear H'
        try clear p2
        try clear c3
        try clear c4
        try clear c5
        try clear c6
        try clear c6b0
        try clear c6b1
        try clear c7
        obtain ⟨x10_1, x32_1, rfl, HA, HK1, HO_10, HB⟩ := hrel
        cases gk with
        | zero => exact absurd HA.out (by simp [stripe_Split.l0])
        | succ k1 =>
          have H := HA.out
          clear HA
          simp only [stripe_Split.l0] at H
          by_cases c8 : x32_1 < a1
          · rw [if_pos c8] at H
            have c8b0 : decide (x32_1 < a1) = true := decide_eq_true c8
            clear c8
            by_cases c9 : 0 ≤ t126
            · rw [if_pos c9] at H
              have c9b0 := eq_true c9
              have c9b1 : decide (0 ≤ t126) = true := decide_eq_true c9
              clear c9
              by_cases c10 : (t126 : Int).toNat ≤ 281474976710656
              · rw [if_pos c10] at H
                have c10b0 := eq_true c10
                have c10b1 : decide ((t126 : Int).toNat ≤ 281474976710656) = true := decide_eq_true c10
                clear c10
                obtain ⟨y128, hy128⟩ : ∃ y_ : List Int, y_ = (List.replicate (t126 : Int).toNat 0) := ⟨_, rfl⟩
                replace H : (if (wrap64 (x32_1 * t126)) < (l0.length : Int) then (if 0 ≤ (wrap64 (x32_1 * t126)) then (if (wrap64 (x32_1 * t126)) ≤ (l0.length : Int) then (if 0 < (y128.length : Int) then (if x10_1.length < 5864062014805 then (stripe_Split.l0 k1 l0 a1 a2 t126 (x10_1 ++ [(copyL y128 (l0.drop ((wrap64 (x32_1 * t126))).toNat))]) a1 (wrap64 (x32_1 + 1))) else (none)) else (none)) else (none)) else (none)) else (if x10_1.length < 5864062014805 then (stripe_Split.l0 k1 l0 a1 a2 t126 (x10_1 ++ [y128]) a1 (wrap64 (x32_1 + 1))) else (none))) = some (r1, r2) := by first | (rw [hy128]; with_reducible exact H) | (have H2_ := (Option.bind_some _ _).symm.trans H; rw [hy128]; with_reducible exact H2_) | (have H2_ := (Option.bind_some _ _).symm.trans H; with_reducible exact H2_) | with_reducible exact H | (rw [hy128]; exact H) | exact H
                have Ny128 := Aside0.mk hy128
                clear hy128
                by_cases c11 : (wrap64 (x32_1 * t126)) < (l0.length : Int)
                · rw [if_pos c11] at H
                  have c11b0 : decide ((wrap64 (x32_1 * t126)) < (l0.length : Int)) = true := decide_eq_true c11
                  clear c11
                  obtain ⟨ji12, hji12⟩ : ∃ j_ : Int, (wrap64 (x32_1 * t126)) = j_ := ⟨_, rfl⟩
                  replace H : (if 0 ≤ (ji12) then (if (ji12) ≤ (l0.length : Int) then (if 0 < (y128.length : Int) then (if x10_1.length < 5864062014805 then (stripe_Split.l0 k1 l0 a1 a2 t126 (x10_1 ++ [(copyL y128 (l0.drop (ji12).toNat))]) a1 (wrap64 (x32_1 + 1))) else (none)) else (none)) else (none)) else (none)) = some (r1, r2) := by first | (rw [hji12] at H; exact H) | (simp only [hji12] at H ⊢; exact H)
                  (try rw [hji12] at c11b0)
                  have hji12w : (IntKind.i64.wrap (x32_1 * t126)) = ji12 := (i64_w _).trans hji12
                  by_cases c13 : 0 ≤ (ji12)
                  · rw [if_pos c13] at H
                    have c13b0 := eq_true c13
                    have c13b1 : decide (0 ≤ (ji12)) = true := decide_eq_true c13
                    clear c13
                    by_cases c14 : (ji12) ≤ (l0.length : Int)
                    · rw [if_pos c14] at H
                      have c14b0 := eq_true c14
                      have c14b1 : decide ((ji12) ≤ (l0.length : Int)) = true := decide_eq_true c14
                      clear c14
                      by_cases c15 : 0 < (y128.length : Int)
                      · rw [if_pos c15] at H
                        have c15b0 : decide (0 < (y128.length : Int)) = true := decide_eq_true c15
                        have c15b1 : decide (0 < y128.length) = true := decide_eq_true (by omega)
                        clear c15
                        obtain ⟨y132, hy132⟩ : ∃ y_ : List Int, y_ = (copyL y128 (l0.drop (ji12).toNat)) := ⟨_, rfl⟩
                        replace H : (if x10_1.length < 5864062014805 then (stripe_Split.l0 k1 l0 a1 a2 t126 (x10_1 ++ [y132]) a1 (wrap64 (x32_1 + 1))) else (none)) = some (r1, r2) := by first | (rw [hy132]; with_reducible exact H) | (have H2_ := (Option.bind_some _ _).symm.trans H; rw [hy132]; with_reducible exact H2_) | (have H2_ := (Option.bind_some _ _).symm.trans H; with_reducible exact H2_) | with_reducible exact H | (rw [hy132]; exact H) | exact H
                        have Ny132 := Aside0.mk hy132
                        clear hy132
                        by_cases c17 : x10_1.length < 5864062014805
                        · rw [if_pos c17] at H
                          have LMc17 := Aside0.mk c17
                          clear c17
                          obtain ⟨y133, hy133⟩ : ∃ y_ : List (List Int), y_ = (x10_1 ++ [y132]) := ⟨_, rfl⟩
                          replace H : (stripe_Split.l0 k1 l0 a1 a2 t126 y133 a1 (wrap64 (x32_1 + 1))) = some (r1, r2) := by first | (rw [hy133]; with_reducible exact H) | (have H2_ := (Option.bind_some _ _).symm.trans H; rw [hy133]; with_reducible exact H2_) | (have H2_ := (Option.bind_some _ _).symm.trans H; with_reducible exact H2_) | with_reducible exact H | (rw [hy133]; exact H) | exact H
                          have Ny133 := Aside0.mk hy133
                          clear hy133
                          have H' := Aside0.mk H
                          clear H
                          go_wp2_with (first | ((with_reducible refine gate_dst (N := 36) rfl ?_); refine Kd.R_make (Kd.int .u8) _ 5 rfl (N := 36) rfl 41 _ _ rfl t126 rfl rfl Try.underlying41 (.int .u8 0) 1 info5 rfl (by decide) (by omega) 0 (ok := fun _ => True) (okp := fun _ => True) rfl (fun _ hk => hk) trivial (of_decide_eq_true (by first | (with_reducible assumption) | assumption)) (Nat.le_trans (Nat.mul_le_mul_right _ (of_decide_eq_true (by first | (with_reducible assumption) | assumption) : t126.toNat ≤ 281474976710656)) (by omega)) (Below.refl _ _) (Nat.le_refl _) ?_; intro v129 w18 ho19 hb hg_ hnew_; clear hg_ hnew_; (first | rw [← Ny128.out] at ho19 | (simp only [Int.reduceToNat] at ho19; rw [← Ny128.out] at ho19)); have n0_ := Aside0.mk (Kd.S_elder' (by (with_reducible repeat (first | apply Kd.S_alloc | apply Kd.S_drewN | apply Kd.S_drew)); exact HO_10.out) (Kd.R_base ho19) hb); have n1_ := Aside0.mk (Kd.R_lower ho19 (below_size (by repeat (first | (with_reducible first | exact HB.out | apply below_alloc | apply pw_below_drewN | apply below_drew1) | exact HB.out)))); have n2_ := Aside0.mk (below_step (by repeat (first | (with_reducible first | exact HB.out | apply below_alloc | apply pw_below_drewN | apply below_drew1) | exact HB.out)) hb); clear HO_10; clear HB; have HO_10 := n0_; have HO130 := n1_; have HB := n2_; clear n0_ n1_ n2_; clear hb ho19; obtain ⟨i020, hi020, _, hsz20, _⟩ := info_parts info5; obtain ⟨A20, hcut20, hA20, hC20⟩ := print_drop_of (P := Try.prog) (Value.int .u8) 0 41 5 .i64 Try.underlying41 hi020 hsz20 A0 c0 l0 (ji12) (of_decide_eq_true (by first | (with_reducible assumption) | assumption)) (of_decide_eq_true (by first | (with_reducible assumption) | assumption)) HC0.out; have HR131 := Aside0.mk (Kd.C_of_reads (h1 := fun _ => rfl) (hA20 _ (Kd.reads_of_C HR0.out))); have HC131 := Aside0.mk hC20; clear hA20 hC20 hi020 hsz20; have p16 : 0 ≤ (0 : Int) := (by omega); have q16 : (0 : Int) < ((y128.length : Int) : Int) := of_decide_eq_true (by first | (with_reducible assumption) | assumption); have qi16 : (0 < y128.length) = True := eq_true (by omega); obtain ⟨go16, co16, eo16, gb16, gl16, cl16, HG16⟩ := Kd.R_form HO130.out (by omega); (first | cases eo16 | (injection eo16 with ea_ en_ ec_; (first | subst ea_ | (injection ea_ with ea_; subst ea_)); subst ec_; clear en_)); have GB16 := Aside0.mk gb16; have GG16 := Aside0.mk HG16; clear gb16 gl16 HG16; obtain ⟨hx16_0, hf16_0⟩ := Kd.R_celln 0 HO130.out (0 : Int) p16 q16; (try rw [show ((0 : Int)).toNat = 0 from rfl] at hx16_0); (try simp only [Nat.reduceMul, Nat.zero_mul, Nat.zero_add, Nat.reduceAdd] at hx16_0); (try rw [show ((0 : Int)).toNat = 0 from rfl] at hf16_0); (try simp only [Nat.reduceMul, Nat.zero_mul, Nat.zero_add, Nat.reduceAdd] at hf16_0); replace p16 := eq_true p16; replace q16 := eq_true q16; obtain ⟨hy21_, hz21_⟩ := Kd.R_celln 0 HO130.out (0 : Int) (by omega) (of_decide_eq_true (by first | (with_reducible assumption) | assumption)); (try simp only [Int.reduceToNat, Int.toNat_zero, Int.toNat_ofNat, Nat.reduceMul, Nat.zero_mul, Nat.zero_add] at hy21_ hz21_); (try rw [show ((0 : Int)).toNat = 0 from rfl] at hy21_); (try rw [show ((0 : Int)).toNat = 0 from rfl] at hz21_); have HP21 := Kd.R_putg HO130.out (0 : Int) 7) | ((with_reducible refine gate_builtin (b := .copy) (xs := #[.tmp 43, .tmp 48]) rfl ?_); refine copy_R (P := Try.prog) (w0 := w) (base := w.heap.size) rfl (.tmp 43) (.tmp 48) rfl Try.underlying41 size5 go16 co16 y128 (l0.drop ji12.toNat) A20 (c0 - ji12.toNat) (l0.length - ji12.toNat) (by simp) rfl rfl HO130.out (Kd.C_below HR131.out HB.out) (by have h1_ := of_decide_eq_true c11b0; have h2_ := of_decide_eq_true c13b1; simp; omega) HB.out ?_; intro v22_ w22 hg hp_ hbw; rw [← Ny132.out] at hp_; have n0_ := Aside0.mk (Kd.S_after (v := (.slice (some ⟨go16, 0, none⟩) y128.length co16)) (v1 := (.slice (some ⟨go16, 0, none⟩) y128.length co16)) (ok := (fun _ => True)) (by (with_reducible repeat (first | apply Kd.S_alloc | apply Kd.S_drewN | apply Kd.S_drew)); exact HO_10.out) hg (.inl rfl)); have n1_ := Aside0.mk (hp_); have n2_ := Aside0.mk hbw; clear HO_10; clear HO130; clear HB; have HO_10 := n0_; have HO130 := n1_; have HB := n2_; clear n0_ n1_ n2_; clear hg hp_ hbw) | ((with_reducible refine gate_builtin (b := .append) (xs := #[.tmp 50, .tmp 52]) rfl ?_); at_builtin; refine Kd.S_append (Kd.slice 5 (Kd.int .u8)) (w0 := w) w.heap.size rfl (.tmp 50) (.tmp 52) 22 41 (.slice none 0 0) 24 rfl Try.underlying22 info41 rfl (by decide) (by omega) u10 x10_1 y132 [.slice (some ⟨go16, 0, none⟩) y128.length co16] (fun _ => True) (fun k_ => some k_ = (.slice (some ⟨go16, 0, none⟩) y128.length co16 : Value).ownBlock) rfl rfl ?aP (fun k_ hk_ => ((Kd.R_mono (ok' := fun k_ => ((fun _ => True)) k_ ∧ some k_ ≠ (u10 : Value).ownBlock) (Kd.R_apart' (HO130.out) (Kd.S_typed HO_10.out) (by decide)) (fun k_ hk => ⟨trivial, hk.2⟩))).1 k_ hk_.symm) ?aF ?aO ?aB ?aS ?aL ?_; (case aP => exact Kd.M_row (Kd.R_mono (Kd.R_tight rfl (Kd.R_mono (ok' := fun k_ => ((fun _ => True)) k_ ∧ some k_ ≠ (u10 : Value).ownBlock) (Kd.R_apart' (HO130.out) (Kd.S_typed HO_10.out) (by decide)) (fun k_ hk => ⟨trivial, hk.2⟩))) (fun _ h_ => h_))); (case aB => exact (by repeat (first | (with_reducible first | exact HB.out | apply below_alloc | apply pw_below_drewN | apply below_drew1) | exact HB.out))); (case aF => exact (fun _ _ => trivial)); (case aO => exact (by (with_reducible repeat (first | apply Kd.S_alloc | apply Kd.S_drewN | apply Kd.S_drew)); exact Kd.S_mono HO_10.out (fun k_ hk => ⟨trivial, fun e_ => hk.2 e_⟩))); (case aS => exact (below_size (by repeat (first | (with_reducible first | exact HB.out | apply below_alloc | apply pw_below_drewN | apply below_drew1) | exact HB.out)))); (case aL => have := LMc17.out; omega); intro v134 w23 ho hb hg hat; rw [← Ny133.out] at ho; have n0_ := Aside0.mk (hb); have n1_ := Aside0.mk (ho); clear HB; clear HO_10; clear HO130; have HB := n0_; have HO135 := n1_; clear n0_ n1_; clear ho hb hg hat))
                          go_roundg k1
                          case measure => have := HK1.out; omega
                          case rel => exact ⟨(y133), (wrap64 (x32_1 + 1)), (by first | rfl | (simp; done) | (simp [*]; done)), H', ⟨by have := HK1.out; omega⟩, ⟨by (with_reducible repeat (first | apply Kd.S_alloc | apply Kd.S_drewN | apply Kd.S_drew)); exact HO135.out⟩, ⟨by repeat (first | (with_reducible first | exact HB.out | apply below_alloc | apply pw_below_drewN | apply below_drew1) | exact HB.out)⟩⟩
                        · rw [if_neg c17] at H
                          exact absurd H (by simp)
                      · rw [if_neg c15] at H
                        exact absurd H (by simp)
                    · rw [if_neg c14] at H
                      exact absurd H (by simp)
                  · rw [if_neg c13] at H
                    exact absurd H (by simp)
                · rw [if_neg c11] at H
                  have c11b0 : decide ((wrap64 (x32_1 * t126)) < (l0.length : Int)) = false := decide_eq_false c11
                  clear c11
                  by_cases c24 : x10_1.length < 5864062014805
                  · rw [if_pos c24] at H
                    have LMc24 := Aside0.mk c24
                    clear c24
                    obtain ⟨y136, hy136⟩ : ∃ y_ : List (List Int), y_ = (x10_1 ++ [y128]) := ⟨_, rfl⟩
                    replace H : (stripe_Split.l0 k1 l0 a1 a2 t126 y136 a1 (wrap64 (x32_1 + 1))) = some (r1, r2) := by first | (rw [hy136]; with_reducible exact H) | (have H2_ := (Option.bind_some _ _).symm.trans H; rw [hy136]; with_reducible exact H2_) | (have H2_ := (Option.bind_some _ _).symm.trans H; with_reducible exact H2_) | with_reducible exact H | (rw [hy136]; exact H) | exact H
                    have Ny136 := Aside0.mk hy136
                    clear hy136
                    have H' := Aside0.mk H
                    clear H
                    go_wp2_with (first | ((with_reducible refine gate_dst (N := 36) rfl ?_); refine Kd.R_make (Kd.int .u8) _ 5 rfl (N := 36) rfl 41 _ _ rfl t126 rfl rfl Try.underlying41 (.int .u8 0) 1 info5 rfl (by decide) (by omega) 0 (ok := fun _ => True) (okp := fun _ => True) rfl (fun _ hk => hk) trivial (of_decide_eq_true (by first | (with_reducible assumption) | assumption)) (Nat.le_trans (Nat.mul_le_mul_right _ (of_decide_eq_true (by first | (with_reducible assumption) | assumption) : t126.toNat ≤ 281474976710656)) (by omega)) (Below.refl _ _) (Nat.le_refl _) ?_; intro v129 w25 ho26 hb hg_ hnew_; clear hg_ hnew_; (first | rw [← Ny128.out] at ho26 | (simp only [Int.reduceToNat] at ho26; rw [← Ny128.out] at ho26)); have n0_ := Aside0.mk (Kd.S_elder' (by (with_reducible repeat (first | apply Kd.S_alloc | apply Kd.S_drewN | apply Kd.S_drew)); exact HO_10.out) (Kd.R_base ho26) hb); have n1_ := Aside0.mk (Kd.R_lower ho26 (below_size (by repeat (first | (with_reducible first | exact HB.out | apply below_alloc | apply pw_below_drewN | apply below_drew1) | exact HB.out)))); have n2_ := Aside0.mk (below_step (by repeat (first | (with_reducible first | exact HB.out | apply below_alloc | apply pw_below_drewN | apply below_drew1) | exact HB.out)) hb); clear HO_10; clear HB; have HO_10 := n0_; have HO130 := n1_; have HB := n2_; clear n0_ n1_ n2_; clear hb ho26; obtain ⟨Ao28, co28, eo28⟩ := Kd.R_slice HO130.out; subst eo28) | ((with_reducible refine gate_builtin (b := .append) (xs := #[.tmp 50, .tmp 52]) rfl ?_); at_builtin; refine Kd.S_append (Kd.slice 5 (Kd.int .u8)) (w0 := w) w.heap.size rfl (.tmp 50) (.tmp 52) 22 41 (.slice none 0 0) 24 rfl Try.underlying22 info41 rfl (by decide) (by omega) u10 x10_1 y128 [.slice Ao28 y128.length co28] (fun _ => True) (fun k_ => some k_ = (.slice Ao28 y128.length co28 : Value).ownBlock) rfl rfl ?aP (fun k_ hk_ => ((Kd.R_mono (ok' := fun k_ => ((fun _ => True)) k_ ∧ some k_ ≠ (u10 : Value).ownBlock) (Kd.R_apart' (HO130.out) (Kd.S_typed HO_10.out) (by decide)) (fun k_ hk => ⟨trivial, hk.2⟩))).1 k_ hk_.symm) ?aF ?aO ?aB ?aS ?aL ?_; (case aP => exact Kd.M_row (Kd.R_mono (Kd.R_tight rfl (Kd.R_mono (ok' := fun k_ => ((fun _ => True)) k_ ∧ some k_ ≠ (u10 : Value).ownBlock) (Kd.R_apart' (HO130.out) (Kd.S_typed HO_10.out) (by decide)) (fun k_ hk => ⟨trivial, hk.2⟩))) (fun _ h_ => h_))); (case aB => exact (by repeat (first | (with_reducible first | exact HB.out | apply below_alloc | apply pw_below_drewN | apply below_drew1) | exact HB.out))); (case aF => exact (fun _ _ => trivial)); (case aO => exact (by (with_reducible repeat (first | apply Kd.S_alloc | apply Kd.S_drewN | apply Kd.S_drew)); exact Kd.S_mono HO_10.out (fun k_ hk => ⟨trivial, fun e_ => hk.2 e_⟩))); (case aS => exact (below_size (by repeat (first | (with_reducible first | exact HB.out | apply below_alloc | apply pw_below_drewN | apply below_drew1) | exact HB.out)))); (case aL => have := LMc24.out; omega); intro v137 w27 ho hb hg hat; rw [← Ny136.out] at ho; have n0_ := Aside0.mk (hb); have n1_ := Aside0.mk (ho); clear HB; clear HO_10; clear HO130; have HB := n0_; have HO138 := n1_; clear n0_ n1_; clear ho hb hg hat))
                    go_roundg k1
                    case measure => have := HK1.out; omega
                    case rel => exact ⟨(y136), (wrap64 (x32_1 + 1)), (by first | rfl | (simp; done) | (simp [*]; done)), H', ⟨by have := HK1.out; omega⟩, ⟨by (with_reducible repeat (first | apply Kd.S_alloc | apply Kd.S_drewN | apply Kd.S_drew)); exact HO138.out⟩, ⟨by repeat (first | (with_reducible first | exact HB.out | apply below_alloc | apply pw_below_drewN | apply below_drew1) | exact HB.out)⟩⟩
                  · rw [if_neg c24] at H
                    exact absurd H (by simp)
              · rw [if_neg c10] at H
                exact absurd H (by simp)
            · rw [if_neg c9] at H
              exact absurd H (by simp)
          · rw [if_neg c8] at H
            have c8b0 : decide (x32_1 < a1) = false := decide_eq_false c8
            clear c8
            replace H := Option.bind_eq_some_iff.mp H
            obtain ⟨⟨t139, t140⟩, A290, H⟩ := H
            replace H : (if 0 ≤ a1 then (if a1 ≤ (t139.length : Int) then ((some (t139.drop (a1 : Int).toNat : List (List Int))).bind fun y143 => (stripe_Split.l1 k1 a1 t126 x10_1 y143 (y143.length : Int) 0)) else (none)) else (none)) = some (r1, r2) := H
            have A29 := Aside0.mk A290
            clear A290
            by_cases c30 : 0 ≤ a1
            · rw [if_pos c30] at H
              have c30b0 := eq_true c30
              have c30b1 : decide (0 ≤ a1) = true := decide_eq_true c30
              clear c30
              by_cases c31 : a1 ≤ (t139.length : Int)
              · rw [if_pos c31] at H
                have c31b0 := eq_true c31
                have c31b1 : decide (a1 ≤ (t139.length : Int)) = true := decide_eq_true c31
                clear c31
                obtain ⟨y143, hy143⟩ : ∃ y_ : List (List Int), y_ = (t139.drop (a1 : Int).toNat) := ⟨_, rfl⟩
                replace H : (stripe_Split.l1 k1 a1 t126 x10_1 y143 (y143.length : Int) 0) = some (r1, r2) := by first | (rw [hy143]; with_reducible exact H) | (have H2_ := (Option.bind_some _ _).symm.trans H; rw [hy143]; with_reducible exact H2_) | (have H2_ := (Option.bind_some _ _).symm.trans H; with_reducible exact H2_) | with_reducible exact H | (rw [hy143]; exact H) | exact H
                have Ny143 := Aside0.mk hy143
                clear hy143
                have H' := Aside0.mk H
                clear H
                go_wp2_with (first | ((with_reducible refine gate_callee (f := 20) rfl ?_); refine goesL_ (some 58) rfl rfl Try.func20 (by kernel_rfl) rfl #[.int .i64 a1, .int .i64 a2] rfl (by (try simp only [List.map_toArray, List.map_cons, List.map_nil]); first | done | rfl | (simp only [List.length_drop, List.length_take]; rfl)) ?_; (with_reducible refine (matrix_Code.calls k1 a1 a2 t139 t140 _ A29.out).mono ?_); rintro e w32 ⟨v141, rfl, ho0, hb⟩; refine ⟨_, rfl, ?_⟩; have NF_ : Aside0 (∃ N, Kd.S (Kd.slice 5 (Kd.int .u8)) 41 w32 w.heap.size (fun k => True ∧ k < N) u10 x10_1 ∧ Kd.S (Kd.slice 5 (Kd.int .u8)) 41 w32 N (fun _ => True) v141 t139) := ⟨⟨_, Kd.S_old (by (with_reducible repeat (first | apply Kd.S_alloc | apply Kd.S_drewN | apply Kd.S_drew)); exact HO_10.out) hb, ho0⟩⟩; have n0_ := Aside0.mk (Kd.S_elder' (by (with_reducible repeat (first | apply Kd.S_alloc | apply Kd.S_drewN | apply Kd.S_drew)); exact HO_10.out) (Kd.S_base ho0) hb); have n1_ := Aside0.mk (Kd.S_lower (Kd.S_new' ho0 (Kd.S_lt (by (with_reducible repeat (first | apply Kd.S_alloc | apply Kd.S_drewN | apply Kd.S_drew)); exact HO_10.out))) (below_size (by repeat (first | (with_reducible first | exact HB.out | apply below_alloc | apply pw_below_drewN | apply below_drew1) | exact HB.out)))); have n2_ := Aside0.mk (below_step (by repeat (first | (with_reducible first | exact HB.out | apply below_alloc | apply pw_below_drewN | apply below_drew1) | exact HB.out)) hb); clear HO_10; clear HB; have HO_10 := n0_; have HO142 := n1_; have HB := n2_; clear n0_ n1_ n2_; (try clear hb); (try clear hb2); (try clear hk); (try clear hi); (try clear ho0); obtain ⟨Ao34, co34, eo34⟩ := Kd.S_slice HO142.out; subst eo34; have q33 : (a1 : Int) ≤ ((t139.length : Int) : Int) := of_decide_eq_true (by first | (with_reducible assumption) | assumption); obtain ⟨i033, hi033, _, hsz33, _⟩ := info_parts info41; have hroom33 : t139.length ≤ co34 := (Kd.S_reads' HO142.out).2.1; have hC33 : Kd.C (Kd.slice 5 (Kd.int .u8)) _ Ao34 t139.length t139 := (Kd.S_reads' HO142.out).2.2; have q033 : (0 : Int) ≤ (a1 : Int) := of_decide_eq_true (by first | (with_reducible assumption) | assumption); have hcut33 := cut_from (P := Try.prog) 22 41 .i64 Try.underlying22 hi033 1 hsz33 Ao34 t139.length co34 a1 q033 q33; have hr33 := Kd.C_drop (m := (a1 : Int).toNat) (c := co34) hC33 (by omega) hroom33; obtain ⟨A33, hA33⟩ : ∃ A1, A1 = (if co34 = (a1 : Int).toNat then Ao34 else (Ao34 : Option Addr).map (·.add ((a1 : Int).toNat * 1))) := ⟨_, rfl⟩; obtain ⟨c33, hc33⟩ : ∃ c1, c1 = co34 - (a1 : Int).toNat := ⟨_, rfl⟩; have hy33 : y143.length = t139.length - (a1 : Int).toNat := (by rw [Ny143.out, List.length_drop] <;> omega); rw [show (t139).drop (a1 : Int).toNat = y143 from Ny143.out.symm] at hr33; replace hr33 : Kd.C (Kd.slice 5 (Kd.int .u8)) _ A33 y143.length y143 := (by rw [hA33]; exact hr33); rw [← hy33, ← hA33, ← hc33] at hcut33; have HR146 := Aside0.mk hr33; have HC146 := Aside0.mk (show y143.length ≤ c33 from by rw [hy33, hc33]; exact Nat.sub_le_sub_right hroom33 _); clear hr33 hC33 hroom33 hi033 hsz33 hc33; have KY33 := Aside0.mk hy33; have KA33 := Aside0.mk hA33; clear hy33 hA33; have KL33 := Aside0.mk (show (a1 : Int).toNat ≤ t139.length from by omega); replace q33 := eq_true q33))
                obtain ⟨N_, hs10_, hsc_⟩ := NF_.out
                have HS10 := Aside0.mk (Kd.S_mono hs10_ (ok' := fun k => ¬ (N_ ≤ k ∧ k < w32.heap.size)) (fun k hk => by have := hk.2; omega))
                have HF := Aside0.mk (drop_frame hsc_ KL33.out KA33.out Ny143.out)
                clear hs10_ hsc_ NF_
                go_loopg [10, 65] k1 (fun kq v10 v65 w' => ∃ (x10_2 : List (List Int)) (x65_2 : Int), v65 = .int .i64 x65_2 ∧ Aside0 (stripe_Split.l1 kq a1 t126 x10_2 y143 (y143.length : Int) x65_2 = some (r1, r2)) ∧ Aside0 (kq ≤ k1) ∧ Aside0 (Kd.S (Kd.slice 5 (Kd.int .u8)) 41 w' w.heap.size (fun k => ¬ (N_ ≤ k ∧ k < w32.heap.size)) v10 x10_2) ∧ Aside0 (Keeps w32 N_ w') ∧ Aside0 (Below w.heap.size w w'))
                case atStart => exact ⟨(x10_1), (0), (by first | rfl | (simp; done) | (simp [*]; done)), H', ⟨Nat.le_refl _⟩, ⟨by (with_reducible repeat (first | apply Kd.S_alloc | apply Kd.S_drewN | apply Kd.S_drew)); exact HS10.out⟩, ⟨by (repeat first | exact Keeps.refl _ _ | apply Keeps.alloc | apply Keeps.drewN | apply Keeps.drew)⟩, ⟨by repeat (first | (with_reducible first | exact HB.out | apply below_alloc | apply pw_below_drewN | apply below_drew1) | exact HB.out)⟩⟩
                case round =>
                  clear H'
                  try clear c1
                  try clear p1
                  try clear q1
                  try clear hx1
                  try clear qi1
                  try clear c2
                  try clear p2
                  try clear c3
                  try clear q3
                  try clear c4
                  try clear c5
                  try clear c6
                  try clear c6b0
                  try clear c6b1
                  try clear p6
                  try clear c7
                  try clear c8
                  try clear c8b0
                  try clear c9
                  try clear c9b0
                  try clear c9b1
                  try clear c10
                  try clear c10b0
                  try clear c10b1
                  try clear c11
                  try clear c11b0
                  try clear c13
                  try clear c13b0
                  try clear c13b1
                  try clear c14
                  try clear c14b0
                  try clear c14b1
                  try clear c15
                  try clear c15b0
                  try clear c15b1
                  try clear p16
                  try clear q16
                  try clear hx16
                  try clear qi16
                  try clear hf16
                  try clear c17
                  try clear c20
                  try clear c24
                  try clear c30
                  try clear c30b0
                  try clear c30b1
                  try clear c31
                  try clear c31b0
                  try clear c31b1
                  try clear c33
                  try clear q33
                  try clear hx16_0
                  try clear p16
                  try clear p2
                  try clear q033
                  try clear q16
                  try clear q33
                  obtain ⟨x10_2, x65_2, rfl, HA, HK2, HO_10, HKP, HB⟩ := hrel
                  cases gk with
                  | zero => exact absurd HA.out (by simp [stripe_Split.l1])
                  | succ k2 =>
                    have H := HA.out
                    clear HA
                    simp only [stripe_Split.l1] at H
                    by_cases c35 : x65_2 < (y143.length : Int)
                    · rw [if_pos c35] at H
                      have c35b0 : decide (x65_2 < (y143.length : Int)) = true := decide_eq_true c35
                      clear c35
                      by_cases c36 : 0 ≤ x65_2
                      · rw [if_pos c36] at H
                        have c36b0 : decide (0 ≤ x65_2) = true := decide_eq_true c36
                        clear c36
                        by_cases c37 : x65_2 < (y143.length : Int)
                        · rw [if_pos c37] at H
                          have c37b0 : decide (x65_2 < (y143.length : Int)) = true := decide_eq_true c37
                          clear c37
                          by_cases c38 : 0 ≤ a1
                          · rw [if_pos c38] at H
                            have c38b0 := eq_true c38
                            have c38b1 : decide (0 ≤ a1) = true := decide_eq_true c38
                            clear c38
                            by_cases c39 : a1 ≤ (x10_2.length : Int)
                            · rw [if_pos c39] at H
                              have c39b0 := eq_true c39
                              have c39b1 : decide (a1 ≤ (x10_2.length : Int)) = true := decide_eq_true c39
                              clear c39
                              obtain ⟨y148, hy148⟩ : ∃ y_ : List (List Int), y_ = (x10_2.take (a1 : Int).toNat) := ⟨_, rfl⟩
                              replace H : ((stripe_apply.f (rd_L1 y143 x65_2) y148 t126).bind fun t152 => (if x10_2.length < 5864062014805 then (stripe_Split.l1 k2 a1 t126 (x10_2 ++ [t152]) y143 (y143.length : Int) (wrap64 (x65_2 + 1))) else (none))) = some (r1, r2) := by first | (rw [hy148]; with_reducible exact H) | (have H2_ := (Option.bind_some _ _).symm.trans H; rw [hy148]; with_reducible exact H2_) | (have H2_ := (Option.bind_some _ _).symm.trans H; with_reducible exact H2_) | with_reducible exact H | (rw [hy148]; exact H) | exact H
                              have Ny148 := Aside0.mk hy148
                              clear hy148
                              replace H := Option.bind_eq_some_iff.mp H
                              obtain ⟨t152, A400, H⟩ := H
                              replace H : (if x10_2.length < 5864062014805 then (stripe_Split.l1 k2 a1 t126 (x10_2 ++ [t152]) y143 (y143.length : Int) (wrap64 (x65_2 + 1))) else (none)) = some (r1, r2) := H
                              have A40 := Aside0.mk A400
                              clear A400
                              by_cases c41 : x10_2.length < 5864062014805
                              · rw [if_pos c41] at H
                                have LMc41 := Aside0.mk c41
                                clear c41
                                obtain ⟨y155, hy155⟩ : ∃ y_ : List (List Int), y_ = (x10_2 ++ [t152]) := ⟨_, rfl⟩
                                replace H : (stripe_Split.l1 k2 a1 t126 y155 y143 (y143.length : Int) (wrap64 (x65_2 + 1))) = some (r1, r2) := by first | (rw [hy155]; with_reducible exact H) | (have H2_ := (Option.bind_some _ _).symm.trans H; rw [hy155]; with_reducible exact H2_) | (have H2_ := (Option.bind_some _ _).symm.trans H; with_reducible exact H2_) | with_reducible exact H | (rw [hy155]; exact H) | exact H
                                have Ny155 := Aside0.mk hy155
                                clear hy155
                                have H' := Aside0.mk H
                                clear H
                                have p147 : 0 ≤ (x65_2 : Int) := of_decide_eq_true (by first | (with_reducible assumption) | assumption)
                                have q147 : x65_2 < (y143.length : Int) := of_decide_eq_true (by first | (with_reducible assumption) | assumption)
                                obtain ⟨ad147, A147_0, c147_0, e147, hx147_0, hl147_0, hi147_0⟩ := at_L1 (HF.out _ HKP.out) x65_2 p147 q147
                                cases e147
                                have HR147_0 := Aside0.mk hi147_0
                                have HC147_0 := Aside0.mk hl147_0
                                clear hi147_0 hl147_0
                                replace p147 := eq_true p147
                                replace q147 := eq_true q147
                                obtain ⟨Ao43, co43, eo43⟩ := Kd.S_slice HO_10.out
                                subst eo43
                                have q42 : (a1 : Int) ≤ ((x10_2.length : Int) : Int) := of_decide_eq_true (by first | (with_reducible assumption) | assumption)
                                obtain ⟨i042, hi042, _, hsz42, _⟩ := info_parts info41
                                have hroom42 : x10_2.length ≤ co43 := (Kd.S_reads' HO_10.out).2.1
                                have hC42 : Kd.C (Kd.slice 5 (Kd.int .u8)) _ Ao43 x10_2.length x10_2 := (Kd.S_reads' HO_10.out).2.2
                                have hcut42 := cut_to (P := Try.prog) 22 41 .i64 Try.underlying22 hi042 Ao43 x10_2.length co43 a1 (of_decide_eq_true (by first | (with_reducible assumption) | assumption)) q42 hroom42
                                have hr42 := Kd.C_take (m := (a1 : Int).toNat) hC42 (by omega)
                                have hy42 : y148.length = (a1 : Int).toNat := (by rw [Ny148.out, List.length_take]; omega)
                                rw [← Ny148.out] at hr42
                                rw [← hy42] at hcut42
                                have HR151 := Aside0.mk hr42
                                have HC151 := Aside0.mk (show y148.length ≤ co43 from by omega)
                                clear hr42 hC42 hroom42 hi042 hsz42
                                have KY42 := Aside0.mk hy42
                                clear hy42
                                have KL42 := Aside0.mk (show (a1 : Int).toNat ≤ x10_2.length from by omega)
                                replace q42 := eq_true q42
                                go_wp2_with (first | ((with_reducible refine gate_callee (f := 76) rfl ?_); refine goesL_ (some 75) rfl rfl Try.func76 (by kernel_rfl) rfl #[.slice A147_0 (rd_L1 y143 x65_2).length c147_0, .slice Ao43 y148.length co43, .int .i64 t126] rfl (by (try simp only [List.map_toArray, List.map_cons, List.map_nil]); first | done | rfl | (simp only [List.length_drop, List.length_take]; rfl)) ?_; (with_reducible refine (stripe_apply.calls _ _ (rd_L1 y143 x65_2) _ _ y148 t126 t152 _ ?side1 ?side2 ?side3 ?side4 A40.out).mono ?_); (case side1 => repeat (first | exact HR147_0.out | (with_reducible refine Kd.C_alloc ?_ _) | (with_reducible refine Kd.C_drewN ?_ _) | (with_reducible refine Kd.C_drew ?_))); (case side2 => exact HC147_0.out); (case side3 => repeat (first | exact (by repeat (first | (with_reducible exact HR151.out) | (with_reducible refine Kd.C_alloc ?_ _) | (with_reducible refine Kd.C_drewN ?_ _) | (with_reducible refine Kd.C_drew ?_) | exact HR151.out)) | (with_reducible refine Kd.C_alloc ?_ _) | (with_reducible refine Kd.C_drewN ?_ _) | (with_reducible refine Kd.C_drew ?_))); (case side4 => exact HC151.out); rintro e w44 ⟨v153, rfl, ho0, hb⟩; refine ⟨_, rfl, ?_⟩; have NK_ := Aside0.mk (Keeps.below (by (repeat first | exact HKP.out | apply Keeps.alloc | apply Keeps.drewN | apply Keeps.drew) : Keeps w32 N_ _) hb); have NB_ := Aside0.mk (fun k_ hk_ => Keeps.fresh (by (repeat first | exact HKP.out | apply Keeps.alloc | apply Keeps.drewN | apply Keeps.drew) : Keeps w32 N_ _) (Kd.R_base ho0 k_ hk_)); clear HKP; have HKP := NK_; clear NK_; have n0_ := Aside0.mk (Kd.S_elder' (by (with_reducible repeat (first | apply Kd.S_alloc | apply Kd.S_drewN | apply Kd.S_drew)); exact HO_10.out) (Kd.R_base ho0) hb); have n1_ := Aside0.mk (Kd.R_lower ho0 (below_size (by repeat (first | (with_reducible first | exact HB.out | apply below_alloc | apply pw_below_drewN | apply below_drew1) | exact HB.out)))); have n2_ := Aside0.mk (Kd.C_below (by repeat (first | (with_reducible exact HR151.out) | (with_reducible refine Kd.C_alloc ?_ _) | (with_reducible refine Kd.C_drewN ?_ _) | (with_reducible refine Kd.C_drew ?_) | exact HR151.out)) hb); have n3_ := Aside0.mk (below_step (by repeat (first | (with_reducible first | exact HB.out | apply below_alloc | apply pw_below_drewN | apply below_drew1) | exact HB.out)) hb); clear HO_10; clear HR151; clear HB; have HO_10 := n0_; have HO154 := n1_; have HR151 := n2_; have HB := n3_; clear n0_ n1_ n2_ n3_; (try clear hb); (try clear hb2); (try clear hk); (try clear hi); (try clear ho0); obtain ⟨Ao46, co46, eo46⟩ := Kd.R_slice HO154.out; subst eo46) | ((with_reducible refine gate_builtin (b := .append) (xs := #[.tmp 69, .tmp 76]) rfl ?_); at_builtin; refine Kd.S_append (Kd.slice 5 (Kd.int .u8)) (w0 := w) w.heap.size rfl (.tmp 69) (.tmp 76) 22 41 (.slice none 0 0) 24 rfl Try.underlying22 info41 rfl (by decide) (by omega) (.slice Ao43 x10_2.length co43) x10_2 t152 [.slice Ao46 t152.length co46] (fun k => ¬ (N_ ≤ k ∧ k < w32.heap.size)) (fun k_ => some k_ = (.slice Ao46 t152.length co46 : Value).ownBlock) rfl rfl ?aP (fun k_ hk_ => ⟨NB_.out k_ hk_.symm, (((Kd.R_mono (ok' := fun k_ => ((fun _ => True)) k_ ∧ some k_ ≠ (.slice Ao43 x10_2.length co43 : Value).ownBlock) (Kd.R_apart' (HO154.out) (Kd.S_typed HO_10.out) (by decide)) (fun k_ hk => ⟨trivial, hk.2⟩))).1 k_ hk_.symm).2⟩) ?aF ?aO ?aB ?aS ?aL ?_; (case aP => exact Kd.M_row (Kd.R_mono (Kd.R_tight rfl (Kd.R_mono (ok' := fun k_ => ((fun _ => True)) k_ ∧ some k_ ≠ (.slice Ao43 x10_2.length co43 : Value).ownBlock) (Kd.R_apart' (HO154.out) (Kd.S_typed HO_10.out) (by decide)) (fun k_ hk => ⟨trivial, hk.2⟩))) (fun _ h_ => h_))); (case aB => exact (by repeat (first | (with_reducible first | exact HB.out | apply below_alloc | apply pw_below_drewN | apply below_drew1) | exact HB.out))); (case aF => exact (fun k_ hk_ => Keeps.fresh (by (repeat first | exact HKP.out | apply Keeps.alloc | apply Keeps.drewN | apply Keeps.drew) : Keeps w32 N_ _) hk_)); (case aO => exact (by (with_reducible repeat (first | apply Kd.S_alloc | apply Kd.S_drewN | apply Kd.S_drew)); exact Kd.S_mono HO_10.out (fun k_ hk => ⟨hk.1, fun e_ => hk.2 e_⟩))); (case aS => exact (below_size (by repeat (first | (with_reducible first | exact HB.out | apply below_alloc | apply pw_below_drewN | apply below_drew1) | exact HB.out)))); (case aL => have := LMc41.out; omega); intro v156 w45 ho hb hg hat; rw [← Ny155.out] at ho; have n0_ := Aside0.mk (hb); have n1_ := Aside0.mk (ho); have NK_ := Aside0.mk (Keeps.grown (by (repeat first | exact HKP.out | apply Keeps.alloc | apply Keeps.drewN | apply Keeps.drew) : Keeps w32 N_ _) hg (fun k_ hk_ => (Kd.S_own1 HO_10.out) k_ hk_)); clear HKP; have HKP := NK_; clear NK_; clear HB; clear HO_10; clear HO154; have HB := n0_; have HO157 := n1_; clear n0_ n1_; clear ho hb hg hat))
                                go_roundg k2
                                case measure => have := HK1.out; have := HK2.out; omega
                                case rel => exact ⟨(y155), (wrap64 (x65_2 + 1)), (by first | rfl | (simp; done) | (simp [*]; done)), H', ⟨by have := HK1.out; have := HK2.out; omega⟩, ⟨by (with_reducible repeat (first | apply Kd.S_alloc | apply Kd.S_drewN | apply Kd.S_drew)); exact HO157.out⟩, ⟨by (repeat first | exact HKP.out | apply Keeps.alloc | apply Keeps.drewN | apply Keeps.drew)⟩, ⟨by repeat (first | (with_reducible first | exact HB.out | apply below_alloc | apply pw_below_drewN | apply below_drew1) | exact HB.out)⟩⟩
                              · rw [if_neg c41] at H
                                exact absurd H (by simp)
                            · rw [if_neg c39] at H
                              exact absurd H (by simp)
                          · rw [if_neg c38] at H
                            exact absurd H (by simp)
                        · rw [if_neg c37] at H
                          exact absurd H (by simp)
                      · rw [if_neg c36] at H
                        exact absurd H (by simp)
                    · rw [if_neg c35] at H
                      have c35b0 : decide (x65_2 < (y143.length : Int)) = false := decide_eq_false c35
                      clear c35
                      simp only [Option.some.injEq, Prod.mk.injEq] at H
                      obtain ⟨rfl, rfl⟩ := H
                      go_wp2
                      go_ret2
                      exact ⟨_, by first | rfl | (simp [errW_none, errW_some] <;> rfl) | (simp [*, errW_none, errW_some] <;> rfl), by (with_reducible repeat (first | apply Kd.S_alloc | apply Kd.S_drewN | apply Kd.S_drew)); exact Kd.S_mono HO_10.out (fun _ _ => trivial), by repeat (first | (with_reducible first | exact HB.out | apply below_alloc | apply pw_below_drewN | apply below_drew1) | exact HB.out)⟩
              · rw [if_neg c31] at H
                exact absurd H (by simp)
            · rw [if_neg c30] at H
              exact absurd H (by simp)
  · replace c5 := Bool.eq_false_iff.mpr c5
    subst c5
    have H1 : (some (([] : List (List Int)), 5)) = some (r1, r2) := by rw [if_neg (show ¬ (false = true) by decide)] at H; exact H
    clear H
    have H := H1
    clear H1
    simp only [Option.some.injEq, Prod.mk.injEq] at H
    obtain ⟨rfl, rfl⟩ := H
    go_enter Try.func39, Try.ntmps39
    go_wp2_with (first | ((with_reducible refine gate_callee (f := 75) rfl ?_); refine goesL_ (some 19) rfl rfl Try.func75 (by kernel_rfl) rfl #[.int .i64 a1, .int .i64 a2] rfl (by (try simp only [List.map_toArray, List.map_cons, List.map_nil]); first | done | rfl | (simp only [List.length_drop, List.length_take]; rfl)) ?_; (with_reducible refine (stripe_may.calls a1 a2 false _ A4.out).mono ?_); rintro e w' ⟨rfl, ⟨nd, rfl⟩⟩; refine ⟨_, rfl, ?_⟩))
    go_ret2
    exact ⟨_, by first | rfl | (simp [errW_none, errW_some] <;> rfl) | (simp [*, errW_none, errW_some] <;> rfl), by first | exact Kd.S_nil _ _ _ _ _ | exact Kd.N_nil _ _ _ _ _ | exact Kd.V_nil _ _ _ _ _ | exact Kd.Q_nil _ _ _ _ _ | exact Kd.R_nil _ _ _ _ _, by repeat (first | (with_reducible first | exact HB.out | apply below_alloc | apply pw_below_drewN | apply below_drew1) | exact HB.out)⟩

end Go.Proofs.Ythmlimkmcofkfaa.E

/- One cell that is read as a row of one: for appends in a region that draws its order. -/
namespace Go.Proofs.Ythmlimkmcofkfaa.E
open Go.RowKit Go.Proofs.YthmlimkmcofkfaaW.PrintWords Go.Proofs.YthmlimkmcofkfaaW.PrintLast Go.Proofs.YthmlimkmcofkfaaW.PrintMore Go.Proofs.Ythmlimkmcofkfaa.B
set_option linter.unusedVariables false

theorem came_F {α : Type} {d : Kd α} {w W : World} {A : Option Addr} {n : Nat} {xs : List α} {ok : Nat → Prop} (hd : Kd.Heap d) (h : d.C w A n xs) (hb : Below w.heap.size w W) (hok : ∀ k, k < w.heap.size → ok k) : Kd.F d W ok A n xs :=
  fun W' hW => hd.C (fun k hlt => (hW k (hok k hlt) (Nat.lt_of_lt_of_le hlt hb.size)).trans (hb.block k hlt)) h
theorem add_zero (a : Addr) : a.add 0 = a := by simp [Addr.add]
theorem one_C {w : World} {ad : Addr} {x : Int} (h : w.cell? ad = some (.int .i64 x)) : Kd.C (Kd.int .i64) w (some ad) 1 [x] := by
  refine ⟨rfl, by omega, fun _ => ⟨ad, rfl, fun j p hp => ?_⟩⟩
  rcases j with _ | j
  · simp only [List.getElem?_cons_zero, Option.some.injEq] at hp
    subst hp
    refine ⟨[.int .i64 x], rfl, rfl, fun i u hu => ?_⟩
    rcases i with _ | i
    · simp only [List.getElem?_cons_zero, Option.some.injEq] at hu
      subst hu
      simpa [Addr.add] using h
    · simp at hu
  · simp at hp
theorem cell_same {W W' : World} {a : Addr} (h : W'.heap[a.block]? = W.heap[a.block]?) : W'.cell? a = W.cell? a := by simp [World.cell?, h]
theorem one_F {w W : World} {ad : Addr} {A : Option Addr} {c : Nat} {row : List Int} {ok : Nat → Prop} (hcell : W.cell? ad = some (.slice A row.length c)) (hl : row.length ≤ c) (hi : Kd.C (Kd.int .u8) w A row.length row) (hb : Below w.heap.size w W) (hok : ∀ k, k < w.heap.size → ok k) (hB : ok ad.block) : Kd.F (Kd.slice 5 (Kd.int .u8)) W ok (some ad) 1 [row] := by
  intro W' hW
  refine ⟨rfl, by omega, fun _ => ⟨ad, rfl, fun j p hp => ?_⟩⟩
  rcases j with _ | j
  · simp only [List.getElem?_cons_zero, Option.some.injEq] at hp
    subst hp
    refine ⟨[.slice A row.length c], rfl, ⟨A, c, rfl, hl, came_F (Kd.heap_int _) hi hb hok W' hW⟩, fun i u hu => ?_⟩
    rcases i with _ | i
    · simp only [List.getElem?_cons_zero, Option.some.injEq] at hu
      subst hu
      have h1 := (cell_same (hW ad.block hB (World.block_lt_of_cell? W _ hcell))).trans hcell
      simpa [Addr.add] using h1
    · simp at hu
  · simp at hp
end Go.Proofs.Ythmlimkmcofkfaa.E

/- Contracts of functions of the program, written by a program of this session. -/
namespace Go.Proofs.Ythmlimkmcofkfaa.P
open Go.RowKit Go.Proofs.YthmlimkmcofkfaaW.PrintWords Go.Proofs.YthmlimkmcofkfaaW.PrintLast Go.Proofs.YthmlimkmcofkfaaW.PrintMore
attribute [local go_sem] max2_int min2_int max_two min_two max_three min_three max_four min_four   -- for this text's walks alone
open Go.Proofs.Ythmlimkmcofkfaa.B Go.Proofs.Ythmlimkmcofkfaa.E
set_option linter.unusedVariables false
set_option linter.unusedSimpArgs false



def errW : Option Int → Value
  | none => .nilIface
  | some c => .iface 0 (.int .i64 c)
theorem errW_none : errW none = .nilIface := rfl
theorem errW_some (c : Int) : errW (some c) = .iface 0 (.int .i64 c) := rfl

theorem info3 : (Try.prog.info? 3).map (fun i => (i.zero, i.size, i.bytes)) = some (some (.int .i64 0), 1, 8) := by kernel_rfl
theorem info5 : (Try.prog.info? 5).map (fun i => (i.zero, i.size, i.bytes)) = some (some (.int .u8 0), 1, 1) := by kernel_rfl
theorem info41 : (Try.prog.info? 41).map (fun i => (i.zero, i.size, i.bytes)) = some (some (.slice none 0 0), 1, 24) := by kernel_rfl
-- the values' own types
def rd_L1 (xs : List (List Int)) (i : Int) : (List Int) := xs.getD i.toNat ([] : List Int)
theorem at_L1 {w : World} {A : Option Addr} {n : Nat} {xs : List (List Int)} (h : Kd.C (Kd.slice 5 (Kd.int .u8)) w A n xs) (i : Int) (h0 : 0 ≤ i) (h1 : i < n) : ∃ ad A0 c0, A = some ad ∧ w.cell? (ad.add i.toNat) = some (.slice A0 (rd_L1 xs i).length c0) ∧ (rd_L1 xs i).length ≤ c0 ∧ (Kd.int .u8).C w A0 (rd_L1 xs i).length (rd_L1 xs i) := by
  obtain ⟨ad, c, e, _, hK, hc0⟩ := Kd.C_get h ([] : List Int) i h0 h1
  have hc : ∀ j u, c[j]? = some u → w.cell? (ad.add (i.toNat * 1 + j)) = some u := hc0
  obtain ⟨A0, c0, rfl, l0, g0⟩ := hK
  exact ⟨ad, A0, c0, e, by have hq := hc 0 _ rfl; rwa [Nat.mul_one, Nat.add_zero] at hq, l0, g0⟩

def rd_L2 (xs : List (List (List Int))) (i : Int) : (List (List Int)) := xs.getD i.toNat ([] : List (List Int))
theorem at_L2 {w : World} {A : Option Addr} {n : Nat} {xs : List (List (List Int))} (h : Kd.C (Kd.slice 41 (Kd.slice 5 (Kd.int .u8))) w A n xs) (i : Int) (h0 : 0 ≤ i) (h1 : i < n) : ∃ ad A0 c0, A = some ad ∧ w.cell? (ad.add i.toNat) = some (.slice A0 (rd_L2 xs i).length c0) ∧ (rd_L2 xs i).length ≤ c0 ∧ (Kd.slice 5 (Kd.int .u8)).C w A0 (rd_L2 xs i).length (rd_L2 xs i) := by
  obtain ⟨ad, c, e, _, hK, hc0⟩ := Kd.C_get h ([] : List (List Int)) i h0 h1
  have hc : ∀ j u, c[j]? = some u → w.cell? (ad.add (i.toNat * 1 + j)) = some u := hc0
  obtain ⟨A0, c0, rfl, l0, g0⟩ := hK
  exact ⟨ad, A0, c0, e, by have hq := hc 0 _ rfl; rwa [Nat.mul_one, Nat.add_zero] at hq, l0, g0⟩

end Go.Proofs.Ythmlimkmcofkfaa.P

/- Contracts of functions of the program, written by a program of this session. -/
namespace Go.Proofs.Ythmlimkmcofkfaa.P
open Go.RowKit Go.Proofs.YthmlimkmcofkfaaW.PrintWords Go.Proofs.YthmlimkmcofkfaaW.PrintLast Go.Proofs.YthmlimkmcofkfaaW.PrintMore
attribute [local go_sem] max2_int min2_int max_two min_two max_three min_three max_four min_four   -- for this text's walks alone
open Go.Proofs.Ythmlimkmcofkfaa.B Go.Proofs.Ythmlimkmcofkfaa.E
set_option linter.unusedVariables false
set_option linter.unusedSimpArgs false

/-! ### matrix_Pick: function 16 -/
def matrix_Pick.l0 : Nat → List (List Int) → List (List Int) → List Int → Int → Int → Option ((List (List Int)) × Int)
  | 0, _, _, _, _, _ => none
  | k + 1, x0, x7, x23, x24, x25 => if x25 < x24 then (if 0 ≤ x25 then (if x25 < (x23.length : Int) then (if (rd x23 x25) < 0 then (some (([] : List (List Int)), 5)) else (if (rd x23 x25) ≥ (x0.length : Int) then (some (([] : List (List Int)), 5)) else (if 0 ≤ (rd x23 x25) then (if (rd x23 x25) < (x0.length : Int) then ((slices_Clone_byte_byte.f (rd_L1 x0 (rd x23 x25))).bind fun t141 => (if x7.length < 5864062014805 then (matrix_Pick.l0 k x0 (x7 ++ [t141]) x23 x24 (wrap64 (x25 + 1))) else (none))) else (none)) else (none)))) else (none)) else (none)) else (some (x7, 0))
def matrix_Pick.f (k : Nat) (l0 : List (List Int)) (l1 : List Int) : Option ((List (List Int)) × Int) := (matrix_Check.f l0).bind fun t138 => (if t138 = 0 then (if (l1.length : Int) > 32 then (some (([] : List (List Int)), 3)) else (if (l1.length : Int) = 0 then (some (([] : List (List Int)), 2)) else (matrix_Pick.l0 k l0 ([] : List (List Int)) l1 (l1.length : Int) 0))) else (some (([] : List (List Int)), t138)))
theorem matrix_Pick.mono_l : ∀ k, (∀ y0 y1 y2 y3 y4, LeO (matrix_Pick.l0 k y0 y1 y2 y3 y4) (matrix_Pick.l0 (k + 1) y0 y1 y2 y3 y4))
  | 0 => fun _ _ _ _ _ r h => by simp [matrix_Pick.l0] at h
  | k + 1 => by
    have ih0 := matrix_Pick.mono_l k
    · intro y0 y1 y2 y3 y4
      unfold matrix_Pick.l0
      repeat' first
      | (with_reducible exact ih0 _ _ _ _ _)
      | (with_reducible exact LeO.refl _)
      | (with_reducible exact LeO.none _)
      | (with_reducible refine LeO.ite ?_ ?_)
      | (with_reducible refine LeO.bind ?_ (fun _ => ?_))
      | exact ih0 _ _ _ _ _
      | exact LeO.none _
      | refine LeO.ite ?_ ?_
      | refine LeO.bind ?_ (fun _ => ?_)
theorem matrix_Pick.mono : ∀ a0 a1 k, LeO (matrix_Pick.f k a0 a1) (matrix_Pick.f (k + 1) a0 a1) := by
  intro a0 a1 k
  have ih0 := matrix_Pick.mono_l k
  unfold matrix_Pick.f
  repeat' first
      | (with_reducible exact ih0 _ _ _ _ _)
      | (with_reducible exact LeO.refl _)
      | (with_reducible exact LeO.none _)
      | (with_reducible refine LeO.ite ?_ ?_)
      | (with_reducible refine LeO.bind ?_ (fun _ => ?_))
      | exact ih0 _ _ _ _ _
      | exact LeO.none _
      | refine LeO.ite ?_ ?_
      | refine LeO.bind ?_ (fun _ => ?_)
set_option maxHeartbeats 8000000 in
set_option maxRecDepth 100000 in
theorem matrix_Pick.calls (k : Nat) (A0 : Option Addr) (c0 : Nat) (l0 : List (List Int)) (A1 : Option Addr) (c1 : Nat) (l1 : List Int) (r1 : List (List Int)) (r2 : Int) (w : World) (hr0 : Kd.C (Kd.slice 5 (Kd.int .u8)) w A0 l0.length l0) (hc0 : l0.length ≤ c0) (hr1 : Kd.C (Kd.int .i64) w A1 l1.length l1) (hc1 : l1.length ≤ c1) (h : matrix_Pick.f k l0 l1 = some (r1, r2)) :
    Calls Try.prog 16 #[.slice A0 l0.length c0, .slice A1 l1.length c1] w fun e w' => ∃ v0_ : Value, e = .returned (.tuple #[v0_, .int .i64 r2]) ∧ Kd.S (Kd.slice 5 (Kd.int .u8)) 41 w' w.heap.size (fun _ => True) v0_ r1 ∧ Below w.heap.size w w' := by
  have HR0 := Aside0.mk hr0
  have HC0 := Aside0.mk hc0
  clear hr0 hc0
  have HR1 := Aside0.mk hr1
  have HC1 := Aside0.mk hc1
  clear hr1 hc1
  have HB := Aside0.mk (Below.refl w.heap.size w)
  have H : ((matrix_Check.f l0).bind fun t138 => (if t138 = 0 then (if (l1.length : Int) > 32 then (some (([] : List (List Int)), 3)) else (if (l1.length : Int) = 0 then (some (([] : List (List Int)), 2)) else (matrix_Pick.l0 k l0 ([] : List (List Int)) l1 (l1.length : Int) 0))) else (some (([] : List (List Int)), t138)))) = some (r1, r2) := h
  clear h
  replace H := Option.bind_eq_some_iff.mp H
  obtain ⟨t138, A30, H⟩ := H
  replace H : (if t138 = 0 then (if (l1.length : Int) > 32 then (some (([] : List (List Int)), 3)) else (if (l1.length : Int) = 0 then (some (([] : List (List Int)), 2)) else (matrix_Pick.l0 k l0 ([] : List (List Int)) l1 (l1.length : Int) 0))) else (some (([] : List (List Int)), t138))) = some (r1, r2) := H
  have A3 := Aside0.mk A30
  clear A30
  by_cases c4 : t138 = 0
  · rw [if_pos c4] at H
    have c4b0 : (t138 == 0) = true := beq_iff_eq.mpr c4
    have c4b1 : (t138 != 0) = false := bne_eq_false_iff_eq.mpr c4
    clear c4
    by_cases c5 : (l1.length : Int) > 32
    · rw [if_pos c5] at H
      have c5b0 : decide (32 < (l1.length : Int)) = true := decide_eq_true c5
      have c5b1 : decide (32 < l1.length) = true := decide_eq_true (by omega)
      clear c5
      simp only [Option.some.injEq, Prod.mk.injEq] at H
      obtain ⟨rfl, rfl⟩ := H
      go_enter Try.func16, Try.ntmps16
      go_wp2_with (first | ((with_reducible refine gate_callee (f := 33) rfl ?_); refine goesL_ (some 11) rfl rfl Try.func33 (by kernel_rfl) rfl #[.slice A0 l0.length c0] rfl (by (try simp only [List.map_toArray, List.map_cons, List.map_nil]); first | done | rfl | (simp only [List.length_drop, List.length_take]; rfl)) ?_; (with_reducible refine (matrix_Check.calls _ _ l0 t138 _ ?side1 ?side2 A3.out).mono ?_); (case side1 => repeat (first | exact HR0.out | (with_reducible refine Kd.C_alloc ?_ _) | (with_reducible refine Kd.C_drewN ?_ _) | (with_reducible refine Kd.C_drew ?_))); (case side2 => exact HC0.out); rintro e w6 ⟨rfl, hb⟩; refine ⟨_, rfl, ?_⟩; have n0_ := Aside0.mk (below_step (by repeat (first | (with_reducible first | exact HB.out | apply below_alloc | apply pw_below_drewN | apply below_drew1) | exact HB.out)) hb); clear HB; have HB := n0_; clear n0_; (try clear hb); (try clear hb2); (try clear hk); (try clear hi)))
      go_ret2
      exact ⟨_, by first | rfl | (simp [errW_none, errW_some] <;> rfl) | (simp [*, errW_none, errW_some] <;> rfl), by first | exact Kd.S_nil _ _ _ _ _ | exact Kd.N_nil _ _ _ _ _ | exact Kd.V_nil _ _ _ _ _ | exact Kd.Q_nil _ _ _ _ _ | exact Kd.R_nil _ _ _ _ _, by repeat (first | (with_reducible first | exact HB.out | apply below_alloc | apply pw_below_drewN | apply below_drew1) | exact HB.out)⟩
    · rw [if_neg c5] at H
      have c5b0 : decide (32 < (l1.length : Int)) = false := decide_eq_false c5
      have c5b1 : decide (32 < l1.length) = false := decide_eq_false (by omega)
      clear c5
      by_cases c7 : (l1.length : Int) = 0
      · rw [if_pos c7] at H
        have c7b0 : ((l1.length : Int) == 0) = true := beq_iff_eq.mpr c7
        have c7b1 : ((l1.length : Int) != 0) = false := bne_eq_false_iff_eq.mpr c7
        clear c7
        simp only [Option.some.injEq, Prod.mk.injEq] at H
        obtain ⟨rfl, rfl⟩ := H
        go_enter Try.func16, Try.ntmps16
        go_wp2_with (first | ((with_reducible refine gate_callee (f := 33) rfl ?_); refine goesL_ (some 11) rfl rfl Try.func33 (by kernel_rfl) rfl #[.slice A0 l0.length c0] rfl (by (try simp only [List.map_toArray, List.map_cons, List.map_nil]); first | done | rfl | (simp only [List.length_drop, List.length_take]; rfl)) ?_; (with_reducible refine (matrix_Check.calls _ _ l0 t138 _ ?side1 ?side2 A3.out).mono ?_); (case side1 => repeat (first | exact HR0.out | (with_reducible refine Kd.C_alloc ?_ _) | (with_reducible refine Kd.C_drewN ?_ _) | (with_reducible refine Kd.C_drew ?_))); (case side2 => exact HC0.out); rintro e w8 ⟨rfl, hb⟩; refine ⟨_, rfl, ?_⟩; have n0_ := Aside0.mk (below_step (by repeat (first | (with_reducible first | exact HB.out | apply below_alloc | apply pw_below_drewN | apply below_drew1) | exact HB.out)) hb); clear HB; have HB := n0_; clear n0_; (try clear hb); (try clear hb2); (try clear hk); (try clear hi)))
        go_ret2
        exact ⟨_, by first | rfl | (simp [errW_none, errW_some] <;> rfl) | (simp [*, errW_none, errW_some] <;> rfl), by first | exact Kd.S_nil _ _ _ _ _ | exact Kd.N_nil _ _ _ _ _ | exact Kd.V_nil _ _ _ _ _ | exact Kd.Q_nil _ _ _ _ _ | exact Kd.R_nil _ _ _ _ _, by repeat (first | (with_reducible first | exact HB.out | apply below_alloc | apply pw_below_drewN | apply below_drew1) | exact HB.out)⟩
      · rw [if_neg c7] at H
        have c7b0 : ((l1.length : Int) == 0) = false := beq_eq_false_iff_ne.mpr c7
        have c7b1 : ((l1.length : Int) != 0) = true := bne_iff_ne.mpr c7
        have c7b2 : ¬ (l1 = []) := fun h_ => c7 (by rw [h_]; rfl)
        have H' := Aside0.mk H
        clear H
        go_enter Try.func16, Try.ntmps16
        go_wp2_with (first | ((with_reducible refine gate_callee (f := 33) rfl ?_); refine goesL_ (some 11) rfl rfl Try.func33 (by kernel_rfl) rfl #[.slice A0 l0.length c0] rfl (by (try simp only [List.map_toArray, List.map_cons, List.map_nil]); first | done | rfl | (simp only [List.length_drop, List.length_take]; rfl)) ?_; (with_reducible refine (matrix_Check.calls _ _ l0 t138 _ ?side1 ?side2 A3.out).mono ?_); (case side1 => repeat (first | exact HR0.out | (with_reducible refine Kd.C_alloc ?_ _) | (with_reducible refine Kd.C_drewN ?_ _) | (with_reducible refine Kd.C_drew ?_))); (case side2 => exact HC0.out); rintro e w9 ⟨rfl, hb⟩; refine ⟨_, rfl, ?_⟩; have n0_ := Aside0.mk (below_step (by repeat (first | (with_reducible first | exact HB.out | apply below_alloc | apply pw_below_drewN | apply below_drew1) | exact HB.out)) hb); clear HB; have HB := n0_; clear n0_; (try clear hb); (try clear hb2); (try clear hk); (try clear hi)))
        go_loopg [7, 25] k (fun kq v7 v25 w' => ∃ (x7_1 : List (List Int)) (x25_1 : Int), v25 = .int .i64 x25_1 ∧ Aside0 (matrix_Pick.l0 kq l0 x7_1 l1 (l1.length : Int) x25_1 = some (r1, r2)) ∧ Aside0 (kq ≤ k) ∧ Aside0 (Kd.S (Kd.slice 5 (Kd.int .u8)) 41 w' w.heap.size (fun _ => True) v7 x7_1) ∧ Aside0 (Below w.heap.size w w'))
        case atStart => exact ⟨(([] : List (List Int))), (0), (by first | rfl | (simp; done) | (simp [*]; done)), H', ⟨Nat.le_refl _⟩, ⟨by first | exact Kd.S_nil _ _ _ _ _ | exact Kd.N_nil _ _ _ _ _ | exact Kd.V_nil _ _ _ _ _ | exact Kd.Q_nil _ _ _ _ _ | exact Kd.R_nil _ _ _ _ _⟩, ⟨by repeat (first | (with_reducible first | exact HB.out | apply below_alloc | apply pw_below_drewN | apply below_drew1) | exact HB.out)⟩⟩
        case round =>
          clear H'
          try clear c1
          try clear p2
          try clear c3
          try clear c4
          try clear c4b0
          try clear c4b1
          try clear c5
          try clear c5b0
          try clear c5b1
          try clear c7
          try clear c7b0
          try clear c7b1
          try clear c7b2
          obtain ⟨x7_1, x25_1, rfl, HA, HK1, HO_7, HB⟩ := hrel
          cases gk with
          | zero => exact absurd HA.out (by simp [matrix_Pick.l0])
          | succ k1 =>
            have H := HA.out
            clear HA
            simp only [matrix_Pick.l0] at H
            by_cases c10 : x25_1 < (l1.length : Int)
            · rw [if_pos c10] at H
              have c10b0 : decide (x25_1 < (l1.length : Int)) = true := decide_eq_true c10
              clear c10
              by_cases c11 : 0 ≤ x25_1
              · rw [if_pos c11] at H
                have c11b0 : decide (0 ≤ x25_1) = true := decide_eq_true c11
                clear c11
                by_cases c12 : x25_1 < (l1.length : Int)
                · rw [if_pos c12] at H
                  have c12b0 : decide (x25_1 < (l1.length : Int)) = true := decide_eq_true c12
                  clear c12
                  by_cases c13 : (rd l1 x25_1) < 0
                  · rw [if_pos c13] at H
                    have c13b0 : decide ((rd l1 x25_1) < 0) = true := decide_eq_true c13
                    clear c13
                    simp only [Option.some.injEq, Prod.mk.injEq] at H
                    obtain ⟨rfl, rfl⟩ := H
                    have p139 : 0 ≤ (x25_1 : Int) := of_decide_eq_true (by first | (with_reducible assumption) | assumption)
                    have q139 : x25_1 < (l1.length : Int) := of_decide_eq_true (by first | (with_reducible assumption) | assumption)
                    obtain ⟨ad139, e139, hx139_0⟩ := Kd.at_int HR1.out x25_1 p139 q139
                    cases e139
                    replace hx139_0 := (HB.out.cell (World.block_lt_of_cell? w _ hx139_0)).trans hx139_0
                    replace p139 := eq_true p139
                    replace q139 := eq_true q139
                    go_wp2
                    go_ret2
                    exact ⟨_, by first | rfl | (simp [errW_none, errW_some] <;> rfl) | (simp [*, errW_none, errW_some] <;> rfl), by first | exact Kd.S_nil _ _ _ _ _ | exact Kd.N_nil _ _ _ _ _ | exact Kd.V_nil _ _ _ _ _ | exact Kd.Q_nil _ _ _ _ _ | exact Kd.R_nil _ _ _ _ _, by repeat (first | (with_reducible first | exact HB.out | apply below_alloc | apply pw_below_drewN | apply below_drew1) | exact HB.out)⟩
                  · rw [if_neg c13] at H
                    have c13b0 : decide ((rd l1 x25_1) < 0) = false := decide_eq_false c13
                    clear c13
                    by_cases c14 : (rd l1 x25_1) ≥ (l0.length : Int)
                    · rw [if_pos c14] at H
                      have c14b0 : decide ((l0.length : Int) ≤ (rd l1 x25_1)) = true := decide_eq_true c14
                      clear c14
                      simp only [Option.some.injEq, Prod.mk.injEq] at H
                      obtain ⟨rfl, rfl⟩ := H
                      have p139 : 0 ≤ (x25_1 : Int) := of_decide_eq_true (by first | (with_reducible assumption) | assumption)
                      have q139 : x25_1 < (l1.length : Int) := of_decide_eq_true (by first | (with_reducible assumption) | assumption)
                      obtain ⟨ad139, e139, hx139_0⟩ := Kd.at_int HR1.out x25_1 p139 q139
                      cases e139
                      replace hx139_0 := (HB.out.cell (World.block_lt_of_cell? w _ hx139_0)).trans hx139_0
                      replace p139 := eq_true p139
                      replace q139 := eq_true q139
                      go_wp2
                      go_ret2
                      exact ⟨_, by first | rfl | (simp [errW_none, errW_some] <;> rfl) | (simp [*, errW_none, errW_some] <;> rfl), by first | exact Kd.S_nil _ _ _ _ _ | exact Kd.N_nil _ _ _ _ _ | exact Kd.V_nil _ _ _ _ _ | exact Kd.Q_nil _ _ _ _ _ | exact Kd.R_nil _ _ _ _ _, by repeat (first | (with_reducible first | exact HB.out | apply below_alloc | apply pw_below_drewN | apply below_drew1) | exact HB.out)⟩
                    · rw [if_neg c14] at H
                      have c14b0 : decide ((l0.length : Int) ≤ (rd l1 x25_1)) = false := decide_eq_false c14
                      clear c14
                      by_cases c15 : 0 ≤ (rd l1 x25_1)
                      · rw [if_pos c15] at H
                        have c15b0 : decide (0 ≤ (rd l1 x25_1)) = true := decide_eq_true c15
                        clear c15
                        by_cases c16 : (rd l1 x25_1) < (l0.length : Int)
                        · rw [if_pos c16] at H
                          have c16b0 : decide ((rd l1 x25_1) < (l0.length : Int)) = true := decide_eq_true c16
                          clear c16
                          replace H := Option.bind_eq_some_iff.mp H
                          obtain ⟨t141, A170, H⟩ := H
                          replace H : (if x7_1.length < 5864062014805 then (matrix_Pick.l0 k1 l0 (x7_1 ++ [t141]) l1 (l1.length : Int) (wrap64 (x25_1 + 1))) else (none)) = some (r1, r2) := H
                          have A17 := Aside0.mk A170
                          clear A170
                          by_cases c18 : x7_1.length < 5864062014805
                          · rw [if_pos c18] at H
                            have LMc18 := Aside0.mk c18
                            clear c18
                            obtain ⟨y144, hy144⟩ : ∃ y_ : List (List Int), y_ = (x7_1 ++ [t141]) := ⟨_, rfl⟩
                            replace H : (matrix_Pick.l0 k1 l0 y144 l1 (l1.length : Int) (wrap64 (x25_1 + 1))) = some (r1, r2) := by first | (rw [hy144]; with_reducible exact H) | (have H2_ := (Option.bind_some _ _).symm.trans H; rw [hy144]; with_reducible exact H2_) | (have H2_ := (Option.bind_some _ _).symm.trans H; with_reducible exact H2_) | with_reducible exact H | (rw [hy144]; exact H) | exact H
                            have Ny144 := Aside0.mk hy144
                            clear hy144
                            have H' := Aside0.mk H
                            clear H
                            have p139 : 0 ≤ (x25_1 : Int) := of_decide_eq_true (by first | (with_reducible assumption) | assumption)
                            have q139 : x25_1 < (l1.length : Int) := of_decide_eq_true (by first | (with_reducible assumption) | assumption)
                            obtain ⟨ad139, e139, hx139_0⟩ := Kd.at_int HR1.out x25_1 p139 q139
                            cases e139
                            replace hx139_0 := (HB.out.cell (World.block_lt_of_cell? w _ hx139_0)).trans hx139_0
                            replace p139 := eq_true p139
                            replace q139 := eq_true q139
                            have p140 : 0 ≤ ((rd l1 x25_1) : Int) := of_decide_eq_true (by first | (with_reducible assumption) | assumption)
                            have q140 : (rd l1 x25_1) < (l0.length : Int) := of_decide_eq_true (by first | (with_reducible assumption) | assumption)
                            obtain ⟨ad140, A140_0, c140_0, e140, hx140_0, hl140_0, hi140_0⟩ := at_L1 HR0.out (rd l1 x25_1) p140 q140
                            cases e140
                            replace hx140_0 := (HB.out.cell (World.block_lt_of_cell? w _ hx140_0)).trans hx140_0
                            have HR140_0 := Aside0.mk hi140_0
                            have HC140_0 := Aside0.mk hl140_0
                            clear hi140_0 hl140_0
                            replace p140 := eq_true p140
                            replace q140 := eq_true q140
                            go_wp2_with (first | ((with_reducible refine gate_callee (f := 58) rfl ?_); refine goesL_ (some 42) rfl rfl Try.func58 (by kernel_rfl) rfl #[.slice A140_0 (rd_L1 l0 (rd l1 x25_1)).length c140_0] rfl (by (try simp only [List.map_toArray, List.map_cons, List.map_nil]); first | done | rfl | (simp only [List.length_drop, List.length_take]; rfl)) ?_; (with_reducible refine (slices_Clone_byte_byte.calls _ _ (rd_L1 l0 (rd l1 x25_1)) t141 _ ?side1 ?side2 A17.out).mono ?_); (case side1 => repeat (first | exact (Kd.C_below HR140_0.out HB.out) | (with_reducible refine Kd.C_alloc ?_ _) | (with_reducible refine Kd.C_drewN ?_ _) | (with_reducible refine Kd.C_drew ?_))); (case side2 => exact HC140_0.out); rintro e w19 ⟨v142, rfl, ho0, hb⟩; refine ⟨_, rfl, ?_⟩; have n0_ := Aside0.mk (Kd.S_elder' (by (with_reducible repeat (first | apply Kd.S_alloc | apply Kd.S_drewN | apply Kd.S_drew)); exact HO_7.out) (Kd.R_base ho0) hb); have n1_ := Aside0.mk (Kd.R_lower ho0 (below_size (by repeat (first | (with_reducible first | exact HB.out | apply below_alloc | apply pw_below_drewN | apply below_drew1) | exact HB.out)))); have n2_ := Aside0.mk (below_step (by repeat (first | (with_reducible first | exact HB.out | apply below_alloc | apply pw_below_drewN | apply below_drew1) | exact HB.out)) hb); clear HO_7; clear HB; have HO_7 := n0_; have HO143 := n1_; have HB := n2_; clear n0_ n1_ n2_; (try clear hb); (try clear hb2); (try clear hk); (try clear hi); (try clear ho0); obtain ⟨Ao21, co21, eo21⟩ := Kd.R_slice HO143.out; subst eo21) | ((with_reducible refine gate_builtin (b := .append) (xs := #[.tmp 37, .tmp 43]) rfl ?_); (try (refine gate_guard (by rfl) ?_; dsimp only)); at_builtin; refine Kd.S_append (Kd.slice 5 (Kd.int .u8)) (w0 := w) w.heap.size rfl (.tmp 37) (.tmp 43) 22 41 (.slice none 0 0) 24 rfl Try.underlying22 info41 rfl (by decide) (by omega) u7 x7_1 t141 [.slice Ao21 t141.length co21] (fun _ => True) (fun k_ => some k_ = (.slice Ao21 t141.length co21 : Value).ownBlock) rfl rfl ?aP (fun k_ hk_ => ((Kd.R_mono (ok' := fun k_ => ((fun _ => True)) k_ ∧ some k_ ≠ (u7 : Value).ownBlock) (Kd.R_apart' (HO143.out) (Kd.S_typed HO_7.out) (by decide)) (fun k_ hk => ⟨trivial, hk.2⟩))).1 k_ hk_.symm) ?aF ?aO ?aB ?aS ?aL ?_; (case aP => exact Kd.M_row (Kd.R_mono (Kd.R_tight rfl (Kd.R_mono (ok' := fun k_ => ((fun _ => True)) k_ ∧ some k_ ≠ (u7 : Value).ownBlock) (Kd.R_apart' (HO143.out) (Kd.S_typed HO_7.out) (by decide)) (fun k_ hk => ⟨trivial, hk.2⟩))) (fun _ h_ => h_))); (case aB => exact (by repeat (first | (with_reducible first | exact HB.out | apply below_alloc | apply pw_below_drewN | apply below_drew1) | exact HB.out))); (case aF => exact (fun _ _ => trivial)); (case aO => exact (by (with_reducible repeat (first | apply Kd.S_alloc | apply Kd.S_drewN | apply Kd.S_drew)); exact Kd.S_mono HO_7.out (fun k_ hk => ⟨trivial, fun e_ => hk.2 e_⟩))); (case aS => exact (below_size (by repeat (first | (with_reducible first | exact HB.out | apply below_alloc | apply pw_below_drewN | apply below_drew1) | exact HB.out)))); (case aL => have := LMc18.out; omega); intro v145 w20 ho hb hg hat; rw [← Ny144.out] at ho; have n0_ := Aside0.mk (hb); have n1_ := Aside0.mk (ho); clear HB; clear HO_7; clear HO143; have HB := n0_; have HO146 := n1_; clear n0_ n1_; clear ho hb hg hat))
                            go_roundg k1
                            case measure => have := HK1.out; omega
                            case rel => exact ⟨(y144), (wrap64 (x25_1 + 1)), (by first | rfl | (simp; done) | (simp [*]; done)), H', ⟨by have := HK1.out; omega⟩, ⟨by (with_reducible repeat (first | apply Kd.S_alloc | apply Kd.S_drewN | apply Kd.S_drew)); exact HO146.out⟩, ⟨by repeat (first | (with_reducible first | exact HB.out | apply below_alloc | apply pw_below_drewN | apply below_drew1) | exact HB.out)⟩⟩
                          · rw [if_neg c18] at H
                            exact absurd H (by simp)
                        · rw [if_neg c16] at H
                          exact absurd H (by simp)
                      · rw [if_neg c15] at H
                        exact absurd H (by simp)
                · rw [if_neg c12] at H
                  exact absurd H (by simp)
              · rw [if_neg c11] at H
                exact absurd H (by simp)
            · rw [if_neg c10] at H
              have c10b0 : decide (x25_1 < (l1.length : Int)) = false := decide_eq_false c10
              clear c10
              simp only [Option.some.injEq, Prod.mk.injEq] at H
              obtain ⟨rfl, rfl⟩ := H
              go_wp2
              go_ret2
              exact ⟨_, by first | rfl | (simp [errW_none, errW_some] <;> rfl) | (simp [*, errW_none, errW_some] <;> rfl), by (with_reducible repeat (first | apply Kd.S_alloc | apply Kd.S_drewN | apply Kd.S_drew)); exact HO_7.out, by repeat (first | (with_reducible first | exact HB.out | apply below_alloc | apply pw_below_drewN | apply below_drew1) | exact HB.out)⟩
  · rw [if_neg c4] at H
    have c4b0 : (t138 == 0) = false := beq_eq_false_iff_ne.mpr c4
    have c4b1 : (t138 != 0) = true := bne_iff_ne.mpr c4
    simp only [Option.some.injEq, Prod.mk.injEq] at H
    obtain ⟨rfl, rfl⟩ := H
    go_enter Try.func16, Try.ntmps16
    go_wp2_with (first | ((with_reducible refine gate_callee (f := 33) rfl ?_); refine goesL_ (some 11) rfl rfl Try.func33 (by kernel_rfl) rfl #[.slice A0 l0.length c0] rfl (by (try simp only [List.map_toArray, List.map_cons, List.map_nil]); first | done | rfl | (simp only [List.length_drop, List.length_take]; rfl)) ?_; (with_reducible refine (matrix_Check.calls _ _ l0 t138 _ ?side1 ?side2 A3.out).mono ?_); (case side1 => repeat (first | exact HR0.out | (with_reducible refine Kd.C_alloc ?_ _) | (with_reducible refine Kd.C_drewN ?_ _) | (with_reducible refine Kd.C_drew ?_))); (case side2 => exact HC0.out); rintro e w22 ⟨rfl, hb⟩; refine ⟨_, rfl, ?_⟩; have n0_ := Aside0.mk (below_step (by repeat (first | (with_reducible first | exact HB.out | apply below_alloc | apply pw_below_drewN | apply below_drew1) | exact HB.out)) hb); clear HB; have HB := n0_; clear n0_; (try clear hb); (try clear hb2); (try clear hk); (try clear hi)))
    go_ret2
    exact ⟨_, by first | rfl | (simp [errW_none, errW_some] <;> rfl) | (simp [*, errW_none, errW_some] <;> rfl), by first | exact Kd.S_nil _ _ _ _ _ | exact Kd.N_nil _ _ _ _ _ | exact Kd.V_nil _ _ _ _ _ | exact Kd.Q_nil _ _ _ _ _ | exact Kd.R_nil _ _ _ _ _, by repeat (first | (with_reducible first | exact HB.out | apply below_alloc | apply pw_below_drewN | apply below_drew1) | exact HB.out)⟩

end Go.Proofs.Ythmlimkmcofkfaa.P
