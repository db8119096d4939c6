/- StripeAny: any k shards tell the bytes and all other shards, of any bytes of at most 1,000, any k and m that may be, any choice of k, or of more, shards. (Part 4 of 8.) -/
import Derived.Deep.RegionWith
import Derived.Deep.RegionHeld3
import Derived.Deep.RegionLaw
import Derived.Deep.AppendLies
import Derived.Outline
import Derived.Test.YthmlimkmcofkfaaProg
import Derived.Below
import Derived.Deep.Draws
import Derived.Maps.AppendAt
import Derived.OwnWalk
import Derived.Laws.BytesArg
import Derived.Laws.MakeOwn
import Derived.Laws.OwnMore
import Derived.Deep.OwnRows
import Derived.Tactics
import Derived.Lib.ConvBytes
import Derived.Laws.Slices
import Derived.WalkKit
import Derived.KernelRfl
import Derived.RowKit3
import Derived.Deep.LoopGhost
import Derived.Deep.QuietTactic
import Derived.BigQuiet
import Derived.WideLaws
import Derived.Deep.DeepCutAuto
import Derived.Deep.CutBlock
import Derived.Laws.Rows
import Derived.Lib.AppendStr
import Derived.ArgAppend
import Derived.Laws.IdiomCopy
import Derived.OrdersHeld
import Derived.Laws.BitsLemmas
import Derived.RowKit
import Derived.Test.YthmlimkmcofkfaaWWords
import Derived.Test.YthmlimkmcofkfaaWLast
import Derived.Test.YthmlimkmcofkfaaWTab
import Derived.Test.YthmlimkmcofkfaaWFour
import Derived.Test.YthmlimkmcofkfaaWQPut
import Derived.Test.YthmlimkmcofkfaaWApart
import Derived.Test.YthmlimkmcofkfaaWArr
import Derived.Test.YthmlimkmcofkfaaWZeros
import Derived.Test.YthmlimkmcofkfaaWFoot
import Derived.Test.YthmlimkmcofkfaaWKept
import Derived.Test.YthmlimkmcofkfaaWShare
import Derived.Test.YthmlimkmcofkfaaWN
import Derived.Test.YthmlimkmcofkfaaWFootNe
import Derived.Test.YthmlimkmcofkfaaWAt
import Derived.Test.YthmlimkmcofkfaaWEqStruct
import Derived.Test.YthmlimkmcofkfaaWRepsOne
import Derived.Test.YthmlimkmcofkfaaWInv
import Derived.Test.YthmlimkmcofkfaaWInvWords
import Derived.Test.YthmlimkmcofkfaaWGuard
import Derived.Test.YthmlimkmcofkfaaWNEv
import Derived.Test.YthmlimkmcofkfaaWMore
import Derived.Test.YthmlimkmcofkfaaMAny3x1
import Derived.Test.YthmlimkmcofkfaaMAny3x2
/- The contract of stripe.data. (Printed by a program of this session, and turned by hand.) -/
namespace Go.Proofs.Ythmlimkmcofkfaa.E
open Go.RowKit Go.Proofs.YthmlimkmcofkfaaW.PrintWords Go.Proofs.YthmlimkmcofkfaaW.PrintLast Go.Proofs.YthmlimkmcofkfaaW.PrintMore
attribute [local go_sem] max2_int min2_int max_two min_two max_three min_three max_four min_four   -- for this text's walks alone
open Go.Proofs.Ythmlimkmcofkfaa.B
set_option linter.unusedVariables false
set_option linter.unusedSimpArgs false

/-! ### stripe_data: function 82 -/
mutual
def stripe_data.j1 : Nat → Int → Int → Int → List Int → List (List Int) → Option ((List (List Int)) × Bool)
  | 0, _, _, _, _, _ => none
  | k + 1, x2, x3, x4, x12, x13 => if (x12.length : Int) < x2 then (some (([] : List (List Int)), false)) else ((matrix_Code.f k x2 x3).bind fun bt149 => ((P.matrix_Pick.f k bt149.1 x12).bind fun bt153 => ((matrix_Invert.f bt153.1).bind fun bt157 => (stripe_data.l1 k x4 x13 ([] : List (List Int)) bt157.1 (bt157.1.length : Int) 0))))
def stripe_data.l1 : Nat → Int → List (List Int) → List (List Int) → List (List Int) → Int → Int → Option ((List (List Int)) × Bool)
  | 0, _, _, _, _, _, _ => none
  | k + 1, x4, x13, x22, x70, x71, x72 => if x72 < x71 then (if 0 ≤ x72 then (if x72 < (x70.length : Int) then ((stripe_apply.f (rd_L1 x70 x72) x13 x4).bind fun t162 => (if x22.length < 5864062014805 then (stripe_data.l1 k x4 x13 (x22 ++ [t162]) x70 x71 (wrap64 (x72 + 1))) else (none))) else (none)) else (none)) else (some (x22, true))
def stripe_data.l0 : Nat → List (List Int) → Int → Int → Int → List Int → List (List Int) → List Bool → Int → Int → Option ((List (List Int)) × Bool)
  | 0, _, _, _, _, _, _, _, _, _ => none
  | k + 1, x0, x2, x3, x4, x12, x13, x25, x26, x27 => if x27 < x26 then (if 0 ≤ x27 then (if x27 < (x25.length : Int) then (if (x12.length : Int) = x2 then (stripe_data.j1 k x2 x3 x4 x12 x13) else (if rdOf false x25 x27 = true then (if x12.length < 17592186044416 then (if x27 < (x0.length : Int) then (if x13.length < 5864062014805 then (stripe_data.l0 k x0 x2 x3 x4 (x12 ++ [x27]) (x13 ++ [rd_L1 x0 x27]) x25 x26 (wrap64 (x27 + 1))) else (none)) else (none)) else (none)) else (stripe_data.l0 k x0 x2 x3 x4 x12 x13 x25 x26 (wrap64 (x27 + 1))))) else (none)) else (none)) else (stripe_data.j1 k x2 x3 x4 x12 x13)
end
def stripe_data.f (k : Nat) (l0 : List (List Int)) (l1 : List Bool) (a2 : Int) (a3 : Int) (a4 : Int) : Option ((List (List Int)) × Bool) := stripe_data.l0 k l0 a2 a3 a4 ([] : List Int) ([] : List (List Int)) l1 (l1.length : Int) 0
theorem stripe_data.mono_l : ∀ k, (∀ y0 y1 y2 y3 y4, LeO (stripe_data.j1 k y0 y1 y2 y3 y4) (stripe_data.j1 (k + 1) y0 y1 y2 y3 y4)) ∧ (∀ y0 y1 y2 y3 y4 y5, LeO (stripe_data.l1 k y0 y1 y2 y3 y4 y5) (stripe_data.l1 (k + 1) y0 y1 y2 y3 y4 y5)) ∧ (∀ y0 y1 y2 y3 y4 y5 y6 y7 y8, LeO (stripe_data.l0 k y0 y1 y2 y3 y4 y5 y6 y7 y8) (stripe_data.l0 (k + 1) y0 y1 y2 y3 y4 y5 y6 y7 y8))
  | 0 => ⟨fun _ _ _ _ _ r h => by simp [stripe_data.j1] at h, fun _ _ _ _ _ _ r h => by simp [stripe_data.l1] at h, fun _ _ _ _ _ _ _ _ _ r h => by simp [stripe_data.l0] at h⟩
  | k + 1 => by
    obtain ⟨ih0, ih1, ih2⟩ := stripe_data.mono_l k
    refine ⟨?_, ?_, ?_⟩
    · intro y0 y1 y2 y3 y4
      unfold stripe_data.j1
      repeat' first
      | (with_reducible exact ih0 _ _ _ _ _)
      | (with_reducible exact ih1 _ _ _ _ _ _)
      | (with_reducible exact ih2 _ _ _ _ _ _ _ _ _)
      | (with_reducible exact matrix_Code.mono _ _ _)
      | (with_reducible exact P.matrix_Pick.mono _ _ _)
      | (with_reducible exact LeO.refl _)
      | (with_reducible exact LeO.none _)
      | (with_reducible refine LeO.ite ?_ ?_)
      | (with_reducible refine LeO.bind ?_ (fun _ => ?_))
      | exact ih0 _ _ _ _ _
      | exact ih1 _ _ _ _ _ _
      | exact ih2 _ _ _ _ _ _ _ _ _
      | exact matrix_Code.mono _ _ _
      | exact P.matrix_Pick.mono _ _ _
      | exact LeO.none _
      | refine LeO.ite ?_ ?_
      | refine LeO.bind ?_ (fun _ => ?_)
    · intro y0 y1 y2 y3 y4 y5
      unfold stripe_data.l1
      repeat' first
      | (with_reducible exact ih0 _ _ _ _ _)
      | (with_reducible exact ih1 _ _ _ _ _ _)
      | (with_reducible exact ih2 _ _ _ _ _ _ _ _ _)
      | (with_reducible exact matrix_Code.mono _ _ _)
      | (with_reducible exact P.matrix_Pick.mono _ _ _)
      | (with_reducible exact LeO.refl _)
      | (with_reducible exact LeO.none _)
      | (with_reducible refine LeO.ite ?_ ?_)
      | (with_reducible refine LeO.bind ?_ (fun _ => ?_))
      | exact ih0 _ _ _ _ _
      | exact ih1 _ _ _ _ _ _
      | exact ih2 _ _ _ _ _ _ _ _ _
      | exact matrix_Code.mono _ _ _
      | exact P.matrix_Pick.mono _ _ _
      | exact LeO.none _
      | refine LeO.ite ?_ ?_
      | refine LeO.bind ?_ (fun _ => ?_)
    · intro y0 y1 y2 y3 y4 y5 y6 y7 y8
      unfold stripe_data.l0
      repeat' first
      | (with_reducible exact ih0 _ _ _ _ _)
      | (with_reducible exact ih1 _ _ _ _ _ _)
      | (with_reducible exact ih2 _ _ _ _ _ _ _ _ _)
      | (with_reducible exact matrix_Code.mono _ _ _)
      | (with_reducible exact P.matrix_Pick.mono _ _ _)
      | (with_reducible exact LeO.refl _)
      | (with_reducible exact LeO.none _)
      | (with_reducible refine LeO.ite ?_ ?_)
      | (with_reducible refine LeO.bind ?_ (fun _ => ?_))
      | exact ih0 _ _ _ _ _
      | exact ih1 _ _ _ _ _ _
      | exact ih2 _ _ _ _ _ _ _ _ _
      | exact matrix_Code.mono _ _ _
      | exact P.matrix_Pick.mono _ _ _
      | exact LeO.none _
      | refine LeO.ite ?_ ?_
      | refine LeO.bind ?_ (fun _ => ?_)
theorem stripe_data.mono : ∀ a0 a1 a2 a3 a4 k, LeO (stripe_data.f k a0 a1 a2 a3 a4) (stripe_data.f (k + 1) a0 a1 a2 a3 a4) := by
  intro a0 a1 a2 a3 a4 k
  obtain ⟨ih0, ih1, ih2⟩ := stripe_data.mono_l k
  unfold stripe_data.f
  repeat' first
      | (with_reducible exact ih0 _ _ _ _ _)
      | (with_reducible exact ih1 _ _ _ _ _ _)
      | (with_reducible exact ih2 _ _ _ _ _ _ _ _ _)
      | (with_reducible exact matrix_Code.mono _ _ _)
      | (with_reducible exact P.matrix_Pick.mono _ _ _)
      | (with_reducible exact LeO.refl _)
      | (with_reducible exact LeO.none _)
      | (with_reducible refine LeO.ite ?_ ?_)
      | (with_reducible refine LeO.bind ?_ (fun _ => ?_))
      | exact ih0 _ _ _ _ _
      | exact ih1 _ _ _ _ _ _
      | exact ih2 _ _ _ _ _ _ _ _ _
      | exact matrix_Code.mono _ _ _
      | exact P.matrix_Pick.mono _ _ _
      | exact LeO.none _
      | refine LeO.ite ?_ ?_
      | refine LeO.bind ?_ (fun _ => ?_)
theorem block_new_ (w : World) (o : Obj) : (w.alloc o).heap[w.heap.size]? = some o := by unfold World.alloc; simp
theorem after46 {W w1 : World} {v12 v13 v : Value} {b g : Nat} {ad : Option Addr} {n c : Nat} (hg : W.grownBy w1 v12.ownBlock) (hc : W.cell? ⟨b, 0, none⟩ = some (.slice ad n c)) (h12 : ∀ k, v12.ownBlock = some k → k < g) (h13 : ∀ k, v13.ownBlock = some k → k < g) (hgb : g ≤ b) (hat : v.ownBlock = v12.ownBlock ∨ ∃ b_, v.ownBlock = some b_ ∧ W.heap.size ≤ b_) :
    w1.cell? ⟨b, 0, none⟩ = some (.slice ad n c) ∧ Aside0 (some b ≠ v.ownBlock ∧ some b ≠ v13.ownBlock) := by
  have hk := World.block_lt_of_cell? W _ hc
  refine ⟨(cell_same (hg.block b hk (fun e => by have := h12 _ e.symm; omega))).trans hc, ⟨⟨fun e => ?_, fun e => by have := h13 _ e.symm; omega⟩⟩⟩
  rcases hat with hq | ⟨b_, hq, hb_⟩
  · have := h12 _ (hq.symm.trans e.symm); omega
  · rw [hq] at e; injection e with e; simp at hk; omega
set_option maxHeartbeats 2000000 in
set_option maxRecDepth 100000 in
theorem stripe_data.calls (k : Nat) (A0 : Option Addr) (c0 : Nat) (l0 : List (List Int)) (A1 : Option Addr) (c1 : Nat) (l1 : List Bool) (a2 : Int) (a3 : Int) (a4 : Int) (r1 : List (List Int)) (r2 : Bool) (w : World) (hr0 : Kd.C (Kd.slice 5 (Kd.int .u8)) w A0 l0.length l0) (hc0 : l0.length ≤ c0) (hr1 : Kd.C Kd.bool w A1 l1.length l1) (hc1 : l1.length ≤ c1) (h : stripe_data.f k l0 l1 a2 a3 a4 = some (r1, r2)) :
    Calls Try.prog 82 #[.slice A0 l0.length c0, .slice A1 l1.length c1, .int .i64 a2, .int .i64 a3, .int .i64 a4] w fun e w' => ∃ v0_ : Value, e = .returned (.tuple #[v0_, .bool r2]) ∧ Kd.S (Kd.slice 5 (Kd.int .u8)) 41 w' w.heap.size (fun _ => True) v0_ r1 ∧ Below w.heap.size w w' := by
  have HR0 := Aside0.mk hr0
  have HC0 := Aside0.mk hc0
  have HR1 := Aside0.mk hr1
  have HC1 := Aside0.mk hc1
  clear hr0 hc0 hr1 hc1
  have HB := Aside0.mk (Below.refl w.heap.size w)
  have H : (stripe_data.l0 k l0 a2 a3 a4 ([] : List Int) ([] : List (List Int)) l1 (l1.length : Int) 0) = some (r1, r2) := h
  clear h
  have HC6 := Aside0.mk H
  clear H
  go_enter Try.func82, Try.ntmps82
  go_wp2
  go_step3
  go_wp2
  go_step3
  go_upto_block 0 with (fail)
  go_cut [12, 13] (fun v12 v13 wc => ∃ (kq : Nat) (x12_5 : List Int) (x13_5 : List (List Int)), Aside0 (stripe_data.j1 kq a2 a3 a4 x12_5 x13_5 = some (r1, r2)) ∧ Aside0 (kq ≤ k) ∧ Aside0 (Kd.R (Kd.int .i64) 3 wc w.heap.size (fun _ => True) v12 x12_5) ∧ Aside0 (Kd.N (Kd.slice 5 (Kd.int .u8)) 41 wc w.heap.size (fun k_ => True ∧ some k_ ≠ (v12 : Value).ownBlock) v13 x13_5) ∧ Aside0 (Below w.heap.size w wc))
  case first =>
    have H := HC6.out
    clear HC6
    have H' := Aside0.mk H
    clear H
    go_wp2
    go_loopg [12, 13, 27] k (fun kq v12 v13 v27 w' => ∃ (x12_1 : List Int) (x13_1 : List (List Int)) (x27_1 : Int), v27 = .int .i64 x27_1 ∧ Aside0 (stripe_data.l0 kq l0 a2 a3 a4 x12_1 x13_1 l1 (l1.length : Int) x27_1 = some (r1, r2)) ∧ Aside0 (kq ≤ k) ∧ Aside0 (Kd.R (Kd.int .i64) 3 w' w.heap.size (fun _ => True) v12 x12_1) ∧ Aside0 (Kd.N (Kd.slice 5 (Kd.int .u8)) 41 w' w.heap.size (fun k_ => True ∧ some k_ ≠ (v12 : Value).ownBlock) v13 x13_1) ∧ Aside0 (Below w.heap.size w w'))
    case atStart => exact ⟨(([] : List Int)), (([] : List (List Int))), (0), rfl, H', ⟨Nat.le_refl _⟩, ⟨Kd.R_nil _ _ _ _ _⟩, ⟨Kd.N_mono (Kd.N_nil _ _ _ _ (fun _ => False)) (fun _ h => h.elim)⟩, HB⟩
    case round =>
      clear H'
      obtain ⟨x12_1, x13_1, x27_1, rfl, HA, HK1, HO_12, HO_13, HB⟩ := hrel
      cases gk with
      | zero => exact absurd HA.out (by simp [stripe_data.l0])
      | succ k1 =>
        have H := HA.out
        clear HA
        simp only [stripe_data.l0] at H
        by_cases c7 : x27_1 < (l1.length : Int)
        · rw [if_pos c7] at H
          have c7b0 : decide (x27_1 < (l1.length : Int)) = true := decide_eq_true c7
          by_cases c8 : 0 ≤ x27_1
          · rw [if_pos c8, if_pos c7] at H
            have c8b0 : decide (0 ≤ x27_1) = true := decide_eq_true c8
            obtain ⟨ad141, e141, hx141_0⟩ := Kd.at_bool HR1.out x27_1 c8 c7
            obtain ⟨bq12, hbq12⟩ : ∃ b_ : Bool, b_ = (rdOf false l1 x27_1) := ⟨_, rfl⟩
            rw [← hbq12] at hx141_0 H
            have Nbq12 := Aside0.mk hbq12
            clear hbq12
            cases e141
            have hx141 := (HB.out.cell (World.block_lt_of_cell? w _ hx141_0)).trans hx141_0
            clear hx141_0
            have p141 := eq_true c8
            have q141 := eq_true c7
            obtain ⟨Ao11, co11, eo11⟩ := Kd.R_slice HO_12.out
            subst eo11
            by_cases c10 : (x12_1.length : Int) = a2
            · rw [if_pos c10] at H
              have c10b0 : ((x12_1.length : Int) == a2) = true := beq_iff_eq.mpr c10
              have c10b1 : ((x12_1.length : Int) != a2) = false := bne_eq_false_iff_eq.mpr c10
              clear c10
              have H' := Aside0.mk H
              clear H c7 c8
              go_wp2
              go_meet
              case rel => exact ⟨_, (x12_1), (x13_1), H', ⟨by have := HK1.out; omega⟩, HO_12, HO_13, HB⟩
            · rw [if_neg c10] at H
              have c10b0 : ((x12_1.length : Int) == a2) = false := beq_eq_false_iff_ne.mpr c10
              have c10b1 : ((x12_1.length : Int) != a2) = true := bne_iff_ne.mpr c10
              clear c10
              by_cases c13 : bq12 = true
              · subst c13
                rw [if_pos rfl] at H
                by_cases c14 : x12_1.length < 17592186044416
                · rw [if_pos c14] at H
                  by_cases c15 : x27_1 < (l0.length : Int)
                  · rw [if_pos c15] at H
                    have c15b0 : decide (x27_1 < (l0.length : Int)) = true := decide_eq_true c15
                    by_cases c16 : x13_1.length < 5864062014805
                    · rw [if_pos c16] at H
                      have LMc14 := Aside0.mk c14
                      have LMc16 := Aside0.mk c16
                      obtain ⟨ad145, A145_0, c145_0, e145, hx145_0, hl145_0, hi145_0⟩ := at_L1 HR0.out x27_1 c8 c15
                      cases e145
                      have HXW := Aside0.mk hx145_0
                      have hx145 := (HB.out.cell (World.block_lt_of_cell? w _ hx145_0)).trans hx145_0
                      have hx145d : wr.drew.cell? (ad145.add x27_1.toNat) = some (.slice A145_0 (rd_L1 l0 x27_1).length c145_0) := hx145
                      have hxa0 : (wr.alloc (Obj.cells #[Value.int IntKind.i64 x27_1] 3)).cell? (ad145.add x27_1.toNat) = some (.slice A145_0 (rd_L1 l0 x27_1).length c145_0) := ((below_alloc (Below.refl wr.heap.size wr) _).cell (World.block_lt_of_cell? wr _ hx145)).trans hx145
                      have hxa1 : (wr.alloc (Obj.cells #[Value.int IntKind.i64 x27_1] 3)).drew.cell? (ad145.add x27_1.toNat) = some (.slice A145_0 (rd_L1 l0 x27_1).length c145_0) := hxa0
                      have hxa2 : (wr.alloc (Obj.cells #[Value.int IntKind.i64 x27_1] 3)).drew.drew.cell? (ad145.add x27_1.toNat) = some (.slice A145_0 (rd_L1 l0 x27_1).length c145_0) := hxa0
                      have hcA : (wr.alloc (Obj.cells #[Value.int IntKind.i64 x27_1] 3)).cell? ⟨wr.heap.size, 0, none⟩ = some (.int .i64 x27_1) := cell_of_blk (block_new_ wr _) 0
                      have hcB : ((wr.alloc (Obj.cells #[Value.int IntKind.i64 x27_1] 3)).alloc (Obj.cells #[Value.slice A145_0 (rd_L1 l0 x27_1).length c145_0] 41)).cell? ⟨wr.heap.size, 0, none⟩ = some (.int .i64 x27_1) := ((below_alloc (Below.refl (wr.alloc (Obj.cells #[Value.int IntKind.i64 x27_1] 3)).heap.size _) _).cell (World.block_lt_of_cell? _ _ hcA)).trans hcA
                      have hcB46 : ((wr.alloc (Obj.cells #[Value.int IntKind.i64 x27_1] 3)).alloc (Obj.cells #[Value.slice A145_0 (rd_L1 l0 x27_1).length c145_0] 41)).cell? ⟨wr.heap.size + 1, 0, none⟩ = some (.slice A145_0 (rd_L1 l0 x27_1).length c145_0) := by have := cell_of_blk (block_new_ (wr.alloc (Obj.cells #[Value.int IntKind.i64 x27_1] 3)) (Obj.cells #[Value.slice A145_0 (rd_L1 l0 x27_1).length c145_0] 41)) 0; rw [World.size_alloc] at this; exact this
                      have hcC46' : (wr.alloc (Obj.cells #[Value.slice A145_0 (rd_L1 l0 x27_1).length c145_0] 41)).cell? ⟨wr.heap.size, 0, none⟩ = some (.slice A145_0 (rd_L1 l0 x27_1).length c145_0) := cell_of_blk (block_new_ wr _) 0
                      have hcC46 : ((wr.alloc (Obj.cells #[Value.slice A145_0 (rd_L1 l0 x27_1).length c145_0] 41)).alloc (Obj.cells #[Value.int IntKind.i64 x27_1] 3)).cell? ⟨wr.heap.size, 0, none⟩ = some (.slice A145_0 (rd_L1 l0 x27_1).length c145_0) := ((below_alloc (Below.refl (wr.alloc (Obj.cells #[Value.slice A145_0 (rd_L1 l0 x27_1).length c145_0] 41)).heap.size _) _).cell (World.block_lt_of_cell? _ _ hcC46')).trans hcC46'
                      have hcC : ((wr.alloc (Obj.cells #[Value.slice A145_0 (rd_L1 l0 x27_1).length c145_0] 41)).alloc (Obj.cells #[Value.int IntKind.i64 x27_1] 3)).cell? ⟨wr.heap.size + 1, 0, none⟩ = some (.int .i64 x27_1) := by have := cell_of_blk (block_new_ (wr.alloc (Obj.cells #[Value.slice A145_0 (rd_L1 l0 x27_1).length c145_0] 41)) (Obj.cells #[Value.int IntKind.i64 x27_1] 3)) 0; rw [World.size_alloc] at this; exact this
                      have HL := Aside0.mk hl145_0
                      have HI := Aside0.mk hi145_0
                      have q145 := eq_true c15
                      have H' := Aside0.mk H
                      clear H c7 c8 c14 c15 c16 hx145_0 hl145_0 hi145_0
                      go_wp2
                      go_region_law (first
                        | (refine Kd.R_append_rows_step (Kd.int .i64) (w0 := w) w.heap.size ?hw (.tmp 37) (.tmp 39) 23 3 (.int .i64 0) 8 ?ho Try.underlying23 P.info3 rfl (by decide) (by omega) (.slice Ao11 x12_1.length co11) x12_1 [x27_1] (some ⟨wr.heap.size + 1, 0, none⟩) 1 1 (fun _ => True) (fun _ => False) ?hs ?hx ?HO (one_C ?hcell) (fun _ _ h => h) (fun _ hk => hk.elim) (fun _ _ => trivial) ?HB ?hb ?hl ?_; (case hw => simp [Region.wanted]); (case ho => rfl); (case hs => rfl); (case hx => rfl); (case hcell => first | exact hcA | exact hcB | exact hcC); (case HO => exact (by (with_reducible repeat (first | apply Kd.R_alloc | apply Kd.R_drewN | apply Kd.R_drew)); exact HO_12.out)); (case HB => exact (by (with_reducible repeat (first | apply below_alloc | apply below_drew)); exact HB.out)); (case hb => exact below_size (by (with_reducible repeat (first | apply below_alloc | apply below_drew)); exact HB.out)); (case hl => have := LMc14.out; omega); intro v143 w18 ho hb hg hat; have n1_ := Aside0.mk (Kd.N_afterv (ok := (fun _ => True)) (by (with_reducible repeat (first | apply Kd.N_alloc | apply Kd.N_drewN | apply Kd.N_drew)); exact HO_13.out) hg hat); have hx18 := (hb.cell (World.block_lt_of_cell? w _ HXW.out)).trans HXW.out; (first | (have h4_ : w18.cell? ⟨wr.heap.size + 1, 0, none⟩ = some (.slice A145_0 (rd_L1 l0 x27_1).length c145_0) ∧ Aside0 (some (wr.heap.size + 1) ≠ (v143 : Value).ownBlock ∧ some (wr.heap.size + 1) ≠ (u13 : Value).ownBlock) := after46 hg hcB46 (Kd.R_lt HO_12.out) (Kd.N_lt HO_13.out) (by simp) hat; obtain ⟨h46, HNE⟩ := h4_) | (have h4_ : w18.cell? ⟨wr.heap.size, 0, none⟩ = some (.slice A145_0 (rd_L1 l0 x27_1).length c145_0) ∧ Aside0 (some (wr.heap.size) ≠ (v143 : Value).ownBlock ∧ some (wr.heap.size) ≠ (u13 : Value).ownBlock) := after46 hg hcC46 (Kd.R_lt HO_12.out) (Kd.N_lt HO_13.out) (by simp) hat; obtain ⟨h46, HNE⟩ := h4_) | skip); clear HO_12 HO_13 HB; have HO_12 := Aside0.mk ho; have HO_13 := n1_; have HB := Aside0.mk hb; clear n1_ ho hb hg hat; (try clear hx145 hx145d hxa0 hxa1 hxa2))
                        | (refine Kd.N_append_rows_step (Kd.slice 5 (Kd.int .u8)) (w0 := w) w.heap.size ?hw (.tmp 41) (.tmp 46) 22 41 (.slice none 0 0) 24 ?ho Try.underlying22 info41 rfl (by decide) (by omega) u13 x13_1 [rd_L1 l0 x27_1] (some ⟨w18.heap.size, 0, none⟩) 1 1 (fun k_ => True ∧ some k_ ≠ (v143 : Value).ownBlock) (fun k_ => (True ∧ some k_ ≠ (v143 : Value).ownBlock) ∧ some k_ ≠ (u13 : Value).ownBlock) ?hs ?hx ?HO (one_F ?hcell HL.out HI.out ?hbf ?hok ?hob) (fun _ hk => hk) ?hf ?HB ?hb ?hl ?_; (case hw => simp [Region.wanted]); (case ho => rfl); (case hs => rfl); (case hx => rfl); (case hcell => first | exact h46 | exact cell_of_blk (block_new_ _ _) 0); (case hbf => exact (by (with_reducible repeat (first | apply below_alloc | apply below_drew)); exact HB.out)); (case hok => exact fun k_ hk_ => ⟨⟨trivial, fun e_ => by have := Kd.R_base HO_12.out k_ e_.symm; omega⟩, fun e_ => by have := Kd.N_base HO_13.out k_ e_.symm; omega⟩); (case hob => first | exact ⟨⟨trivial, HNE.out.1⟩, HNE.out.2⟩ | exact ⟨⟨trivial, fun e_ => Nat.lt_irrefl _ (Kd.R_lt HO_12.out _ e_.symm)⟩, fun e_ => Nat.lt_irrefl _ (Kd.N_lt HO_13.out _ e_.symm)⟩); (case HO => exact (by (with_reducible repeat (first | apply Kd.N_alloc | apply Kd.N_drewN | apply Kd.N_drew)); exact HO_13.out)); (case HB => exact (by (with_reducible repeat (first | apply below_alloc | apply below_drew)); exact HB.out)); (case hb => exact below_size (by (with_reducible repeat (first | apply below_alloc | apply below_drew)); exact HB.out)); (case hl => have := LMc16.out; omega); (case hf => exact fun k_ hk => ⟨trivial, Kd.fresh' (Kd.R_lt (by (with_reducible repeat (first | apply Kd.R_alloc | apply Kd.R_drewN | apply Kd.R_drew)); exact HO_12.out)) k_ hk⟩); intro v147 w19 ho hb hg hat; have n1_ := Aside0.mk (Kd.R_over' (by (with_reducible repeat (first | apply Kd.R_alloc | apply Kd.R_drewN | apply Kd.R_drew)); exact HO_12.out) (Kd.N_typed (by (with_reducible repeat (first | apply Kd.N_alloc | apply Kd.N_drewN | apply Kd.N_drew)); exact HO_13.out)) (by decide) hg); clear HO_12 HO_13 HB; have HO_12 := n1_; have HO_13 := Aside0.mk ho; have HB := Aside0.mk hb; clear n1_ ho hb hg hat; (try clear hx18); (try clear h46 HNE))
                        | (refine Kd.N_append_rows_step (Kd.slice 5 (Kd.int .u8)) (w0 := w) w.heap.size ?hw (.tmp 41) (.tmp 46) 22 41 (.slice none 0 0) 24 ?ho Try.underlying22 info41 rfl (by decide) (by omega) u13 x13_1 [rd_L1 l0 x27_1] (some ⟨wr.heap.size, 0, none⟩) 1 1 (fun k_ => True ∧ some k_ ≠ (v143 : Value).ownBlock) (fun k_ => (True ∧ some k_ ≠ (v143 : Value).ownBlock) ∧ some k_ ≠ (u13 : Value).ownBlock) ?hs ?hx ?HO (one_F ?hcell HL.out HI.out ?hbf ?hok ?hob) (fun _ hk => hk) ?hf ?HB ?hb ?hl ?_; (case hw => simp [Region.wanted]); (case ho => rfl); (case hs => rfl); (case hx => rfl); (case hcell => first | exact h46 | exact cell_of_blk (block_new_ _ _) 0); (case hbf => exact (by (with_reducible repeat (first | apply below_alloc | apply below_drew)); exact HB.out)); (case hok => exact fun k_ hk_ => ⟨⟨trivial, fun e_ => by have := Kd.R_base HO_12.out k_ e_.symm; omega⟩, fun e_ => by have := Kd.N_base HO_13.out k_ e_.symm; omega⟩); (case hob => first | exact ⟨⟨trivial, HNE.out.1⟩, HNE.out.2⟩ | exact ⟨⟨trivial, fun e_ => Nat.lt_irrefl _ (Kd.R_lt HO_12.out _ e_.symm)⟩, fun e_ => Nat.lt_irrefl _ (Kd.N_lt HO_13.out _ e_.symm)⟩); (case HO => exact (by (with_reducible repeat (first | apply Kd.N_alloc | apply Kd.N_drewN | apply Kd.N_drew)); exact HO_13.out)); (case HB => exact (by (with_reducible repeat (first | apply below_alloc | apply below_drew)); exact HB.out)); (case hb => exact below_size (by (with_reducible repeat (first | apply below_alloc | apply below_drew)); exact HB.out)); (case hl => have := LMc16.out; omega); (case hf => exact fun k_ hk => ⟨trivial, Kd.fresh' (Kd.R_lt (by (with_reducible repeat (first | apply Kd.R_alloc | apply Kd.R_drewN | apply Kd.R_drew)); exact HO_12.out)) k_ hk⟩); intro v147 w19 ho hb hg hat; have n1_ := Aside0.mk (Kd.R_over' (by (with_reducible repeat (first | apply Kd.R_alloc | apply Kd.R_drewN | apply Kd.R_drew)); exact HO_12.out) (Kd.N_typed (by (with_reducible repeat (first | apply Kd.N_alloc | apply Kd.N_drewN | apply Kd.N_drew)); exact HO_13.out)) (by decide) hg); clear HO_12 HO_13 HB; have HO_12 := n1_; have HO_13 := Aside0.mk ho; have HB := Aside0.mk hb; clear n1_ ho hb hg hat; (try clear hx18); (try clear h46 HNE))
                        | (refine Kd.N_append_rows_step (Kd.slice 5 (Kd.int .u8)) (w0 := w) w.heap.size ?hw (.tmp 41) (.tmp 46) 22 41 (.slice none 0 0) 24 ?ho Try.underlying22 info41 rfl (by decide) (by omega) u13 x13_1 [rd_L1 l0 x27_1] (some ⟨wr.heap.size + 1, 0, none⟩) 1 1 (fun k_ => True ∧ some k_ ≠ (v143 : Value).ownBlock) (fun k_ => (True ∧ some k_ ≠ (v143 : Value).ownBlock) ∧ some k_ ≠ (u13 : Value).ownBlock) ?hs ?hx ?HO (one_F ?hcell HL.out HI.out ?hbf ?hok ?hob) (fun _ hk => hk) ?hf ?HB ?hb ?hl ?_; (case hw => simp [Region.wanted]); (case ho => rfl); (case hs => rfl); (case hx => rfl); (case hcell => first | exact h46 | exact cell_of_blk (block_new_ _ _) 0); (case hbf => exact (by (with_reducible repeat (first | apply below_alloc | apply below_drew)); exact HB.out)); (case hok => exact fun k_ hk_ => ⟨⟨trivial, fun e_ => by have := Kd.R_base HO_12.out k_ e_.symm; omega⟩, fun e_ => by have := Kd.N_base HO_13.out k_ e_.symm; omega⟩); (case hob => first | exact ⟨⟨trivial, HNE.out.1⟩, HNE.out.2⟩ | exact ⟨⟨trivial, fun e_ => Nat.lt_irrefl _ (Kd.R_lt HO_12.out _ e_.symm)⟩, fun e_ => Nat.lt_irrefl _ (Kd.N_lt HO_13.out _ e_.symm)⟩); (case HO => exact (by (with_reducible repeat (first | apply Kd.N_alloc | apply Kd.N_drewN | apply Kd.N_drew)); exact HO_13.out)); (case HB => exact (by (with_reducible repeat (first | apply below_alloc | apply below_drew)); exact HB.out)); (case hb => exact below_size (by (with_reducible repeat (first | apply below_alloc | apply below_drew)); exact HB.out)); (case hl => have := LMc16.out; omega); (case hf => exact fun k_ hk => ⟨trivial, Kd.fresh' (Kd.R_lt (by (with_reducible repeat (first | apply Kd.R_alloc | apply Kd.R_drewN | apply Kd.R_drew)); exact HO_12.out)) k_ hk⟩); intro v147 w19 ho hb hg hat; have n1_ := Aside0.mk (Kd.R_over' (by (with_reducible repeat (first | apply Kd.R_alloc | apply Kd.R_drewN | apply Kd.R_drew)); exact HO_12.out) (Kd.N_typed (by (with_reducible repeat (first | apply Kd.N_alloc | apply Kd.N_drewN | apply Kd.N_drew)); exact HO_13.out)) (by decide) hg); clear HO_12 HO_13 HB; have HO_12 := n1_; have HO_13 := Aside0.mk ho; have HB := Aside0.mk hb; clear n1_ ho hb hg hat; (try clear hx18); (try clear h46 HNE))
                        | (refine Kd.R_append_rows_step (Kd.int .i64) (w0 := w) w.heap.size ?hw (.tmp 37) (.tmp 39) 23 3 (.int .i64 0) 8 ?ho Try.underlying23 P.info3 rfl (by decide) (by omega) (.slice Ao11 x12_1.length co11) x12_1 [x27_1] (some ⟨wr.heap.size, 0, none⟩) 1 1 (fun _ => True) (fun _ => False) ?hs ?hx ?HO (one_C ?hcell) (fun _ _ h => h) (fun _ hk => hk.elim) (fun _ _ => trivial) ?HB ?hb ?hl ?_; (case hw => simp [Region.wanted]); (case ho => rfl); (case hs => rfl); (case hx => rfl); (case hcell => first | exact hcA | exact hcB | exact hcC); (case HO => exact (by (with_reducible repeat (first | apply Kd.R_alloc | apply Kd.R_drewN | apply Kd.R_drew)); exact HO_12.out)); (case HB => exact (by (with_reducible repeat (first | apply below_alloc | apply below_drew)); exact HB.out)); (case hb => exact below_size (by (with_reducible repeat (first | apply below_alloc | apply below_drew)); exact HB.out)); (case hl => have := LMc14.out; omega); intro v143 w18 ho hb hg hat; have n1_ := Aside0.mk (Kd.N_afterv (ok := (fun _ => True)) (by (with_reducible repeat (first | apply Kd.N_alloc | apply Kd.N_drewN | apply Kd.N_drew)); exact HO_13.out) hg hat); have hx18 := (hb.cell (World.block_lt_of_cell? w _ HXW.out)).trans HXW.out; (first | (have h4_ : w18.cell? ⟨wr.heap.size + 1, 0, none⟩ = some (.slice A145_0 (rd_L1 l0 x27_1).length c145_0) ∧ Aside0 (some (wr.heap.size + 1) ≠ (v143 : Value).ownBlock ∧ some (wr.heap.size + 1) ≠ (u13 : Value).ownBlock) := after46 hg hcB46 (Kd.R_lt HO_12.out) (Kd.N_lt HO_13.out) (by simp) hat; obtain ⟨h46, HNE⟩ := h4_) | (have h4_ : w18.cell? ⟨wr.heap.size, 0, none⟩ = some (.slice A145_0 (rd_L1 l0 x27_1).length c145_0) ∧ Aside0 (some (wr.heap.size) ≠ (v143 : Value).ownBlock ∧ some (wr.heap.size) ≠ (u13 : Value).ownBlock) := after46 hg hcC46 (Kd.R_lt HO_12.out) (Kd.N_lt HO_13.out) (by simp) hat; obtain ⟨h46, HNE⟩ := h4_) | skip); clear HO_12 HO_13 HB; have HO_12 := Aside0.mk ho; have HO_13 := n1_; have HB := Aside0.mk hb; clear n1_ ho hb hg hat; (try clear hx145 hx145d hxa0 hxa1 hxa2)))
                      all_goals
                        go_wp2
                        go_roundg k1
                        case measure => have := HK1.out; omega
                        case rel => exact ⟨_, _, (wrap64 (x27_1 + 1)), (by first | rfl | (simp; done) | (simp [*]; done)), H', ⟨by have := HK1.out; omega⟩, HO_12, HO_13, HB⟩
                    · rw [if_neg c16] at H
                      exact absurd H (by simp)
                  · rw [if_neg c15] at H
                    exact absurd H (by simp)
                · rw [if_neg c14] at H
                  exact absurd H (by simp)
              · replace c13 := Bool.eq_false_iff.mpr c13
                subst c13
                rw [if_neg (show ¬ (false = true) by decide)] at H
                have H' := Aside0.mk H
                clear H c7 c8
                go_wp2
                go_roundg k1
                case measure => have := HK1.out; omega
                case rel => exact ⟨(x12_1), (x13_1), (wrap64 (x27_1 + 1)), (by first | rfl | (simp; done) | (simp [*]; done)), H', ⟨by have := HK1.out; omega⟩, HO_12, HO_13, HB⟩
          · rw [if_neg c8] at H
            exact absurd H (by simp)
        · rw [if_neg c7] at H
          have c7b0 : decide (x27_1 < (l1.length : Int)) = false := decide_eq_false c7
          clear c7
          have H' := Aside0.mk H
          clear H
          go_wp2
          go_meet
          case rel => exact ⟨_, (x12_1), (x13_1), H', ⟨by have := HK1.out; omega⟩, HO_12, HO_13, HB⟩
  case rest =>
    clear HC6
    rename_i hKK_
    obtain ⟨kq, x12_5, x13_5, HA, HJ5, HO_12, HO_13, HB⟩ := hcut
    cases kq with
    | zero => exact absurd HA.out (by simp [stripe_data.j1])
    | succ kj5 =>
      have H := HA.out
      clear HA
      simp only [stripe_data.j1] at H
      obtain ⟨Ao26, co26, eo26⟩ := Kd.R_slice HO_12.out
      subst eo26
      obtain ⟨Ao38, co38, eo38⟩ := Kd.N_slice HO_13.out
      subst eo38
      have HC12 := Aside0.mk (Kd.R_reads' HO_12.out).2.2
      have HL12 := Aside0.mk (Kd.R_reads' HO_12.out).2.1
      have HC13 := Aside0.mk (Kd.N_reads' HO_13.out).2.2
      have HL13 := Aside0.mk (Kd.N_reads' HO_13.out).2.1
      clear HO_12 HO_13
      by_cases c21 : (x12_5.length : Int) < a2
      · rw [if_pos c21] at H
        have c21b0 : decide ((x12_5.length : Int) < a2) = true := decide_eq_true c21
        clear c21
        simp only [Option.some.injEq, Prod.mk.injEq] at H
        obtain ⟨rfl, rfl⟩ := H
        refine hKK_ _ _ ?_
        go_wp2
        try rw [Exit.noGoto_ret]
        go_ret2
        exact ⟨_, by first | rfl | (simp [errW_none, errW_some] <;> rfl) | (simp [*, errW_none, errW_some] <;> rfl), Kd.S_nil _ _ _ _ _, (by repeat (first | (with_reducible first | exact HB.out | apply below_alloc | apply pw_below_drewN | apply below_drew1) | exact HB.out))⟩
      · rw [if_neg c21] at H
        have c21b0 : decide ((x12_5.length : Int) < a2) = false := decide_eq_false c21
        clear c21
        replace H := Option.bind_eq_some_iff.mp H
        obtain ⟨⟨t149, t150⟩, A230, H⟩ := H
        replace H : ((P.matrix_Pick.f kj5 t149 x12_5).bind fun bt153 => ((matrix_Invert.f bt153.1).bind fun bt157 => (stripe_data.l1 kj5 a4 x13_5 ([] : List (List Int)) bt157.1 (bt157.1.length : Int) 0))) = some (r1, r2) := H
        have A23 := Aside0.mk A230
        clear A230
        replace H := Option.bind_eq_some_iff.mp H
        obtain ⟨⟨t153, t154⟩, A240, H⟩ := H
        replace H : ((matrix_Invert.f t153).bind fun bt157 => (stripe_data.l1 kj5 a4 x13_5 ([] : List (List Int)) bt157.1 (bt157.1.length : Int) 0)) = some (r1, r2) := H
        have A24 := Aside0.mk A240
        clear A240
        replace H := Option.bind_eq_some_iff.mp H
        obtain ⟨⟨t157, t158⟩, A250, H⟩ := H
        replace H : (stripe_data.l1 kj5 a4 x13_5 ([] : List (List Int)) t157 (t157.length : Int) 0) = some (r1, r2) := H
        have A25 := Aside0.mk A250
        clear A250
        have H' := Aside0.mk H
        clear H
        refine hKK_ _ _ ?_
        go_wp2_with (first | ((with_reducible refine gate_callee (f := 20) rfl ?_); refine goesL_ (some 56) rfl rfl Try.func20 (by kernel_rfl) rfl #[.int .i64 a2, .int .i64 a3] rfl (by (try simp only [List.map_toArray, List.map_cons, List.map_nil]); first | done | rfl) ?_; (with_reducible refine (matrix_Code.calls kj5 a2 a3 t149 t150 _ A23.out).mono ?_); rintro e w27 ⟨v151, rfl, ho0, hb⟩; refine ⟨_, rfl, ?_⟩; have n0_ := Aside0.mk (Kd.C_below (by repeat (first | (with_reducible exact HC12.out) | (with_reducible refine Kd.C_alloc ?_ _) | (with_reducible refine Kd.C_drewN ?_ _) | (with_reducible refine Kd.C_drew ?_) | exact HC12.out)) hb); have n1_ := Aside0.mk (Kd.C_below (by repeat (first | (with_reducible exact HC13.out) | (with_reducible refine Kd.C_alloc ?_ _) | (with_reducible refine Kd.C_drewN ?_ _) | (with_reducible refine Kd.C_drew ?_) | exact HC13.out)) hb); have n3_ := Aside0.mk (below_step (by repeat (first | (with_reducible first | exact HB.out | apply below_alloc | apply pw_below_drewN | apply below_drew1) | exact HB.out)) hb); clear HC12 HC13 HB; have HC12 := n0_; have HC13 := n1_; have HB := n3_; clear n0_ n1_ n3_ hb; obtain ⟨Ao28, co28, eo28⟩ := Kd.S_slice ho0; subst eo28; have HCc := Aside0.mk (Kd.S_reads' ho0).2.2; have HLc := Aside0.mk (Kd.S_reads' ho0).2.1; clear ho0) | ((with_reducible refine gate_callee (f := 16) rfl ?_); refine goesL_ (some 62) rfl rfl Try.func16 (by kernel_rfl) rfl #[.slice Ao28 t149.length co28, .slice Ao26 x12_5.length co26] rfl (by (try simp only [List.map_toArray, List.map_cons, List.map_nil]); first | done | rfl) ?_; (with_reducible refine (P.matrix_Pick.calls kj5 _ _ t149 _ _ x12_5 t153 t154 _ ?side1 ?side2 ?side3 ?side4 A24.out).mono ?_); (case side1 => exact (by repeat (first | (with_reducible exact HCc.out) | (with_reducible refine Kd.C_alloc ?_ _) | (with_reducible refine Kd.C_drewN ?_ _) | (with_reducible refine Kd.C_drew ?_) | exact HCc.out))); (case side2 => exact HLc.out); (case side3 => exact (by repeat (first | (with_reducible exact HC12.out) | (with_reducible refine Kd.C_alloc ?_ _) | (with_reducible refine Kd.C_drewN ?_ _) | (with_reducible refine Kd.C_drew ?_) | exact HC12.out))); (case side4 => exact HL12.out); rintro e w29 ⟨v155, rfl, ho0, hb⟩; refine ⟨_, rfl, ?_⟩; have n1_ := Aside0.mk (Kd.C_below (by repeat (first | (with_reducible exact HC13.out) | (with_reducible refine Kd.C_alloc ?_ _) | (with_reducible refine Kd.C_drewN ?_ _) | (with_reducible refine Kd.C_drew ?_) | exact HC13.out)) hb); have n3_ := Aside0.mk (below_step (by repeat (first | (with_reducible first | exact HB.out | apply below_alloc | apply pw_below_drewN | apply below_drew1) | exact HB.out)) hb); clear HC12 HC13 HB HCc HLc HL12; have HC13 := n1_; have HB := n3_; clear n1_ n3_ hb; obtain ⟨Ao30, co30, eo30⟩ := Kd.S_slice ho0; subst eo30; have HCp := Aside0.mk (Kd.S_reads' ho0).2.2; have HLp := Aside0.mk (Kd.S_reads' ho0).2.1; clear ho0) | ((with_reducible refine gate_callee (f := 29) rfl ?_); refine goesL_ (some 67) rfl rfl Try.func29 (by kernel_rfl) rfl #[.slice Ao30 t153.length co30] rfl (by (try simp only [List.map_toArray, List.map_cons, List.map_nil]); first | done | rfl) ?_; (with_reducible refine (matrix_Invert.calls _ _ t153 t157 t158 _ ?side1 ?side2 A25.out).mono ?_); (case side1 => exact (by repeat (first | (with_reducible exact HCp.out) | (with_reducible refine Kd.C_alloc ?_ _) | (with_reducible refine Kd.C_drewN ?_ _) | (with_reducible refine Kd.C_drew ?_) | exact HCp.out))); (case side2 => exact HLp.out); rintro e w32 ⟨v159, rfl, ho0, hb⟩; refine ⟨_, rfl, ?_⟩; have n1_ := Aside0.mk (Kd.C_below (by repeat (first | (with_reducible exact HC13.out) | (with_reducible refine Kd.C_alloc ?_ _) | (with_reducible refine Kd.C_drewN ?_ _) | (with_reducible refine Kd.C_drew ?_) | exact HC13.out)) hb); have n3_ := Aside0.mk (below_step (by repeat (first | (with_reducible first | exact HB.out | apply below_alloc | apply pw_below_drewN | apply below_drew1) | exact HB.out)) hb); clear HC13 HB HCp HLp; have HC13 := n1_; have HB := n3_; clear n1_ n3_ hb; obtain ⟨Ao32, co32, eo32⟩ := Kd.S_slice ho0; subst eo32; have HCb := Aside0.mk (Kd.S_reads' ho0).2.2; have HLb := Aside0.mk (Kd.S_reads' ho0).2.1; clear ho0; have HK := Aside0.mk (Below.refl w32.heap.size w32)))
        go_loopg [22, 72] kj5 (fun kq v22 v72 w' => ∃ (x22 : List (List Int)) (x72 : Int), v72 = .int .i64 x72 ∧ Aside0 (stripe_data.l1 kq a4 x13_5 x22 t157 (t157.length : Int) x72 = some (r1, r2)) ∧ Aside0 (kq ≤ kj5) ∧ Aside0 (Kd.S (Kd.slice 5 (Kd.int .u8)) 41 w' w32.heap.size (fun _ => True) v22 x22) ∧ Aside0 (Below w32.heap.size w32 w'))
        case atStart => exact ⟨([] : List (List Int)), 0, rfl, H', ⟨Nat.le_refl _⟩, ⟨Kd.S_nil _ _ _ _ _⟩, HK⟩
        case round =>
          clear H' HK
          obtain ⟨x22, x72, rfl, HA, HK2, HO, HK⟩ := hrel
          cases gk with
          | zero => exact absurd HA.out (by simp [stripe_data.l1])
          | succ k2 =>
            have H := HA.out
            clear HA
            simp only [stripe_data.l1] at H
            by_cases c33 : x72 < (t157.length : Int)
            · rw [if_pos c33] at H
              have c33b0 : decide (x72 < (t157.length : Int)) = true := decide_eq_true c33
              by_cases c34 : 0 ≤ x72
              · rw [if_pos c34, if_pos c33] at H
                have c34b0 : decide (0 ≤ x72) = true := decide_eq_true c34
                replace H := Option.bind_eq_some_iff.mp H
                obtain ⟨t162, A360, H⟩ := H
                replace H : (if x22.length < 5864062014805 then (stripe_data.l1 k2 a4 x13_5 (x22 ++ [t162]) t157 (t157.length : Int) (wrap64 (x72 + 1))) else (none)) = some (r1, r2) := H
                have A36 := Aside0.mk A360
                clear A360
                by_cases c37 : x22.length < 5864062014805
                · rw [if_pos c37] at H
                  have LM := Aside0.mk c37
                  clear c37
                  obtain ⟨y165, hy165⟩ : ∃ y_ : List (List Int), y_ = (x22 ++ [t162]) := ⟨_, rfl⟩
                  rw [← hy165] at H
                  have Ny := Aside0.mk hy165
                  clear hy165
                  have H' := Aside0.mk H
                  clear H
                  obtain ⟨ad161, A161, c161, e161, hx161, hl161, hi161⟩ := at_L1 (Kd.C_below HCb.out HK.out) x72 c34 c33
                  cases e161
                  have HR161 := Aside0.mk hi161
                  have HL161 := Aside0.mk hl161
                  clear hi161 hl161
                  have p161 := eq_true c34
                  have q161 := eq_true c33
                  clear c33 c34
                  obtain ⟨Ao43, co43, eo43⟩ := Kd.S_slice HO.out
                  subst eo43
                  go_wp2_with (first | ((with_reducible refine gate_callee (f := 76) rfl ?_); refine goesL_ (some 80) rfl rfl Try.func76 (by kernel_rfl) rfl #[.slice A161 (rd_L1 t157 x72).length c161, .slice Ao38 x13_5.length co38, .int .i64 a4] rfl (by (try simp only [List.map_toArray, List.map_cons, List.map_nil]); first | done | rfl) ?_; (with_reducible refine (stripe_apply.calls _ _ (rd_L1 t157 x72) _ _ x13_5 a4 t162 _ ?side1 ?side2 ?side3 ?side4 A36.out).mono ?_); (case side1 => exact (by repeat (first | (with_reducible exact HR161.out) | (with_reducible refine Kd.C_alloc ?_ _) | (with_reducible refine Kd.C_drewN ?_ _) | (with_reducible refine Kd.C_drew ?_) | exact HR161.out))); (case side2 => exact HL161.out); (case side3 => exact (Kd.C_below HC13.out (by repeat (first | (with_reducible first | exact HK.out | apply below_alloc | apply pw_below_drewN | apply below_drew1) | exact HK.out)))); (case side4 => exact HL13.out); rintro e w44 ⟨v153, rfl, ho0, hb⟩; refine ⟨_, rfl, ?_⟩; have n0_ := Aside0.mk (Kd.S_elder' (by (with_reducible repeat (first | apply Kd.S_alloc | apply Kd.S_drewN | apply Kd.S_drew)); exact HO.out) (Kd.R_base ho0) hb); have n1_ := Aside0.mk (Kd.R_lower ho0 (below_size (by repeat (first | (with_reducible first | exact HK.out | apply below_alloc | apply pw_below_drewN | apply below_drew1) | exact HK.out)))); have n3_ := Aside0.mk (below_step (by repeat (first | (with_reducible first | exact HK.out | apply below_alloc | apply pw_below_drewN | apply below_drew1) | exact HK.out)) hb); clear HO HK; have HO := n0_; have HO154 := n1_; have HK := n3_; clear n0_ n1_ n3_ hb ho0; obtain ⟨Ao46, co46, eo46⟩ := Kd.R_slice HO154.out; subst eo46) | ((with_reducible refine gate_builtin (b := .append) (xs := #[.tmp 76, .tmp 81]) rfl ?_); at_builtin; refine Kd.S_append (Kd.slice 5 (Kd.int .u8)) (w0 := w32) w32.heap.size rfl (.tmp 76) (.tmp 81) 22 41 (.slice none 0 0) 24 rfl Try.underlying22 info41 rfl (by decide) (by omega) (.slice Ao43 x22.length co43) x22 t162 [.slice Ao46 t162.length co46] (fun _ => True) (fun k_ => some k_ = (.slice Ao46 t162.length co46 : Value).ownBlock) rfl rfl ?aP (fun k_ hk_ => ⟨trivial, (((Kd.R_mono (ok' := fun k_ => ((fun _ => True)) k_ ∧ some k_ ≠ (.slice Ao43 x22.length co43 : Value).ownBlock) (Kd.R_apart' (HO154.out) (Kd.S_typed HO.out) (by decide)) (fun k_ hk => ⟨trivial, hk.2⟩))).1 k_ hk_.symm).2⟩) (fun _ _ => trivial) ?aO ?aB ?aS ?aL ?_; (case aP => exact Kd.M_row (Kd.R_mono (Kd.R_tight rfl (Kd.R_mono (ok' := fun k_ => ((fun _ => True)) k_ ∧ some k_ ≠ (.slice Ao43 x22.length co43 : Value).ownBlock) (Kd.R_apart' (HO154.out) (Kd.S_typed HO.out) (by decide)) (fun k_ hk => ⟨trivial, hk.2⟩))) (fun _ h_ => h_))); (case aB => exact (by repeat (first | (with_reducible first | exact HK.out | apply below_alloc | apply pw_below_drewN | apply below_drew1) | exact HK.out))); (case aO => exact (by (with_reducible repeat (first | apply Kd.S_alloc | apply Kd.S_drewN | apply Kd.S_drew)); exact Kd.S_mono HO.out (fun k_ hk => ⟨trivial, fun e_ => hk.2 e_⟩))); (case aS => exact (below_size (by repeat (first | (with_reducible first | exact HK.out | apply below_alloc | apply pw_below_drewN | apply below_drew1) | exact HK.out)))); (case aL => have := LM.out; omega); intro v156 w45 ho hb hg hat; rw [← Ny.out] at ho; clear HK HO HO154; have HK := Aside0.mk hb; have HO := Aside0.mk ho; clear ho hb hg hat))
                  go_roundg k2
                  case measure => have := HJ5.out; have := HK2.out; omega
                  case rel => exact ⟨y165, (wrap64 (x72 + 1)), (by first | rfl | (simp; done) | (simp [*]; done)), H', ⟨by have := HJ5.out; have := HK2.out; omega⟩, HO, HK⟩
                · rw [if_neg c37] at H
                  exact absurd H (by simp)
              · rw [if_neg c34] at H
                exact absurd H (by simp)
            · rw [if_neg c33] at H
              have c33b0 : decide (x72 < (t157.length : Int)) = false := decide_eq_false c33
              clear c33
              simp only [Option.some.injEq, Prod.mk.injEq] at H
              obtain ⟨rfl, rfl⟩ := H
              go_wp2
              try rw [Exit.noGoto_ret]
              go_ret2
              exact ⟨_, by first | rfl | (simp [errW_none, errW_some] <;> rfl) | (simp [*, errW_none, errW_some] <;> rfl), Kd.S_lower HO.out HB.out.size, HB.out.trans (HK.out.mono HB.out.size)⟩

end Go.Proofs.Ythmlimkmcofkfaa.E

/- make([]T, 0, n). -/
namespace Go.Proofs.Ythmlimkmcofkfaa.E
open Go.RowKit Go.Proofs.YthmlimkmcofkfaaW.PrintWords Go.Proofs.YthmlimkmcofkfaaW.PrintLast Go.Proofs.YthmlimkmcofkfaaW.PrintMore Go.Proofs.Ythmlimkmcofkfaa.B
set_option linter.unusedVariables false
section
variable {P : Program} {ops : Array Oper} {rest : List Oper} {o : Oper} {a : Act} {Q : Exit → Act → World → Prop} {α : Type}
theorem R_make0 (d : Kd α) {w0 W : World} (base e : Nat) (hgd : o.guard = none) {N : Tmp} (hd : o.dst = some N) (t : TypeId) (x y : Operand) (ho : o.op = .makeSlice t x y) (n : Int) (hx : a.eval x = .int .i64 0) (hy : a.eval y = .int .i64 n)
    (ht : P.underlying t = some (.slice e)) (z : Value) (bytes : Nat) (hinfo : (P.info? e).map (fun i => (i.zero, i.size, i.bytes)) = some (some z, d.sz, bytes)) (hz : z.cells.size = d.sz) (hs0 : 0 < d.sz) (hb0 : 0 < bytes)
    (z0 : α) {ok okp : Nat → Prop} (hzero : d.M W base okp z0 z.cells.toList) (hok : ∀ k, okp k → ok k) (hfresh : ok W.heap.size) (h0 : 0 ≤ n) (hl : n.toNat * bytes ≤ 281474976710656) (HB : Below base w0 W) (hbase : base ≤ W.heap.size)
    (h : ∀ v1 w1, d.R e w1 base ok v1 [] → Below base w0 w1 → W.grownBy w1 none → (∃ b, v1.ownBlock = some b ∧ W.heap.size ≤ b) → wpList P ops Q rest (a.put o.dst v1) w1) : wpList P ops Q (o :: rest) a W := by
  obtain ⟨m, rfl⟩ := Int.eq_ofNat_of_zero_le h0
  simp only [Int.toNat_natCast] at hl
  obtain ⟨i0, hi, hzz⟩ := Option.map_eq_some_iff.1 hinfo
  simp only [Prod.mk.injEq] at hzz
  obtain ⟨hz0, hz1, hz2⟩ := hzz
  have hm : m ≤ 281474976710656 := Nat.le_trans (Nat.le_mul_of_pos_right _ hb0) hl
  have hr := run_make (P := P) W t e i0 z ht hi hz0 .i64 .i64 0 (m : Int) (by omega) (by omega)
    (by
      have h3 : ((i0.bytes * m : Nat) : Int) ≤ 281474976710656 := by rw [hz2, Nat.mul_comm]; omega
      rwa [Int.natCast_mul] at h3) (by omega)
  simp only [Int.toNat_natCast, Int.toNat_zero] at hr
  rw [hz1] at hr
  refine Kd.event_run hgd (v := .slice (some ⟨W.heap.size, 0, none⟩) 0 m) (w1 := W.alloc (.cells (madeCells z.cells (m * d.sz)) e)) (by simp [execOp, ho, hx, hy, hr]) (h _ _ ⟨fun k hk => ?_, [], ?_, Reps.none _ _⟩ (HB.alloc hbase _) (World.grownBy_alloc W _ none) ⟨W.heap.size, rfl, Nat.le_refl _⟩)
  · have : W.heap.size = k := by simpa [Value.ownBlock] using hk
    subst this; exact hfresh
  · exact World.ownsRow_made W _ m hbase (by simp only [maxLen]; omega) (size_madeCells _ _)
end
end Go.Proofs.Ythmlimkmcofkfaa.E

/- What the texts of the stripe laws stand on, together. -/

/- Contracts of functions of the program, written by a program of this session. -/
namespace Go.Proofs.Ythmlimkmcofkfaa.Q
open Go.RowKit Go.Proofs.YthmlimkmcofkfaaW.PrintWords Go.Proofs.YthmlimkmcofkfaaW.PrintLast Go.Proofs.YthmlimkmcofkfaaW.PrintMore
attribute [local go_sem] max2_int min2_int max_two min_two max_three min_three max_four min_four   -- for this text's walks alone
open Go.Proofs.Ythmlimkmcofkfaa.B Go.Proofs.Ythmlimkmcofkfaa.E
set_option linter.unusedVariables false
set_option linter.unusedSimpArgs false



def errW : Option Int → Value
  | none => .nilIface
  | some c => .iface 0 (.int .i64 c)
theorem errW_none : errW none = .nilIface := rfl
theorem errW_some (c : Int) : errW (some c) = .iface 0 (.int .i64 c) := rfl

theorem info4 : (Try.prog.info? 4).map (fun i => (i.zero, i.size, i.bytes)) = some (some (.bool false), 1, 1) := by kernel_rfl
theorem info5 : (Try.prog.info? 5).map (fun i => (i.zero, i.size, i.bytes)) = some (some (.int .u8 0), 1, 1) := by kernel_rfl
theorem info41 : (Try.prog.info? 41).map (fun i => (i.zero, i.size, i.bytes)) = some (some (.slice none 0 0), 1, 24) := by kernel_rfl
-- the values' own types
def rd_L1 (xs : List (List Int)) (i : Int) : (List Int) := xs.getD i.toNat ([] : List Int)
theorem at_L1 {w : World} {A : Option Addr} {n : Nat} {xs : List (List Int)} (h : Kd.C (Kd.slice 5 (Kd.int .u8)) w A n xs) (i : Int) (h0 : 0 ≤ i) (h1 : i < n) : ∃ ad A0 c0, A = some ad ∧ w.cell? (ad.add i.toNat) = some (.slice A0 (rd_L1 xs i).length c0) ∧ (rd_L1 xs i).length ≤ c0 ∧ (Kd.int .u8).C w A0 (rd_L1 xs i).length (rd_L1 xs i) := by
  obtain ⟨ad, c, e, _, hK, hc0⟩ := Kd.C_get h ([] : List Int) i h0 h1
  have hc : ∀ j u, c[j]? = some u → w.cell? (ad.add (i.toNat * 1 + j)) = some u := hc0
  obtain ⟨A0, c0, rfl, l0, g0⟩ := hK
  exact ⟨ad, A0, c0, e, by have hq := hc 0 _ rfl; rwa [Nat.mul_one, Nat.add_zero] at hq, l0, g0⟩

def rd_L2 (xs : List (List (List Int))) (i : Int) : (List (List Int)) := xs.getD i.toNat ([] : List (List Int))
theorem at_L2 {w : World} {A : Option Addr} {n : Nat} {xs : List (List (List Int))} (h : Kd.C (Kd.slice 41 (Kd.slice 5 (Kd.int .u8))) w A n xs) (i : Int) (h0 : 0 ≤ i) (h1 : i < n) : ∃ ad A0 c0, A = some ad ∧ w.cell? (ad.add i.toNat) = some (.slice A0 (rd_L2 xs i).length c0) ∧ (rd_L2 xs i).length ≤ c0 ∧ (Kd.slice 5 (Kd.int .u8)).C w A0 (rd_L2 xs i).length (rd_L2 xs i) := by
  obtain ⟨ad, c, e, _, hK, hc0⟩ := Kd.C_get h ([] : List (List Int)) i h0 h1
  have hc : ∀ j u, c[j]? = some u → w.cell? (ad.add (i.toNat * 1 + j)) = some u := hc0
  obtain ⟨A0, c0, rfl, l0, g0⟩ := hK
  exact ⟨ad, A0, c0, e, by have hq := hc 0 _ rfl; rwa [Nat.mul_one, Nat.add_zero] at hq, l0, g0⟩

def rd_L5 (xs : List (List Bool)) (i : Int) : (List Bool) := xs.getD i.toNat ([] : List Bool)
theorem at_L5 {w : World} {A : Option Addr} {n : Nat} {xs : List (List Bool)} (h : Kd.C (Kd.slice 4 Kd.bool) w A n xs) (i : Int) (h0 : 0 ≤ i) (h1 : i < n) : ∃ ad A0 c0, A = some ad ∧ w.cell? (ad.add i.toNat) = some (.slice A0 (rd_L5 xs i).length c0) ∧ (rd_L5 xs i).length ≤ c0 ∧ Kd.bool.C w A0 (rd_L5 xs i).length (rd_L5 xs i) := by
  obtain ⟨ad, c, e, _, hK, hc0⟩ := Kd.C_get h ([] : List Bool) i h0 h1
  have hc : ∀ j u, c[j]? = some u → w.cell? (ad.add (i.toNat * 1 + j)) = some u := hc0
  obtain ⟨A0, c0, rfl, l0, g0⟩ := hK
  exact ⟨ad, A0, c0, e, by have hq := hc 0 _ rfl; rwa [Nat.mul_one, Nat.add_zero] at hq, l0, g0⟩

end Go.Proofs.Ythmlimkmcofkfaa.Q

/- Contracts of functions of the program, written by a program of this session. -/
namespace Go.Proofs.Ythmlimkmcofkfaa.Q
open Go.RowKit Go.Proofs.YthmlimkmcofkfaaW.PrintWords Go.Proofs.YthmlimkmcofkfaaW.PrintLast Go.Proofs.YthmlimkmcofkfaaW.PrintMore
attribute [local go_sem] max2_int min2_int max_two min_two max_three min_three max_four min_four   -- for this text's walks alone
open Go.Proofs.Ythmlimkmcofkfaa.B Go.Proofs.Ythmlimkmcofkfaa.E
set_option linter.unusedVariables false
set_option linter.unusedSimpArgs false

/-! ### stripe_Join: function 48 -/
def stripe_Join.l0 : Nat → Int → List Int → List (List Int) → Int → Int → Option (List Int × Int)
  | 0, _, _, _, _, _ => none
  | k + 1, x4, x17, x58, x59, x60 => if x60 < x59 then (if 0 ≤ x60 then (if x60 < (x58.length : Int) then (if 0 ≤ (mn ((rd_L1 x58 x60).length : Int) (wrap64 (x4 - (x17.length : Int)))) then (if (mn ((rd_L1 x58 x60).length : Int) (wrap64 (x4 - (x17.length : Int)))) ≤ ((rd_L1 x58 x60).length : Int) then ((some ((rd_L1 x58 x60).take ((mn ((rd_L1 x58 x60).length : Int) (wrap64 (x4 - (x17.length : Int)))) : Int).toNat : List Int)).bind fun y158 => (if x17.length + y158.length < 140737488355328 then (stripe_Join.l0 k x4 (x17 ++ y158) x58 x59 (wrap64 (x60 + 1))) else (none))) else (none)) else (none)) else (none)) else (none)) else (some (x17, 0))
def stripe_Join.f (k : Nat) (l0 : List (List Int)) (l1 : List Bool) (a2 : Int) (a3 : Int) (a4 : Int) : Option (List Int × Int) := (stripe_may.f a2 a3).bind fun t145 => (if t145 = true then ((stripe_Length.f a4 a2).bind fun bt146 => (if bt146.2 = 0 then ((stripe_look.f k l0 l1 a2 a3 bt146.1).bind fun bt148 => (if bt148.2 = 0 then ((stripe_data.f k l0 l1 a2 a3 bt148.1).bind fun bt150 => (if bt150.2 = true then (if 0 ≤ a4 then (if (a4 : Int).toNat ≤ 281474976710656 then (stripe_Join.l0 k a4 (([] : List Int)) bt150.1 (bt150.1.length : Int) 0) else (none)) else (none)) else (some (([] : List Int), 10)))) else (some (([] : List Int), bt148.2)))) else (some (([] : List Int), bt146.2)))) else (some (([] : List Int), 5)))
theorem stripe_Join.mono_l : ∀ k, (∀ y0 y1 y2 y3 y4, LeO (stripe_Join.l0 k y0 y1 y2 y3 y4) (stripe_Join.l0 (k + 1) y0 y1 y2 y3 y4))
  | 0 => fun _ _ _ _ _ r h => by simp [stripe_Join.l0] at h
  | k + 1 => by
    have ih0 := stripe_Join.mono_l k
    · intro y0 y1 y2 y3 y4
      unfold stripe_Join.l0
      repeat' first
      | (with_reducible exact ih0 _ _ _ _ _)
      | (with_reducible exact stripe_data.mono _ _ _ _ _ _)
      | (with_reducible exact stripe_look.mono _ _ _ _ _ _)
      | (with_reducible exact LeO.refl _)
      | (with_reducible exact LeO.none _)
      | (with_reducible refine LeO.ite ?_ ?_)
      | (with_reducible refine LeO.bind ?_ (fun _ => ?_))
      | exact ih0 _ _ _ _ _
      | exact stripe_data.mono _ _ _ _ _ _
      | exact stripe_look.mono _ _ _ _ _ _
      | exact LeO.none _
      | refine LeO.ite ?_ ?_
      | refine LeO.bind ?_ (fun _ => ?_)
theorem stripe_Join.mono : ∀ a0 a1 a2 a3 a4 k, LeO (stripe_Join.f k a0 a1 a2 a3 a4) (stripe_Join.f (k + 1) a0 a1 a2 a3 a4) := by
  intro a0 a1 a2 a3 a4 k
  have ih0 := stripe_Join.mono_l k
  unfold stripe_Join.f
  repeat' first
      | (with_reducible exact ih0 _ _ _ _ _)
      | (with_reducible exact stripe_data.mono _ _ _ _ _ _)
      | (with_reducible exact stripe_look.mono _ _ _ _ _ _)
      | (with_reducible exact LeO.refl _)
      | (with_reducible exact LeO.none _)
      | (with_reducible refine LeO.ite ?_ ?_)
      | (with_reducible refine LeO.bind ?_ (fun _ => ?_))
      | exact ih0 _ _ _ _ _
      | exact stripe_data.mono _ _ _ _ _ _
      | exact stripe_look.mono _ _ _ _ _ _
      | exact LeO.none _
      | refine LeO.ite ?_ ?_
      | refine LeO.bind ?_ (fun _ => ?_)
set_option maxHeartbeats 8000000 in
set_option maxRecDepth 100000 in
theorem stripe_Join.calls (k : Nat) (A0 : Option Addr) (c0 : Nat) (l0 : List (List Int)) (A1 : Option Addr) (c1 : Nat) (l1 : List Bool) (a2 : Int) (a3 : Int) (a4 : Int) (r1 : List Int) (r2 : Int) (w : World) (hr0 : Kd.C (Kd.slice 5 (Kd.int .u8)) w A0 l0.length l0) (hc0 : l0.length ≤ c0) (hr1 : Kd.C Kd.bool w A1 l1.length l1) (hc1 : l1.length ≤ c1) (h : stripe_Join.f k l0 l1 a2 a3 a4 = some (r1, r2)) :
    Calls Try.prog 48 #[.slice A0 l0.length c0, .slice A1 l1.length c1, .int .i64 a2, .int .i64 a3, .int .i64 a4] w fun e w' => ∃ v0_ : Value, e = .returned (.tuple #[v0_, .int .i64 r2]) ∧ Kd.R (Kd.int .u8) 5 w' w.heap.size (fun _ => True) v0_ r1 ∧ Below w.heap.size w w' := by
  have HR0 := Aside0.mk hr0
  have HC0 := Aside0.mk hc0
  clear hr0 hc0
  have HR1 := Aside0.mk hr1
  have HC1 := Aside0.mk hc1
  clear hr1 hc1
  have HB := Aside0.mk (Below.refl w.heap.size w)
  have H : ((stripe_may.f a2 a3).bind fun t145 => (if t145 = true then ((stripe_Length.f a4 a2).bind fun bt146 => (if bt146.2 = 0 then ((stripe_look.f k l0 l1 a2 a3 bt146.1).bind fun bt148 => (if bt148.2 = 0 then ((stripe_data.f k l0 l1 a2 a3 bt148.1).bind fun bt150 => (if bt150.2 = true then (if 0 ≤ a4 then (if (a4 : Int).toNat ≤ 281474976710656 then (stripe_Join.l0 k a4 (([] : List Int)) bt150.1 (bt150.1.length : Int) 0) else (none)) else (none)) else (some (([] : List Int), 10)))) else (some (([] : List Int), bt148.2)))) else (some (([] : List Int), bt146.2)))) else (some (([] : List Int), 5)))) = some (r1, r2) := h
  clear h
  replace H := Option.bind_eq_some_iff.mp H
  obtain ⟨t145, A60, H⟩ := H
  replace H : (if t145 = true then ((stripe_Length.f a4 a2).bind fun bt146 => (if bt146.2 = 0 then ((stripe_look.f k l0 l1 a2 a3 bt146.1).bind fun bt148 => (if bt148.2 = 0 then ((stripe_data.f k l0 l1 a2 a3 bt148.1).bind fun bt150 => (if bt150.2 = true then (if 0 ≤ a4 then (if (a4 : Int).toNat ≤ 281474976710656 then (stripe_Join.l0 k a4 (([] : List Int)) bt150.1 (bt150.1.length : Int) 0) else (none)) else (none)) else (some (([] : List Int), 10)))) else (some (([] : List Int), bt148.2)))) else (some (([] : List Int), bt146.2)))) else (some (([] : List Int), 5))) = some (r1, r2) := H
  have A6 := Aside0.mk A60
  clear A60
  by_cases c7 : t145 = true
  · subst c7
    have H1 : ((stripe_Length.f a4 a2).bind fun bt146 => (if bt146.2 = 0 then ((stripe_look.f k l0 l1 a2 a3 bt146.1).bind fun bt148 => (if bt148.2 = 0 then ((stripe_data.f k l0 l1 a2 a3 bt148.1).bind fun bt150 => (if bt150.2 = true then (if 0 ≤ a4 then (if (a4 : Int).toNat ≤ 281474976710656 then (stripe_Join.l0 k a4 (([] : List Int)) bt150.1 (bt150.1.length : Int) 0) else (none)) else (none)) else (some (([] : List Int), 10)))) else (some (([] : List Int), bt148.2)))) else (some (([] : List Int), bt146.2)))) = some (r1, r2) := by rw [if_pos rfl] at H; exact H
    clear H
    have H := H1
    clear H1
    replace H := Option.bind_eq_some_iff.mp H
    obtain ⟨⟨t146, t147⟩, A80, H⟩ := H
    replace H : (if t147 = 0 then ((stripe_look.f k l0 l1 a2 a3 t146).bind fun bt148 => (if bt148.2 = 0 then ((stripe_data.f k l0 l1 a2 a3 bt148.1).bind fun bt150 => (if bt150.2 = true then (if 0 ≤ a4 then (if (a4 : Int).toNat ≤ 281474976710656 then (stripe_Join.l0 k a4 (([] : List Int)) bt150.1 (bt150.1.length : Int) 0) else (none)) else (none)) else (some (([] : List Int), 10)))) else (some (([] : List Int), bt148.2)))) else (some (([] : List Int), t147))) = some (r1, r2) := H
    have A8 := Aside0.mk A80
    clear A80
    by_cases c9 : t147 = 0
    · rw [if_pos c9] at H
      have c9b0 : (t147 == 0) = true := beq_iff_eq.mpr c9
      have c9b1 : (t147 != 0) = false := bne_eq_false_iff_eq.mpr c9
      clear c9
      replace H := Option.bind_eq_some_iff.mp H
      obtain ⟨⟨t148, t149⟩, A100, H⟩ := H
      replace H : (if t149 = 0 then ((stripe_data.f k l0 l1 a2 a3 t148).bind fun bt150 => (if bt150.2 = true then (if 0 ≤ a4 then (if (a4 : Int).toNat ≤ 281474976710656 then (stripe_Join.l0 k a4 (([] : List Int)) bt150.1 (bt150.1.length : Int) 0) else (none)) else (none)) else (some (([] : List Int), 10)))) else (some (([] : List Int), t149))) = some (r1, r2) := H
      have A10 := Aside0.mk A100
      clear A100
      by_cases c11 : t149 = 0
      · rw [if_pos c11] at H
        have c11b0 : (t149 == 0) = true := beq_iff_eq.mpr c11
        have c11b1 : (t149 != 0) = false := bne_eq_false_iff_eq.mpr c11
        clear c11
        replace H := Option.bind_eq_some_iff.mp H
        obtain ⟨⟨t150, t151⟩, A120, H⟩ := H
        replace H : (if t151 = true then (if 0 ≤ a4 then (if (a4 : Int).toNat ≤ 281474976710656 then (stripe_Join.l0 k a4 (([] : List Int)) t150 (t150.length : Int) 0) else (none)) else (none)) else (some (([] : List Int), 10))) = some (r1, r2) := H
        have A12 := Aside0.mk A120
        clear A120
        by_cases c13 : t151 = true
        · subst c13
          have H1 : (if 0 ≤ a4 then (if (a4 : Int).toNat ≤ 281474976710656 then (stripe_Join.l0 k a4 (([] : List Int)) t150 (t150.length : Int) 0) else (none)) else (none)) = some (r1, r2) := by rw [if_pos rfl] at H; exact H
          clear H
          have H := H1
          clear H1
          by_cases c14 : 0 ≤ a4
          · rw [if_pos c14] at H
            have c14b0 := eq_true c14
            have c14b1 : decide (0 ≤ a4) = true := decide_eq_true c14
            clear c14
            by_cases c15 : (a4 : Int).toNat ≤ 281474976710656
            · rw [if_pos c15] at H
              have c15b0 := eq_true c15
              have c15b1 : decide ((a4 : Int).toNat ≤ 281474976710656) = true := decide_eq_true c15
              clear c15
              obtain ⟨y154, hy154⟩ : ∃ y_ : List Int, y_ = (([] : List Int)) := ⟨_, rfl⟩
              replace H : (stripe_Join.l0 k a4 y154 t150 (t150.length : Int) 0) = some (r1, r2) := by first | (rw [hy154]; with_reducible exact H) | (have H2_ := (Option.bind_some _ _).symm.trans H; rw [hy154]; with_reducible exact H2_) | (have H2_ := (Option.bind_some _ _).symm.trans H; with_reducible exact H2_) | with_reducible exact H | (rw [hy154]; exact H) | exact H
              have Ny154 := Aside0.mk hy154
              clear hy154
              have H' := Aside0.mk H
              clear H
              go_enter Try.func48, Try.ntmps48
              go_wp2_with (first | ((with_reducible refine gate_callee (f := 75) rfl ?_); refine goesL_ (some 22) rfl rfl Try.func75 (by kernel_rfl) rfl #[.int .i64 a2, .int .i64 a3] rfl (by (try simp only [List.map_toArray, List.map_cons, List.map_nil]); first | done | rfl | (simp only [List.length_drop, List.length_take]; rfl)) ?_; (with_reducible refine (stripe_may.calls a2 a3 true _ A6.out).mono ?_); rintro e w' ⟨rfl, ⟨nd, rfl⟩⟩; refine ⟨_, rfl, ?_⟩) | ((with_reducible refine gate_callee (f := 41) rfl ?_); refine goesL_ (some 27) rfl rfl Try.func41 (by kernel_rfl) rfl #[.int .i64 a4, .int .i64 a2] rfl (by (try simp only [List.map_toArray, List.map_cons, List.map_nil]); first | done | rfl | (simp only [List.length_drop, List.length_take]; rfl)) ?_; (with_reducible refine (stripe_Length.calls a4 a2 t146 t147 _ A8.out).mono ?_); rintro e w' ⟨rfl, ⟨nd, rfl⟩⟩; refine ⟨_, rfl, ?_⟩) | ((with_reducible refine gate_callee (f := 81) rfl ?_); refine goesL_ (some 39) rfl rfl Try.func81 (by kernel_rfl) rfl #[.slice A0 l0.length c0, .slice A1 l1.length c1, .int .i64 a2, .int .i64 a3, .int .i64 t146] rfl (by (try simp only [List.map_toArray, List.map_cons, List.map_nil]); first | done | rfl | (simp only [List.length_drop, List.length_take]; rfl)) ?_; (with_reducible refine (stripe_look.calls k _ _ l0 _ _ l1 a2 a3 t146 t148 t149 _ ?side1 ?side2 ?side3 ?side4 A10.out).mono ?_); (case side1 => repeat (first | exact HR0.out | (with_reducible refine Kd.C_alloc ?_ _) | (with_reducible refine Kd.C_drewN ?_ _) | (with_reducible refine Kd.C_drew ?_))); (case side2 => exact HC0.out); (case side3 => repeat (first | exact HR1.out | (with_reducible refine Kd.C_alloc ?_ _) | (with_reducible refine Kd.C_drewN ?_ _) | (with_reducible refine Kd.C_drew ?_))); (case side4 => exact HC1.out); rintro e w' ⟨rfl, ⟨nd, rfl⟩⟩; refine ⟨_, rfl, ?_⟩) | ((with_reducible refine gate_callee (f := 82) rfl ?_); refine goesL_ (some 51) rfl rfl Try.func82 (by kernel_rfl) rfl #[.slice A0 l0.length c0, .slice A1 l1.length c1, .int .i64 a2, .int .i64 a3, .int .i64 t148] rfl (by (try simp only [List.map_toArray, List.map_cons, List.map_nil]); first | done | rfl | (simp only [List.length_drop, List.length_take]; rfl)) ?_; (with_reducible refine (stripe_data.calls k _ _ l0 _ _ l1 a2 a3 t148 t150 true _ ?side1 ?side2 ?side3 ?side4 A12.out).mono ?_); (case side1 => repeat (first | exact HR0.out | (with_reducible refine Kd.C_alloc ?_ _) | (with_reducible refine Kd.C_drewN ?_ _) | (with_reducible refine Kd.C_drew ?_))); (case side2 => exact HC0.out); (case side3 => repeat (first | exact HR1.out | (with_reducible refine Kd.C_alloc ?_ _) | (with_reducible refine Kd.C_drewN ?_ _) | (with_reducible refine Kd.C_drew ?_))); (case side4 => exact HC1.out); rintro e w16 ⟨v152, rfl, ho0, hb⟩; refine ⟨_, rfl, ?_⟩; have n0_ := Aside0.mk (Kd.S_lower ho0 (below_size (by repeat (first | (with_reducible first | exact HB.out | apply below_alloc | apply pw_below_drewN | apply below_drew1) | exact HB.out)))); have n1_ := Aside0.mk (below_step (by repeat (first | (with_reducible first | exact HB.out | apply below_alloc | apply pw_below_drewN | apply below_drew1) | exact HB.out)) hb); clear HB; have HO153 := n0_; have HB := n1_; clear n0_ n1_; (try clear hb); (try clear hb2); (try clear hk); (try clear hi); (try clear ho0)) | ((with_reducible refine gate_dst (N := 57) rfl ?_); refine R_make0 (Kd.int .u8) _ 5 rfl (N := 57) rfl 41 _ _ rfl a4 rfl rfl Try.underlying41 (.int .u8 0) 1 info5 rfl (by decide) (by omega) 0 (ok := fun _ => True) (okp := fun _ => True) rfl (fun _ hk => hk) trivial (of_decide_eq_true (by first | (with_reducible assumption) | assumption)) (Nat.le_trans (Nat.mul_le_mul_right _ (of_decide_eq_true (by first | (with_reducible assumption) | assumption) : a4.toNat ≤ 281474976710656)) (by omega)) (Below.refl _ _) (Nat.le_refl _) ?_; intro v155 w17 ho18 hb hg_ hnew_; clear hg_ hnew_; (first | rw [← Ny154.out] at ho18 | (simp only [Int.reduceToNat] at ho18; rw [← Ny154.out] at ho18)); have n0_ := Aside0.mk (Kd.S_elder' (by (with_reducible repeat (first | apply Kd.S_alloc | apply Kd.S_drewN | apply Kd.S_drew)); exact HO153.out) (Kd.R_base ho18) hb); have n1_ := Aside0.mk (Kd.R_lower ho18 (below_size (by repeat (first | (with_reducible first | exact HB.out | apply below_alloc | apply pw_below_drewN | apply below_drew1) | exact HB.out)))); have n2_ := Aside0.mk (below_step (by repeat (first | (with_reducible first | exact HB.out | apply below_alloc | apply pw_below_drewN | apply below_drew1) | exact HB.out)) hb); clear HO153; clear HB; have HO153 := n0_; have HO156 := n1_; have HB := n2_; clear n0_ n1_ n2_; clear hb ho18; obtain ⟨Ao19, co19, eo19⟩ := Kd.S_slice HO153.out; subst eo19))
              go_loopg [17, 60] k (fun kq v17 v60 w' => ∃ (x17_1 : List Int) (x60_1 : Int), v60 = .int .i64 x60_1 ∧ Aside0 (stripe_Join.l0 kq a4 x17_1 t150 (t150.length : Int) x60_1 = some (r1, r2)) ∧ Aside0 (kq ≤ k) ∧ Aside0 (Kd.R (Kd.int .u8) 5 w' w.heap.size (fun _ => True) v17 x17_1) ∧ Aside0 (Kd.S (Kd.slice 5 (Kd.int .u8)) 41 w' w.heap.size (fun k_ => some k_ ≠ (v17 : Value).ownBlock) (.slice Ao19 t150.length co19) t150) ∧ Aside0 (Below w.heap.size w w'))
              case atStart => exact ⟨(y154), (0), (by first | rfl | (simp; done) | (simp [*]; done)), H', ⟨Nat.le_refl _⟩, ⟨by (with_reducible repeat (first | apply Kd.R_alloc | apply Kd.R_drewN | apply Kd.R_drew)); exact HO156.out⟩, ⟨by (with_reducible repeat (first | apply Kd.S_alloc | apply Kd.S_drewN | apply Kd.S_drew)); exact Kd.S_mono HO153.out (fun _ hk => hk.2)⟩, ⟨by repeat (first | (with_reducible first | exact HB.out | apply below_alloc | apply pw_below_drewN | apply below_drew1) | exact HB.out)⟩⟩
              case round =>
                clear H'
                try clear c1
                try clear p2
                try clear c4
                try clear c7
                try clear c8
                try clear c9
                try clear c9b0
                try clear c9b1
                try clear c11
                try clear c11b0
                try clear c11b1
                try clear c13
                try clear c14
                try clear c14b0
                try clear c14b1
                try clear c15
                try clear c15b0
                try clear c15b1
                obtain ⟨x17_1, x60_1, rfl, HA, HK1, HO_17, HO_58, HB⟩ := hrel
                cases gk with
                | zero => exact absurd HA.out (by simp [stripe_Join.l0])
                | succ k1 =>
                  have H := HA.out
                  clear HA
                  simp only [stripe_Join.l0] at H
                  by_cases c20 : x60_1 < (t150.length : Int)
                  · rw [if_pos c20] at H
                    have c20b0 : decide (x60_1 < (t150.length : Int)) = true := decide_eq_true c20
                    clear c20
                    by_cases c21 : 0 ≤ x60_1
                    · rw [if_pos c21] at H
                      have c21b0 : decide (0 ≤ x60_1) = true := decide_eq_true c21
                      clear c21
                      by_cases c22 : x60_1 < (t150.length : Int)
                      · rw [if_pos c22] at H
                        have c22b0 : decide (x60_1 < (t150.length : Int)) = true := decide_eq_true c22
                        clear c22
                        obtain ⟨ji23, hji23⟩ : ∃ j_ : Int, (mn ((rd_L1 t150 x60_1).length : Int) (wrap64 (a4 - (x17_1.length : Int)))) = j_ := ⟨_, rfl⟩
                        replace H : (if 0 ≤ (ji23) then (if (ji23) ≤ ((rd_L1 t150 x60_1).length : Int) then ((some ((rd_L1 t150 x60_1).take ((ji23) : Int).toNat : List Int)).bind fun y158 => (if x17_1.length + y158.length < 140737488355328 then (stripe_Join.l0 k1 a4 (x17_1 ++ y158) t150 (t150.length : Int) (wrap64 (x60_1 + 1))) else (none))) else (none)) else (none)) = some (r1, r2) := by first | (rw [hji23] at H; exact H) | (simp only [hji23] at H ⊢; exact H)
                        have hji23_ : (if (wrap64 (a4 - (x17_1.length : Int))) < ((rd_L1 t150 x60_1).length : Int) then (wrap64 (a4 - (x17_1.length : Int))) else ((rd_L1 t150 x60_1).length : Int)) = ji23 := hji23
                        by_cases c24 : 0 ≤ (ji23)
                        · rw [if_pos c24] at H
                          have c24b0 := eq_true c24
                          have c24b1 : decide (0 ≤ (ji23)) = true := decide_eq_true c24
                          clear c24
                          by_cases c25 : (ji23) ≤ ((rd_L1 t150 x60_1).length : Int)
                          · rw [if_pos c25] at H
                            have c25b0 := eq_true c25
                            have c25b1 : decide ((ji23) ≤ ((rd_L1 t150 x60_1).length : Int)) = true := decide_eq_true c25
                            clear c25
                            obtain ⟨y158, hy158⟩ : ∃ y_ : List Int, y_ = ((rd_L1 t150 x60_1).take ((ji23) : Int).toNat) := ⟨_, rfl⟩
                            replace H : (if x17_1.length + y158.length < 140737488355328 then (stripe_Join.l0 k1 a4 (x17_1 ++ y158) t150 (t150.length : Int) (wrap64 (x60_1 + 1))) else (none)) = some (r1, r2) := by first | (rw [hy158]; with_reducible exact H) | (have H2_ := (Option.bind_some _ _).symm.trans H; rw [hy158]; with_reducible exact H2_) | (have H2_ := (Option.bind_some _ _).symm.trans H; with_reducible exact H2_) | with_reducible exact H | (rw [hy158]; exact H) | exact H
                            have Ny158 := Aside0.mk hy158
                            clear hy158
                            by_cases c26 : x17_1.length + y158.length < 140737488355328
                            · rw [if_pos c26] at H
                              have LMc26 := Aside0.mk c26
                              clear c26
                              obtain ⟨y162, hy162⟩ : ∃ y_ : List Int, y_ = (x17_1 ++ y158) := ⟨_, rfl⟩
                              replace H : (stripe_Join.l0 k1 a4 y162 t150 (t150.length : Int) (wrap64 (x60_1 + 1))) = some (r1, r2) := by first | (rw [hy162]; with_reducible exact H) | (have H2_ := (Option.bind_some _ _).symm.trans H; rw [hy162]; with_reducible exact H2_) | (have H2_ := (Option.bind_some _ _).symm.trans H; with_reducible exact H2_) | with_reducible exact H | (rw [hy162]; exact H) | exact H
                              have Ny162 := Aside0.mk hy162
                              clear hy162
                              have H' := Aside0.mk H
                              clear H
                              have p157 : 0 ≤ (x60_1 : Int) := of_decide_eq_true (by first | (with_reducible assumption) | assumption)
                              have q157 : x60_1 < (t150.length : Int) := of_decide_eq_true (by first | (with_reducible assumption) | assumption)
                              obtain ⟨ad157, A157_0, c157_0, e157, hx157_0, hl157_0, hi157_0⟩ := at_L1 (Kd.S_reads' HO_58.out).2.2 x60_1 p157 q157
                              cases e157
                              obtain ⟨ce157, hce157, hMe157, hcc157⟩ := Kd.S_get HO_58.out [] x60_1 p157 (by first | exact q157 | exact of_decide_eq_true (by first | (with_reducible assumption) | assumption) | (have e_ := (Kd.S_reads' HO_58.out).1; omega))
                              obtain ⟨ve157_0, rfl, ge157_0⟩ := hMe157
                              have hv157_0 := hcc157 0 _ rfl
                              rw [Nat.add_zero, show ((Kd.slice 5 (Kd.int .u8))).sz = 1 from rfl, Nat.mul_one] at hv157_0
                              replace hv157_0 := Option.some.inj (hv157_0.symm.trans hx157_0)
                              rw [hv157_0] at ge157_0
                              have HL157_0 := Aside0.mk (show Kd.R (Kd.int .u8) 5 _ _ _ _ (rd_L1 t150 x60_1) from ge157_0)
                              clear hv157_0 ge157_0
                              clear hcc157 hce157
                              have HR157_0 := Aside0.mk hi157_0
                              have HC157_0 := Aside0.mk hl157_0
                              clear hi157_0 hl157_0
                              replace p157 := eq_true p157
                              replace q157 := eq_true q157
                              obtain ⟨Ao27, co27, eo27⟩ := Kd.R_slice HO_17.out
                              subst eo27
                              have q28 : ((ji23) : Int) ≤ (((rd_L1 t150 x60_1).length : Int) : Int) := of_decide_eq_true (by first | (with_reducible assumption) | assumption)
                              obtain ⟨i028, hi028, _, hsz28, _⟩ := info_parts info5
                              have hroom28 : (rd_L1 t150 x60_1).length ≤ c157_0 := HC157_0.out
                              have hC28 : Kd.C (Kd.int .u8) _ A157_0 (rd_L1 t150 x60_1).length (rd_L1 t150 x60_1) := (by repeat (first | (with_reducible exact HR157_0.out) | (with_reducible refine Kd.C_alloc ?_ _) | (with_reducible refine Kd.C_drewN ?_ _) | (with_reducible refine Kd.C_drew ?_) | exact HR157_0.out))
                              have hcut28 := cut_to (P := Try.prog) 41 5 .i64 Try.underlying41 hi028 A157_0 (rd_L1 t150 x60_1).length c157_0 (ji23) (of_decide_eq_true (by first | (with_reducible assumption) | assumption)) q28 hroom28
                              have hr28 := Kd.C_take (m := ((ji23) : Int).toNat) hC28 (by omega)
                              have hy28 : y158.length = ((ji23) : Int).toNat := (by rw [Ny158.out, List.length_take]; omega)
                              rw [← Ny158.out] at hr28
                              rw [← hy28] at hcut28
                              have HR161 := Aside0.mk hr28
                              have HC161 := Aside0.mk (show y158.length ≤ c157_0 from by omega)
                              clear hr28 hC28 hroom28 hi028 hsz28
                              have KY28 := Aside0.mk hy28
                              clear hy28
                              replace q28 := eq_true q28
                              go_wp2_with (first | ((with_reducible refine gate_builtin (b := .append) (xs := #[.tmp 64, .tmp 73]) rfl ?_); at_builtin; refine Kd.R_append_rows (Kd.int .u8) (w0 := w) w.heap.size rfl (.tmp 64) (.tmp 73) 41 5 (.int .u8 0) 1 rfl Try.underlying41 info5 rfl (by decide) (by omega) (.slice Ao27 x17_1.length co27) x17_1 y158 _ _ _ (fun _ => True) (fun _ => False) rfl rfl ?aO ?aR (fun _ _ h => h) (fun _ h => h.elim) ?aF ?aB ?aS ?aL ?_; (case aR => repeat (first | exact (by repeat (first | (with_reducible exact HR161.out) | (with_reducible refine Kd.C_alloc ?_ _) | (with_reducible refine Kd.C_drewN ?_ _) | (with_reducible refine Kd.C_drew ?_) | exact HR161.out)) | (with_reducible refine Kd.C_alloc ?_ _) | (with_reducible refine Kd.C_drewN ?_ _) | (with_reducible refine Kd.C_drew ?_))); (case aB => exact (by repeat (first | (with_reducible first | exact HB.out | apply below_alloc | apply pw_below_drewN | apply below_drew1) | exact HB.out))); (case aF => exact (fun _ _ => trivial)); (case aO => exact (by (with_reducible repeat (first | apply Kd.R_alloc | apply Kd.R_drewN | apply Kd.R_drew)); exact HO_17.out)); (case aS => exact (below_size (by repeat (first | (with_reducible first | exact HB.out | apply below_alloc | apply pw_below_drewN | apply below_drew1) | exact HB.out)))); (case aL => have := LMc26.out; omega); intro v163 w29 ho hb hg hat; rw [← Ny162.out] at ho; have n0_ := Aside0.mk (Kd.S_after (ok := (fun _ => True)) (by (with_reducible repeat (first | apply Kd.S_alloc | apply Kd.S_drewN | apply Kd.S_drew)); exact Kd.S_mono HO_58.out (fun _ hk => ⟨trivial, hk⟩)) hg hat); have n1_ := Aside0.mk (Kd.R_after (ok := (fun k_ => some k_ ≠ (.slice (some ad157) t150.length co19 : Value).ownBlock)) (by (with_reducible repeat (first | apply Kd.R_alloc | apply Kd.R_drewN | apply Kd.R_drew)); exact Kd.R_mono HL157_0.out (fun _ hk => ⟨hk.2, hk.1⟩)) hg hat); have n2_ := Aside0.mk (hb); have n3_ := Aside0.mk (ho); clear HO_58; clear HL157_0; clear HB; clear HO_17; have HO_58 := n0_; have HL157_0 := n1_; have HB := n2_; have HO164 := n3_; clear n0_ n1_ n2_ n3_; clear ho hb hg hat))
                              go_roundg k1
                              case measure => have := HK1.out; omega
                              case rel => exact ⟨(y162), (wrap64 (x60_1 + 1)), (by first | rfl | (simp; done) | (simp [*]; done)), H', ⟨by have := HK1.out; omega⟩, ⟨by (with_reducible repeat (first | apply Kd.R_alloc | apply Kd.R_drewN | apply Kd.R_drew)); exact HO164.out⟩, ⟨by (with_reducible repeat (first | apply Kd.S_alloc | apply Kd.S_drewN | apply Kd.S_drew)); exact Kd.S_mono HO_58.out (fun _ hk => hk.2)⟩, ⟨by repeat (first | (with_reducible first | exact HB.out | apply below_alloc | apply pw_below_drewN | apply below_drew1) | exact HB.out)⟩⟩
                            · rw [if_neg c26] at H
                              exact absurd H (by simp)
                          · rw [if_neg c25] at H
                            exact absurd H (by simp)
                        · rw [if_neg c24] at H
                          exact absurd H (by simp)
                      · rw [if_neg c22] at H
                        exact absurd H (by simp)
                    · rw [if_neg c21] at H
                      exact absurd H (by simp)
                  · rw [if_neg c20] at H
                    have c20b0 : decide (x60_1 < (t150.length : Int)) = false := decide_eq_false c20
                    clear c20
                    simp only [Option.some.injEq, Prod.mk.injEq] at H
                    obtain ⟨rfl, rfl⟩ := H
                    go_wp2
                    go_ret2
                    exact ⟨_, by first | rfl | (simp [errW_none, errW_some] <;> rfl) | (simp [*, errW_none, errW_some] <;> rfl), by (with_reducible repeat (first | apply Kd.R_alloc | apply Kd.R_drewN | apply Kd.R_drew)); exact HO_17.out, by repeat (first | (with_reducible first | exact HB.out | apply below_alloc | apply pw_below_drewN | apply below_drew1) | exact HB.out)⟩
            · rw [if_neg c15] at H
              exact absurd H (by simp)
          · rw [if_neg c14] at H
            exact absurd H (by simp)
        · replace c13 := Bool.eq_false_iff.mpr c13
          subst c13
          have H1 : (some (([] : List Int), 10)) = some (r1, r2) := by rw [if_neg (show ¬ (false = true) by decide)] at H; exact H
          clear H
          have H := H1
          clear H1
          simp only [Option.some.injEq, Prod.mk.injEq] at H
          obtain ⟨rfl, rfl⟩ := H
          go_enter Try.func48, Try.ntmps48
          go_wp2_with (first | ((with_reducible refine gate_callee (f := 75) rfl ?_); refine goesL_ (some 22) rfl rfl Try.func75 (by kernel_rfl) rfl #[.int .i64 a2, .int .i64 a3] rfl (by (try simp only [List.map_toArray, List.map_cons, List.map_nil]); first | done | rfl | (simp only [List.length_drop, List.length_take]; rfl)) ?_; (with_reducible refine (stripe_may.calls a2 a3 true _ A6.out).mono ?_); rintro e w' ⟨rfl, ⟨nd, rfl⟩⟩; refine ⟨_, rfl, ?_⟩) | ((with_reducible refine gate_callee (f := 41) rfl ?_); refine goesL_ (some 27) rfl rfl Try.func41 (by kernel_rfl) rfl #[.int .i64 a4, .int .i64 a2] rfl (by (try simp only [List.map_toArray, List.map_cons, List.map_nil]); first | done | rfl | (simp only [List.length_drop, List.length_take]; rfl)) ?_; (with_reducible refine (stripe_Length.calls a4 a2 t146 t147 _ A8.out).mono ?_); rintro e w' ⟨rfl, ⟨nd, rfl⟩⟩; refine ⟨_, rfl, ?_⟩) | ((with_reducible refine gate_callee (f := 81) rfl ?_); refine goesL_ (some 39) rfl rfl Try.func81 (by kernel_rfl) rfl #[.slice A0 l0.length c0, .slice A1 l1.length c1, .int .i64 a2, .int .i64 a3, .int .i64 t146] rfl (by (try simp only [List.map_toArray, List.map_cons, List.map_nil]); first | done | rfl | (simp only [List.length_drop, List.length_take]; rfl)) ?_; (with_reducible refine (stripe_look.calls k _ _ l0 _ _ l1 a2 a3 t146 t148 t149 _ ?side1 ?side2 ?side3 ?side4 A10.out).mono ?_); (case side1 => repeat (first | exact HR0.out | (with_reducible refine Kd.C_alloc ?_ _) | (with_reducible refine Kd.C_drewN ?_ _) | (with_reducible refine Kd.C_drew ?_))); (case side2 => exact HC0.out); (case side3 => repeat (first | exact HR1.out | (with_reducible refine Kd.C_alloc ?_ _) | (with_reducible refine Kd.C_drewN ?_ _) | (with_reducible refine Kd.C_drew ?_))); (case side4 => exact HC1.out); rintro e w' ⟨rfl, ⟨nd, rfl⟩⟩; refine ⟨_, rfl, ?_⟩) | ((with_reducible refine gate_callee (f := 82) rfl ?_); refine goesL_ (some 51) rfl rfl Try.func82 (by kernel_rfl) rfl #[.slice A0 l0.length c0, .slice A1 l1.length c1, .int .i64 a2, .int .i64 a3, .int .i64 t148] rfl (by (try simp only [List.map_toArray, List.map_cons, List.map_nil]); first | done | rfl | (simp only [List.length_drop, List.length_take]; rfl)) ?_; (with_reducible refine (stripe_data.calls k _ _ l0 _ _ l1 a2 a3 t148 t150 false _ ?side1 ?side2 ?side3 ?side4 A12.out).mono ?_); (case side1 => repeat (first | exact HR0.out | (with_reducible refine Kd.C_alloc ?_ _) | (with_reducible refine Kd.C_drewN ?_ _) | (with_reducible refine Kd.C_drew ?_))); (case side2 => exact HC0.out); (case side3 => repeat (first | exact HR1.out | (with_reducible refine Kd.C_alloc ?_ _) | (with_reducible refine Kd.C_drewN ?_ _) | (with_reducible refine Kd.C_drew ?_))); (case side4 => exact HC1.out); rintro e w30 ⟨v152, rfl, ho0, hb⟩; refine ⟨_, rfl, ?_⟩; have n0_ := Aside0.mk (Kd.S_lower ho0 (below_size (by repeat (first | (with_reducible first | exact HB.out | apply below_alloc | apply pw_below_drewN | apply below_drew1) | exact HB.out)))); have n1_ := Aside0.mk (below_step (by repeat (first | (with_reducible first | exact HB.out | apply below_alloc | apply pw_below_drewN | apply below_drew1) | exact HB.out)) hb); clear HB; have HO153 := n0_; have HB := n1_; clear n0_ n1_; (try clear hb); (try clear hb2); (try clear hk); (try clear hi); (try clear ho0)))
          go_ret2
          exact ⟨_, by first | rfl | (simp [errW_none, errW_some] <;> rfl) | (simp [*, errW_none, errW_some] <;> rfl), by first | exact Kd.R_nil _ _ _ _ _ | exact Kd.N_nil _ _ _ _ _ | exact Kd.V_nil _ _ _ _ _ | exact Kd.Q_nil _ _ _ _ _ | exact Kd.S_nil _ _ _ _ _, by repeat (first | (with_reducible first | exact HB.out | apply below_alloc | apply pw_below_drewN | apply below_drew1) | exact HB.out)⟩
      · rw [if_neg c11] at H
        have c11b0 : (t149 == 0) = false := beq_eq_false_iff_ne.mpr c11
        have c11b1 : (t149 != 0) = true := bne_iff_ne.mpr c11
        simp only [Option.some.injEq, Prod.mk.injEq] at H
        obtain ⟨rfl, rfl⟩ := H
        go_enter Try.func48, Try.ntmps48
        go_wp2_with (first | ((with_reducible refine gate_callee (f := 75) rfl ?_); refine goesL_ (some 22) rfl rfl Try.func75 (by kernel_rfl) rfl #[.int .i64 a2, .int .i64 a3] rfl (by (try simp only [List.map_toArray, List.map_cons, List.map_nil]); first | done | rfl | (simp only [List.length_drop, List.length_take]; rfl)) ?_; (with_reducible refine (stripe_may.calls a2 a3 true _ A6.out).mono ?_); rintro e w' ⟨rfl, ⟨nd, rfl⟩⟩; refine ⟨_, rfl, ?_⟩) | ((with_reducible refine gate_callee (f := 41) rfl ?_); refine goesL_ (some 27) rfl rfl Try.func41 (by kernel_rfl) rfl #[.int .i64 a4, .int .i64 a2] rfl (by (try simp only [List.map_toArray, List.map_cons, List.map_nil]); first | done | rfl | (simp only [List.length_drop, List.length_take]; rfl)) ?_; (with_reducible refine (stripe_Length.calls a4 a2 t146 t147 _ A8.out).mono ?_); rintro e w' ⟨rfl, ⟨nd, rfl⟩⟩; refine ⟨_, rfl, ?_⟩) | ((with_reducible refine gate_callee (f := 81) rfl ?_); refine goesL_ (some 39) rfl rfl Try.func81 (by kernel_rfl) rfl #[.slice A0 l0.length c0, .slice A1 l1.length c1, .int .i64 a2, .int .i64 a3, .int .i64 t146] rfl (by (try simp only [List.map_toArray, List.map_cons, List.map_nil]); first | done | rfl | (simp only [List.length_drop, List.length_take]; rfl)) ?_; (with_reducible refine (stripe_look.calls k _ _ l0 _ _ l1 a2 a3 t146 t148 t149 _ ?side1 ?side2 ?side3 ?side4 A10.out).mono ?_); (case side1 => repeat (first | exact HR0.out | (with_reducible refine Kd.C_alloc ?_ _) | (with_reducible refine Kd.C_drewN ?_ _) | (with_reducible refine Kd.C_drew ?_))); (case side2 => exact HC0.out); (case side3 => repeat (first | exact HR1.out | (with_reducible refine Kd.C_alloc ?_ _) | (with_reducible refine Kd.C_drewN ?_ _) | (with_reducible refine Kd.C_drew ?_))); (case side4 => exact HC1.out); rintro e w' ⟨rfl, ⟨nd, rfl⟩⟩; refine ⟨_, rfl, ?_⟩))
        go_ret2
        exact ⟨_, by first | rfl | (simp [errW_none, errW_some] <;> rfl) | (simp [*, errW_none, errW_some] <;> rfl), by first | exact Kd.R_nil _ _ _ _ _ | exact Kd.N_nil _ _ _ _ _ | exact Kd.V_nil _ _ _ _ _ | exact Kd.Q_nil _ _ _ _ _ | exact Kd.S_nil _ _ _ _ _, by repeat (first | (with_reducible first | exact HB.out | apply below_alloc | apply pw_below_drewN | apply below_drew1) | exact HB.out)⟩
    · rw [if_neg c9] at H
      have c9b0 : (t147 == 0) = false := beq_eq_false_iff_ne.mpr c9
      have c9b1 : (t147 != 0) = true := bne_iff_ne.mpr c9
      simp only [Option.some.injEq, Prod.mk.injEq] at H
      obtain ⟨rfl, rfl⟩ := H
      go_enter Try.func48, Try.ntmps48
      go_wp2_with (first | ((with_reducible refine gate_callee (f := 75) rfl ?_); refine goesL_ (some 22) rfl rfl Try.func75 (by kernel_rfl) rfl #[.int .i64 a2, .int .i64 a3] rfl (by (try simp only [List.map_toArray, List.map_cons, List.map_nil]); first | done | rfl | (simp only [List.length_drop, List.length_take]; rfl)) ?_; (with_reducible refine (stripe_may.calls a2 a3 true _ A6.out).mono ?_); rintro e w' ⟨rfl, ⟨nd, rfl⟩⟩; refine ⟨_, rfl, ?_⟩) | ((with_reducible refine gate_callee (f := 41) rfl ?_); refine goesL_ (some 27) rfl rfl Try.func41 (by kernel_rfl) rfl #[.int .i64 a4, .int .i64 a2] rfl (by (try simp only [List.map_toArray, List.map_cons, List.map_nil]); first | done | rfl | (simp only [List.length_drop, List.length_take]; rfl)) ?_; (with_reducible refine (stripe_Length.calls a4 a2 t146 t147 _ A8.out).mono ?_); rintro e w' ⟨rfl, ⟨nd, rfl⟩⟩; refine ⟨_, rfl, ?_⟩))
      go_ret2
      exact ⟨_, by first | rfl | (simp [errW_none, errW_some] <;> rfl) | (simp [*, errW_none, errW_some] <;> rfl), by first | exact Kd.R_nil _ _ _ _ _ | exact Kd.N_nil _ _ _ _ _ | exact Kd.V_nil _ _ _ _ _ | exact Kd.Q_nil _ _ _ _ _ | exact Kd.S_nil _ _ _ _ _, by repeat (first | (with_reducible first | exact HB.out | apply below_alloc | apply pw_below_drewN | apply below_drew1) | exact HB.out)⟩
  · replace c7 := Bool.eq_false_iff.mpr c7
    subst c7
    have H1 : (some (([] : List Int), 5)) = some (r1, r2) := by rw [if_neg (show ¬ (false = true) by decide)] at H; exact H
    clear H
    have H := H1
    clear H1
    simp only [Option.some.injEq, Prod.mk.injEq] at H
    obtain ⟨rfl, rfl⟩ := H
    go_enter Try.func48, Try.ntmps48
    go_wp2_with (first | ((with_reducible refine gate_callee (f := 75) rfl ?_); refine goesL_ (some 22) rfl rfl Try.func75 (by kernel_rfl) rfl #[.int .i64 a2, .int .i64 a3] rfl (by (try simp only [List.map_toArray, List.map_cons, List.map_nil]); first | done | rfl | (simp only [List.length_drop, List.length_take]; rfl)) ?_; (with_reducible refine (stripe_may.calls a2 a3 false _ A6.out).mono ?_); rintro e w' ⟨rfl, ⟨nd, rfl⟩⟩; refine ⟨_, rfl, ?_⟩))
    go_ret2
    exact ⟨_, by first | rfl | (simp [errW_none, errW_some] <;> rfl) | (simp [*, errW_none, errW_some] <;> rfl), by first | exact Kd.R_nil _ _ _ _ _ | exact Kd.N_nil _ _ _ _ _ | exact Kd.V_nil _ _ _ _ _ | exact Kd.Q_nil _ _ _ _ _ | exact Kd.S_nil _ _ _ _ _, by repeat (first | (with_reducible first | exact HB.out | apply below_alloc | apply pw_below_drewN | apply below_drew1) | exact HB.out)⟩

end Go.Proofs.Ythmlimkmcofkfaa.Q

/- Contracts of functions of the program, written by a program of this session. -/
namespace Go.Proofs.Ythmlimkmcofkfaa.Q
open Go.RowKit Go.Proofs.YthmlimkmcofkfaaW.PrintWords Go.Proofs.YthmlimkmcofkfaaW.PrintLast Go.Proofs.YthmlimkmcofkfaaW.PrintMore
attribute [local go_sem] max2_int min2_int max_two min_two max_three min_three max_four min_four   -- for this text's walks alone
open Go.Proofs.Ythmlimkmcofkfaa.B Go.Proofs.Ythmlimkmcofkfaa.E
set_option linter.unusedVariables false
set_option linter.unusedSimpArgs false

/-! ### stowagelaw03_awake: function 44 -/
def stowagelaw03_awake.f (k : Nat)  : Option (Bool) := (stripe_Split.f k (([1, 2, 3] : List Int)) 2 1).bind fun bt180 => ((stowagelaw03_three.f).bind fun t184 => ((stripe_Join.f k t184 (([false, true, true] : List Bool)) 2 1 3).bind fun bt190 => (if bt180.2 = 0 then ((stowagelaw03_three.f).bind fun t194 => ((stowagekit_SameLists.f k bt180.1 t194).bind fun t197 => (if t197 = true then (if bt190.2 = 0 then ((stowagekit_SameBytes.f bt190.1 (([1, 2, 3] : List Int))).bind fun t201 => (some t201)) else (none)) else (none)))) else (none))))
theorem stowagelaw03_awake.mono : ∀ k, LeO (stowagelaw03_awake.f k ) (stowagelaw03_awake.f (k + 1) ) := by
  intro  k
  unfold stowagelaw03_awake.f
  repeat' first
      | (with_reducible exact stowagekit_SameLists.mono _ _ _)
      | (with_reducible exact stripe_Join.mono _ _ _ _ _ _)
      | (with_reducible exact stripe_Split.mono _ _ _ _)
      | (with_reducible exact LeO.refl _)
      | (with_reducible exact LeO.none _)
      | (with_reducible refine LeO.ite ?_ ?_)
      | (with_reducible refine LeO.bind ?_ (fun _ => ?_))
      | exact stowagekit_SameLists.mono _ _ _
      | exact stripe_Join.mono _ _ _ _ _ _
      | exact stripe_Split.mono _ _ _ _
      | exact LeO.none _
      | refine LeO.ite ?_ ?_
      | refine LeO.bind ?_ (fun _ => ?_)
set_option maxHeartbeats 8000000 in
set_option maxRecDepth 100000 in
theorem stowagelaw03_awake.calls (k : Nat)  (r : Bool) (w : World) (h : stowagelaw03_awake.f k  = some r) :
    Calls Try.prog 44 #[] w fun e w' => e = .returned (.bool r) ∧ Below w.heap.size w w' := by
  have HB := Aside0.mk (Below.refl w.heap.size w)
  have H : ((stripe_Split.f k (([1, 2, 3] : List Int)) 2 1).bind fun bt180 => ((stowagelaw03_three.f).bind fun t184 => ((stripe_Join.f k t184 (([false, true, true] : List Bool)) 2 1 3).bind fun bt190 => (if bt180.2 = 0 then ((stowagelaw03_three.f).bind fun t194 => ((stowagekit_SameLists.f k bt180.1 t194).bind fun t197 => (if t197 = true then (if bt190.2 = 0 then ((stowagekit_SameBytes.f bt190.1 (([1, 2, 3] : List Int))).bind fun t201 => (some t201)) else (none)) else (none)))) else (none))))) = some r := h
  clear h
  obtain ⟨y177, hy177⟩ : ∃ y_ : List Int, y_ = (([1, 2, 3] : List Int)) := ⟨_, rfl⟩
  replace H : ((stripe_Split.f k y177 2 1).bind fun bt180 => ((stowagelaw03_three.f).bind fun t184 => ((stripe_Join.f k t184 (([false, true, true] : List Bool)) 2 1 3).bind fun bt190 => (if bt180.2 = 0 then ((stowagelaw03_three.f).bind fun t194 => ((stowagekit_SameLists.f k bt180.1 t194).bind fun t197 => (if t197 = true then (if bt190.2 = 0 then ((stowagekit_SameBytes.f bt190.1 (([1, 2, 3] : List Int))).bind fun t201 => (some t201)) else (none)) else (none)))) else (none))))) = some r := by first | (rw [hy177]; with_reducible exact H) | (have H2_ := (Option.bind_some _ _).symm.trans H; rw [hy177]; with_reducible exact H2_) | (have H2_ := (Option.bind_some _ _).symm.trans H; with_reducible exact H2_) | with_reducible exact H | (rw [hy177]; exact H) | exact H
  have Ny177 := Aside0.mk hy177
  clear hy177
  replace H := Option.bind_eq_some_iff.mp H
  obtain ⟨⟨t180, t181⟩, A10, H⟩ := H
  replace H : ((stowagelaw03_three.f).bind fun t184 => ((stripe_Join.f k t184 (([false, true, true] : List Bool)) 2 1 3).bind fun bt190 => (if t181 = 0 then ((stowagelaw03_three.f).bind fun t194 => ((stowagekit_SameLists.f k t180 t194).bind fun t197 => (if t197 = true then (if bt190.2 = 0 then ((stowagekit_SameBytes.f bt190.1 (([1, 2, 3] : List Int))).bind fun t201 => (some t201)) else (none)) else (none)))) else (none)))) = some r := H
  have A1 := Aside0.mk A10
  clear A10
  replace H := Option.bind_eq_some_iff.mp H
  obtain ⟨t184, A20, H⟩ := H
  replace H : ((stripe_Join.f k t184 (([false, true, true] : List Bool)) 2 1 3).bind fun bt190 => (if t181 = 0 then ((stowagelaw03_three.f).bind fun t194 => ((stowagekit_SameLists.f k t180 t194).bind fun t197 => (if t197 = true then (if bt190.2 = 0 then ((stowagekit_SameBytes.f bt190.1 (([1, 2, 3] : List Int))).bind fun t201 => (some t201)) else (none)) else (none)))) else (none))) = some r := H
  have A2 := Aside0.mk A20
  clear A20
  obtain ⟨y187, hy187⟩ : ∃ y_ : List Bool, y_ = (([false, true, true] : List Bool)) := ⟨_, rfl⟩
  replace H : ((stripe_Join.f k t184 y187 2 1 3).bind fun bt190 => (if t181 = 0 then ((stowagelaw03_three.f).bind fun t194 => ((stowagekit_SameLists.f k t180 t194).bind fun t197 => (if t197 = true then (if bt190.2 = 0 then ((stowagekit_SameBytes.f bt190.1 (([1, 2, 3] : List Int))).bind fun t201 => (some t201)) else (none)) else (none)))) else (none))) = some r := by first | (rw [hy187]; with_reducible exact H) | (have H2_ := (Option.bind_some _ _).symm.trans H; rw [hy187]; with_reducible exact H2_) | (have H2_ := (Option.bind_some _ _).symm.trans H; with_reducible exact H2_) | with_reducible exact H | (rw [hy187]; exact H) | exact H
  have Ny187 := Aside0.mk hy187
  clear hy187
  replace H := Option.bind_eq_some_iff.mp H
  obtain ⟨⟨t190, t191⟩, A30, H⟩ := H
  replace H : (if t181 = 0 then ((stowagelaw03_three.f).bind fun t194 => ((stowagekit_SameLists.f k t180 t194).bind fun t197 => (if t197 = true then (if t191 = 0 then ((stowagekit_SameBytes.f t190 (([1, 2, 3] : List Int))).bind fun t201 => (some t201)) else (none)) else (none)))) else (none)) = some r := H
  have A3 := Aside0.mk A30
  clear A30
  by_cases c4 : t181 = 0
  · rw [if_pos c4] at H
    have c4b0 : (t181 == 0) = true := beq_iff_eq.mpr c4
    have c4b1 : (t181 != 0) = false := bne_eq_false_iff_eq.mpr c4
    clear c4
    replace H := Option.bind_eq_some_iff.mp H
    obtain ⟨t194, A50, H⟩ := H
    replace H : ((stowagekit_SameLists.f k t180 t194).bind fun t197 => (if t197 = true then (if t191 = 0 then ((stowagekit_SameBytes.f t190 (([1, 2, 3] : List Int))).bind fun t201 => (some t201)) else (none)) else (none))) = some r := H
    have A5 := Aside0.mk A50
    clear A50
    replace H := Option.bind_eq_some_iff.mp H
    obtain ⟨t197, A60, H⟩ := H
    replace H : (if t197 = true then (if t191 = 0 then ((stowagekit_SameBytes.f t190 (([1, 2, 3] : List Int))).bind fun t201 => (some t201)) else (none)) else (none)) = some r := H
    have A6 := Aside0.mk A60
    clear A60
    by_cases c7 : t197 = true
    · subst c7
      have H1 : (if t191 = 0 then ((stowagekit_SameBytes.f t190 (([1, 2, 3] : List Int))).bind fun t201 => (some t201)) else (none)) = some r := by rw [if_pos rfl] at H; exact H
      clear H
      have H := H1
      clear H1
      by_cases c8 : t191 = 0
      · rw [if_pos c8] at H
        have c8b0 : (t191 == 0) = true := beq_iff_eq.mpr c8
        have c8b1 : (t191 != 0) = false := bne_eq_false_iff_eq.mpr c8
        clear c8
        obtain ⟨y198, hy198⟩ : ∃ y_ : List Int, y_ = (([1, 2, 3] : List Int)) := ⟨_, rfl⟩
        replace H : ((stowagekit_SameBytes.f t190 y198).bind fun t201 => (some t201)) = some r := by first | (rw [hy198]; with_reducible exact H) | (have H2_ := (Option.bind_some _ _).symm.trans H; rw [hy198]; with_reducible exact H2_) | (have H2_ := (Option.bind_some _ _).symm.trans H; with_reducible exact H2_) | with_reducible exact H | (rw [hy198]; exact H) | exact H
        have Ny198 := Aside0.mk hy198
        clear hy198
        replace H := Option.bind_eq_some_iff.mp H
        obtain ⟨t201, A90, H⟩ := H
        replace H : (some t201) = some r := H
        have A9 := Aside0.mk A90
        clear A90
        obtain rfl := Option.some.inj H
        go_enter Try.func44, Try.ntmps44
        go_wp2_with (first | ((with_reducible refine gate_dst (N := 6) rfl ?_); (try (refine gate_guard (by rfl) ?_; dsimp only)); refine Kd.R_lit (Kd.int .u8) _ 5 ?hg (N := 6) ?hd (xs := ([1, 2, 3] : List Int)) (inner := [.int .u8 1, .int .u8 2, .int .u8 3]) (ok := fun _ => True) (okp := fun _ => True) ?hr ?hp (fun _ hk => hk) trivial (Below.refl _ _) (Nat.le_refl _) (by simp) ?_; (case hd => rfl); (case hg => rfl); (case hr => first | (go_simp; done) | (go_simp; rfl)); (case hp => exact (Reps.one (show Kd.M (Kd.int .u8) _ _ _ 1 [.int .u8 1] from rfl) (Reps.one (show Kd.M (Kd.int .u8) _ _ _ 2 [.int .u8 2] from rfl) (Reps.one (show Kd.M (Kd.int .u8) _ _ _ 3 [.int .u8 3] from rfl) (Reps.none _ _))))); intro v178 w10 ho11 hb hg_ hnew_; clear hg_ hnew_; (first | rw [← Ny177.out] at ho11 | (simp only [Int.reduceToNat] at ho11; rw [← Ny177.out] at ho11)); have n0_ := Aside0.mk (Kd.R_lower ho11 (below_size (by repeat (first | (with_reducible first | exact HB.out | apply below_alloc | apply pw_below_drewN | apply below_drew1) | exact HB.out)))); have n1_ := Aside0.mk (below_step (by repeat (first | (with_reducible first | exact HB.out | apply below_alloc | apply pw_below_drewN | apply below_drew1) | exact HB.out)) hb); clear HB; have HO179 := n0_; have HB := n1_; clear n0_ n1_; clear hb ho11; obtain ⟨Ao12, co12, eo12⟩ := Kd.R_slice HO179.out; subst eo12) | ((with_reducible refine gate_callee (f := 39) rfl ?_); refine goesL_ (some 7) rfl rfl Try.func39 (by kernel_rfl) rfl #[.slice Ao12 y177.length co12, .int .i64 2, .int .i64 1] rfl (by (try simp only [List.map_toArray, List.map_cons, List.map_nil]); first | done | rfl | (simp only [List.length_drop, List.length_take]; rfl)) ?_; (with_reducible refine (stripe_Split.calls k _ _ y177 2 1 t180 t181 _ ?side1 ?side2 A1.out).mono ?_); (case side1 => repeat (first | exact (Kd.R_reads' HO179.out).2.2 | (with_reducible refine Kd.C_alloc ?_ _) | (with_reducible refine Kd.C_drewN ?_ _) | (with_reducible refine Kd.C_drew ?_))); (case side2 => exact (Kd.R_reads' HO179.out).2.1); rintro e w13 ⟨v182, rfl, ho0, hb⟩; refine ⟨_, rfl, ?_⟩; have n0_ := Aside0.mk (Kd.R_below (by (with_reducible repeat (first | apply Kd.R_alloc | apply Kd.R_drewN | apply Kd.R_drew)); exact HO179.out) hb); have n1_ := Aside0.mk (Kd.N_lower (Kd.N_mono (ok' := fun k_ => some k_ ≠ (.slice Ao12 y177.length co12 : Value).ownBlock) (Kd.S_N (Kd.S_bound ho0)) (fun k_ hk_ => (Kd.fresh' (Kd.R_lt (by (with_reducible repeat (first | apply Kd.R_alloc | apply Kd.R_drewN | apply Kd.R_drew)); exact HO179.out)) k_ hk_.2.1))) (below_size (by repeat (first | (with_reducible first | exact HB.out | apply below_alloc | apply pw_below_drewN | apply below_drew1) | exact HB.out)))); have n2_ := Aside0.mk (below_step (by repeat (first | (with_reducible first | exact HB.out | apply below_alloc | apply pw_below_drewN | apply below_drew1) | exact HB.out)) hb); clear HO179; clear HB; have HO179 := n0_; have HO183 := n1_; have HB := n2_; clear n0_ n1_ n2_; (try clear hb); (try clear hb2); (try clear hk); (try clear hi); (try clear ho0)) | ((with_reducible refine gate_callee (f := 80) rfl ?_); refine goesL_ (some 11) rfl rfl Try.func80 (by kernel_rfl) rfl #[] rfl (by (try simp only [List.map_toArray, List.map_cons, List.map_nil]); first | done | rfl | (simp only [List.length_drop, List.length_take]; rfl)) ?_; (with_reducible refine (stowagelaw03_three.calls  t184 _ A2.out).mono ?_); rintro e w14 ⟨v185, rfl, ho0, hb⟩; refine ⟨_, rfl, ?_⟩; have n0_ := Aside0.mk (Kd.R_below (by (with_reducible repeat (first | apply Kd.R_alloc | apply Kd.R_drewN | apply Kd.R_drew)); exact HO179.out) hb); have n1_ := Aside0.mk (Kd.N_elder' (by (with_reducible repeat (first | apply Kd.N_alloc | apply Kd.N_drewN | apply Kd.N_drew)); exact HO183.out) (by first | exact Kd.N_base ho0 | exact Kd.S_base ho0) hb); have n2_ := Aside0.mk (Kd.N_lower (Kd.N_mono (ok' := fun k_ => some k_ ≠ (.slice Ao12 y177.length co12 : Value).ownBlock ∧ some k_ ≠ (v182 : Value).ownBlock) ho0 (fun k_ hk_ => ⟨(Kd.fresh' (Kd.R_lt (by (with_reducible repeat (first | apply Kd.R_alloc | apply Kd.R_drewN | apply Kd.R_drew)); exact HO179.out)) k_ hk_), (Kd.fresh' (Kd.N_lt (by (with_reducible repeat (first | apply Kd.N_alloc | apply Kd.N_drewN | apply Kd.N_drew)); exact HO183.out)) k_ hk_)⟩)) (below_size (by repeat (first | (with_reducible first | exact HB.out | apply below_alloc | apply pw_below_drewN | apply below_drew1) | exact HB.out)))); have n3_ := Aside0.mk (below_step (by repeat (first | (with_reducible first | exact HB.out | apply below_alloc | apply pw_below_drewN | apply below_drew1) | exact HB.out)) hb); clear HO179; clear HO183; clear HB; have HO179 := n0_; have HO183 := n1_; have HO186 := n2_; have HB := n3_; clear n0_ n1_ n2_ n3_; (try clear hb); (try clear hb2); (try clear hk); (try clear hi); (try clear ho0)) | ((with_reducible refine gate_dst (N := 12) rfl ?_); (try (refine gate_guard (by rfl) ?_; dsimp only)); refine Kd.R_lit Kd.bool _ 4 ?hg (N := 12) ?hd (xs := ([false, true, true] : List Bool)) (inner := [.bool false, .bool true, .bool true]) (ok := fun _ => True) (okp := fun _ => True) ?hr ?hp (fun _ hk => hk) trivial (Below.refl _ _) (Nat.le_refl _) (by simp) ?_; (case hd => rfl); (case hg => rfl); (case hr => first | (go_simp; done) | (go_simp; rfl)); (case hp => exact (Reps.one (show Kd.M Kd.bool _ _ _ false [.bool false] from rfl) (Reps.one (show Kd.M Kd.bool _ _ _ true [.bool true] from rfl) (Reps.one (show Kd.M Kd.bool _ _ _ true [.bool true] from rfl) (Reps.none _ _))))); intro v188 w15 ho16 hb hg_ hnew_; clear hg_ hnew_; (first | rw [← Ny187.out] at ho16 | (simp only [Int.reduceToNat] at ho16; rw [← Ny187.out] at ho16)); have n0_ := Aside0.mk (Kd.R_below (by (with_reducible repeat (first | apply Kd.R_alloc | apply Kd.R_drewN | apply Kd.R_drew)); exact HO179.out) hb); have n1_ := Aside0.mk (Kd.N_elder' (by (with_reducible repeat (first | apply Kd.N_alloc | apply Kd.N_drewN | apply Kd.N_drew)); exact HO183.out) (Kd.R_base ho16) hb); have n2_ := Aside0.mk (Kd.N_elder' (by (with_reducible repeat (first | apply Kd.N_alloc | apply Kd.N_drewN | apply Kd.N_drew)); exact HO186.out) (Kd.R_base ho16) hb); have n3_ := Aside0.mk (Kd.R_lower ho16 (below_size (by repeat (first | (with_reducible first | exact HB.out | apply below_alloc | apply pw_below_drewN | apply below_drew1) | exact HB.out)))); have n4_ := Aside0.mk (below_step (by repeat (first | (with_reducible first | exact HB.out | apply below_alloc | apply pw_below_drewN | apply below_drew1) | exact HB.out)) hb); clear HO179; clear HO183; clear HO186; clear HB; have HO179 := n0_; have HO183 := n1_; have HO186 := n2_; have HO189 := n3_; have HB := n4_; clear n0_ n1_ n2_ n3_ n4_; clear hb ho16; obtain ⟨Ao17, co17, eo17⟩ := Kd.N_slice HO186.out; subst eo17; obtain ⟨Ao18, co18, eo18⟩ := Kd.R_slice HO189.out; subst eo18) | ((with_reducible refine gate_callee (f := 48) rfl ?_); refine goesL_ (some 13) rfl rfl Try.func48 (by kernel_rfl) rfl #[.slice Ao17 t184.length co17, .slice Ao18 y187.length co18, .int .i64 2, .int .i64 1, .int .i64 3] rfl (by (try simp only [List.map_toArray, List.map_cons, List.map_nil]); first | done | rfl | (simp only [List.length_drop, List.length_take]; rfl)) ?_; (with_reducible refine (stripe_Join.calls k _ _ t184 _ _ y187 2 1 3 t190 t191 _ ?side1 ?side2 ?side3 ?side4 A3.out).mono ?_); (case side1 => repeat (first | exact (Kd.N_reads' HO186.out).2.2 | (with_reducible refine Kd.C_alloc ?_ _) | (with_reducible refine Kd.C_drewN ?_ _) | (with_reducible refine Kd.C_drew ?_))); (case side2 => exact (Kd.N_reads' HO186.out).2.1); (case side3 => repeat (first | exact (Kd.R_reads' HO189.out).2.2 | (with_reducible refine Kd.C_alloc ?_ _) | (with_reducible refine Kd.C_drewN ?_ _) | (with_reducible refine Kd.C_drew ?_))); (case side4 => exact (Kd.R_reads' HO189.out).2.1); rintro e w19 ⟨v192, rfl, ho0, hb⟩; refine ⟨_, rfl, ?_⟩; have n0_ := Aside0.mk (Kd.R_elder' (by (with_reducible repeat (first | apply Kd.R_alloc | apply Kd.R_drewN | apply Kd.R_drew)); exact HO179.out) (Kd.R_base ho0) hb); have n1_ := Aside0.mk (Kd.N_elder' (by (with_reducible repeat (first | apply Kd.N_alloc | apply Kd.N_drewN | apply Kd.N_drew)); exact HO183.out) (Kd.R_base ho0) hb); have n2_ := Aside0.mk (Kd.N_elder' (by (with_reducible repeat (first | apply Kd.N_alloc | apply Kd.N_drewN | apply Kd.N_drew)); exact HO186.out) (Kd.R_base ho0) hb); have n3_ := Aside0.mk (Kd.R_below (by (with_reducible repeat (first | apply Kd.R_alloc | apply Kd.R_drewN | apply Kd.R_drew)); exact HO189.out) hb); have n4_ := Aside0.mk (Kd.R_lower (Kd.R_new' ho0 (Kd.R_lt (by (with_reducible repeat (first | apply Kd.R_alloc | apply Kd.R_drewN | apply Kd.R_drew)); exact HO179.out))) (below_size (by repeat (first | (with_reducible first | exact HB.out | apply below_alloc | apply pw_below_drewN | apply below_drew1) | exact HB.out)))); have n5_ := Aside0.mk (below_step (by repeat (first | (with_reducible first | exact HB.out | apply below_alloc | apply pw_below_drewN | apply below_drew1) | exact HB.out)) hb); clear HO179; clear HO183; clear HO186; clear HO189; clear HB; have HO179 := n0_; have HO183 := n1_; have HO186 := n2_; have HO189 := n3_; have HO193 := n4_; have HB := n5_; clear n0_ n1_ n2_ n3_ n4_ n5_; (try clear hb); (try clear hb2); (try clear hk); (try clear hi); (try clear ho0)) | (go_at_call 80; (with_reducible refine (stowagelaw03_three.calls  t194 _ A5.out).mono ?_); rintro e w20 ⟨v195, rfl, ho0, hb⟩; have n0_ := Aside0.mk (Kd.R_below (by (with_reducible repeat (first | apply Kd.R_alloc | apply Kd.R_drewN | apply Kd.R_drew)); exact HO179.out) hb); have n1_ := Aside0.mk (Kd.N_elder' (by (with_reducible repeat (first | apply Kd.N_alloc | apply Kd.N_drewN | apply Kd.N_drew)); exact HO183.out) (by first | exact Kd.N_base ho0 | exact Kd.S_base ho0) hb); have n2_ := Aside0.mk (Kd.N_elder' (by (with_reducible repeat (first | apply Kd.N_alloc | apply Kd.N_drewN | apply Kd.N_drew)); exact HO186.out) (by first | exact Kd.N_base ho0 | exact Kd.S_base ho0) hb); have n3_ := Aside0.mk (Kd.R_below (by (with_reducible repeat (first | apply Kd.R_alloc | apply Kd.R_drewN | apply Kd.R_drew)); exact HO189.out) hb); have n4_ := Aside0.mk (Kd.R_below (by (with_reducible repeat (first | apply Kd.R_alloc | apply Kd.R_drewN | apply Kd.R_drew)); exact HO193.out) hb); have n5_ := Aside0.mk (Kd.N_lower (Kd.N_mono (ok' := fun k_ => some k_ ≠ (.slice Ao12 y177.length co12 : Value).ownBlock ∧ some k_ ≠ (v182 : Value).ownBlock ∧ some k_ ≠ (.slice Ao17 t184.length co17 : Value).ownBlock ∧ some k_ ≠ (.slice Ao18 y187.length co18 : Value).ownBlock ∧ some k_ ≠ (v192 : Value).ownBlock) ho0 (fun k_ hk_ => ⟨(Kd.fresh' (Kd.R_lt (by (with_reducible repeat (first | apply Kd.R_alloc | apply Kd.R_drewN | apply Kd.R_drew)); exact HO179.out)) k_ hk_), (Kd.fresh' (Kd.N_lt (by (with_reducible repeat (first | apply Kd.N_alloc | apply Kd.N_drewN | apply Kd.N_drew)); exact HO183.out)) k_ hk_), (Kd.fresh' (Kd.N_lt (by (with_reducible repeat (first | apply Kd.N_alloc | apply Kd.N_drewN | apply Kd.N_drew)); exact HO186.out)) k_ hk_), (Kd.fresh' (Kd.R_lt (by (with_reducible repeat (first | apply Kd.R_alloc | apply Kd.R_drewN | apply Kd.R_drew)); exact HO189.out)) k_ hk_), (Kd.fresh' (Kd.R_lt (by (with_reducible repeat (first | apply Kd.R_alloc | apply Kd.R_drewN | apply Kd.R_drew)); exact HO193.out)) k_ hk_)⟩)) (below_size (by repeat (first | (with_reducible first | exact HB.out | apply below_alloc | apply pw_below_drewN | apply below_drew1) | exact HB.out)))); have n6_ := Aside0.mk (below_step (by repeat (first | (with_reducible first | exact HB.out | apply below_alloc | apply pw_below_drewN | apply below_drew1) | exact HB.out)) hb); clear HO179; clear HO183; clear HO186; clear HO189; clear HO193; clear HB; have HO179 := n0_; have HO183 := n1_; have HO186 := n2_; have HO189 := n3_; have HO193 := n4_; have HO196 := n5_; have HB := n6_; clear n0_ n1_ n2_ n3_ n4_ n5_ n6_; (try clear hb); (try clear hb2); (try clear hk); (try clear hi); (try clear ho0); obtain ⟨Ao21, co21, eo21⟩ := Kd.N_slice HO183.out; subst eo21; obtain ⟨Ao22, co22, eo22⟩ := Kd.N_slice HO196.out; subst eo22) | (go_at_call 22; (with_reducible refine (stowagekit_SameLists.calls k _ _ t180 _ _ t194 true _ ?side1 ?side2 ?side3 ?side4 A6.out).mono ?_); (case side1 => repeat (first | exact (Kd.N_reads' HO183.out).2.2 | (with_reducible refine Kd.C_alloc ?_ _) | (with_reducible refine Kd.C_drewN ?_ _) | (with_reducible refine Kd.C_drew ?_))); (case side2 => exact (Kd.N_reads' HO183.out).2.1); (case side3 => repeat (first | exact (Kd.N_reads' HO196.out).2.2 | (with_reducible refine Kd.C_alloc ?_ _) | (with_reducible refine Kd.C_drewN ?_ _) | (with_reducible refine Kd.C_drew ?_))); (case side4 => exact (Kd.N_reads' HO196.out).2.1); rintro e w' ⟨rfl, ⟨nd, rfl⟩⟩) | ((with_reducible refine gate_dst (N := 29) rfl ?_); (try (refine gate_guard (by rfl) ?_; dsimp only)); refine Kd.R_lit (Kd.int .u8) _ 5 ?hg (N := 29) ?hd (xs := ([1, 2, 3] : List Int)) (inner := [.int .u8 1, .int .u8 2, .int .u8 3]) (ok := fun _ => True) (okp := fun _ => True) ?hr ?hp (fun _ hk => hk) trivial (Below.refl _ _) (Nat.le_refl _) (by simp) ?_; (case hd => rfl); (case hg => rfl); (case hr => first | (go_simp; done) | (go_simp; rfl)); (case hp => exact (Reps.one (show Kd.M (Kd.int .u8) _ _ _ 1 [.int .u8 1] from rfl) (Reps.one (show Kd.M (Kd.int .u8) _ _ _ 2 [.int .u8 2] from rfl) (Reps.one (show Kd.M (Kd.int .u8) _ _ _ 3 [.int .u8 3] from rfl) (Reps.none _ _))))); intro v199 w23 ho24 hb hg_ hnew_; clear hg_ hnew_; (first | rw [← Ny198.out] at ho24 | (simp only [Int.reduceToNat] at ho24; rw [← Ny198.out] at ho24)); have n0_ := Aside0.mk (Kd.R_elder' (by (with_reducible repeat (first | apply Kd.R_alloc | apply Kd.R_drewN | apply Kd.R_drew)); exact HO179.out) (Kd.R_base ho24) hb); have n1_ := Aside0.mk (Kd.N_elder' (by (with_reducible repeat (first | apply Kd.N_alloc | apply Kd.N_drewN | apply Kd.N_drew)); exact HO183.out) (Kd.R_base ho24) hb); have n2_ := Aside0.mk (Kd.N_elder' (by (with_reducible repeat (first | apply Kd.N_alloc | apply Kd.N_drewN | apply Kd.N_drew)); exact HO186.out) (Kd.R_base ho24) hb); have n3_ := Aside0.mk (Kd.R_below (by (with_reducible repeat (first | apply Kd.R_alloc | apply Kd.R_drewN | apply Kd.R_drew)); exact HO189.out) hb); have n4_ := Aside0.mk (Kd.R_elder' (by (with_reducible repeat (first | apply Kd.R_alloc | apply Kd.R_drewN | apply Kd.R_drew)); exact HO193.out) (Kd.R_base ho24) hb); have n5_ := Aside0.mk (Kd.N_elder' (by (with_reducible repeat (first | apply Kd.N_alloc | apply Kd.N_drewN | apply Kd.N_drew)); exact HO196.out) (Kd.R_base ho24) hb); have n6_ := Aside0.mk (Kd.R_lower (Kd.R_new' (Kd.R_new' ho24 (Kd.R_lt (by (with_reducible repeat (first | apply Kd.R_alloc | apply Kd.R_drewN | apply Kd.R_drew)); exact HO179.out))) (Kd.R_lt (by (with_reducible repeat (first | apply Kd.R_alloc | apply Kd.R_drewN | apply Kd.R_drew)); exact HO193.out))) (below_size (by repeat (first | (with_reducible first | exact HB.out | apply below_alloc | apply pw_below_drewN | apply below_drew1) | exact HB.out)))); have n7_ := Aside0.mk (below_step (by repeat (first | (with_reducible first | exact HB.out | apply below_alloc | apply pw_below_drewN | apply below_drew1) | exact HB.out)) hb); clear HO179; clear HO183; clear HO186; clear HO189; clear HO193; clear HO196; clear HB; have HO179 := n0_; have HO183 := n1_; have HO186 := n2_; have HO189 := n3_; have HO193 := n4_; have HO196 := n5_; have HO200 := n6_; have HB := n7_; clear n0_ n1_ n2_ n3_ n4_ n5_ n6_ n7_; clear hb ho24; obtain ⟨Ao25, co25, eo25⟩ := Kd.R_slice HO193.out; subst eo25; obtain ⟨Ao26, co26, eo26⟩ := Kd.R_slice HO200.out; subst eo26) | (go_at_call 55; (with_reducible refine (stowagekit_SameBytes.calls _ _ t190 _ _ y198 t201 _ ?side1 ?side2 ?side3 ?side4 A9.out).mono ?_); (case side1 => repeat (first | exact (Kd.R_reads' HO193.out).2.2 | (with_reducible refine Kd.C_alloc ?_ _) | (with_reducible refine Kd.C_drewN ?_ _) | (with_reducible refine Kd.C_drew ?_))); (case side2 => exact (Kd.R_reads' HO193.out).2.1); (case side3 => repeat (first | exact (Kd.R_reads' HO200.out).2.2 | (with_reducible refine Kd.C_alloc ?_ _) | (with_reducible refine Kd.C_drewN ?_ _) | (with_reducible refine Kd.C_drew ?_))); (case side4 => exact (Kd.R_reads' HO200.out).2.1); rintro e w' ⟨rfl, ⟨nd, rfl⟩⟩))
        go_ret
        exact ⟨by first | rfl | (simp [errW_none, errW_some] <;> rfl) | (simp [*, errW_none, errW_some] <;> rfl), by repeat (first | (with_reducible first | exact HB.out | apply below_alloc | apply pw_below_drewN | apply below_drew1) | exact HB.out)⟩
      · rw [if_neg c8] at H
        exact absurd H (by simp)
    · replace c7 := Bool.eq_false_iff.mpr c7
      subst c7
      have H1 : (none) = some r := by rw [if_neg (show ¬ (false = true) by decide)] at H; exact H
      clear H
      have H := H1
      clear H1
      exact absurd H (by simp)
  · rw [if_neg c4] at H
    exact absurd H (by simp)

end Go.Proofs.Ythmlimkmcofkfaa.Q
