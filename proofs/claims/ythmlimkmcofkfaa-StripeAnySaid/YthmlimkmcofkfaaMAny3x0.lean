/- StripeAny: any k shards tell the bytes and all other shards, of any bytes of at most 1,000, any k and m that may be, any choice of k, or of more, shards. (Part 1 of 8.) -/
import Derived.Test.YthmlimkmcofkfaaProg
import Derived.Below
import Derived.Deep.Draws
import Derived.Deep.AppendLies
import Derived.Maps.AppendAt
import Derived.OwnWalk
import Derived.Laws.BytesArg
import Derived.Laws.MakeOwn
import Derived.Laws.OwnMore
import Derived.Deep.OwnRows
import Derived.Tactics
import Derived.Lib.ConvBytes
import Derived.Laws.Slices
import Derived.WalkKit
import Derived.KernelRfl
import Derived.RowKit3
import Derived.Deep.LoopGhost
import Derived.Deep.QuietTactic
import Derived.BigQuiet
import Derived.WideLaws
import Derived.Deep.DeepCutAuto
import Derived.Deep.CutBlock
import Derived.Deep.RegionHeld3
import Derived.Laws.Rows
import Derived.Lib.AppendStr
import Derived.ArgAppend
import Derived.Laws.IdiomCopy
import Derived.OrdersHeld
import Derived.Laws.BitsLemmas
import Derived.RowKit
import Derived.Test.YthmlimkmcofkfaaWWords
import Derived.Test.YthmlimkmcofkfaaWLast
import Derived.Test.YthmlimkmcofkfaaWTab
import Derived.Test.YthmlimkmcofkfaaWFour
import Derived.Test.YthmlimkmcofkfaaWQPut
import Derived.Test.YthmlimkmcofkfaaWApart
import Derived.Test.YthmlimkmcofkfaaWArr
import Derived.Test.YthmlimkmcofkfaaWZeros
import Derived.Test.YthmlimkmcofkfaaWFoot
import Derived.Test.YthmlimkmcofkfaaWKept
import Derived.Test.YthmlimkmcofkfaaWShare
import Derived.Test.YthmlimkmcofkfaaWN
import Derived.Test.YthmlimkmcofkfaaWFootNe
import Derived.Test.YthmlimkmcofkfaaWAt
import Derived.Test.YthmlimkmcofkfaaWEqStruct
import Derived.Test.YthmlimkmcofkfaaWRepsOne
import Derived.Test.YthmlimkmcofkfaaWInv
import Derived.Test.YthmlimkmcofkfaaWInvWords
import Derived.Test.YthmlimkmcofkfaaWGuard
import Derived.Test.YthmlimkmcofkfaaWNEv
import Derived.Test.YthmlimkmcofkfaaWMore
import Derived.LoopTactic
import Derived.Outline
import Derived.Lib.Hide
import Derived.Laws.BitsAllLaws
import Derived.StillTailTactics
import Derived.RegionTactic
import Derived.BigRegion
/- Contracts of functions of the program, written by a program of this session. -/
namespace Go.Proofs.Ythmlimkmcofkfaa.B
open Go.RowKit Go.Proofs.YthmlimkmcofkfaaW.PrintWords Go.Proofs.YthmlimkmcofkfaaW.PrintLast Go.Proofs.YthmlimkmcofkfaaW.PrintMore
attribute [local go_sem] max2_int min2_int max_two min_two max_three min_three max_four min_four   -- for this text's walks alone
set_option linter.unusedVariables false
set_option linter.unusedSimpArgs false



def errW : Option Int → Value
  | none => .nilIface
  | some c => .iface 0 (.int .i64 c)
theorem errW_none : errW none = .nilIface := rfl
theorem errW_some (c : Int) : errW (some c) = .iface 0 (.int .i64 c) := rfl

theorem info4 : (Try.prog.info? 4).map (fun i => (i.zero, i.size, i.bytes)) = some (some (.bool false), 1, 1) := by kernel_rfl
theorem info5 : (Try.prog.info? 5).map (fun i => (i.zero, i.size, i.bytes)) = some (some (.int .u8 0), 1, 1) := by kernel_rfl
theorem info41 : (Try.prog.info? 41).map (fun i => (i.zero, i.size, i.bytes)) = some (some (.slice none 0 0), 1, 24) := by kernel_rfl
-- the values' own types
def rd_L1 (xs : List (List Int)) (i : Int) : (List Int) := xs.getD i.toNat ([] : List Int)
theorem at_L1 {w : World} {A : Option Addr} {n : Nat} {xs : List (List Int)} (h : Kd.C (Kd.slice 5 (Kd.int .u8)) w A n xs) (i : Int) (h0 : 0 ≤ i) (h1 : i < n) : ∃ ad A0 c0, A = some ad ∧ w.cell? (ad.add i.toNat) = some (.slice A0 (rd_L1 xs i).length c0) ∧ (rd_L1 xs i).length ≤ c0 ∧ (Kd.int .u8).C w A0 (rd_L1 xs i).length (rd_L1 xs i) := by
  obtain ⟨ad, c, e, _, hK, hc0⟩ := Kd.C_get h ([] : List Int) i h0 h1
  have hc : ∀ j u, c[j]? = some u → w.cell? (ad.add (i.toNat * 1 + j)) = some u := hc0
  obtain ⟨A0, c0, rfl, l0, g0⟩ := hK
  exact ⟨ad, A0, c0, e, by have hq := hc 0 _ rfl; rwa [Nat.mul_one, Nat.add_zero] at hq, l0, g0⟩

end Go.Proofs.Ythmlimkmcofkfaa.B

/- Contracts of functions of the program, written by a program of this session. -/
namespace Go.Proofs.Ythmlimkmcofkfaa.B
open Go.RowKit Go.Proofs.YthmlimkmcofkfaaW.PrintWords Go.Proofs.YthmlimkmcofkfaaW.PrintLast Go.Proofs.YthmlimkmcofkfaaW.PrintMore
attribute [local go_sem] max2_int min2_int max_two min_two max_three min_three max_four min_four   -- for this text's walks alone
set_option linter.unusedVariables false
set_option linter.unusedSimpArgs false

/-! ### matrix_one: function 59 -/
def matrix_one.l0 : Nat → Int → List (List Int) → Int → Int → Option ((List (List Int)))
  | 0, _, _, _, _ => none
  | k + 1, x0, x3, x6, x7 => if x7 < x6 then (if 0 ≤ x0 then (if (x0 : Int).toNat ≤ 281474976710656 then ((some (List.replicate (x0 : Int).toNat 0 : List Int)).bind fun y127 => (if 0 ≤ x7 then (if x7 < (y127.length : Int) then (if x3.length < 5864062014805 then (matrix_one.l0 k x0 (x3 ++ [(y127.set (x7 : Int).toNat 1)]) x6 (wrap64 (x7 + 1))) else (none)) else (none)) else (none))) else (none)) else (none)) else (some x3)
def matrix_one.f (k : Nat) (a0 : Int) : Option ((List (List Int))) := matrix_one.l0 k a0 ([] : List (List Int)) a0 0
theorem matrix_one.mono_l : ∀ k, (∀ y0 y1 y2 y3, LeO (matrix_one.l0 k y0 y1 y2 y3) (matrix_one.l0 (k + 1) y0 y1 y2 y3))
  | 0 => fun _ _ _ _ r h => by simp [matrix_one.l0] at h
  | k + 1 => by
    have ih0 := matrix_one.mono_l k
    · intro y0 y1 y2 y3
      unfold matrix_one.l0
      repeat' first
      | (with_reducible exact ih0 _ _ _ _)
      | (with_reducible exact LeO.refl _)
      | (with_reducible exact LeO.none _)
      | (with_reducible refine LeO.ite ?_ ?_)
      | (with_reducible refine LeO.bind ?_ (fun _ => ?_))
      | exact ih0 _ _ _ _
      | exact LeO.none _
      | refine LeO.ite ?_ ?_
      | refine LeO.bind ?_ (fun _ => ?_)
theorem matrix_one.mono : ∀ a0 k, LeO (matrix_one.f k a0) (matrix_one.f (k + 1) a0) := by
  intro a0 k
  have ih0 := matrix_one.mono_l k
  unfold matrix_one.f
  repeat' first
      | (with_reducible exact ih0 _ _ _ _)
      | (with_reducible exact LeO.refl _)
      | (with_reducible exact LeO.none _)
      | (with_reducible refine LeO.ite ?_ ?_)
      | (with_reducible refine LeO.bind ?_ (fun _ => ?_))
      | exact ih0 _ _ _ _
      | exact LeO.none _
      | refine LeO.ite ?_ ?_
      | refine LeO.bind ?_ (fun _ => ?_)
set_option maxHeartbeats 8000000 in
set_option maxRecDepth 100000 in
theorem matrix_one.calls (k : Nat) (a0 : Int) (r : List (List Int)) (w : World) (h : matrix_one.f k a0 = some r) :
    Calls Try.prog 59 #[.int .i64 a0] w fun e w' => ∃ v0_ : Value, e = .returned (v0_) ∧ Kd.S (Kd.slice 5 (Kd.int .u8)) 41 w' w.heap.size (fun _ => True) v0_ r ∧ Below w.heap.size w w' := by
  have HB := Aside0.mk (Below.refl w.heap.size w)
  have H : (matrix_one.l0 k a0 ([] : List (List Int)) a0 0) = some r := h
  clear h
  have H' := Aside0.mk H
  clear H
  go_enter Try.func59, Try.ntmps59
  go_wp2
  go_loopg [3, 7] k (fun kq v3 v7 w' => ∃ (x3_1 : List (List Int)) (x7_1 : Int), v7 = .int .i64 x7_1 ∧ Aside0 (matrix_one.l0 kq a0 x3_1 a0 x7_1 = some r) ∧ Aside0 (kq ≤ k) ∧ Aside0 (Kd.S (Kd.slice 5 (Kd.int .u8)) 41 w' w.heap.size (fun _ => True) v3 x3_1) ∧ Aside0 (Below w.heap.size w w'))
  case atStart => exact ⟨(([] : List (List Int))), (0), (by first | rfl | (simp; done) | (simp [*]; done)), H', ⟨Nat.le_refl _⟩, ⟨by first | exact Kd.S_nil _ _ _ _ _ | exact Kd.N_nil _ _ _ _ _ | exact Kd.V_nil _ _ _ _ _ | exact Kd.Q_nil _ _ _ _ _ | exact Kd.R_nil _ _ _ _ _⟩, ⟨by repeat (first | (with_reducible first | exact HB.out | apply below_alloc | apply pw_below_drewN | apply below_drew1) | exact HB.out)⟩⟩
  case round =>
    clear H'
    obtain ⟨x3_1, x7_1, rfl, HA, HK1, HO_3, HB⟩ := hrel
    cases gk with
    | zero => exact absurd HA.out (by simp [matrix_one.l0])
    | succ k1 =>
      have H := HA.out
      clear HA
      simp only [matrix_one.l0] at H
      by_cases c2 : x7_1 < a0
      · rw [if_pos c2] at H
        have c2b0 : decide (x7_1 < a0) = true := decide_eq_true c2
        clear c2
        by_cases c3 : 0 ≤ a0
        · rw [if_pos c3] at H
          have c3b0 := eq_true c3
          have c3b1 : decide (0 ≤ a0) = true := decide_eq_true c3
          clear c3
          by_cases c4 : (a0 : Int).toNat ≤ 281474976710656
          · rw [if_pos c4] at H
            have c4b0 := eq_true c4
            have c4b1 : decide ((a0 : Int).toNat ≤ 281474976710656) = true := decide_eq_true c4
            clear c4
            obtain ⟨y127, hy127⟩ : ∃ y_ : List Int, y_ = (List.replicate (a0 : Int).toNat 0) := ⟨_, rfl⟩
            replace H : (if 0 ≤ x7_1 then (if x7_1 < (y127.length : Int) then (if x3_1.length < 5864062014805 then (matrix_one.l0 k1 a0 (x3_1 ++ [(y127.set (x7_1 : Int).toNat 1)]) a0 (wrap64 (x7_1 + 1))) else (none)) else (none)) else (none)) = some r := by first | (rw [hy127]; with_reducible exact H) | (have H2_ := (Option.bind_some _ _).symm.trans H; rw [hy127]; with_reducible exact H2_) | (have H2_ := (Option.bind_some _ _).symm.trans H; with_reducible exact H2_) | with_reducible exact H | (rw [hy127]; exact H) | exact H
            have Ny127 := Aside0.mk hy127
            clear hy127
            by_cases c5 : 0 ≤ x7_1
            · rw [if_pos c5] at H
              have c5b0 : decide (0 ≤ x7_1) = true := decide_eq_true c5
              clear c5
              by_cases c6 : x7_1 < (y127.length : Int)
              · rw [if_pos c6] at H
                have c6b0 : decide (x7_1 < (y127.length : Int)) = true := decide_eq_true c6
                clear c6
                obtain ⟨y130, hy130⟩ : ∃ y_ : List Int, y_ = (y127.set (x7_1 : Int).toNat 1) := ⟨_, rfl⟩
                replace H : (if x3_1.length < 5864062014805 then (matrix_one.l0 k1 a0 (x3_1 ++ [y130]) a0 (wrap64 (x7_1 + 1))) else (none)) = some r := by first | (rw [hy130]; with_reducible exact H) | (have H2_ := (Option.bind_some _ _).symm.trans H; rw [hy130]; with_reducible exact H2_) | (have H2_ := (Option.bind_some _ _).symm.trans H; with_reducible exact H2_) | with_reducible exact H | (rw [hy130]; exact H) | exact H
                have Ny130 := Aside0.mk hy130
                clear hy130
                by_cases c8 : x3_1.length < 5864062014805
                · rw [if_pos c8] at H
                  have LMc8 := Aside0.mk c8
                  clear c8
                  obtain ⟨y131, hy131⟩ : ∃ y_ : List (List Int), y_ = (x3_1 ++ [y130]) := ⟨_, rfl⟩
                  replace H : (matrix_one.l0 k1 a0 y131 a0 (wrap64 (x7_1 + 1))) = some r := by first | (rw [hy131]; with_reducible exact H) | (have H2_ := (Option.bind_some _ _).symm.trans H; rw [hy131]; with_reducible exact H2_) | (have H2_ := (Option.bind_some _ _).symm.trans H; with_reducible exact H2_) | with_reducible exact H | (rw [hy131]; exact H) | exact H
                  have Ny131 := Aside0.mk hy131
                  clear hy131
                  have H' := Aside0.mk H
                  clear H
                  go_wp2_with (first | ((with_reducible refine gate_dst (N := 11) rfl ?_); refine Kd.R_make (Kd.int .u8) _ 5 rfl (N := 11) rfl 41 _ _ rfl a0 rfl rfl Try.underlying41 (.int .u8 0) 1 info5 rfl (by decide) (by omega) 0 (ok := fun _ => True) (okp := fun _ => True) rfl (fun _ hk => hk) trivial (of_decide_eq_true (by first | (with_reducible assumption) | assumption)) (Nat.le_trans (Nat.mul_le_mul_right _ (of_decide_eq_true (by first | (with_reducible assumption) | assumption) : a0.toNat ≤ 281474976710656)) (by omega)) (Below.refl _ _) (Nat.le_refl _) ?_; intro v128 w9 ho10 hb hg_ hnew_; clear hg_ hnew_; (first | rw [← Ny127.out] at ho10 | (simp only [Int.reduceToNat] at ho10; rw [← Ny127.out] at ho10)); have n0_ := Aside0.mk (Kd.S_elder' (by (with_reducible repeat (first | apply Kd.S_alloc | apply Kd.S_drewN | apply Kd.S_drew)); exact HO_3.out) (Kd.R_base ho10) hb); have n1_ := Aside0.mk (Kd.R_lower ho10 (below_size (by repeat (first | (with_reducible first | exact HB.out | apply below_alloc | apply pw_below_drewN | apply below_drew1) | exact HB.out)))); have n2_ := Aside0.mk (below_step (by repeat (first | (with_reducible first | exact HB.out | apply below_alloc | apply pw_below_drewN | apply below_drew1) | exact HB.out)) hb); clear HO_3; clear HB; have HO_3 := n0_; have HO129 := n1_; have HB := n2_; clear n0_ n1_ n2_; clear hb ho10; have p7 : 0 ≤ (x7_1 : Int) := of_decide_eq_true (by first | (with_reducible assumption) | assumption); have q7 : (x7_1 : Int) < ((y127.length : Int) : Int) := of_decide_eq_true (by first | (with_reducible assumption) | assumption); obtain ⟨go7, co7, eo7, gb7, gl7, cl7, HG7⟩ := Kd.R_form HO129.out (by omega); (first | cases eo7 | (injection eo7 with ea_ en_ ec_; (first | subst ea_ | (injection ea_ with ea_; subst ea_)); subst ec_; clear en_)); have GB7 := Aside0.mk gb7; have GG7 := Aside0.mk HG7; clear gb7 gl7 HG7; obtain ⟨hx7_0, hf7_0⟩ := Kd.R_celln 0 HO129.out (x7_1 : Int) p7 q7; replace p7 := eq_true p7; replace q7 := eq_true q7; obtain ⟨hy11_, hz11_⟩ := Kd.R_celln 0 HO129.out (x7_1 : Int) (of_decide_eq_true (by first | (with_reducible assumption) | assumption)) (of_decide_eq_true (by first | (with_reducible assumption) | assumption)); have HP11 := Kd.R_putg HO129.out (x7_1 : Int) 1) | ((with_reducible refine gate_store (t := 5) (p := 14) rfl ?_); refine store_event (t := 5) (p := 14) (v := ?vo_w12) (w1 := (w9.setCell ⟨go7, (x7_1 : Int).toNat, none⟩ (.int .u8 1))) ?hg ?ho ?hn ?hr ?_; (case ho => rfl); (case hg => rfl); (case hn => rfl); (case hr => first | (go_simp; done) | (go_simp; rfl)); intro w12 hw; have hg : w9.grownBy w12 (some go7) := (by rw [hw]; exact HP11.2); have hp_ : Kd.R (Kd.int .u8) 5 w12 w.heap.size (fun _ => True) (.slice (some ⟨go7, 0, none⟩) y127.length co7) y130 := (by rw [hw, Ny130.out]; exact HP11.1); clear HP11; have n0_ := Aside0.mk (Kd.S_after (v := (.slice (some ⟨go7, 0, none⟩) y127.length co7)) (v1 := (.slice (some ⟨go7, 0, none⟩) y127.length co7)) (ok := (fun _ => True)) (by (with_reducible repeat (first | apply Kd.S_alloc | apply Kd.S_drewN | apply Kd.S_drew)); exact HO_3.out) hg (.inl rfl)); have n1_ := Aside0.mk (hp_); have n2_ := Aside0.mk ((by rw [hw]; exact below_set (HB.out) GB7.out : Below w.heap.size w w12)); clear HO_3; clear HO129; clear HB; have HO_3 := n0_; have HO129 := n1_; have HB := n2_; clear n0_ n1_ n2_; clear hg hw hp_) | ((with_reducible refine gate_builtin (b := .append) (xs := #[.tmp 15, .tmp 17]) rfl ?_); at_builtin; refine Kd.S_append (Kd.slice 5 (Kd.int .u8)) (w0 := w) w.heap.size rfl (.tmp 15) (.tmp 17) 22 41 (.slice none 0 0) 24 rfl Try.underlying22 info41 rfl (by decide) (by omega) u3 x3_1 y130 [.slice (some ⟨go7, 0, none⟩) y127.length co7] (fun _ => True) (fun k_ => some k_ = (.slice (some ⟨go7, 0, none⟩) y127.length co7 : Value).ownBlock) rfl rfl ?aP (fun k_ hk_ => ((Kd.R_mono (ok' := fun k_ => ((fun _ => True)) k_ ∧ some k_ ≠ (u3 : Value).ownBlock) (Kd.R_apart' (HO129.out) (Kd.S_typed HO_3.out) (by decide)) (fun k_ hk => ⟨trivial, hk.2⟩))).1 k_ hk_.symm) ?aF ?aO ?aB ?aS ?aL ?_; (case aP => exact Kd.M_row (Kd.R_mono (Kd.R_tight rfl (Kd.R_mono (ok' := fun k_ => ((fun _ => True)) k_ ∧ some k_ ≠ (u3 : Value).ownBlock) (Kd.R_apart' (HO129.out) (Kd.S_typed HO_3.out) (by decide)) (fun k_ hk => ⟨trivial, hk.2⟩))) (fun _ h_ => h_))); (case aB => exact (by repeat (first | (with_reducible first | exact HB.out | apply below_alloc | apply pw_below_drewN | apply below_drew1) | exact HB.out))); (case aF => exact (fun _ _ => trivial)); (case aO => exact (by (with_reducible repeat (first | apply Kd.S_alloc | apply Kd.S_drewN | apply Kd.S_drew)); exact Kd.S_mono HO_3.out (fun k_ hk => ⟨trivial, fun e_ => hk.2 e_⟩))); (case aS => exact (below_size (by repeat (first | (with_reducible first | exact HB.out | apply below_alloc | apply pw_below_drewN | apply below_drew1) | exact HB.out)))); (case aL => have := LMc8.out; omega); intro v132 w13 ho hb hg hat; rw [← Ny131.out] at ho; have n0_ := Aside0.mk (hb); have n1_ := Aside0.mk (ho); clear HB; clear HO_3; clear HO129; have HB := n0_; have HO133 := n1_; clear n0_ n1_; clear ho hb hg hat))
                  go_roundg k1
                  case measure => have := HK1.out; omega
                  case rel => exact ⟨(y131), (wrap64 (x7_1 + 1)), (by first | rfl | (simp; done) | (simp [*]; done)), H', ⟨by have := HK1.out; omega⟩, ⟨by (with_reducible repeat (first | apply Kd.S_alloc | apply Kd.S_drewN | apply Kd.S_drew)); exact HO133.out⟩, ⟨by repeat (first | (with_reducible first | exact HB.out | apply below_alloc | apply pw_below_drewN | apply below_drew1) | exact HB.out)⟩⟩
                · rw [if_neg c8] at H
                  exact absurd H (by simp)
              · rw [if_neg c6] at H
                exact absurd H (by simp)
            · rw [if_neg c5] at H
              exact absurd H (by simp)
          · rw [if_neg c4] at H
            exact absurd H (by simp)
        · rw [if_neg c3] at H
          exact absurd H (by simp)
      · rw [if_neg c2] at H
        have c2b0 : decide (x7_1 < a0) = false := decide_eq_false c2
        clear c2
        obtain rfl := Option.some.inj H
        go_wp2
        go_ret
        exact ⟨_, by first | rfl | (simp [errW_none, errW_some] <;> rfl) | (simp [*, errW_none, errW_some] <;> rfl), by (with_reducible repeat (first | apply Kd.S_alloc | apply Kd.S_drewN | apply Kd.S_drew)); exact HO_3.out, by repeat (first | (with_reducible first | exact HB.out | apply below_alloc | apply pw_below_drewN | apply below_drew1) | exact HB.out)⟩

end Go.Proofs.Ythmlimkmcofkfaa.B

/- Contracts of functions of the program, written by a program of this session. -/
namespace Go.Proofs.Ythmlimkmcofkfaa.B
open Go.RowKit Go.Proofs.YthmlimkmcofkfaaW.PrintWords Go.Proofs.YthmlimkmcofkfaaW.PrintLast Go.Proofs.YthmlimkmcofkfaaW.PrintMore
attribute [local go_sem] max2_int min2_int max_two min_two max_three min_three max_four min_four   -- for this text's walks alone
set_option linter.unusedVariables false
set_option linter.unusedSimpArgs false

/-! ### gf_twice: function 89 -/
def gf_twice.f (a0 : Int) : Option (Int) := some (Go.bits .xor .u8 ((a0 * 2) % 256) (((a0 / 128) * 29) % 256))
set_option maxHeartbeats 8000000 in
set_option maxRecDepth 100000 in
theorem gf_twice.calls (a0 : Int) (r : Int) (w : World) (h : gf_twice.f a0 = some r) :
    Calls Try.prog 89 #[.int .u8 a0] w fun e w' => e = .returned (.int .u8 r) ∧ Drawn0 w w' := by
  have H : (some (Go.bits .xor .u8 ((a0 * 2) % 256) (((a0 / 128) * 29) % 256))) = some r := h
  clear h
  obtain rfl := Option.some.inj H
  go_enter Try.func89, Try.ntmps89
  go_wp2
  go_ret
  exact ⟨by first | rfl | (simp; done) | (simp [*]; done), by repeat (first | exact Drawn0.refl _ | apply Drawn0.step)⟩

end Go.Proofs.Ythmlimkmcofkfaa.B

/- Contracts of functions of the program, written by a program of this session. -/
namespace Go.Proofs.Ythmlimkmcofkfaa.B
open Go.RowKit Go.Proofs.YthmlimkmcofkfaaW.PrintWords Go.Proofs.YthmlimkmcofkfaaW.PrintLast Go.Proofs.YthmlimkmcofkfaaW.PrintMore
attribute [local go_sem] max2_int min2_int max_two min_two max_three min_three max_four min_four   -- for this text's walks alone
set_option linter.unusedVariables false
set_option linter.unusedSimpArgs false

/-! ### gf_Mul: function 66 -/
def gf_Mul.l0 : Nat → Int → Int → Int → Option (Int)
  | 0, _, _, _ => none
  | k + 1, x0, x1, x5 => if x1 = 0 then (some x5) else ((gf_twice.f x0).bind fun t147 => (gf_Mul.l0 k t147 (x1 / 2) (Go.bits .xor .u8 x5 (Go.bits .and .u8 x0 ((-(Go.bits .and .u8 x1 1)) % 256)))))
def gf_Mul.f (k : Nat) (a0 : Int) (a1 : Int) : Option (Int) := gf_Mul.l0 k a0 a1 0
theorem gf_Mul.mono_l : ∀ k, (∀ y0 y1 y2, LeO (gf_Mul.l0 k y0 y1 y2) (gf_Mul.l0 (k + 1) y0 y1 y2))
  | 0 => fun _ _ _ r h => by simp [gf_Mul.l0] at h
  | k + 1 => by
    have ih0 := gf_Mul.mono_l k
    · intro y0 y1 y2
      unfold gf_Mul.l0
      repeat' first
      | (with_reducible exact ih0 _ _ _)
      | (with_reducible exact LeO.refl _)
      | (with_reducible exact LeO.none _)
      | (with_reducible refine LeO.ite ?_ ?_)
      | (with_reducible refine LeO.bind ?_ (fun _ => ?_))
      | exact ih0 _ _ _
      | exact LeO.none _
      | refine LeO.ite ?_ ?_
      | refine LeO.bind ?_ (fun _ => ?_)
theorem gf_Mul.mono : ∀ a0 a1 k, LeO (gf_Mul.f k a0 a1) (gf_Mul.f (k + 1) a0 a1) := by
  intro a0 a1 k
  have ih0 := gf_Mul.mono_l k
  unfold gf_Mul.f
  repeat' first
      | (with_reducible exact ih0 _ _ _)
      | (with_reducible exact LeO.refl _)
      | (with_reducible exact LeO.none _)
      | (with_reducible refine LeO.ite ?_ ?_)
      | (with_reducible refine LeO.bind ?_ (fun _ => ?_))
      | exact ih0 _ _ _
      | exact LeO.none _
      | refine LeO.ite ?_ ?_
      | refine LeO.bind ?_ (fun _ => ?_)
set_option maxHeartbeats 8000000 in
set_option maxRecDepth 100000 in
theorem gf_Mul.calls (k : Nat) (a0 : Int) (a1 : Int) (r : Int) (w : World) (h : gf_Mul.f k a0 a1 = some r) :
    Calls Try.prog 66 #[.int .u8 a0, .int .u8 a1] w fun e w' => e = .returned (.int .u8 r) ∧ Drawn0 w w' := by
  have H : (gf_Mul.l0 k a0 a1 0) = some r := h
  clear h
  have H' := Aside0.mk H
  clear H
  go_enter Try.func66, Try.ntmps66
  go_wp2
  go_loopg [0, 1, 5] k (fun kq v0 v1 v5 w' => ∃ (x0_1 : Int) (x1_1 : Int) (x5_1 : Int), v0 = .int .u8 x0_1 ∧ v1 = .int .u8 x1_1 ∧ v5 = .int .u8 x5_1 ∧ Aside0 (gf_Mul.l0 kq x0_1 x1_1 x5_1 = some r) ∧ Aside0 (kq ≤ k) ∧ Drawn0 w w')
  case atStart => exact ⟨(a0), (a1), (0), (by first | rfl | (simp; done) | (simp [*]; done)), (by first | rfl | (simp; done) | (simp [*]; done)), (by first | rfl | (simp; done) | (simp [*]; done)), H', ⟨Nat.le_refl _⟩, by repeat (first | exact Drawn0.refl _ | apply Drawn0.step)⟩
  case round =>
    clear H'
    try clear p2
    obtain ⟨x0_1, x1_1, x5_1, rfl, rfl, rfl, HA, HK1, ⟨m1, rfl⟩⟩ := hrel
    cases gk with
    | zero => exact absurd HA.out (by simp [gf_Mul.l0])
    | succ k1 =>
      have H := HA.out
      clear HA
      simp only [gf_Mul.l0] at H
      by_cases c3 : x1_1 = 0
      · rw [if_pos c3] at H
        have c3b0 : (x1_1 == 0) = true := beq_iff_eq.mpr c3
        have c3b1 : (x1_1 != 0) = false := bne_eq_false_iff_eq.mpr c3
        clear c3
        obtain rfl := Option.some.inj H
        go_wp2
        go_ret
        exact ⟨by first | rfl | (simp; done) | (simp [*]; done), by repeat (first | exact Drawn0.refl _ | apply Drawn0.step)⟩
      · rw [if_neg c3] at H
        have c3b0 : (x1_1 == 0) = false := beq_eq_false_iff_ne.mpr c3
        have c3b1 : (x1_1 != 0) = true := bne_iff_ne.mpr c3
        replace H := Option.bind_eq_some_iff.mp H
        obtain ⟨t147, A40, H⟩ := H
        replace H : (gf_Mul.l0 k1 t147 (x1_1 / 2) (Go.bits .xor .u8 x5_1 (Go.bits .and .u8 x0_1 ((-(Go.bits .and .u8 x1_1 1)) % 256)))) = some r := H
        have A4 := Aside0.mk A40
        clear A40
        have H' := Aside0.mk H
        clear H
        go_wp2_with (first | ((with_reducible refine gate_callee (f := 89) rfl ?_); refine goesL_ (some 18) rfl rfl Try.func89 (by kernel_rfl) rfl #[.int .u8 x0_1] rfl (by (try simp only [List.map_toArray, List.map_cons, List.map_nil]); first | done | rfl | (simp only [List.length_drop, List.length_take]; rfl)) ?_; (with_reducible refine (gf_twice.calls x0_1 t147 _ A4.out).mono ?_); rintro e w' ⟨rfl, ⟨nd, rfl⟩⟩; refine ⟨_, rfl, ?_⟩))
        go_roundg k1
        case measure => have := HK1.out; omega
        case rel => exact ⟨(t147), (x1_1 / 2), (Go.bits .xor .u8 x5_1 (Go.bits .and .u8 x0_1 ((-(Go.bits .and .u8 x1_1 1)) % 256))), (by first | rfl | (simp; done) | (simp [*]; done)), (by first | rfl | (simp; done) | (simp [*]; done)), (by first | rfl | (simp; done) | (simp [*]; done)), H', ⟨by have := HK1.out; omega⟩, by repeat (first | exact Drawn0.refl _ | apply Drawn0.step)⟩

end Go.Proofs.Ythmlimkmcofkfaa.B

/- Contracts of functions of the program, written by a program of this session. -/
namespace Go.Proofs.Ythmlimkmcofkfaa.B
open Go.RowKit Go.Proofs.YthmlimkmcofkfaaW.PrintWords Go.Proofs.YthmlimkmcofkfaaW.PrintLast Go.Proofs.YthmlimkmcofkfaaW.PrintMore
attribute [local go_sem] max2_int min2_int max_two min_two max_three min_three max_four min_four   -- for this text's walks alone
set_option linter.unusedVariables false
set_option linter.unusedSimpArgs false

/-! ### gf_power: function 87 -/
def gf_power.l0 : Nat → Int → Int → Int → Option (Int)
  | 0, _, _, _ => none
  | k + 1, x0, x1, x5 => if x1 = 0 then (some x5) else (if (Go.bits .and .u64 x1 1) = 1 then ((gf_Mul.f k x5 x0).bind fun t148 => ((gf_Mul.f k x0 x0).bind fun t149 => (gf_power.l0 k t149 (x1 / 2) t148))) else ((gf_Mul.f k x0 x0).bind fun t150 => (gf_power.l0 k t150 (x1 / 2) x5)))
def gf_power.f (k : Nat) (a0 : Int) (a1 : Int) : Option (Int) := gf_power.l0 k a0 a1 1
theorem gf_power.mono_l : ∀ k, (∀ y0 y1 y2, LeO (gf_power.l0 k y0 y1 y2) (gf_power.l0 (k + 1) y0 y1 y2))
  | 0 => fun _ _ _ r h => by simp [gf_power.l0] at h
  | k + 1 => by
    have ih0 := gf_power.mono_l k
    · intro y0 y1 y2
      unfold gf_power.l0
      repeat' first
      | (with_reducible exact ih0 _ _ _)
      | (with_reducible exact gf_Mul.mono _ _ _)
      | (with_reducible exact LeO.refl _)
      | (with_reducible exact LeO.none _)
      | (with_reducible refine LeO.ite ?_ ?_)
      | (with_reducible refine LeO.bind ?_ (fun _ => ?_))
      | exact ih0 _ _ _
      | exact gf_Mul.mono _ _ _
      | exact LeO.none _
      | refine LeO.ite ?_ ?_
      | refine LeO.bind ?_ (fun _ => ?_)
theorem gf_power.mono : ∀ a0 a1 k, LeO (gf_power.f k a0 a1) (gf_power.f (k + 1) a0 a1) := by
  intro a0 a1 k
  have ih0 := gf_power.mono_l k
  unfold gf_power.f
  repeat' first
      | (with_reducible exact ih0 _ _ _)
      | (with_reducible exact gf_Mul.mono _ _ _)
      | (with_reducible exact LeO.refl _)
      | (with_reducible exact LeO.none _)
      | (with_reducible refine LeO.ite ?_ ?_)
      | (with_reducible refine LeO.bind ?_ (fun _ => ?_))
      | exact ih0 _ _ _
      | exact gf_Mul.mono _ _ _
      | exact LeO.none _
      | refine LeO.ite ?_ ?_
      | refine LeO.bind ?_ (fun _ => ?_)
set_option maxHeartbeats 8000000 in
set_option maxRecDepth 100000 in
theorem gf_power.calls (k : Nat) (a0 : Int) (a1 : Int) (r : Int) (w : World) (h : gf_power.f k a0 a1 = some r) :
    Calls Try.prog 87 #[.int .u8 a0, .int .u64 a1] w fun e w' => e = .returned (.int .u8 r) ∧ Drawn0 w w' := by
  have H : (gf_power.l0 k a0 a1 1) = some r := h
  clear h
  have H' := Aside0.mk H
  clear H
  go_enter Try.func87, Try.ntmps87
  go_wp2
  go_loopg [0, 1, 5] k (fun kq v0 v1 v5 w' => ∃ (x0_1 : Int) (x1_1 : Int) (x5_1 : Int), v0 = .int .u8 x0_1 ∧ v1 = .int .u64 x1_1 ∧ v5 = .int .u8 x5_1 ∧ Aside0 (gf_power.l0 kq x0_1 x1_1 x5_1 = some r) ∧ Aside0 (kq ≤ k) ∧ Drawn0 w w')
  case atStart => exact ⟨(a0), (a1), (1), (by first | rfl | (simp; done) | (simp [*]; done)), (by first | rfl | (simp; done) | (simp [*]; done)), (by first | rfl | (simp; done) | (simp [*]; done)), H', ⟨Nat.le_refl _⟩, by repeat (first | exact Drawn0.refl _ | apply Drawn0.step)⟩
  case round =>
    clear H'
    try clear p2
    obtain ⟨x0_1, x1_1, x5_1, rfl, rfl, rfl, HA, HK1, ⟨m1, rfl⟩⟩ := hrel
    cases gk with
    | zero => exact absurd HA.out (by simp [gf_power.l0])
    | succ k1 =>
      have H := HA.out
      clear HA
      simp only [gf_power.l0] at H
      by_cases c3 : x1_1 = 0
      · rw [if_pos c3] at H
        have c3b0 : (x1_1 == 0) = true := beq_iff_eq.mpr c3
        have c3b1 : (x1_1 != 0) = false := bne_eq_false_iff_eq.mpr c3
        clear c3
        obtain rfl := Option.some.inj H
        go_wp2
        go_ret
        exact ⟨by first | rfl | (simp; done) | (simp [*]; done), by repeat (first | exact Drawn0.refl _ | apply Drawn0.step)⟩
      · rw [if_neg c3] at H
        have c3b0 : (x1_1 == 0) = false := beq_eq_false_iff_ne.mpr c3
        have c3b1 : (x1_1 != 0) = true := bne_iff_ne.mpr c3
        by_cases c4 : (Go.bits .and .u64 x1_1 1) = 1
        · rw [if_pos c4] at H
          have c4b0 : ((Go.bits .and .u64 x1_1 1) == 1) = true := beq_iff_eq.mpr c4
          have c4b1 : ((Go.bits .and .u64 x1_1 1) != 1) = false := bne_eq_false_iff_eq.mpr c4
          clear c4
          replace H := Option.bind_eq_some_iff.mp H
          obtain ⟨t148, A50, H⟩ := H
          replace H : ((gf_Mul.f k1 x0_1 x0_1).bind fun t149 => (gf_power.l0 k1 t149 (x1_1 / 2) t148)) = some r := H
          have A5 := Aside0.mk A50
          clear A50
          replace H := Option.bind_eq_some_iff.mp H
          obtain ⟨t149, A60, H⟩ := H
          replace H : (gf_power.l0 k1 t149 (x1_1 / 2) t148) = some r := H
          have A6 := Aside0.mk A60
          clear A60
          have H' := Aside0.mk H
          clear H
          go_wp2_with (first | ((with_reducible refine gate_callee (f := 66) rfl ?_); refine goesL_ (some 15) rfl rfl Try.func66 (by kernel_rfl) rfl #[.int .u8 x5_1, .int .u8 x0_1] rfl (by (try simp only [List.map_toArray, List.map_cons, List.map_nil]); first | done | rfl | (simp only [List.length_drop, List.length_take]; rfl)) ?_; (with_reducible refine (gf_Mul.calls k1 x5_1 x0_1 t148 _ A5.out).mono ?_); rintro e w' ⟨rfl, ⟨nd, rfl⟩⟩; refine ⟨_, rfl, ?_⟩) | ((with_reducible refine gate_callee (f := 66) rfl ?_); refine goesL_ (some 18) rfl rfl Try.func66 (by kernel_rfl) rfl #[.int .u8 x0_1, .int .u8 x0_1] rfl (by (try simp only [List.map_toArray, List.map_cons, List.map_nil]); first | done | rfl | (simp only [List.length_drop, List.length_take]; rfl)) ?_; (with_reducible refine (gf_Mul.calls k1 x0_1 x0_1 t149 _ A6.out).mono ?_); rintro e w' ⟨rfl, ⟨nd, rfl⟩⟩; refine ⟨_, rfl, ?_⟩))
          go_roundg k1
          case measure => have := HK1.out; omega
          case rel => exact ⟨(t149), (x1_1 / 2), (t148), (by first | rfl | (simp; done) | (simp [*]; done)), (by first | rfl | (simp; done) | (simp [*]; done)), (by first | rfl | (simp; done) | (simp [*]; done)), H', ⟨by have := HK1.out; omega⟩, by repeat (first | exact Drawn0.refl _ | apply Drawn0.step)⟩
        · rw [if_neg c4] at H
          have c4b0 : ((Go.bits .and .u64 x1_1 1) == 1) = false := beq_eq_false_iff_ne.mpr c4
          have c4b1 : ((Go.bits .and .u64 x1_1 1) != 1) = true := bne_iff_ne.mpr c4
          replace H := Option.bind_eq_some_iff.mp H
          obtain ⟨t150, A70, H⟩ := H
          replace H : (gf_power.l0 k1 t150 (x1_1 / 2) x5_1) = some r := H
          have A7 := Aside0.mk A70
          clear A70
          have H' := Aside0.mk H
          clear H
          go_wp2_with (first | ((with_reducible refine gate_callee (f := 66) rfl ?_); refine goesL_ (some 18) rfl rfl Try.func66 (by kernel_rfl) rfl #[.int .u8 x0_1, .int .u8 x0_1] rfl (by (try simp only [List.map_toArray, List.map_cons, List.map_nil]); first | done | rfl | (simp only [List.length_drop, List.length_take]; rfl)) ?_; (with_reducible refine (gf_Mul.calls k1 x0_1 x0_1 t150 _ A7.out).mono ?_); rintro e w' ⟨rfl, ⟨nd, rfl⟩⟩; refine ⟨_, rfl, ?_⟩))
          go_roundg k1
          case measure => have := HK1.out; omega
          case rel => exact ⟨(t150), (x1_1 / 2), (x5_1), (by first | rfl | (simp; done) | (simp [*]; done)), (by first | rfl | (simp; done) | (simp [*]; done)), (by first | rfl | (simp; done) | (simp [*]; done)), H', ⟨by have := HK1.out; omega⟩, by repeat (first | exact Drawn0.refl _ | apply Drawn0.step)⟩

end Go.Proofs.Ythmlimkmcofkfaa.B

/- Contracts of functions of the program, written by a program of this session. -/
namespace Go.Proofs.Ythmlimkmcofkfaa.B
open Go.RowKit Go.Proofs.YthmlimkmcofkfaaW.PrintWords Go.Proofs.YthmlimkmcofkfaaW.PrintLast Go.Proofs.YthmlimkmcofkfaaW.PrintMore
attribute [local go_sem] max2_int min2_int max_two min_two max_three min_three max_four min_four   -- for this text's walks alone
set_option linter.unusedVariables false
set_option linter.unusedSimpArgs false

/-! ### gf_Inv: function 61 -/
def gf_Inv.f (k : Nat) (a0 : Int) : Option (Int × Int) := if a0 = 0 then (some (0, 5)) else ((gf_power.f k a0 254).bind fun t151 => (some (t151, 0)))
theorem gf_Inv.mono : ∀ a0 k, LeO (gf_Inv.f k a0) (gf_Inv.f (k + 1) a0) := by
  intro a0 k
  unfold gf_Inv.f
  repeat' first
      | (with_reducible exact gf_power.mono _ _ _)
      | (with_reducible exact LeO.refl _)
      | (with_reducible exact LeO.none _)
      | (with_reducible refine LeO.ite ?_ ?_)
      | (with_reducible refine LeO.bind ?_ (fun _ => ?_))
      | exact gf_power.mono _ _ _
      | exact LeO.none _
      | refine LeO.ite ?_ ?_
      | refine LeO.bind ?_ (fun _ => ?_)
set_option maxHeartbeats 8000000 in
set_option maxRecDepth 100000 in
theorem gf_Inv.calls (k : Nat) (a0 : Int) (r1 : Int) (r2 : Int) (w : World) (h : gf_Inv.f k a0 = some (r1, r2)) :
    Calls Try.prog 61 #[.int .u8 a0] w fun e w' => e = .returned (.tuple #[.int .u8 r1, .int .i64 r2]) ∧ Drawn0 w w' := by
  have H : (if a0 = 0 then (some (0, 5)) else ((gf_power.f k a0 254).bind fun t151 => (some (t151, 0)))) = some (r1, r2) := h
  clear h
  by_cases c2 : a0 = 0
  · rw [if_pos c2] at H
    have c2b0 : (a0 == 0) = true := beq_iff_eq.mpr c2
    have c2b1 : (a0 != 0) = false := bne_eq_false_iff_eq.mpr c2
    clear c2
    simp only [Option.some.injEq, Prod.mk.injEq] at H
    obtain ⟨rfl, rfl⟩ := H
    go_enter Try.func61, Try.ntmps61
    go_wp2
    go_ret2
    exact ⟨by first | rfl | (simp; done) | (simp [*]; done), by repeat (first | exact Drawn0.refl _ | apply Drawn0.step)⟩
  · rw [if_neg c2] at H
    have c2b0 : (a0 == 0) = false := beq_eq_false_iff_ne.mpr c2
    have c2b1 : (a0 != 0) = true := bne_iff_ne.mpr c2
    replace H := Option.bind_eq_some_iff.mp H
    obtain ⟨t151, A30, H⟩ := H
    replace H : (some (t151, 0)) = some (r1, r2) := H
    have A3 := Aside0.mk A30
    clear A30
    simp only [Option.some.injEq, Prod.mk.injEq] at H
    obtain ⟨rfl, rfl⟩ := H
    go_enter Try.func61, Try.ntmps61
    go_wp2_with (first | ((with_reducible refine gate_callee (f := 87) rfl ?_); refine goesL_ (some 7) rfl rfl Try.func87 (by kernel_rfl) rfl #[.int .u8 a0, .int .u64 254] rfl (by (try simp only [List.map_toArray, List.map_cons, List.map_nil]); first | done | rfl | (simp only [List.length_drop, List.length_take]; rfl)) ?_; (with_reducible refine (gf_power.calls k a0 254 t151 _ A3.out).mono ?_); rintro e w' ⟨rfl, ⟨nd, rfl⟩⟩; refine ⟨_, rfl, ?_⟩))
    go_ret2
    exact ⟨by first | rfl | (simp; done) | (simp [*]; done), by repeat (first | exact Drawn0.refl _ | apply Drawn0.step)⟩

end Go.Proofs.Ythmlimkmcofkfaa.B

/- Contracts of functions of the program, written by a program of this session. -/
namespace Go.Proofs.Ythmlimkmcofkfaa.B
open Go.RowKit Go.Proofs.YthmlimkmcofkfaaW.PrintWords Go.Proofs.YthmlimkmcofkfaaW.PrintLast Go.Proofs.YthmlimkmcofkfaaW.PrintMore
attribute [local go_sem] max2_int min2_int max_two min_two max_three min_three max_four min_four   -- for this text's walks alone
set_option linter.unusedVariables false
set_option linter.unusedSimpArgs false

/-! ### matrix_Code: function 20 -/
mutual
def matrix_Code.j0 : Nat → Int → Int → Bool → Option ((List (List Int)) × Int)
  | 0, _, _, _ => none
  | k + 1, x0, x1, x25 => if x25 = true then (some (([] : List (List Int)), 5)) else ((matrix_one.f k x0).bind fun t152 => (matrix_Code.l0 k x0 t152 x1 0))
def matrix_Code.l0 : Nat → Int → List (List Int) → Int → Int → Option ((List (List Int)) × Int)
  | 0, _, _, _, _ => none
  | k + 1, x0, x6, x28, x29 => if x29 < x28 then (if 0 ≤ x0 then (if (x0 : Int).toNat ≤ 281474976710656 then ((some (List.replicate (x0 : Int).toNat 0 : List Int)).bind fun y155 => (matrix_Code.l1 k x0 x6 x29 y155 x28 x29 (y155.length : Int) 0)) else (none)) else (none)) else (some (x6, 0))
def matrix_Code.l1 : Nat → Int → List (List Int) → Int → List Int → Int → Int → Int → Int → Option ((List (List Int)) × Int)
  | 0, _, _, _, _, _, _, _, _ => none
  | k + 1, x0, x6, x7, x8, x28, x29, x35, x36 => if x36 < x35 then ((gf_Inv.f k ((Go.bits .xor .i64 (wrap64 (x0 + x7)) x36) % 256)).bind fun bt158 => (if 0 ≤ x36 then (if x36 < (x8.length : Int) then (matrix_Code.l1 k x0 x6 x7 (x8.set (x36 : Int).toNat bt158.1) x28 x29 x35 (wrap64 (x36 + 1))) else (none)) else (none))) else (if x6.length < 5864062014805 then (matrix_Code.l0 k x0 (x6 ++ [x8]) x28 (wrap64 (x29 + 1))) else (none))
end
def matrix_Code.f (k : Nat) (a0 : Int) (a1 : Int) : Option ((List (List Int)) × Int) := if a0 < 1 then (matrix_Code.j0 k a0 a1 true) else (if a1 < 1 then (matrix_Code.j0 k a0 a1 true) else (if a0 > 16 then (matrix_Code.j0 k a0 a1 true) else (matrix_Code.j0 k a0 a1 (decide (a1 > (wrap64 (16 - a0)))))))
theorem matrix_Code.mono_l : ∀ k, (∀ y0 y1 y2, LeO (matrix_Code.j0 k y0 y1 y2) (matrix_Code.j0 (k + 1) y0 y1 y2)) ∧ (∀ y0 y1 y2 y3, LeO (matrix_Code.l0 k y0 y1 y2 y3) (matrix_Code.l0 (k + 1) y0 y1 y2 y3)) ∧ (∀ y0 y1 y2 y3 y4 y5 y6 y7, LeO (matrix_Code.l1 k y0 y1 y2 y3 y4 y5 y6 y7) (matrix_Code.l1 (k + 1) y0 y1 y2 y3 y4 y5 y6 y7))
  | 0 => ⟨fun _ _ _ r h => by simp [matrix_Code.j0] at h, fun _ _ _ _ r h => by simp [matrix_Code.l0] at h, fun _ _ _ _ _ _ _ _ r h => by simp [matrix_Code.l1] at h⟩
  | k + 1 => by
    obtain ⟨ih0, ih1, ih2⟩ := matrix_Code.mono_l k
    refine ⟨?_, ?_, ?_⟩
    · intro y0 y1 y2
      unfold matrix_Code.j0
      repeat' first
      | (with_reducible exact ih0 _ _ _)
      | (with_reducible exact ih1 _ _ _ _)
      | (with_reducible exact ih2 _ _ _ _ _ _ _ _)
      | (with_reducible exact gf_Inv.mono _ _)
      | (with_reducible exact matrix_one.mono _ _)
      | (with_reducible exact LeO.refl _)
      | (with_reducible exact LeO.none _)
      | (with_reducible refine LeO.ite ?_ ?_)
      | (with_reducible refine LeO.bind ?_ (fun _ => ?_))
      | exact ih0 _ _ _
      | exact ih1 _ _ _ _
      | exact ih2 _ _ _ _ _ _ _ _
      | exact gf_Inv.mono _ _
      | exact matrix_one.mono _ _
      | exact LeO.none _
      | refine LeO.ite ?_ ?_
      | refine LeO.bind ?_ (fun _ => ?_)
    · intro y0 y1 y2 y3
      unfold matrix_Code.l0
      repeat' first
      | (with_reducible exact ih0 _ _ _)
      | (with_reducible exact ih1 _ _ _ _)
      | (with_reducible exact ih2 _ _ _ _ _ _ _ _)
      | (with_reducible exact gf_Inv.mono _ _)
      | (with_reducible exact matrix_one.mono _ _)
      | (with_reducible exact LeO.refl _)
      | (with_reducible exact LeO.none _)
      | (with_reducible refine LeO.ite ?_ ?_)
      | (with_reducible refine LeO.bind ?_ (fun _ => ?_))
      | exact ih0 _ _ _
      | exact ih1 _ _ _ _
      | exact ih2 _ _ _ _ _ _ _ _
      | exact gf_Inv.mono _ _
      | exact matrix_one.mono _ _
      | exact LeO.none _
      | refine LeO.ite ?_ ?_
      | refine LeO.bind ?_ (fun _ => ?_)
    · intro y0 y1 y2 y3 y4 y5 y6 y7
      unfold matrix_Code.l1
      repeat' first
      | (with_reducible exact ih0 _ _ _)
      | (with_reducible exact ih1 _ _ _ _)
      | (with_reducible exact ih2 _ _ _ _ _ _ _ _)
      | (with_reducible exact gf_Inv.mono _ _)
      | (with_reducible exact matrix_one.mono _ _)
      | (with_reducible exact LeO.refl _)
      | (with_reducible exact LeO.none _)
      | (with_reducible refine LeO.ite ?_ ?_)
      | (with_reducible refine LeO.bind ?_ (fun _ => ?_))
      | exact ih0 _ _ _
      | exact ih1 _ _ _ _
      | exact ih2 _ _ _ _ _ _ _ _
      | exact gf_Inv.mono _ _
      | exact matrix_one.mono _ _
      | exact LeO.none _
      | refine LeO.ite ?_ ?_
      | refine LeO.bind ?_ (fun _ => ?_)
theorem matrix_Code.mono : ∀ a0 a1 k, LeO (matrix_Code.f k a0 a1) (matrix_Code.f (k + 1) a0 a1) := by
  intro a0 a1 k
  obtain ⟨ih0, ih1, ih2⟩ := matrix_Code.mono_l k
  unfold matrix_Code.f
  repeat' first
      | (with_reducible exact ih0 _ _ _)
      | (with_reducible exact ih1 _ _ _ _)
      | (with_reducible exact ih2 _ _ _ _ _ _ _ _)
      | (with_reducible exact gf_Inv.mono _ _)
      | (with_reducible exact matrix_one.mono _ _)
      | (with_reducible exact LeO.refl _)
      | (with_reducible exact LeO.none _)
      | (with_reducible refine LeO.ite ?_ ?_)
      | (with_reducible refine LeO.bind ?_ (fun _ => ?_))
      | exact ih0 _ _ _
      | exact ih1 _ _ _ _
      | exact ih2 _ _ _ _ _ _ _ _
      | exact gf_Inv.mono _ _
      | exact matrix_one.mono _ _
      | exact LeO.none _
      | refine LeO.ite ?_ ?_
      | refine LeO.bind ?_ (fun _ => ?_)
set_option maxHeartbeats 8000000 in
set_option maxRecDepth 100000 in
theorem matrix_Code.calls (k : Nat) (a0 : Int) (a1 : Int) (r1 : List (List Int)) (r2 : Int) (w : World) (h : matrix_Code.f k a0 a1 = some (r1, r2)) :
    Calls Try.prog 20 #[.int .i64 a0, .int .i64 a1] w fun e w' => ∃ v0_ : Value, e = .returned (.tuple #[v0_, .int .i64 r2]) ∧ Kd.S (Kd.slice 5 (Kd.int .u8)) 41 w' w.heap.size (fun _ => True) v0_ r1 ∧ Below w.heap.size w w' := by
  have HB := Aside0.mk (Below.refl w.heap.size w)
  have H : (if a0 < 1 then (matrix_Code.j0 k a0 a1 true) else (if a1 < 1 then (matrix_Code.j0 k a0 a1 true) else (if a0 > 16 then (matrix_Code.j0 k a0 a1 true) else (matrix_Code.j0 k a0 a1 (decide (a1 > (wrap64 (16 - a0)))))))) = some (r1, r2) := h
  clear h
  have HC3 := Aside0.mk H
  clear H
  go_enter Try.func20, Try.ntmps20
  go_upto_region 1 with (fail)
  go_cut [25] (fun v25 wc => ∃ (kq : Nat) (x25_2 : Bool), v25 = .bool x25_2 ∧ Aside0 (matrix_Code.j0 kq a0 a1 x25_2 = some (r1, r2)) ∧ Aside0 (kq ≤ k) ∧ Aside0 (Below w.heap.size w wc))
  case first =>
    have H := HC3.out
    clear HC3
    by_cases c4 : a0 < 1
    · rw [if_pos c4] at H
      have c4b0 : decide (a0 < 1) = true := decide_eq_true c4
      clear c4
      (first | rw [c4b0] | (simp only [i64_w, i32_w]; rw [c4b0]) | skip)
      have H' := Aside0.mk H
      clear H
      go_wp2
      go_meet
      case rel => exact ⟨_, (true), (by first | rfl | (simp; done) | (simp [*]; done)), H', ⟨by first | omega | exact Nat.le_refl _⟩, ⟨by repeat (first | (with_reducible first | exact HB.out | apply below_alloc | apply pw_below_drewN | apply below_drew1) | exact HB.out)⟩⟩
    · rw [if_neg c4] at H
      have c4b0 : decide (a0 < 1) = false := decide_eq_false c4
      clear c4
      (first | rw [c4b0] | (simp only [i64_w, i32_w]; rw [c4b0]) | skip)
      by_cases c5 : a1 < 1
      · rw [if_pos c5] at H
        have c5b0 : decide (a1 < 1) = true := decide_eq_true c5
        clear c5
        have H' := Aside0.mk H
        clear H
        go_wp2
        go_meet
        case rel => exact ⟨_, (true), (by first | rfl | (simp; done) | (simp [*]; done)), H', ⟨by first | omega | exact Nat.le_refl _⟩, ⟨by repeat (first | (with_reducible first | exact HB.out | apply below_alloc | apply pw_below_drewN | apply below_drew1) | exact HB.out)⟩⟩
      · rw [if_neg c5] at H
        have c5b0 : decide (a1 < 1) = false := decide_eq_false c5
        clear c5
        by_cases c6 : a0 > 16
        · rw [if_pos c6] at H
          have c6b0 : decide (16 < a0) = true := decide_eq_true c6
          clear c6
          have H' := Aside0.mk H
          clear H
          go_wp2
          go_meet
          case rel => exact ⟨_, (true), (by first | rfl | (simp; done) | (simp [*]; done)), H', ⟨by first | omega | exact Nat.le_refl _⟩, ⟨by repeat (first | (with_reducible first | exact HB.out | apply below_alloc | apply pw_below_drewN | apply below_drew1) | exact HB.out)⟩⟩
        · rw [if_neg c6] at H
          have c6b0 : decide (16 < a0) = false := decide_eq_false c6
          clear c6
          have H' := Aside0.mk H
          clear H
          go_wp2
          go_meet
          case rel => exact ⟨_, (decide (a1 > (wrap64 (16 - a0)))), (by first | rfl | (simp; done) | (simp [*]; done)), H', ⟨by first | omega | exact Nat.le_refl _⟩, ⟨by repeat (first | (with_reducible first | exact HB.out | apply below_alloc | apply pw_below_drewN | apply below_drew1) | exact HB.out)⟩⟩
  case rest =>
    clear HC3
    try clear c2
    try clear p2
    try clear c4
    try clear c4b0
    try clear c5
    try clear c5b0
    try clear c6
    try clear c6b0
    try clear p6
    obtain ⟨kq, x25_2, rfl, HA, HJ2, HB⟩ := hcut
    cases kq with
    | zero => exact absurd HA.out (by simp [matrix_Code.j0])
    | succ kj2 =>
      have H := HA.out
      clear HA
      simp only [matrix_Code.j0] at H
      by_cases c7 : x25_2 = true
      · subst c7
        have H1 : (some (([] : List (List Int)), 5)) = some (r1, r2) := by rw [if_pos rfl] at H; exact H
        clear H
        have H := H1
        clear H1
        simp only [Option.some.injEq, Prod.mk.injEq] at H
        obtain ⟨rfl, rfl⟩ := H
        go_wp2
        go_ret2
        exact ⟨_, by first | rfl | (simp [errW_none, errW_some] <;> rfl) | (simp [*, errW_none, errW_some] <;> rfl), by first | exact Kd.S_nil _ _ _ _ _ | exact Kd.N_nil _ _ _ _ _ | exact Kd.V_nil _ _ _ _ _ | exact Kd.Q_nil _ _ _ _ _ | exact Kd.R_nil _ _ _ _ _, by repeat (first | (with_reducible first | exact HB.out | apply below_alloc | apply pw_below_drewN | apply below_drew1) | exact HB.out)⟩
      · replace c7 := Bool.eq_false_iff.mpr c7
        subst c7
        have H1 : ((matrix_one.f kj2 a0).bind fun t152 => (matrix_Code.l0 kj2 a0 t152 a1 0)) = some (r1, r2) := by rw [if_neg (show ¬ (false = true) by decide)] at H; exact H
        clear H
        have H := H1
        clear H1
        replace H := Option.bind_eq_some_iff.mp H
        obtain ⟨t152, A80, H⟩ := H
        replace H : (matrix_Code.l0 kj2 a0 t152 a1 0) = some (r1, r2) := H
        have A8 := Aside0.mk A80
        clear A80
        have H' := Aside0.mk H
        clear H
        go_wp2_with (first | ((with_reducible refine gate_callee (f := 59) rfl ?_); refine goesL_ (some 27) rfl rfl Try.func59 (by kernel_rfl) rfl #[.int .i64 a0] rfl (by (try simp only [List.map_toArray, List.map_cons, List.map_nil]); first | done | rfl | (simp only [List.length_drop, List.length_take]; rfl)) ?_; (with_reducible refine (matrix_one.calls kj2 a0 t152 _ A8.out).mono ?_); rintro e w9 ⟨v153, rfl, ho0, hb⟩; refine ⟨_, rfl, ?_⟩; have n0_ := Aside0.mk (Kd.S_lower ho0 (below_size (by repeat (first | (with_reducible first | exact HB.out | apply below_alloc | apply pw_below_drewN | apply below_drew1) | exact HB.out)))); have n1_ := Aside0.mk (below_step (by repeat (first | (with_reducible first | exact HB.out | apply below_alloc | apply pw_below_drewN | apply below_drew1) | exact HB.out)) hb); clear HB; have HO154 := n0_; have HB := n1_; clear n0_ n1_; (try clear hb); (try clear hb2); (try clear hk); (try clear hi); (try clear ho0)))
        go_loopg [6, 29] kj2 (fun kq v6 v29 w' => ∃ (x6_2 : List (List Int)) (x29_2 : Int), v29 = .int .i64 x29_2 ∧ Aside0 (matrix_Code.l0 kq a0 x6_2 a1 x29_2 = some (r1, r2)) ∧ Aside0 (kq ≤ kj2) ∧ Aside0 (Kd.S (Kd.slice 5 (Kd.int .u8)) 41 w' w.heap.size (fun _ => True) v6 x6_2) ∧ Aside0 (Below w.heap.size w w'))
        case atStart => exact ⟨(t152), (0), (by first | rfl | (simp; done) | (simp [*]; done)), H', ⟨Nat.le_refl _⟩, ⟨by (with_reducible repeat (first | apply Kd.S_alloc | apply Kd.S_drewN | apply Kd.S_drew)); exact HO154.out⟩, ⟨by repeat (first | (with_reducible first | exact HB.out | apply below_alloc | apply pw_below_drewN | apply below_drew1) | exact HB.out)⟩⟩
        case round =>
          clear H'
          try clear c2
          try clear p2
          try clear c4
          try clear c4b0
          try clear c5
          try clear c5b0
          try clear c6
          try clear c6b0
          try clear p6
          try clear c7
          try clear p2
          try clear p6
          obtain ⟨x6_2, x29_2, rfl, HA, HK2, HO_6, HB⟩ := hrel
          cases gk with
          | zero => exact absurd HA.out (by simp [matrix_Code.l0])
          | succ k2 =>
            have H := HA.out
            clear HA
            simp only [matrix_Code.l0] at H
            by_cases c10 : x29_2 < a1
            · rw [if_pos c10] at H
              have c10b0 : decide (x29_2 < a1) = true := decide_eq_true c10
              clear c10
              by_cases c11 : 0 ≤ a0
              · rw [if_pos c11] at H
                have c11b0 := eq_true c11
                have c11b1 : decide (0 ≤ a0) = true := decide_eq_true c11
                clear c11
                by_cases c12 : (a0 : Int).toNat ≤ 281474976710656
                · rw [if_pos c12] at H
                  have c12b0 := eq_true c12
                  have c12b1 : decide ((a0 : Int).toNat ≤ 281474976710656) = true := decide_eq_true c12
                  clear c12
                  obtain ⟨y155, hy155⟩ : ∃ y_ : List Int, y_ = (List.replicate (a0 : Int).toNat 0) := ⟨_, rfl⟩
                  replace H : (matrix_Code.l1 k2 a0 x6_2 x29_2 y155 a1 x29_2 (y155.length : Int) 0) = some (r1, r2) := by first | (rw [hy155]; with_reducible exact H) | (have H2_ := (Option.bind_some _ _).symm.trans H; rw [hy155]; with_reducible exact H2_) | (have H2_ := (Option.bind_some _ _).symm.trans H; with_reducible exact H2_) | with_reducible exact H | (rw [hy155]; exact H) | exact H
                  have Ny155 := Aside0.mk hy155
                  clear hy155
                  have H' := Aside0.mk H
                  clear H
                  go_wp2_with (first | ((with_reducible refine gate_dst (N := 33) rfl ?_); refine Kd.R_make (Kd.int .u8) _ 5 rfl (N := 33) rfl 41 _ _ rfl a0 rfl rfl Try.underlying41 (.int .u8 0) 1 info5 rfl (by decide) (by omega) 0 (ok := fun _ => True) (okp := fun _ => True) rfl (fun _ hk => hk) trivial (of_decide_eq_true (by first | (with_reducible assumption) | assumption)) (Nat.le_trans (Nat.mul_le_mul_right _ (of_decide_eq_true (by first | (with_reducible assumption) | assumption) : a0.toNat ≤ 281474976710656)) (by omega)) (Below.refl _ _) (Nat.le_refl _) ?_; intro v156 w13 ho14 hb hg_ hnew_; clear hg_ hnew_; (first | rw [← Ny155.out] at ho14 | (simp only [Int.reduceToNat] at ho14; rw [← Ny155.out] at ho14)); have n0_ := Aside0.mk (Kd.S_elder' (by (with_reducible repeat (first | apply Kd.S_alloc | apply Kd.S_drewN | apply Kd.S_drew)); exact HO_6.out) (Kd.R_base ho14) hb); have n1_ := Aside0.mk (Kd.R_lower ho14 (below_size (by repeat (first | (with_reducible first | exact HB.out | apply below_alloc | apply pw_below_drewN | apply below_drew1) | exact HB.out)))); have n2_ := Aside0.mk (below_step (by repeat (first | (with_reducible first | exact HB.out | apply below_alloc | apply pw_below_drewN | apply below_drew1) | exact HB.out)) hb); clear HO_6; clear HB; have HO_6 := n0_; have HO157 := n1_; have HB := n2_; clear n0_ n1_ n2_; clear hb ho14; obtain ⟨Ao15, co15, eo15⟩ := Kd.R_slice HO157.out; subst eo15))
                  go_loopg [36] k2 (fun kq v36 w' => ∃ (x8_3 : List Int) (x36_3 : Int), v36 = .int .i64 x36_3 ∧ Aside0 (matrix_Code.l1 kq a0 x6_2 x29_2 x8_3 a1 x29_2 (y155.length : Int) x36_3 = some (r1, r2)) ∧ Aside0 (kq ≤ k2) ∧ Aside0 (Kd.S (Kd.slice 5 (Kd.int .u8)) 41 w' w.heap.size (fun k_ => some k_ ≠ ((.slice Ao15 y155.length co15) : Value).ownBlock) u6 x6_2) ∧ Aside0 (Kd.R (Kd.int .u8) 5 w' w.heap.size (fun _ => True) (.slice Ao15 y155.length co15) x8_3) ∧ Aside0 (Below w.heap.size w w'))
                  case atStart => exact ⟨(y155), (0), (by first | rfl | (simp; done) | (simp [*]; done)), H', ⟨Nat.le_refl _⟩, ⟨by (with_reducible repeat (first | apply Kd.S_alloc | apply Kd.S_drewN | apply Kd.S_drew)); exact Kd.S_mono HO_6.out (fun _ hk => hk.2)⟩, ⟨by (with_reducible repeat (first | apply Kd.R_alloc | apply Kd.R_drewN | apply Kd.R_drew)); exact HO157.out⟩, ⟨by repeat (first | (with_reducible first | exact HB.out | apply below_alloc | apply pw_below_drewN | apply below_drew1) | exact HB.out)⟩⟩
                  case round =>
                    clear H'
                    try clear c1
                    try clear c2
                    try clear p2
                    try clear c4
                    try clear c4b0
                    try clear c5
                    try clear c5b0
                    try clear c6
                    try clear c6b0
                    try clear p6
                    try clear c7
                    try clear c10
                    try clear c10b0
                    try clear c11
                    try clear c11b0
                    try clear c11b1
                    try clear c12
                    try clear c12b0
                    try clear c12b1
                    try clear p2
                    try clear p6
                    obtain ⟨x8_3, x36_3, rfl, HA, HK3, HO_6, HO_8, HB⟩ := hrel
                    have hl8_3 := (Kd.R_reads' HO_8.out).1
                    rw [hl8_3] at HO_8
                    (try simp only [hl8_3])
                    (try simp only [hl8_3] at HO_6)
                    cases gk with
                    | zero => exact absurd HA.out (by simp [matrix_Code.l1])
                    | succ k3 =>
                      have H := HA.out
                      clear HA
                      simp only [matrix_Code.l1] at H
                      by_cases c16 : x36_3 < (y155.length : Int)
                      · rw [if_pos c16] at H
                        have c16b0 : decide (x36_3 < (y155.length : Int)) = true := decide_eq_true c16
                        clear c16
                        replace H := Option.bind_eq_some_iff.mp H
                        obtain ⟨⟨t158, t159⟩, A170, H⟩ := H
                        replace H : (if 0 ≤ x36_3 then (if x36_3 < (x8_3.length : Int) then (matrix_Code.l1 k3 a0 x6_2 x29_2 (x8_3.set (x36_3 : Int).toNat t158) a1 x29_2 (y155.length : Int) (wrap64 (x36_3 + 1))) else (none)) else (none)) = some (r1, r2) := H
                        have A17 := Aside0.mk A170
                        clear A170
                        by_cases c18 : 0 ≤ x36_3
                        · rw [if_pos c18] at H
                          have c18b0 : decide (0 ≤ x36_3) = true := decide_eq_true c18
                          clear c18
                          by_cases c19 : x36_3 < (x8_3.length : Int)
                          · rw [if_pos c19] at H
                            have c19b0 : decide (x36_3 < (x8_3.length : Int)) = true := decide_eq_true c19
                            clear c19
                            obtain ⟨y160, hy160⟩ : ∃ y_ : List Int, y_ = (x8_3.set (x36_3 : Int).toNat t158) := ⟨_, rfl⟩
                            replace H : (matrix_Code.l1 k3 a0 x6_2 x29_2 y160 a1 x29_2 (y155.length : Int) (wrap64 (x36_3 + 1))) = some (r1, r2) := by first | (rw [hy160]; with_reducible exact H) | (have H2_ := (Option.bind_some _ _).symm.trans H; rw [hy160]; with_reducible exact H2_) | (have H2_ := (Option.bind_some _ _).symm.trans H; with_reducible exact H2_) | with_reducible exact H | (rw [hy160]; exact H) | exact H
                            have Ny160 := Aside0.mk hy160
                            clear hy160
                            have H' := Aside0.mk H
                            clear H
                            go_wp2_with (first | ((with_reducible refine gate_callee (f := 61) rfl ?_); refine goesL_ (some 48) rfl rfl Try.func61 (by kernel_rfl) rfl #[.int .u8 ((Go.bits .xor .i64 (wrap64 (a0 + x29_2)) x36_3) % 256)] rfl (by (try simp only [List.map_toArray, List.map_cons, List.map_nil]); first | done | rfl | (simp only [List.length_drop, List.length_take]; rfl)) ?_; (with_reducible refine (gf_Inv.calls k3 ((Go.bits .xor .i64 (wrap64 (a0 + x29_2)) x36_3) % 256) t158 t159 _ A17.out).mono ?_); rintro e w' ⟨rfl, ⟨nd, rfl⟩⟩; refine ⟨_, rfl, ?_⟩; (try (rw [drewN_self wr]; generalize hq_ : World.drewN wr _ = wr; have n0_ : Aside0 (Kd.S (Kd.slice 5 (Kd.int .u8)) 41 wr w.heap.size (fun k_ => some k_ ≠ (.slice Ao15 x8_3.length co15 : Value).ownBlock) u6 x6_2) := ⟨by rw [← hq_]; exact (by (with_reducible repeat (first | apply Kd.S_alloc | apply Kd.S_drewN | apply Kd.S_drew)); exact HO_6.out)⟩; have n1_ : Aside0 (Kd.R (Kd.int .u8) 5 wr w.heap.size (fun _ => True) (.slice Ao15 x8_3.length co15) x8_3) := ⟨by rw [← hq_]; exact (by (with_reducible repeat (first | apply Kd.R_alloc | apply Kd.R_drewN | apply Kd.R_drew)); exact HO_8.out)⟩; have n2_ : Aside0 (Below w.heap.size w wr) := ⟨by rw [← hq_]; exact (by repeat (first | (with_reducible first | exact HB.out | apply below_alloc | apply pw_below_drewN | apply below_drew1) | exact HB.out))⟩; clear HO_6 HO_8 HB hq_; have HO_6 := n0_; have HO_8 := n1_; have HB := n2_; clear n0_ n1_ n2_)); have p20 : 0 ≤ (x36_3 : Int) := of_decide_eq_true (by first | (with_reducible assumption) | assumption); have q20 : (x36_3 : Int) < ((x8_3.length : Int) : Int) := of_decide_eq_true (by first | (with_reducible assumption) | assumption); obtain ⟨go20, co20, eo20, gb20, gl20, cl20, HG20⟩ := Kd.R_form HO_8.out (by omega); (first | cases eo20 | (injection eo20 with ea_ en_ ec_; (first | subst ea_ | (injection ea_ with ea_; subst ea_)); subst ec_; clear en_)); have GB20 := Aside0.mk gb20; have GG20 := Aside0.mk HG20; clear gb20 gl20 HG20; obtain ⟨hx20_0, hf20_0⟩ := Kd.R_celln 0 HO_8.out (x36_3 : Int) p20 q20; replace p20 := eq_true p20; replace q20 := eq_true q20; obtain ⟨hy21_, hz21_⟩ := Kd.R_celln 0 HO_8.out (x36_3 : Int) (of_decide_eq_true (by first | (with_reducible assumption) | assumption)) (of_decide_eq_true (by first | (with_reducible assumption) | assumption)); have HP21 := Kd.R_putg HO_8.out (x36_3 : Int) t158) | ((with_reducible refine gate_store (t := 5) (p := 51) rfl ?_); refine store_event (t := 5) (p := 51) (v := ?vo_w22) (w1 := (wr.setCell ⟨go20, (x36_3 : Int).toNat, none⟩ (.int .u8 t158))) ?hg ?ho ?hn ?hr ?_; (case ho => rfl); (case hg => rfl); (case hn => rfl); (case hr => first | (go_simp; done) | (go_simp; rfl)); intro w22 hw; have hg : wr.grownBy w22 (some go20) := (by rw [hw]; exact HP21.2); have hp_ : Kd.R (Kd.int .u8) 5 w22 w.heap.size (fun _ => True) (.slice (some ⟨go20, 0, none⟩) x8_3.length co15) y160 := (by rw [hw, Ny160.out]; exact HP21.1); clear HP21; have n0_ := Aside0.mk (Kd.S_after (v := (.slice (some ⟨go20, 0, none⟩) x8_3.length co15)) (v1 := (.slice (some ⟨go20, 0, none⟩) x8_3.length co15)) (ok := (fun _ => True)) (by (with_reducible repeat (first | apply Kd.S_alloc | apply Kd.S_drewN | apply Kd.S_drew)); exact Kd.S_mono HO_6.out (fun _ hk => ⟨trivial, hk⟩)) hg (.inl rfl)); have n1_ := Aside0.mk (hp_); have n2_ := Aside0.mk ((by rw [hw]; exact below_set (HB.out) GB20.out : Below w.heap.size w w22)); clear HO_6; clear HO_8; clear HB; have HO_6 := n0_; have HO_8 := n1_; have HB := n2_; clear n0_ n1_ n2_; clear hg hw hp_))
                            (try simp only [← hl8_3])
                            go_roundg k3
                            case measure => have := HJ2.out; have := HK2.out; have := HK3.out; omega
                            case rel => exact ⟨(y160), (wrap64 (x36_3 + 1)), (by first | rfl | (simp; done) | (simp [*]; done)), H', ⟨by have := HJ2.out; have := HK2.out; have := HK3.out; omega⟩, ⟨by (try simp only [hl8_3]); (with_reducible repeat (first | apply Kd.S_alloc | apply Kd.S_drewN | apply Kd.S_drew)); exact Kd.S_mono HO_6.out (fun _ hk => hk.2)⟩, ⟨by (try simp only [hl8_3]); (with_reducible repeat (first | apply Kd.R_alloc | apply Kd.R_drewN | apply Kd.R_drew)); exact HO_8.out⟩, ⟨by repeat (first | (with_reducible first | exact HB.out | apply below_alloc | apply pw_below_drewN | apply below_drew1) | exact HB.out)⟩⟩
                          · rw [if_neg c19] at H
                            exact absurd H (by simp)
                        · rw [if_neg c18] at H
                          exact absurd H (by simp)
                      · rw [if_neg c16] at H
                        have c16b0 : decide (x36_3 < (y155.length : Int)) = false := decide_eq_false c16
                        clear c16
                        by_cases c23 : x6_2.length < 5864062014805
                        · rw [if_pos c23] at H
                          have LMc23 := Aside0.mk c23
                          clear c23
                          obtain ⟨y161, hy161⟩ : ∃ y_ : List (List Int), y_ = (x6_2 ++ [x8_3]) := ⟨_, rfl⟩
                          replace H : (matrix_Code.l0 k3 a0 y161 a1 (wrap64 (x29_2 + 1))) = some (r1, r2) := by first | (rw [hy161]; with_reducible exact H) | (have H2_ := (Option.bind_some _ _).symm.trans H; rw [hy161]; with_reducible exact H2_) | (have H2_ := (Option.bind_some _ _).symm.trans H; with_reducible exact H2_) | with_reducible exact H | (rw [hy161]; exact H) | exact H
                          have Ny161 := Aside0.mk hy161
                          clear hy161
                          have H' := Aside0.mk H
                          clear H
                          have c16b9 : decide (x36_3 < (x8_3.length : Int)) = false := by rw [← hl8_3]; exact c16b0
                          go_wp2_with (first | ((with_reducible refine gate_builtin (b := .append) (xs := #[.tmp 53, .tmp 55]) rfl ?_); at_builtin; refine Kd.S_append (Kd.slice 5 (Kd.int .u8)) (w0 := w) w.heap.size rfl (.tmp 53) (.tmp 55) 22 41 (.slice none 0 0) 24 rfl Try.underlying22 info41 rfl (by decide) (by omega) u6 x6_2 x8_3 [.slice Ao15 x8_3.length co15] (fun _ => True) (fun k_ => some k_ = (.slice Ao15 x8_3.length co15 : Value).ownBlock) rfl rfl ?aP (fun k_ hk_ => ((Kd.R_mono (ok' := fun k_ => ((fun _ => True)) k_ ∧ some k_ ≠ (u6 : Value).ownBlock) (Kd.R_apart' (HO_8.out) (Kd.S_typed HO_6.out) (by decide)) (fun k_ hk => ⟨trivial, hk.2⟩))).1 k_ hk_.symm) ?aF ?aO ?aB ?aS ?aL ?_; (case aP => exact Kd.M_row (Kd.R_mono (Kd.R_tight rfl (Kd.R_mono (ok' := fun k_ => ((fun _ => True)) k_ ∧ some k_ ≠ (u6 : Value).ownBlock) (Kd.R_apart' (HO_8.out) (Kd.S_typed HO_6.out) (by decide)) (fun k_ hk => ⟨trivial, hk.2⟩))) (fun _ h_ => h_))); (case aB => exact (by repeat (first | (with_reducible first | exact HB.out | apply below_alloc | apply pw_below_drewN | apply below_drew1) | exact HB.out))); (case aF => exact (fun _ _ => trivial)); (case aO => exact (by (with_reducible repeat (first | apply Kd.S_alloc | apply Kd.S_drewN | apply Kd.S_drew)); exact Kd.S_mono HO_6.out (fun k_ hk => ⟨trivial, fun e_ => hk e_⟩))); (case aS => exact (below_size (by repeat (first | (with_reducible first | exact HB.out | apply below_alloc | apply pw_below_drewN | apply below_drew1) | exact HB.out)))); (case aL => have := LMc23.out; omega); intro v162 w24 ho hb hg hat; rw [← Ny161.out] at ho; have n0_ := Aside0.mk (hb); have n1_ := Aside0.mk (ho); clear HB; clear HO_6; clear HO_8; have HB := n0_; have HO163 := n1_; clear n0_ n1_; clear ho hb hg hat))
                          (try simp only [← hl8_3])
                          go_roundg k3
                          case measure => have := HJ2.out; have := HK2.out; have := HK3.out; omega
                          case rel => exact ⟨(y161), (wrap64 (x29_2 + 1)), (by first | rfl | (simp; done) | (simp [*]; done)), H', ⟨by have := HJ2.out; have := HK2.out; have := HK3.out; omega⟩, ⟨by (try simp only [hl8_3]); (with_reducible repeat (first | apply Kd.S_alloc | apply Kd.S_drewN | apply Kd.S_drew)); exact HO163.out⟩, ⟨by repeat (first | (with_reducible first | exact HB.out | apply below_alloc | apply pw_below_drewN | apply below_drew1) | exact HB.out)⟩⟩
                        · rw [if_neg c23] at H
                          exact absurd H (by simp)
                · rw [if_neg c12] at H
                  exact absurd H (by simp)
              · rw [if_neg c11] at H
                exact absurd H (by simp)
            · rw [if_neg c10] at H
              have c10b0 : decide (x29_2 < a1) = false := decide_eq_false c10
              clear c10
              simp only [Option.some.injEq, Prod.mk.injEq] at H
              obtain ⟨rfl, rfl⟩ := H
              go_wp2
              go_ret2
              exact ⟨_, by first | rfl | (simp [errW_none, errW_some] <;> rfl) | (simp [*, errW_none, errW_some] <;> rfl), by (with_reducible repeat (first | apply Kd.S_alloc | apply Kd.S_drewN | apply Kd.S_drew)); exact HO_6.out, by repeat (first | (with_reducible first | exact HB.out | apply below_alloc | apply pw_below_drewN | apply below_drew1) | exact HB.out)⟩

end Go.Proofs.Ythmlimkmcofkfaa.B

/- Contracts of functions of the program, written by a program of this session. -/
namespace Go.Proofs.Ythmlimkmcofkfaa.B
open Go.RowKit Go.Proofs.YthmlimkmcofkfaaW.PrintWords Go.Proofs.YthmlimkmcofkfaaW.PrintLast Go.Proofs.YthmlimkmcofkfaaW.PrintMore
attribute [local go_sem] max2_int min2_int max_two min_two max_three min_three max_four min_four   -- for this text's walks alone
set_option linter.unusedVariables false
set_option linter.unusedSimpArgs false

/-! ### stowagekit_SameBytes: function 55 -/
def stowagekit_SameBytes.f (l0 : List Int) (l1 : List Int) : Option (Bool) := some ((strOfNums l0).toList == (strOfNums l1).toList)
set_option maxHeartbeats 8000000 in
set_option maxRecDepth 100000 in
theorem stowagekit_SameBytes.calls (A0 : Option Addr) (c0 : Nat) (l0 : List Int) (A1 : Option Addr) (c1 : Nat) (l1 : List Int) (r : Bool) (w : World) (hr0 : Kd.C (Kd.int .u8) w A0 l0.length l0) (hc0 : l0.length ≤ c0) (hr1 : Kd.C (Kd.int .u8) w A1 l1.length l1) (hc1 : l1.length ≤ c1) (h : stowagekit_SameBytes.f l0 l1 = some r) :
    Calls Try.prog 55 #[.slice A0 l0.length c0, .slice A1 l1.length c1] w fun e w' => e = .returned (.bool r) ∧ Drawn0 w w' := by
  have HR0 := Aside0.mk hr0
  have HC0 := Aside0.mk hc0
  clear hr0 hc0
  have HR1 := Aside0.mk hr1
  have HC1 := Aside0.mk hc1
  clear hr1 hc1
  have H : (some ((strOfNums l0).toList == (strOfNums l1).toList)) = some r := h
  clear h
  obtain rfl := Option.some.inj H
  have hcv3 := Kd.C_string (P := Try.prog) (A := A0) (c := c0) Try.underlying41 Try.underlying5 Try.underlying9 HR0.out
  have hcv4 := Kd.C_string (P := Try.prog) (A := A1) (c := c1) Try.underlying41 Try.underlying5 Try.underlying9 HR1.out
  go_enter Try.func55, Try.ntmps55
  go_wp2
  go_ret
  exact ⟨by first | rfl | (simp; done) | (simp [*]; done), by repeat (first | exact Drawn0.refl _ | apply Drawn0.step)⟩

end Go.Proofs.Ythmlimkmcofkfaa.B

/- Contracts of functions of the program, written by a program of this session. -/
namespace Go.Proofs.Ythmlimkmcofkfaa.B
open Go.RowKit Go.Proofs.YthmlimkmcofkfaaW.PrintWords Go.Proofs.YthmlimkmcofkfaaW.PrintLast Go.Proofs.YthmlimkmcofkfaaW.PrintMore
attribute [local go_sem] max2_int min2_int max_two min_two max_three min_three max_four min_four   -- for this text's walks alone
set_option linter.unusedVariables false
set_option linter.unusedSimpArgs false

/-! ### stowagekit_SameLists: function 22 -/
def stowagekit_SameLists.l0 : Nat → List (List Int) → List (List Int) → Int → Option (Bool)
  | 0, _, _, _ => none
  | k + 1, x0, x1, x5 => if x5 < (x0.length : Int) then (if 0 ≤ x5 then (if x5 < (x1.length : Int) then ((stowagekit_SameBytes.f (rd_L1 x0 x5) (rd_L1 x1 x5)).bind fun t179 => (if t179 = true then (stowagekit_SameLists.l0 k x0 x1 (wrap64 (x5 + 1))) else (some false))) else (none)) else (none)) else (some true)
def stowagekit_SameLists.f (k : Nat) (l0 : List (List Int)) (l1 : List (List Int)) : Option (Bool) := if (l0.length : Int) = (l1.length : Int) then (stowagekit_SameLists.l0 k l0 l1 0) else (some false)
theorem stowagekit_SameLists.mono_l : ∀ k, (∀ y0 y1 y2, LeO (stowagekit_SameLists.l0 k y0 y1 y2) (stowagekit_SameLists.l0 (k + 1) y0 y1 y2))
  | 0 => fun _ _ _ r h => by simp [stowagekit_SameLists.l0] at h
  | k + 1 => by
    have ih0 := stowagekit_SameLists.mono_l k
    · intro y0 y1 y2
      unfold stowagekit_SameLists.l0
      repeat' first
      | (with_reducible exact ih0 _ _ _)
      | (with_reducible exact LeO.refl _)
      | (with_reducible exact LeO.none _)
      | (with_reducible refine LeO.ite ?_ ?_)
      | (with_reducible refine LeO.bind ?_ (fun _ => ?_))
      | exact ih0 _ _ _
      | exact LeO.none _
      | refine LeO.ite ?_ ?_
      | refine LeO.bind ?_ (fun _ => ?_)
theorem stowagekit_SameLists.mono : ∀ a0 a1 k, LeO (stowagekit_SameLists.f k a0 a1) (stowagekit_SameLists.f (k + 1) a0 a1) := by
  intro a0 a1 k
  have ih0 := stowagekit_SameLists.mono_l k
  unfold stowagekit_SameLists.f
  repeat' first
      | (with_reducible exact ih0 _ _ _)
      | (with_reducible exact LeO.refl _)
      | (with_reducible exact LeO.none _)
      | (with_reducible refine LeO.ite ?_ ?_)
      | (with_reducible refine LeO.bind ?_ (fun _ => ?_))
      | exact ih0 _ _ _
      | exact LeO.none _
      | refine LeO.ite ?_ ?_
      | refine LeO.bind ?_ (fun _ => ?_)
set_option maxHeartbeats 8000000 in
set_option maxRecDepth 100000 in
theorem stowagekit_SameLists.calls (k : Nat) (A0 : Option Addr) (c0 : Nat) (l0 : List (List Int)) (A1 : Option Addr) (c1 : Nat) (l1 : List (List Int)) (r : Bool) (w : World) (hr0 : Kd.C (Kd.slice 5 (Kd.int .u8)) w A0 l0.length l0) (hc0 : l0.length ≤ c0) (hr1 : Kd.C (Kd.slice 5 (Kd.int .u8)) w A1 l1.length l1) (hc1 : l1.length ≤ c1) (h : stowagekit_SameLists.f k l0 l1 = some r) :
    Calls Try.prog 22 #[.slice A0 l0.length c0, .slice A1 l1.length c1] w fun e w' => e = .returned (.bool r) ∧ Drawn0 w w' := by
  have HR0 := Aside0.mk hr0
  have HC0 := Aside0.mk hc0
  clear hr0 hc0
  have HR1 := Aside0.mk hr1
  have HC1 := Aside0.mk hc1
  clear hr1 hc1
  have H : (if (l0.length : Int) = (l1.length : Int) then (stowagekit_SameLists.l0 k l0 l1 0) else (some false)) = some r := h
  clear h
  by_cases c3 : (l0.length : Int) = (l1.length : Int)
  · rw [if_pos c3] at H
    have c3b0 : ((l0.length : Int) == (l1.length : Int)) = true := beq_iff_eq.mpr c3
    have c3b1 : ((l0.length : Int) != (l1.length : Int)) = false := bne_eq_false_iff_eq.mpr c3
    have c3b2 : (l0.length == l1.length) = true := by first | simpa using c3 | (simp at c3 ⊢; omega)
    clear c3
    have H' := Aside0.mk H
    clear H
    go_enter Try.func22, Try.ntmps22
    go_wp2
    repeat (go_quiet (fail); try go_wp2)
    go_loopg [5] k (fun kq v5 w' => ∃ (x5_1 : Int), v5 = .int .i64 x5_1 ∧ Aside0 (stowagekit_SameLists.l0 kq l0 l1 x5_1 = some r) ∧ Aside0 (kq ≤ k) ∧ Drawn0 w w')
    case atStart => exact ⟨(0), (by first | rfl | (simp; done) | (simp [*]; done)), H', ⟨Nat.le_refl _⟩, by repeat (first | exact Drawn0.refl _ | apply Drawn0.step)⟩
    case round =>
      clear H'
      try clear c1
      try clear c2
      try clear p2
      try clear c3
      try clear c3b0
      try clear c3b1
      try clear c3b2
      obtain ⟨x5_1, rfl, HA, HK1, ⟨m1, rfl⟩⟩ := hrel
      cases gk with
      | zero => exact absurd HA.out (by simp [stowagekit_SameLists.l0])
      | succ k1 =>
        have H := HA.out
        clear HA
        simp only [stowagekit_SameLists.l0] at H
        by_cases c4 : x5_1 < (l0.length : Int)
        · rw [if_pos c4] at H
          have c4b0 : decide (x5_1 < (l0.length : Int)) = true := decide_eq_true c4
          clear c4
          by_cases c5 : 0 ≤ x5_1
          · rw [if_pos c5] at H
            have c5b0 : decide (0 ≤ x5_1) = true := decide_eq_true c5
            clear c5
            by_cases c6 : x5_1 < (l1.length : Int)
            · rw [if_pos c6] at H
              have c6b0 : decide (x5_1 < (l1.length : Int)) = true := decide_eq_true c6
              clear c6
              replace H := Option.bind_eq_some_iff.mp H
              obtain ⟨t179, A70, H⟩ := H
              replace H : (if t179 = true then (stowagekit_SameLists.l0 k1 l0 l1 (wrap64 (x5_1 + 1))) else (some false)) = some r := H
              have A7 := Aside0.mk A70
              clear A70
              by_cases c8 : t179 = true
              · subst c8
                have H1 : (stowagekit_SameLists.l0 k1 l0 l1 (wrap64 (x5_1 + 1))) = some r := by rw [if_pos rfl] at H; exact H
                clear H
                have H := H1
                clear H1
                have H' := Aside0.mk H
                clear H
                have p177 : 0 ≤ (x5_1 : Int) := of_decide_eq_true (by first | (with_reducible assumption) | assumption)
                have q177 : x5_1 < (l0.length : Int) := of_decide_eq_true (by first | (with_reducible assumption) | assumption)
                obtain ⟨ad177, A177_0, c177_0, e177, hx177_0, hl177_0, hi177_0⟩ := at_L1 HR0.out x5_1 p177 q177
                cases e177
                have HR177_0 := Aside0.mk hi177_0
                have HC177_0 := Aside0.mk hl177_0
                clear hi177_0 hl177_0
                replace p177 := eq_true p177
                replace q177 := eq_true q177
                have p178 : 0 ≤ (x5_1 : Int) := of_decide_eq_true (by first | (with_reducible assumption) | assumption)
                have q178 : x5_1 < (l1.length : Int) := of_decide_eq_true (by first | (with_reducible assumption) | assumption)
                obtain ⟨ad178, A178_0, c178_0, e178, hx178_0, hl178_0, hi178_0⟩ := at_L1 HR1.out x5_1 p178 q178
                cases e178
                have HR178_0 := Aside0.mk hi178_0
                have HC178_0 := Aside0.mk hl178_0
                clear hi178_0 hl178_0
                replace p178 := eq_true p178
                replace q178 := eq_true q178
                go_wp2_with (first | (go_at_call 55; (with_reducible refine (stowagekit_SameBytes.calls _ _ (rd_L1 l0 x5_1) _ _ (rd_L1 l1 x5_1) true _ ?side1 ?side2 ?side3 ?side4 A7.out).mono ?_); (case side1 => repeat (first | exact HR177_0.out | (with_reducible refine Kd.C_alloc ?_ _) | (with_reducible refine Kd.C_drewN ?_ _) | (with_reducible refine Kd.C_drew ?_))); (case side2 => exact HC177_0.out); (case side3 => repeat (first | exact HR178_0.out | (with_reducible refine Kd.C_alloc ?_ _) | (with_reducible refine Kd.C_drewN ?_ _) | (with_reducible refine Kd.C_drew ?_))); (case side4 => exact HC178_0.out); rintro e w' ⟨rfl, ⟨nd, rfl⟩⟩; (try first | exact ⟨rfl, _, World.drewN_drewN _ _ _⟩ | exact ⟨rfl, _, Eq.trans (World.drewN_drewN _ _ _) (congrArg (World.drewN _) (Nat.add_assoc _ _ _))⟩)))
                repeat (go_quiet (first | (go_at_call 55; (with_reducible refine (stowagekit_SameBytes.calls _ _ (rd_L1 l0 x5_1) _ _ (rd_L1 l1 x5_1) true _ ?side1 ?side2 ?side3 ?side4 A7.out).mono ?_); (case side1 => repeat (first | exact HR177_0.out | (with_reducible refine Kd.C_alloc ?_ _) | (with_reducible refine Kd.C_drewN ?_ _) | (with_reducible refine Kd.C_drew ?_))); (case side2 => exact HC177_0.out); (case side3 => repeat (first | exact HR178_0.out | (with_reducible refine Kd.C_alloc ?_ _) | (with_reducible refine Kd.C_drewN ?_ _) | (with_reducible refine Kd.C_drew ?_))); (case side4 => exact HC178_0.out); rintro e w' ⟨rfl, ⟨nd, rfl⟩⟩; (try first | exact ⟨rfl, _, World.drewN_drewN _ _ _⟩ | exact ⟨rfl, _, Eq.trans (World.drewN_drewN _ _ _) (congrArg (World.drewN _) (Nat.add_assoc _ _ _))⟩))); try go_wp2_with (first | (go_at_call 55; (with_reducible refine (stowagekit_SameBytes.calls _ _ (rd_L1 l0 x5_1) _ _ (rd_L1 l1 x5_1) true _ ?side1 ?side2 ?side3 ?side4 A7.out).mono ?_); (case side1 => repeat (first | exact HR177_0.out | (with_reducible refine Kd.C_alloc ?_ _) | (with_reducible refine Kd.C_drewN ?_ _) | (with_reducible refine Kd.C_drew ?_))); (case side2 => exact HC177_0.out); (case side3 => repeat (first | exact HR178_0.out | (with_reducible refine Kd.C_alloc ?_ _) | (with_reducible refine Kd.C_drewN ?_ _) | (with_reducible refine Kd.C_drew ?_))); (case side4 => exact HC178_0.out); rintro e w' ⟨rfl, ⟨nd, rfl⟩⟩; (try first | exact ⟨rfl, _, World.drewN_drewN _ _ _⟩ | exact ⟨rfl, _, Eq.trans (World.drewN_drewN _ _ _) (congrArg (World.drewN _) (Nat.add_assoc _ _ _))⟩))))
                go_roundg k1
                case measure => have := HK1.out; omega
                case rel => exact ⟨(wrap64 (x5_1 + 1)), (by first | rfl | (simp; done) | (simp [*]; done)), H', ⟨by have := HK1.out; omega⟩, by repeat (first | exact Drawn0.refl _ | apply Drawn0.step)⟩
              · replace c8 := Bool.eq_false_iff.mpr c8
                subst c8
                have H1 : (some false) = some r := by rw [if_neg (show ¬ (false = true) by decide)] at H; exact H
                clear H
                have H := H1
                clear H1
                obtain rfl := Option.some.inj H
                have p177 : 0 ≤ (x5_1 : Int) := of_decide_eq_true (by first | (with_reducible assumption) | assumption)
                have q177 : x5_1 < (l0.length : Int) := of_decide_eq_true (by first | (with_reducible assumption) | assumption)
                obtain ⟨ad177, A177_0, c177_0, e177, hx177_0, hl177_0, hi177_0⟩ := at_L1 HR0.out x5_1 p177 q177
                cases e177
                have HR177_0 := Aside0.mk hi177_0
                have HC177_0 := Aside0.mk hl177_0
                clear hi177_0 hl177_0
                replace p177 := eq_true p177
                replace q177 := eq_true q177
                have p178 : 0 ≤ (x5_1 : Int) := of_decide_eq_true (by first | (with_reducible assumption) | assumption)
                have q178 : x5_1 < (l1.length : Int) := of_decide_eq_true (by first | (with_reducible assumption) | assumption)
                obtain ⟨ad178, A178_0, c178_0, e178, hx178_0, hl178_0, hi178_0⟩ := at_L1 HR1.out x5_1 p178 q178
                cases e178
                have HR178_0 := Aside0.mk hi178_0
                have HC178_0 := Aside0.mk hl178_0
                clear hi178_0 hl178_0
                replace p178 := eq_true p178
                replace q178 := eq_true q178
                go_wp2_with (first | (go_at_call 55; (with_reducible refine (stowagekit_SameBytes.calls _ _ (rd_L1 l0 x5_1) _ _ (rd_L1 l1 x5_1) false _ ?side1 ?side2 ?side3 ?side4 A7.out).mono ?_); (case side1 => repeat (first | exact HR177_0.out | (with_reducible refine Kd.C_alloc ?_ _) | (with_reducible refine Kd.C_drewN ?_ _) | (with_reducible refine Kd.C_drew ?_))); (case side2 => exact HC177_0.out); (case side3 => repeat (first | exact HR178_0.out | (with_reducible refine Kd.C_alloc ?_ _) | (with_reducible refine Kd.C_drewN ?_ _) | (with_reducible refine Kd.C_drew ?_))); (case side4 => exact HC178_0.out); rintro e w' ⟨rfl, ⟨nd, rfl⟩⟩; (try first | exact ⟨rfl, _, World.drewN_drewN _ _ _⟩ | exact ⟨rfl, _, Eq.trans (World.drewN_drewN _ _ _) (congrArg (World.drewN _) (Nat.add_assoc _ _ _))⟩)))
                repeat (go_quiet (first | (go_at_call 55; (with_reducible refine (stowagekit_SameBytes.calls _ _ (rd_L1 l0 x5_1) _ _ (rd_L1 l1 x5_1) false _ ?side1 ?side2 ?side3 ?side4 A7.out).mono ?_); (case side1 => repeat (first | exact HR177_0.out | (with_reducible refine Kd.C_alloc ?_ _) | (with_reducible refine Kd.C_drewN ?_ _) | (with_reducible refine Kd.C_drew ?_))); (case side2 => exact HC177_0.out); (case side3 => repeat (first | exact HR178_0.out | (with_reducible refine Kd.C_alloc ?_ _) | (with_reducible refine Kd.C_drewN ?_ _) | (with_reducible refine Kd.C_drew ?_))); (case side4 => exact HC178_0.out); rintro e w' ⟨rfl, ⟨nd, rfl⟩⟩; (try first | exact ⟨rfl, _, World.drewN_drewN _ _ _⟩ | exact ⟨rfl, _, Eq.trans (World.drewN_drewN _ _ _) (congrArg (World.drewN _) (Nat.add_assoc _ _ _))⟩))); try go_wp2_with (first | (go_at_call 55; (with_reducible refine (stowagekit_SameBytes.calls _ _ (rd_L1 l0 x5_1) _ _ (rd_L1 l1 x5_1) false _ ?side1 ?side2 ?side3 ?side4 A7.out).mono ?_); (case side1 => repeat (first | exact HR177_0.out | (with_reducible refine Kd.C_alloc ?_ _) | (with_reducible refine Kd.C_drewN ?_ _) | (with_reducible refine Kd.C_drew ?_))); (case side2 => exact HC177_0.out); (case side3 => repeat (first | exact HR178_0.out | (with_reducible refine Kd.C_alloc ?_ _) | (with_reducible refine Kd.C_drewN ?_ _) | (with_reducible refine Kd.C_drew ?_))); (case side4 => exact HC178_0.out); rintro e w' ⟨rfl, ⟨nd, rfl⟩⟩; (try first | exact ⟨rfl, _, World.drewN_drewN _ _ _⟩ | exact ⟨rfl, _, Eq.trans (World.drewN_drewN _ _ _) (congrArg (World.drewN _) (Nat.add_assoc _ _ _))⟩))))
                go_ret
                exact ⟨by first | rfl | (simp; done) | (simp [*]; done), by repeat (first | exact Drawn0.refl _ | apply Drawn0.step)⟩
            · rw [if_neg c6] at H
              exact absurd H (by simp)
          · rw [if_neg c5] at H
            exact absurd H (by simp)
        · rw [if_neg c4] at H
          have c4b0 : decide (x5_1 < (l0.length : Int)) = false := decide_eq_false c4
          clear c4
          obtain rfl := Option.some.inj H
          go_wp2
          repeat (go_quiet (fail); try go_wp2)
          go_ret
          exact ⟨by first | rfl | (simp; done) | (simp [*]; done), by repeat (first | exact Drawn0.refl _ | apply Drawn0.step)⟩
  · rw [if_neg c3] at H
    have c3b0 : ((l0.length : Int) == (l1.length : Int)) = false := beq_eq_false_iff_ne.mpr c3
    have c3b1 : ((l0.length : Int) != (l1.length : Int)) = true := bne_iff_ne.mpr c3
    have c3b2 : (l0.length == l1.length) = false := by first | simpa using c3 | (simp at c3 ⊢; omega)
    obtain rfl := Option.some.inj H
    go_enter Try.func22, Try.ntmps22
    go_wp2
    repeat (go_quiet (fail); try go_wp2)
    go_ret
    exact ⟨by first | rfl | (simp; done) | (simp [*]; done), by repeat (first | exact Drawn0.refl _ | apply Drawn0.step)⟩

end Go.Proofs.Ythmlimkmcofkfaa.B

/- Contracts of functions of the program, written by a program of this session. -/
namespace Go.Proofs.Ythmlimkmcofkfaa.B
open Go.RowKit Go.Proofs.YthmlimkmcofkfaaW.PrintWords Go.Proofs.YthmlimkmcofkfaaW.PrintLast Go.Proofs.YthmlimkmcofkfaaW.PrintMore
attribute [local go_sem] max2_int min2_int max_two min_two max_three min_three max_four min_four   -- for this text's walks alone
set_option linter.unusedVariables false
set_option linter.unusedSimpArgs false

/-! ### stowagekit_Pick: function 37 -/
def stowagekit_Pick.f (a0 : Int) (a1 : Int) : Option (Int) := if a1 < 1 then (some 0) else (if a1 = 0 then (none) else (if (Int.tmod a0 a1) < 0 then (some (wrap64 ((Int.tmod a0 a1) + a1))) else (some (Int.tmod a0 a1))))
set_option maxHeartbeats 8000000 in
set_option maxRecDepth 100000 in
theorem stowagekit_Pick.calls (a0 : Int) (a1 : Int) (r : Int) (w : World) (h : stowagekit_Pick.f a0 a1 = some r) :
    Calls Try.prog 37 #[.int .i64 a0, .int .i64 a1] w fun e w' => e = .returned (.int .i64 r) ∧ Drawn0 w w' := by
  have H : (if a1 < 1 then (some 0) else (if a1 = 0 then (none) else (if (Int.tmod a0 a1) < 0 then (some (wrap64 ((Int.tmod a0 a1) + a1))) else (some (Int.tmod a0 a1))))) = some r := h
  clear h
  by_cases c3 : a1 < 1
  · rw [if_pos c3] at H
    have c3b0 : decide (a1 < 1) = true := decide_eq_true c3
    clear c3
    obtain rfl := Option.some.inj H
    go_enter Try.func37, Try.ntmps37
    go_wp2
    go_ret
    exact ⟨by first | rfl | (simp; done) | (simp [*]; done), by repeat (first | exact Drawn0.refl _ | apply Drawn0.step)⟩
  · rw [if_neg c3] at H
    have c3b0 : decide (a1 < 1) = false := decide_eq_false c3
    clear c3
    by_cases c4 : a1 = 0
    · rw [if_pos c4] at H
      exact absurd H (by simp)
    · rw [if_neg c4] at H
      have c4b0 : (a1 == 0) = false := beq_eq_false_iff_ne.mpr c4
      have c4b1 : (a1 != 0) = true := bne_iff_ne.mpr c4
      by_cases c5 : (Int.tmod a0 a1) < 0
      · rw [if_pos c5] at H
        have c5b0 : decide ((Int.tmod a0 a1) < 0) = true := decide_eq_true c5
        clear c5
        obtain rfl := Option.some.inj H
        go_enter Try.func37, Try.ntmps37
        go_wp2
        go_ret
        exact ⟨by first | rfl | (simp; done) | (simp [*]; done), by repeat (first | exact Drawn0.refl _ | apply Drawn0.step)⟩
      · rw [if_neg c5] at H
        have c5b0 : decide ((Int.tmod a0 a1) < 0) = false := decide_eq_false c5
        clear c5
        obtain rfl := Option.some.inj H
        go_enter Try.func37, Try.ntmps37
        go_wp2
        go_ret
        exact ⟨by first | rfl | (simp; done) | (simp [*]; done), by repeat (first | exact Drawn0.refl _ | apply Drawn0.step)⟩

end Go.Proofs.Ythmlimkmcofkfaa.B

/- Contracts, by hand: matrix.Check and what it calls. -/
namespace Go.Proofs.Ythmlimkmcofkfaa.E
open Go.RowKit Go.Proofs.YthmlimkmcofkfaaW.PrintWords Go.Proofs.YthmlimkmcofkfaaW.PrintLast Go.Proofs.YthmlimkmcofkfaaW.PrintMore Go.Proofs.Ythmlimkmcofkfaa.B
set_option linter.unusedVariables false
set_option linter.unusedSimpArgs false

abbrev MK : Kd (List Int) := Kd.slice 5 (Kd.int .u8)

theorem check1_calls (A : Option Addr) (n c : Nat) (w : World) (hn : n ≤ 9223372036854775807) :
    Calls Try.prog 73 #[.slice A n c] w fun e w' => e = .returned (.bool (decide ((32 : Int) < n))) ∧ w = w' := by
  go_enter Try.func73, Try.ntmps73
  go_wp2
  go_ret
  exact ⟨rfl, rfl⟩

theorem check2_calls (A : Option Addr) (n c : Nat) (g : Nat) (ad : Addr) (m cm : Nat) (A1 : Option Addr) (n1 c1 : Nat) (w : World) (hn : n ≤ 9223372036854775807) (hn1 : n1 ≤ 9223372036854775807)
    (hb : w.cell? ⟨g, 0, none⟩ = some (.slice (some ad) m cm)) (hm : 0 < m) (hr : w.cell? ad = some (.slice A1 n1 c1)) :
    Calls Try.prog 74 #[.slice A n c, .pointer (some ⟨g, 0, none⟩)] w fun e w' => e = .returned (.bool (decide (n = 0) || !decide (n = n1))) ∧ w = w' := by
  by_cases h0 : n = 0
  · subst h0
    go_enter Try.func74, Try.ntmps74
    go_wp2
    go_ret
    exact ⟨by simp, rfl⟩
  · have h1 : ((n : Int) == 0) = false := by simp; omega
    have hm' : (0 : Int) < (m : Int) := by omega
    have hm2 : m ≠ 0 := by omega
    by_cases h2 : n = n1
    · subst h2
      go_enter Try.func74, Try.ntmps74
      go_wp2
      go_ret
      exact ⟨by simp [h0], rfl⟩
    · have h3 : ((n : Int) == (n1 : Int)) = false := by simp; omega
      have h4 : ((n : Int) != (n1 : Int)) = true := by simp; omega
      go_enter Try.func74, Try.ntmps74
      go_wp2
      go_ret
      exact ⟨by simp [h2], rfl⟩

def fidx (p : List Int → Bool) (l : List (List Int)) : Int := if l.any p then (l.findIdx p : Int) else -1


def P1 (r : List Int) : Bool := decide ((32 : Int) < r.length)
def P2 (n1 : Nat) (r : List Int) : Bool := decide (r.length = 0) || !decide (r.length = n1)

theorem fidx_at {p : List Int → Bool} {l : List (List Int)} {k : Nat} (hk : k < l.length) (h : ∀ j, j < k → p (rd_L1 l j) = false) (hp : p (rd_L1 l k) = true) : fidx p l = k := by
  have e : ∀ j : Nat, j < l.length → rd_L1 l j = l[j]! := fun j hj => by simp [rd_L1, hj]
  have ha : l.any p = true := List.any_eq_true.2 ⟨l[k], List.getElem_mem hk, by rw [e k hk] at hp; simpa [hk] using hp⟩
  unfold fidx
  rw [if_pos ha]
  congr 1
  refine (List.findIdx_eq hk).2 ⟨by rw [e k hk] at hp; simpa [hk] using hp, fun j hj => ?_⟩
  have := h j hj
  rw [e j (by omega)] at this
  have hj' : j < l.length := by omega
  simpa [hj'] using this
theorem fidx_none {p : List Int → Bool} {l : List (List Int)} (h : ∀ j : Nat, j < l.length → p (rd_L1 l j) = false) : fidx p l = -1 := by
  have ha : l.any p = false := by
    rw [List.any_eq_false]
    intro x hx
    obtain ⟨j, hj, rfl⟩ := List.getElem_of_mem hx
    have := h j hj
    simp [rd_L1, hj] at this
    simp [this]
  unfold fidx
  rw [if_neg (by simp [ha])]

theorem ret_i64 {a b : Int} (h : a = b) : Ending.returned (.int .i64 a) = .returned (.int .i64 b) := by rw [h]
theorem ret_bool {a b : Bool} (h : a = b) : Ending.returned (.bool a) = .returned (.bool b) := by rw [h]
theorem row_len {w : World} {A : Option Addr} {n : Nat} {xs : List Int} (h : (Kd.int .u8).C w A n xs) : n ≤ 9223372036854775807 := h.2.1

set_option maxHeartbeats 400000 in
theorem index1_calls (A : Option Addr) (c : Nat) (l : List (List Int)) (w : World) (hr : Kd.C MK w A l.length l) :
    Calls Try.prog 92 #[.slice A l.length c, .func (.func 73) #[] #[]] w fun e w' => e = .returned (.int .i64 (fidx P1 l)) ∧ w = w' := by
  have hl := hr.2.1
  have HR := Aside0.mk hr
  clear hr
  go_enter Try.func92, Try.ntmps92
  go_wp2
  go_loop [8] (fun i => ∃ k : Nat, k ≤ l.length ∧ i = .int .i64 k ∧ Hid (∀ j : Nat, j < k → P1 (rd_L1 l j) = false)) (fun i => l.length - (intOf i).toNat)
  case atStart => exact ⟨0, Nat.zero_le _, rfl, fun j hj => absurd hj (by omega)⟩
  case round =>
    obtain ⟨k, hk, rfl, hno⟩ := hrel
    by_cases hlt : k < l.length
    · obtain ⟨ad, A0, c0, rfl, hx, hc, hC⟩ := at_L1 HR.out k (by omega) (by omega)
      have hn := row_len hC
      have HP := Lib.hid hC
      clear hC
      rw [Int.toNat_natCast] at hx
      by_cases hp : P1 (rd_L1 l k) = true
      · have HP1 := Lib.hid (show decide ((32 : Int) < (rd_L1 l k).length) = true from hp)
        have HF := Lib.hid (fidx_at hlt hno.out hp)
        clear hp
        go_wp2_with (go_at_call 73; refine (check1_calls _ _ _ _ hn).mono ?_; rintro e w' ⟨rfl, rfl⟩; rw [HP1.out])
        go_ret
        exact ⟨ret_i64 HF.out.symm, rfl⟩
      · have hp' : P1 (rd_L1 l k) = false := by simpa using hp
        have HP1 := Lib.hid (show decide ((32 : Int) < (rd_L1 l k).length) = false from hp')
        clear hp
        have HP2 := Lib.hid hp'
        clear hp'
        go_wp2_with (go_at_call 73; refine (check1_calls _ _ _ _ hn).mono ?_; rintro e w' ⟨rfl, rfl⟩; rw [HP1.out])
        go_round
        case rel => exact ⟨k + 1, by omega, by go_num, fun j hj => (Nat.lt_succ_iff_lt_or_eq.1 hj).elim (hno.out j) (fun e => by rw [e]; exact HP2.out)⟩
        case measure => simp [intOf]; omega
    · have HN : Hid (fidx P1 l = -1) := fidx_none (fun j hj => hno.out j (by omega))
      go_wp2
      go_ret
      exact ⟨ret_i64 HN.out.symm, rfl⟩

set_option maxHeartbeats 400000 in
theorem index2_calls (A : Option Addr) (c : Nat) (l : List (List Int)) (g : Nat) (w : World) (hr : Kd.C MK w A l.length l) (hb : w.cell? ⟨g, 0, none⟩ = some (.slice A l.length c)) :
    Calls Try.prog 92 #[.slice A l.length c, .func (.func 74) #[] #[.pointer (some ⟨g, 0, none⟩)]] w fun e w' => e = .returned (.int .i64 (fidx (P2 (rd_L1 l 0).length) l)) ∧ w = w' := by
  have hl := hr.2.1
  have HR := Aside0.mk hr
  clear hr
  have HB := Aside0.mk hb
  clear hb
  go_enter Try.func92, Try.ntmps92
  go_wp2
  go_loop [8] (fun i => ∃ k : Nat, k ≤ l.length ∧ i = .int .i64 k ∧ Hid (∀ j : Nat, j < k → P2 (rd_L1 l 0).length (rd_L1 l j) = false)) (fun i => l.length - (intOf i).toNat)
  case atStart => exact ⟨0, Nat.zero_le _, rfl, fun j hj => absurd hj (by omega)⟩
  case round =>
    obtain ⟨k, hk, rfl, hno⟩ := hrel
    by_cases hlt : k < l.length
    · obtain ⟨ad, A0, c0, rfl, hx, hc, hC⟩ := at_L1 HR.out k (by omega) (by omega)
      obtain ⟨ad', A1, c1, he, hx0, hc1, hC1⟩ := at_L1 HR.out 0 (by omega) (by omega)
      cases he
      have hn := row_len hC
      have hn1 := row_len hC1
      have HP := Lib.hid hC
      clear hC hC1
      rw [Int.toNat_natCast] at hx
      have hx0' : w.cell? ad = some (.slice A1 (rd_L1 l 0).length c1) := by simpa [Addr.add] using hx0
      have HX0 := Lib.hid hx0'
      clear hx0 hx0'
      have hpos : 0 < l.length := by omega
      by_cases hp : P2 (rd_L1 l 0).length (rd_L1 l k) = true
      · have HP1 := Lib.hid (show (decide ((rd_L1 l k).length = 0) || !decide ((rd_L1 l k).length = (rd_L1 l 0).length)) = true from hp)
        have HF := Lib.hid (fidx_at hlt hno.out hp)
        clear hp
        go_wp2_with (go_at_call 74; refine (check2_calls _ _ _ _ _ _ _ _ _ _ _ hn hn1 HB.out hpos HX0.out).mono ?_; rintro e w' ⟨rfl, rfl⟩; rw [HP1.out])
        go_ret
        exact ⟨ret_i64 HF.out.symm, rfl⟩
      · have hp' : P2 (rd_L1 l 0).length (rd_L1 l k) = false := by simpa using hp
        have HP1 := Lib.hid (show (decide ((rd_L1 l k).length = 0) || !decide ((rd_L1 l k).length = (rd_L1 l 0).length)) = false from hp')
        clear hp
        have HP2 := Lib.hid hp'
        clear hp'
        go_wp2_with (go_at_call 74; refine (check2_calls _ _ _ _ _ _ _ _ _ _ _ hn hn1 HB.out hpos HX0.out).mono ?_; rintro e w' ⟨rfl, rfl⟩; rw [HP1.out])
        go_round
        case rel => exact ⟨k + 1, by omega, by go_num, fun j hj => (Nat.lt_succ_iff_lt_or_eq.1 hj).elim (hno.out j) (fun e => by rw [e]; exact HP2.out)⟩
        case measure => simp [intOf]; omega
    · have HN : Hid (fidx (P2 (rd_L1 l 0).length) l = -1) := fidx_none (fun j hj => hno.out j (by omega))
      go_wp2
      go_ret
      exact ⟨ret_i64 HN.out.symm, rfl⟩

theorem fidx_ge (p : List Int → Bool) (l : List (List Int)) : decide (0 ≤ fidx p l) = l.any p := by
  unfold fidx
  split
  · rename_i h; simp [h]
  · rename_i h; simp at h ⊢; simpa using h

theorem contains1_calls (A : Option Addr) (c : Nat) (l : List (List Int)) (w : World) (hr : Kd.C MK w A l.length l) :
    Calls Try.prog 72 #[.slice A l.length c, .func (.func 73) #[] #[]] w fun e w' => e = .returned (.bool (l.any P1)) ∧ w = w' := by
  have HR := Aside0.mk hr
  clear hr
  have HF := Lib.hid (fidx_ge P1 l)
  go_enter Try.func72, Try.ntmps72
  go_wp2_with (go_at_call 92; refine (index1_calls _ _ _ _ HR.out).mono ?_; rintro e w' ⟨rfl, rfl⟩)
  go_ret
  exact ⟨ret_bool HF.out, rfl⟩
theorem contains2_calls (A : Option Addr) (c : Nat) (l : List (List Int)) (g : Nat) (w : World) (hr : Kd.C MK w A l.length l) (hb : w.cell? ⟨g, 0, none⟩ = some (.slice A l.length c)) :
    Calls Try.prog 72 #[.slice A l.length c, .func (.func 74) #[] #[.pointer (some ⟨g, 0, none⟩)]] w fun e w' => e = .returned (.bool (l.any (P2 (rd_L1 l 0).length))) ∧ w = w' := by
  have HR := Aside0.mk hr
  clear hr
  have HB := Aside0.mk hb
  clear hb
  have HF := Lib.hid (fidx_ge (P2 (rd_L1 l 0).length) l)
  go_enter Try.func72, Try.ntmps72
  go_wp2_with (go_at_call 92; refine (index2_calls _ _ _ _ _ HR.out HB.out).mono ?_; rintro e w' ⟨rfl, rfl⟩)
  go_ret
  exact ⟨ret_bool HF.out, rfl⟩

/-- What Check answers. -/
def check (l : List (List Int)) : Int := if 32 < l.length ∨ l.any P1 = true then 3 else if l.length = 0 ∨ l.any (P2 (rd_L1 l 0).length) = true then 2 else 0
def matrix_Check.f (l0 : List (List Int)) : Option Int := some (check l0)

set_option maxHeartbeats 800000 in
set_option maxRecDepth 100000 in
theorem matrix_Check.calls (A0 : Option Addr) (c0 : Nat) (l0 : List (List Int)) (r : Int) (w : World) (hr0 : Kd.C (Kd.slice 5 (Kd.int .u8)) w A0 l0.length l0) (hc0 : l0.length ≤ c0) (h : matrix_Check.f l0 = some r) :
    Calls Try.prog 33 #[.slice A0 l0.length c0] w fun e w' => e = .returned (.int .i64 r) ∧ Below w.heap.size w w' := by
  obtain rfl : check l0 = r := Option.some.inj h
  clear h
  have hl := hr0.2.1
  have HB := Aside0.mk (below_alloc (Below.refl w.heap.size w) (.cells #[.slice A0 l0.length c0] 22))
  have HR0 := Aside0.mk (Kd.C_alloc hr0 (.cells #[.slice A0 l0.length c0] 22))
  clear hr0 hc0
  by_cases c1 : 32 < l0.length
  · have HF := Lib.hid (show check l0 = 3 from if_pos (.inl c1))
    have c1' : decide ((32 : Int) < (l0.length : Int)) = true := by simp; omega
    clear c1
    go_enter Try.func33, Try.ntmps33
    go_wp2
    go_ret
    exact ⟨ret_i64 HF.out.symm, HB.out⟩
  · have c1' : decide ((32 : Int) < (l0.length : Int)) = false := by simp; omega
    by_cases c2 : l0.any P1 = true
    · have HF := Lib.hid (show check l0 = 3 from if_pos (.inr c2))
      have HC2 := Lib.hid c2
      clear c2
      go_enter Try.func33, Try.ntmps33
      go_wp2_with (go_at_call 72; refine (contains1_calls _ _ _ _ HR0.out).mono ?_; rintro e w' ⟨rfl, rfl⟩; rw [HC2.out])
      go_ret
      exact ⟨ret_i64 HF.out.symm, HB.out⟩
    · have c2' : l0.any P1 = false := by simpa using c2
      have HC2 := Lib.hid c2'
      by_cases c3 : l0.length = 0
      · have HF := Lib.hid (show check l0 = 2 by unfold check; rw [if_neg (by simp [c2', c3]), if_pos (.inl c3)])
        have c3' : ((l0.length : Int) == 0) = true := by simp; simpa using c3
        clear c2 c2' c3
        go_enter Try.func33, Try.ntmps33
        go_wp2_with (go_at_call 72; refine (contains1_calls _ _ _ _ HR0.out).mono ?_; rintro e w' ⟨rfl, rfl⟩; rw [HC2.out])
        go_ret
        exact ⟨ret_i64 HF.out.symm, HB.out⟩
      · have c3' : ((l0.length : Int) == 0) = false := by simp; simpa using c3
        by_cases c4 : l0.any (P2 (rd_L1 l0 0).length) = true
        · have HF := Lib.hid (show check l0 = 2 by unfold check; rw [if_neg (by simp [c2']; omega), if_pos (.inr c4)])
          have HC4 := Lib.hid c4
          clear c2 c2' c4
          go_enter Try.func33, Try.ntmps33
          go_wp2_with fail
          refine (contains1_calls _ _ _ _ HR0.out).mono ?_
          rintro e w' ⟨rfl, rfl⟩
          rw [HC2.out]
          go_wp2_with fail
          refine (contains2_calls _ _ _ _ _ HR0.out (by simp)).mono ?_
          rintro e w' ⟨rfl, rfl⟩
          rw [HC4.out]
          go_wp2
          go_ret
          exact ⟨ret_i64 HF.out.symm, HB.out⟩
        · have c4' : l0.any (P2 (rd_L1 l0 0).length) = false := by simpa using c4
          have HF := Lib.hid (show check l0 = 0 by unfold check; rw [if_neg (by simp [c2']; omega), if_neg (by simp [c4']; simpa using c3)])
          have HC4 := Lib.hid c4'
          clear c2 c2' c4 c4'
          go_enter Try.func33, Try.ntmps33
          go_wp2_with fail
          refine (contains1_calls _ _ _ _ HR0.out).mono ?_
          rintro e w' ⟨rfl, rfl⟩
          rw [HC2.out]
          go_wp2_with fail
          refine (contains2_calls _ _ _ _ _ HR0.out (by simp)).mono ?_
          rintro e w' ⟨rfl, rfl⟩
          rw [HC4.out]
          go_wp2
          go_ret
          exact ⟨ret_i64 HF.out.symm, HB.out⟩
end Go.Proofs.Ythmlimkmcofkfaa.E

/- The field of 256 numbers, as plain numbers: its laws. No program. -/
namespace Go.Proofs.Ythmlimkmcofkfaa.Gf

/-- Doubling. -/
def xt (a : Nat) : Nat := (a * 2) % 256 ^^^ (a / 128 * 29) % 256
def mulL : Nat → Nat → Nat → Nat → Nat
  | 0, _, _, p => p
  | k + 1, a, b, p => mulL k (xt a) (b / 2) (p ^^^ (if b % 2 = 1 then a else 0))
/-- The product. -/
def mul (a b : Nat) : Nat := mulL 8 a b 0

theorem xor_lt {a b : Nat} (ha : a < 256) (hb : b < 256) : a ^^^ b < 256 := Nat.xor_lt_two_pow (n := 8) ha hb
theorem xt_lt (a : Nat) : xt a < 256 := xor_lt (Nat.mod_lt _ (by decide)) (Nat.mod_lt _ (by decide))
theorem xt_lin : ∀ a < 256, ∀ b < 256, xt (a ^^^ b) = xt a ^^^ xt b := by decide +kernel

theorem mulL_lt : ∀ (k a b p : Nat), a < 256 → p < 256 → mulL k a b p < 256
  | 0, _, _, _, _, hp => hp
  | k + 1, a, b, p, ha, hp => mulL_lt k _ _ _ (xt_lt a) (xor_lt hp (by split <;> omega))
theorem mul_lt {a : Nat} (b : Nat) (ha : a < 256) : mul a b < 256 := mulL_lt 8 a b 0 ha (by decide)

theorem xor4 (a b c d : Nat) : (a ^^^ b) ^^^ (c ^^^ d) = (a ^^^ c) ^^^ (b ^^^ d) := by
  rw [Nat.xor_assoc, Nat.xor_assoc, ← Nat.xor_assoc b, ← Nat.xor_assoc c, Nat.xor_comm b c]
theorem mulL_lin_a : ∀ (k a a' b p p' : Nat), a < 256 → a' < 256 → mulL k (a ^^^ a') b (p ^^^ p') = mulL k a b p ^^^ mulL k a' b p'
  | 0, _, _, _, _, _, _, _ => rfl
  | k + 1, a, a', b, p, p', ha, ha' => by
    simp only [mulL]
    rw [xt_lin a ha a' ha', ← mulL_lin_a k _ _ _ _ _ (xt_lt a) (xt_lt a')]
    congr 1
    by_cases h : b % 2 = 1
    · simp only [h, if_true]; exact xor4 ..
    · simp only [h, if_false, Nat.xor_zero]
theorem mul_lin_a {a a' : Nat} (b : Nat) (ha : a < 256) (ha' : a' < 256) : mul (a ^^^ a') b = mul a b ^^^ mul a' b := by
  have := mulL_lin_a 8 a a' b 0 0 ha ha'
  exact this
theorem xor_div2 (b b' : Nat) : (b ^^^ b') / 2 = b / 2 ^^^ b' / 2 := by
  have h := Nat.shiftRight_xor_distrib (a := b) (b := b') (i := 1)
  simpa [Nat.shiftRight_eq_div_pow] using h
theorem xor_mod2 (b b' : Nat) : (b ^^^ b') % 2 = 1 ↔ ¬ (b % 2 = 1 ↔ b' % 2 = 1) := by simp
theorem mulL_lin_b : ∀ (k a b b' p p' : Nat), mulL k a (b ^^^ b') (p ^^^ p') = mulL k a b p ^^^ mulL k a b' p'
  | 0, _, _, _, _, _ => rfl
  | k + 1, a, b, b', p, p' => by
    simp only [mulL]
    rw [xor_div2, ← mulL_lin_b k]
    congr 1
    by_cases h1 : b % 2 = 1 <;> by_cases h2 : b' % 2 = 1
    · rw [if_neg (by rw [xor_mod2]; simp [h1, h2]), if_pos h1, if_pos h2, xor4]; simp
    · rw [if_pos (by rw [xor_mod2]; simp [h1, h2]), if_pos h1, if_neg h2, xor4]; simp
    · rw [if_pos (by rw [xor_mod2]; simp [h1, h2]), if_neg h1, if_pos h2, xor4]; simp
    · rw [if_neg (by rw [xor_mod2]; simp [h1, h2]), if_neg h1, if_neg h2, xor4]; simp
theorem mul_lin_b (a b b' : Nat) : mul a (b ^^^ b') = mul a b ^^^ mul a b' := mulL_lin_b 8 a b b' 0 0

/-! ### From the basis to all -/
theorem bits_of : ∀ x < 256, x = (x % 2) ^^^ (x / 2 % 2 * 2) ^^^ (x / 4 % 2 * 4) ^^^ (x / 8 % 2 * 8) ^^^ (x / 16 % 2 * 16) ^^^ (x / 32 % 2 * 32) ^^^ (x / 64 % 2 * 64) ^^^ (x / 128 % 2 * 128) := by decide +kernel
def Lin (f : Nat → Nat) : Prop := ∀ x y, x < 256 → y < 256 → f (x ^^^ y) = f x ^^^ f y
theorem Lin.zero {f : Nat → Nat} (h : Lin f) : f 0 = 0 := by
  have := h 0 0 (by decide) (by decide)
  simp at this
  exact this
theorem Lin.bit {f g : Nat → Nat} (hf : Lin f) (hg : Lin g) {p : Nat} (h : f p = g p) (b : Nat) : f (b % 2 * p) = g (b % 2 * p) := by
  rcases Nat.mod_two_eq_zero_or_one b with e | e <;> rw [e]
  · rw [Nat.zero_mul, hf.zero, hg.zero]
  · rw [Nat.one_mul, h]
theorem Lin.ext {f g : Nat → Nat} (hf : Lin f) (hg : Lin g) (h : ∀ i < 8, f (2 ^ i) = g (2 ^ i)) (x : Nat) (hx : x < 256) : f x = g x := by
  have e0 : f (x % 2) = g (x % 2) := by have := hf.bit hg (h 0 (by decide)) x; simpa using this
  have e1 := hf.bit hg (h 1 (by decide)) (x / 2)
  have e2 := hf.bit hg (h 2 (by decide)) (x / 4)
  have e3 := hf.bit hg (h 3 (by decide)) (x / 8)
  have e4 := hf.bit hg (h 4 (by decide)) (x / 16)
  have e5 := hf.bit hg (h 5 (by decide)) (x / 32)
  have e6 := hf.bit hg (h 6 (by decide)) (x / 64)
  have e7 := hf.bit hg (h 7 (by decide)) (x / 128)
  have b0 : x % 2 < 256 := by omega
  have b1 : x / 2 % 2 * 2 < 256 := by omega
  have b2 : x / 4 % 2 * 4 < 256 := by omega
  have b3 : x / 8 % 2 * 8 < 256 := by omega
  have b4 : x / 16 % 2 * 16 < 256 := by omega
  have b5 : x / 32 % 2 * 32 < 256 := by omega
  have b6 : x / 64 % 2 * 64 < 256 := by omega
  have b7 : x / 128 % 2 * 128 < 256 := by omega
  have c1 := xor_lt b0 b1
  have c2 := xor_lt c1 b2
  have c3 := xor_lt c2 b3
  have c4 := xor_lt c3 b4
  have c5 := xor_lt c4 b5
  have c6 := xor_lt c5 b6
  rw [bits_of x hx, hf _ _ c6 b7, hg _ _ c6 b7, hf _ _ c5 b6, hg _ _ c5 b6, hf _ _ c4 b5, hg _ _ c4 b5, hf _ _ c3 b4, hg _ _ c3 b4, hf _ _ c2 b3, hg _ _ c2 b3, hf _ _ c1 b2, hg _ _ c1 b2, hf _ _ b0 b1, hg _ _ b0 b1]
  simp only [Nat.reducePow] at e1 e2 e3 e4 e5 e6 e7
  rw [e0, e1, e2, e3, e4, e5, e6, e7]
theorem lin_mul_right (a : Nat) : Lin (fun b => mul a b) := fun _ _ _ _ => mul_lin_b a _ _
theorem lin_mul_left (b : Nat) : Lin (fun a => mul a b) := fun _ _ hx hy => mul_lin_a b hx hy
theorem Lin.comp {f g : Nat → Nat} (hf : Lin f) (hg : Lin g) (hb : ∀ x, x < 256 → g x < 256) : Lin (fun x => f (g x)) := fun x y hx hy => by
  show f (g (x ^^^ y)) = _
  rw [hg x y hx hy, hf _ _ (hb x hx) (hb y hy)]

theorem mul_comm {a b : Nat} (ha : a < 256) (hb : b < 256) : mul a b = mul b a := by
  refine Lin.ext (f := fun b => mul a b) (g := fun b => mul b a) (lin_mul_right a) (lin_mul_left a) (fun j hj => ?_) b hb
  refine Lin.ext (f := fun a => mul a (2 ^ j)) (g := fun a => mul (2 ^ j) a) (lin_mul_left _) (lin_mul_right _) (fun i hi => ?_) a ha
  have h : ∀ i < 8, ∀ j < 8, mul (2 ^ i) (2 ^ j) = mul (2 ^ j) (2 ^ i) := by decide +kernel
  exact h i hi j hj
theorem pow_lt {i : Nat} (h : i < 8) : 2 ^ i < 256 := Nat.pow_lt_pow_right (by decide) h
theorem mul_assoc {a b c : Nat} (ha : a < 256) (hb : b < 256) (hc : c < 256) : mul (mul a b) c = mul a (mul b c) := by
  refine Lin.ext (f := fun c => mul (mul a b) c) (g := fun c => mul a (mul b c)) (lin_mul_right _) ((lin_mul_right a).comp (lin_mul_right b) (fun _ _ => mul_lt _ hb)) (fun k hk => ?_) c hc
  have hk' := pow_lt hk
  refine Lin.ext (f := fun b => mul (mul a b) (2 ^ k)) (g := fun b => mul a (mul b (2 ^ k))) ((lin_mul_left (2 ^ k)).comp (lin_mul_right a) (fun _ _ => mul_lt _ ha)) ((lin_mul_right a).comp (lin_mul_left (2 ^ k)) (fun _ hx => mul_lt _ hx)) (fun j hj => ?_) b hb
  have hj' := pow_lt hj
  refine Lin.ext (f := fun a => mul (mul a (2 ^ j)) (2 ^ k)) (g := fun a => mul a (mul (2 ^ j) (2 ^ k))) ((lin_mul_left (2 ^ k)).comp (lin_mul_left (2 ^ j)) (fun _ hx => mul_lt _ hx)) (lin_mul_left _) (fun i hi => ?_) a ha
  have h : ∀ i < 8, ∀ j < 8, ∀ k < 8, mul (mul (2 ^ i) (2 ^ j)) (2 ^ k) = mul (2 ^ i) (mul (2 ^ j) (2 ^ k)) := by decide +kernel
  exact h i hi j hj k hk
theorem mul_one {a : Nat} (ha : a < 256) : mul a 1 = a := by
  have h : ∀ a < 256, mul a 1 = a := by decide +kernel
  exact h a ha
theorem one_mul {a : Nat} (ha : a < 256) : mul 1 a = a := by rw [mul_comm (by decide) ha, mul_one ha]
theorem mul_zero (a : Nat) : mul a 0 = 0 := (lin_mul_right a).zero
theorem zero_mul (b : Nat) : mul 0 b = 0 := (lin_mul_left b).zero

/-- The 254th power, as the program forms it. -/
def sq (a : Nat) : Nat := mul a a
def inv (a : Nat) : Nat :=
  let a2 := sq a; let a4 := sq a2; let a8 := sq a4; let a16 := sq a8; let a32 := sq a16; let a64 := sq a32; let a128 := sq a64
  mul (mul (mul (mul (mul (mul (mul 1 a2) a4) a8) a16) a32) a64) a128
theorem inv_all : ∀ a < 256, a ≠ 0 → mul a (inv a) = 1 ∧ inv a < 256 := by decide +kernel
theorem inv_lt {a : Nat} (ha : a < 256) : inv a < 256 := by
  by_cases h : a = 0
  · subst h; decide +kernel
  · exact (inv_all a ha h).2
theorem mul_inv {a : Nat} (ha : a < 256) (h : a ≠ 0) : mul a (inv a) = 1 := (inv_all a ha h).1
theorem mul_eq_zero {a b : Nat} (ha : a < 256) (hb : b < 256) (h : mul a b = 0) : a = 0 ∨ b = 0 := by
  by_cases h0 : a = 0
  · exact .inl h0
  · right
    have h1 : mul (inv a) (mul a b) = 0 := by rw [h, mul_zero]
    rw [← mul_assoc (inv_lt ha) ha hb, mul_comm (inv_lt ha) ha, mul_inv ha h0, one_mul hb] at h1
    exact h1
end Go.Proofs.Ythmlimkmcofkfaa.Gf

/- The field's functions of the program, told by the plain product. -/
namespace Go.Proofs.Ythmlimkmcofkfaa.E
open Go.RowKit Go.Proofs.YthmlimkmcofkfaaW.PrintWords Go.Proofs.YthmlimkmcofkfaaW.PrintLast Go.Proofs.YthmlimkmcofkfaaW.PrintMore Go.Proofs.Ythmlimkmcofkfaa.B
set_option linter.unusedVariables false
set_option linter.unusedSimpArgs false

/-- A byte. -/
def Byte (x : Int) : Prop := 0 ≤ x ∧ x < 256
def gmul (a b : Int) : Int := ((Gf.mul a.toNat b.toNat : Nat) : Int)
def ginv (a : Int) : Int := ((Gf.inv a.toNat : Nat) : Int)
def gadd (a b : Int) : Int := ((a.toNat ^^^ b.toNat : Nat) : Int)
theorem ret_u8 {a b : Int} (h : a = b) : Ending.returned (.int .u8 a) = .returned (.int .u8 b) := by rw [h]
theorem int_u8 {a b : Int} (h : a = b) : Value.int .u8 a = .int .u8 b := by rw [h]
theorem gmul_nat (a b : Nat) : gmul a b = (Gf.mul a b : Nat) := rfl

theorem twice_f (a : Nat) (ha : a < 256) : gf_twice.f a = some ((Gf.xt a : Nat) : Int) := by
  unfold gf_twice.f
  rw [show ((a : Int) * 2) % 256 = ((a * 2 % 256 : Nat) : Int) by omega, show (((a : Int) / 128) * 29) % 256 = ((a / 128 * 29 % 256 : Nat) : Int) by omega, u8_xor_nat _ _ (by omega) (by omega)]
  rfl
theorem mask_f (a b : Nat) (ha : a < 256) (hb : b < 256) : Go.bits .and .u8 (a : Int) ((-(Go.bits .and .u8 (b : Int) 1)) % 256) = ((if b % 2 = 1 then a else 0 : Nat) : Int) := by
  rw [show (1 : Int) = ((1 : Nat) : Int) from rfl, u8_and_nat b 1 hb (by omega), Nat.and_one_is_mod]
  rcases Nat.mod_two_eq_zero_or_one b with e | e <;> rw [e]
  · rw [show (-((0 : Nat) : Int)) % 256 = ((0 : Nat) : Int) by omega, u8_and_nat _ _ ha (by omega)]; simp
  · rw [show (-((1 : Nat) : Int)) % 256 = ((255 : Nat) : Int) by omega, u8_and_nat _ _ ha (by omega)]
    have h : a &&& 255 = a := by
      have := Nat.and_two_pow_sub_one_eq_mod a 8
      simp only [Nat.reducePow, Nat.reduceSub] at this
      rw [this]; exact Nat.mod_eq_of_lt ha
    rw [h]; simp
theorem mulL_zero : ∀ (j a p : Nat), Gf.mulL j a 0 p = p
  | 0, _, _ => rfl
  | j + 1, a, p => by simp only [Gf.mulL]; rw [show (0 : Nat) / 2 = 0 from rfl, mulL_zero j]; simp
theorem mul_l0 : ∀ (j m a b p : Nat), a < 256 → b < 256 → p < 256 → b < 2 ^ j → gf_Mul.l0 (j + 1 + m) a b p = some ((Gf.mulL j a b p : Nat) : Int)
  | 0, m, a, b, p, ha, hb, hp, h => by
    obtain rfl : b = 0 := by simp at h; exact h
    rw [show 0 + 1 + m = m + 1 by omega]
    simp only [gf_Mul.l0]
    rfl
  | j + 1, m, a, b, p, ha, hb, hp, h => by
    rw [show j + 1 + 1 + m = (j + 1 + m) + 1 by omega]
    simp only [gf_Mul.l0]
    by_cases h0 : b = 0
    · subst h0
      rw [if_pos (show ((0 : Nat) : Int) = 0 from rfl), mulL_zero]
    · rw [if_neg (by omega), twice_f a ha, mask_f a b ha hb, u8_xor_nat _ _ hp (by split <;> omega), show (b : Int) / 2 = ((b / 2 : Nat) : Int) by omega]
      simp only [Option.bind_some, Gf.mulL]
      exact mul_l0 j m _ _ _ (Gf.xt_lt a) (by omega) (Gf.xor_lt hp (by split <;> omega)) (by rw [Nat.pow_succ] at h; omega)
theorem mul_f (m a b : Nat) (ha : a < 256) (hb : b < 256) : gf_Mul.f (9 + m) a b = some ((Gf.mul a b : Nat) : Int) := by
  unfold gf_Mul.f
  have := mul_l0 8 m a b 0 ha hb (by decide) hb
  exact this

theorem power_odd (m x y p : Nat) (hx : x < 256) (hp : p < 256) (hy : y < 256) (h0 : y % 2 = 1) : gf_power.l0 (9 + m + 1) x y p = gf_power.l0 (9 + m) ((Gf.mul x x : Nat) : Int) ((y / 2 : Nat) : Int) ((Gf.mul p x : Nat) : Int) := by
  simp only [gf_power.l0]
  rw [if_neg (by omega), show (1 : Int) = ((1 : Nat) : Int) from rfl, u64_and_nat y 1 (by omega) (by omega), Nat.and_one_is_mod, h0, if_pos rfl, mul_f m p x hp hx, mul_f m x x hx hx, show (y : Int) / 2 = ((y / 2 : Nat) : Int) by omega]
  rfl
theorem power_even (m x y p : Nat) (hx : x < 256) (hp : p < 256) (hy : y < 256) (hn : y ≠ 0) (h0 : y % 2 = 0) : gf_power.l0 (9 + m + 1) x y p = gf_power.l0 (9 + m) ((Gf.mul x x : Nat) : Int) ((y / 2 : Nat) : Int) (p : Int) := by
  simp only [gf_power.l0]
  rw [if_neg (by omega), show (1 : Int) = ((1 : Nat) : Int) from rfl, u64_and_nat y 1 (by omega) (by omega), Nat.and_one_is_mod, h0, if_neg (by decide), mul_f m x x hx hx, show (y : Int) / 2 = ((y / 2 : Nat) : Int) by omega]
  rfl
theorem power_end (m : Nat) (x p : Int) : gf_power.l0 (m + 1) x ((1 / 2 : Nat) : Int) p = some p := by
  simp only [gf_power.l0]
  rw [if_pos (show ((1 / 2 : Nat) : Int) = 0 from rfl)]
theorem power_f (a : Nat) (ha : a < 256) : gf_power.f 18 a 254 = some ((Gf.inv a : Nat) : Int) := by
  unfold gf_power.f
  have l1 := Gf.mul_lt a ha
  have l2 := Gf.mul_lt (Gf.mul a a) l1
  have l3 := Gf.mul_lt (Gf.mul (Gf.mul a a) (Gf.mul a a)) l2
  have e0 := power_even 8 a 254 1 ha (by decide) (by decide) (by decide) (by decide)
  have e1 := power_odd 7 (Gf.sq a) 127 1 l1 (by decide) (by decide) (by decide)
  have q1 := Gf.mul_lt (Gf.sq a) (show 1 < 256 by decide)
  have s2 : Gf.sq (Gf.sq a) < 256 := Gf.mul_lt _ l1
  have e2 := power_odd 6 _ 63 _ s2 q1 (by decide) (by decide)
  have q2 := Gf.mul_lt (Gf.sq (Gf.sq a)) q1
  have s3 : Gf.sq (Gf.sq (Gf.sq a)) < 256 := Gf.mul_lt _ s2
  have e3 := power_odd 5 _ 31 _ s3 q2 (by decide) (by decide)
  have q3 := Gf.mul_lt (Gf.sq (Gf.sq (Gf.sq a))) q2
  have s4 : Gf.sq (Gf.sq (Gf.sq (Gf.sq a))) < 256 := Gf.mul_lt _ s3
  have e4 := power_odd 4 _ 15 _ s4 q3 (by decide) (by decide)
  have q4 := Gf.mul_lt (Gf.sq (Gf.sq (Gf.sq (Gf.sq a)))) q3
  have s5 : Gf.sq (Gf.sq (Gf.sq (Gf.sq (Gf.sq a)))) < 256 := Gf.mul_lt _ s4
  have e5 := power_odd 3 _ 7 _ s5 q4 (by decide) (by decide)
  have q5 := Gf.mul_lt (Gf.sq (Gf.sq (Gf.sq (Gf.sq (Gf.sq a))))) q4
  have s6 : Gf.sq (Gf.sq (Gf.sq (Gf.sq (Gf.sq (Gf.sq a))))) < 256 := Gf.mul_lt _ s5
  have e6 := power_odd 2 _ 3 _ s6 q5 (by decide) (by decide)
  have q6 := Gf.mul_lt (Gf.sq (Gf.sq (Gf.sq (Gf.sq (Gf.sq (Gf.sq a)))))) q5
  have s7 : Gf.sq (Gf.sq (Gf.sq (Gf.sq (Gf.sq (Gf.sq (Gf.sq a)))))) < 256 := Gf.mul_lt _ s6
  have e7 := power_odd 1 _ 1 _ s7 q6 (by decide) (by decide)
  refine e0.trans (e1.trans (e2.trans (e3.trans (e4.trans (e5.trans (e6.trans (e7.trans ?_)))))))
  exact power_end 9 _ _
theorem inv_f (a : Nat) (ha : a < 256) (h : a ≠ 0) : gf_Inv.f 18 a = some (((Gf.inv a : Nat) : Int), 0) := by
  unfold gf_Inv.f
  rw [if_neg (by omega), power_f a ha]
  rfl

theorem gmul_calls (a b : Int) (w : World) (ha : Byte a) (hb : Byte b) : Calls Try.prog 66 #[.int .u8 a, .int .u8 b] w fun e w' => e = .returned (.int .u8 (gmul a b)) ∧ Drawn0 w w' := by
  obtain ⟨x, rfl⟩ := Int.eq_ofNat_of_zero_le ha.1
  obtain ⟨y, rfl⟩ := Int.eq_ofNat_of_zero_le hb.1
  exact gf_Mul.calls 9 _ _ _ w (mul_f 0 x y (by have := ha.2; omega) (by have := hb.2; omega))
theorem ginv_calls (a : Int) (w : World) (ha : Byte a) (h : a ≠ 0) : Calls Try.prog 61 #[.int .u8 a] w fun e w' => e = .returned (.tuple #[.int .u8 (ginv a), .int .i64 0]) ∧ Drawn0 w w' := by
  obtain ⟨x, rfl⟩ := Int.eq_ofNat_of_zero_le ha.1
  exact gf_Inv.calls 18 _ _ _ w (inv_f x (by have := ha.2; omega) (by omega))
theorem gmul_byte {a b : Int} (ha : Byte a) : Byte (gmul a b) := by
  have := Gf.mul_lt b.toNat (a := a.toNat) (by have := ha; unfold Byte at this; omega)
  unfold gmul Byte; omega
theorem ginv_byte {a : Int} (ha : Byte a) : Byte (ginv a) := by
  have := Gf.inv_lt (a := a.toNat) (by have := ha; unfold Byte at this; omega)
  unfold ginv Byte; omega
theorem gadd_byte {a b : Int} (ha : Byte a) (hb : Byte b) : Byte (gadd a b) := by
  have := Gf.xor_lt (a := a.toNat) (b := b.toNat) (by have := ha; unfold Byte at this; omega) (by have := hb; unfold Byte at this; omega)
  unfold gadd Byte; omega
theorem bits_xor {a b : Int} (ha : Byte a) (hb : Byte b) : Go.bits .xor .u8 a b = gadd a b := u8_xor a b ha.1 ha.2 hb.1 hb.2

theorem twice_still (a : Nat) (ha : a < 256) (w : World) : Calls Try.prog 89 #[.int .u8 (a : Int)] w fun e w' => e = .returned (.int .u8 ((Gf.xt a : Nat) : Int)) ∧ w' = w := by
  have h := twice_f a ha
  unfold gf_twice.f at h
  have H := Lib.hid (Option.some.inj h)
  clear h
  have h1 : (0 : Int) ≤ a := by omega
  have h2 : (a : Int) ≤ 255 := by omega
  go_enter Try.func89, Try.ntmps89
  go_wp2
  go_ret
  exact ⟨ret_u8 (by rw [← H.out, show ((a : Int) / 128 * 29) % 256 = (a : Int) / 128 * 29 by omega]), rfl⟩
set_option maxHeartbeats 400000 in
theorem mul_still (a b : Int) (w : World) (ha : Byte a) (hb : Byte b) : Calls Try.prog 66 #[.int .u8 a, .int .u8 b] w fun e w' => e = .returned (.int .u8 (gmul a b)) ∧ w' = w := by
  obtain ⟨x0, rfl⟩ := Int.eq_ofNat_of_zero_le ha.1
  obtain ⟨y0, rfl⟩ := Int.eq_ofNat_of_zero_le hb.1
  have hx0 : x0 < 256 := by have := ha.2; omega
  have hy0 : y0 < 256 := by have := hb.2; omega
  clear ha hb
  rw [gmul_nat]
  generalize hR : Gf.mul x0 y0 = R
  have HR := Lib.hid (show Gf.mulL 8 x0 y0 0 = R from hR)
  clear hR
  go_enter Try.func66, Try.ntmps66
  go_wp2
  go_loop [0, 1, 5] (fun v0 v1 v5 => ∃ k x y p : Nat, v0 = .int .u8 x ∧ v1 = .int .u8 y ∧ v5 = .int .u8 p ∧ x < 256 ∧ y < 256 ∧ p < 256 ∧ Hid (y < 2 ^ k) ∧ Hid (Gf.mulL k x y p = R)) (fun _ v1 _ => (intOf v1).toNat)
  case atStart => exact ⟨8, x0, y0, 0, rfl, rfl, rfl, hx0, hy0, by decide, hy0, HR⟩
  case round =>
    obtain ⟨k, x, y, p, rfl, rfl, rfl, hx, hy, hp, hk, hr⟩ := hrel
    clear HR
    by_cases h0 : y = 0
    · subst h0
      have HP := Lib.hid ((mulL_zero k x p).symm.trans hr.out)
      clear hr hk
      have q : (((0 : Nat) : Int) != 0) = false := by decide
      have q2 : ((0 : Int) != 0) = false := by decide
      go_wp2
      go_ret
      exact ⟨ret_u8 (by rw [HP.out]), rfl⟩
    · have q : ((y : Int) != 0) = true := by simp; omega
      have hm := mask_f x y hx hy
      have hxx := u8_xor_nat p (if y % 2 = 1 then x else 0) hp (by split <;> omega)
      have HM := Lib.hid hm
      have HX := Lib.hid hxx
      clear hm hxx
      have l1 := Gf.xt_lt x
      have l2 : (p ^^^ (if y % 2 = 1 then x else 0)) < 256 := Gf.xor_lt hp (by split <;> omega)
      have HL2 := Aside0.mk l2
      have HL1 := Aside0.mk l1
      clear l1 l2
      have HK : Hid (∃ k', y / 2 < 2 ^ k' ∧ Gf.mulL k' (Gf.xt x) (y / 2) (p ^^^ (if y % 2 = 1 then x else 0)) = R) := by
        rcases k with _ | k
        · have := hk.out; simp at this; omega
        · exact ⟨k, by have := hk.out; rw [Nat.pow_succ] at this; omega, hr.out⟩
      clear hk hr
      obtain ⟨k', hk1, hk2⟩ := HK.out
      have HK1 := Lib.hid hk1
      have HK2 := Lib.hid hk2
      clear hk1 hk2 HK
      go_wp2_with (go_at_call 89; refine (twice_still x hx _).mono ?_; rintro e w' ⟨rfl, rfl⟩)
      go_round
      case rel => exact ⟨k', Gf.xt x, y / 2, p ^^^ (if y % 2 = 1 then x else 0), rfl, by go_num, int_u8 (by rw [HM.out, HX.out]), HL1.out, by omega, HL2.out, HK1, HK2⟩
      case measure => simp [intOf]; omega
end Go.Proofs.Ythmlimkmcofkfaa.E

/- Matrices in memory that the call made: rows that lie apart, all of one length. -/
namespace Go.Proofs.Ythmlimkmcofkfaa.E
open Go.RowKit Go.Proofs.YthmlimkmcofkfaaW.PrintWords Go.Proofs.YthmlimkmcofkfaaW.PrintLast Go.Proofs.YthmlimkmcofkfaaW.PrintMore Go.Proofs.Ythmlimkmcofkfaa.B
set_option linter.unusedVariables false
set_option linter.unusedSimpArgs false

structure Mat (w : World) (base G cap : Nat) (gs : Nat → Nat) (n m : Nat) (M : Nat → Nat → Int) : Prop where
  hG : base ≤ G
  outer : ∃ cs : Array Value, w.heap[G]? = some (.cells cs 41 (0, 0)) ∧ cs.size = cap ∧ ∀ i, i < n → ∃ c, cs[i]? = some (.slice (some ⟨gs i, 0, none⟩) m c) ∧ m ≤ c
  row : ∀ i, i < n → base ≤ gs i ∧ ∃ cs : Array Value, w.heap[gs i]? = some (.cells cs 5 (0, 0)) ∧ ∀ j, j < m → cs[j]? = some (.int .u8 (M i j))
  inj : ∀ i j, i < n → j < n → gs i = gs j → i = j

section
variable {w w' : World} {base G cap n m : Nat} {gs : Nat → Nat} {M : Nat → Nat → Int}
theorem cell_of_blk {w : World} {g : Nat} {cs : Array Value} {t : TypeId} (h : w.heap[g]? = some (.cells cs t (0, 0))) (i : Nat) : w.cell? ⟨g, i, none⟩ = cs[i]? := cell_of_row w g i cs t (0, 0) h
theorem free_of_blk {w : World} {g : Nat} {cs : Array Value} {t : TypeId} (h : w.heap[g]? = some (.cells cs t (0, 0))) (i : Nat) : w.frozen? ⟨g, i, none⟩ = false := by simp [World.frozen?, h]
theorem Mat.out (h : Mat w base G cap gs n m M) {i : Nat} (hi : i < n) : ∃ c, m ≤ c ∧ w.cell? ⟨G, i, none⟩ = some (.slice (some ⟨gs i, 0, none⟩) m c) := by
  obtain ⟨cs, hb, hsz0, hc⟩ := h.outer
  obtain ⟨c, h1, h2⟩ := hc i hi
  exact ⟨c, h2, (cell_of_blk hb i).trans h1⟩
theorem Mat.at_ (h : Mat w base G cap gs n m M) {i j : Nat} (hi : i < n) (hj : j < m) : w.cell? ⟨gs i, j, none⟩ = some (.int .u8 (M i j)) := by
  obtain ⟨_, cs, hb, hc⟩ := h.row i hi
  exact (cell_of_blk hb j).trans (hc j hj)
theorem Mat.freeG (h : Mat w base G cap gs n m M) (i : Nat) : w.frozen? ⟨G, i, none⟩ = false := by
  obtain ⟨cs, hb, hsz0, hc⟩ := h.outer
  exact free_of_blk hb i
theorem Mat.free (h : Mat w base G cap gs n m M) {i : Nat} (hi : i < n) (j : Nat) : w.frozen? ⟨gs i, j, none⟩ = false := by
  obtain ⟨_, cs, hb, hc⟩ := h.row i hi
  exact free_of_blk hb j
theorem Mat.neG (h : Mat w base G cap gs n m M) {i : Nat} (hi : i < n) : gs i ≠ G := by
  intro e
  obtain ⟨cs, hb, _, _⟩ := h.outer
  obtain ⟨_, ds, hd, _⟩ := h.row i hi
  rw [e, hb] at hd
  injection hd with hd
  injection hd with _ ht
  exact absurd ht (by decide)
theorem Mat.drewN (h : Mat w base G cap gs n m M) (k : Nat) : Mat (w.drewN k) base G cap gs n m M := ⟨h.hG, h.outer, h.row, h.inj⟩
theorem Mat.drew (h : Mat w base G cap gs n m M) : Mat w.drew base G cap gs n m M := ⟨h.hG, h.outer, h.row, h.inj⟩
theorem Mat.congr (h : Mat w base G cap gs n m M) {M' : Nat → Nat → Int} (e : ∀ i j, i < n → j < m → M i j = M' i j) : Mat w base G cap gs n m M' :=
  ⟨h.hG, h.outer, fun i hi => by
    obtain ⟨h1, cs, hb, hc⟩ := h.row i hi
    exact ⟨h1, cs, hb, fun j hj => by rw [hc j hj, e i j hi hj]⟩, h.inj⟩
theorem Mat.lt (h : Mat w base G cap gs n m M) {i : Nat} (hi : i < n) : gs i < w.heap.size := by
  obtain ⟨_, cs, hb, _⟩ := h.row i hi
  exact blk_lt hb
theorem Mat.ltG (h : Mat w base G cap gs n m M) : G < w.heap.size := by
  obtain ⟨cs, hb, _, _⟩ := h.outer
  exact blk_lt hb
theorem Mat.below (h : Mat w base G cap gs n m M) (hb : Below w.heap.size w w') : Mat w' base G cap gs n m M := by
  refine ⟨h.hG, ?_, fun i hi => ?_, h.inj⟩
  · obtain ⟨cs, h1, h2⟩ := h.outer
    exact ⟨cs, (hb.block _ h.ltG).trans h1, h2⟩
  · obtain ⟨h0, cs, h1, h2⟩ := h.row i hi
    exact ⟨h0, cs, (hb.block _ (h.lt hi)).trans h1, h2⟩
theorem blk_set {w : World} {g : Nat} {cs : Array Value} {t : TypeId} (h : w.heap[g]? = some (.cells cs t (0, 0))) (i : Nat) (u : Value) : (w.setCell ⟨g, i, none⟩ u).heap[g]? = some (.cells (cs.setIfInBounds i u) t (0, 0)) := by
  simp [World.setCell, Array.getElem?_modify, h]
theorem blk_other {w : World} {g : Nat} {o : Obj} (h : w.heap[g]? = some o) {p : Addr} (hp : g ≠ p.block) (u : Value) : (w.setCell p u).heap[g]? = some o := (Below.heap_setCell w p u g hp).trans h
/-- One number is written. -/
theorem Mat.put (h : Mat w base G cap gs n m M) {i j : Nat} (hi : i < n) (hj : j < m) (u : Int) :
    Mat (w.setCell ⟨gs i, j, none⟩ (.int .u8 u)) base G cap gs n m (fun a b => if a = i ∧ b = j then u else M a b) := by
  refine ⟨h.hG, ?_, fun a ha => ?_, h.inj⟩
  · obtain ⟨cs, h1, h2⟩ := h.outer
    exact ⟨cs, blk_other h1 (h.neG hi).symm _, h2⟩
  · obtain ⟨h0, cs, h1, h2⟩ := h.row a ha
    refine ⟨h0, ?_⟩
    by_cases e : a = i
    · subst e
      refine ⟨_, blk_set h1 _ _, fun b hb => ?_⟩
      rw [Array.getElem?_setIfInBounds]
      have hlt : j < cs.size := by
        have := h2 j hj
        exact (Array.getElem?_eq_some_iff.1 this).1
      by_cases e2 : j = b
      · subst e2; simp [hlt]
      · have e3 : ¬ b = j := fun h => e2 h.symm
        rw [if_neg e2, h2 b hb]; simp [e3]
    · refine ⟨cs, blk_other h1 (fun e2 => e (h.inj _ _ ha hi e2)) _, fun b hb => ?_⟩
      rw [h2 b hb]; simp [e]
/-- Two rows are exchanged. -/
theorem Mat.swap (h : Mat w base G cap gs n m M) {r p : Nat} (hr : r < n) (hp : p < n) {cr cp : Nat} (h1 : m ≤ cr) (h2 : m ≤ cp) :
    Mat ((w.setCell ⟨G, r, none⟩ (.slice (some ⟨gs p, 0, none⟩) m cp)).setCell ⟨G, p, none⟩ (.slice (some ⟨gs r, 0, none⟩) m cr)) base G cap (fun i => if i = p then gs r else if i = r then gs p else gs i) n m
      (fun i j => if i = p then M r j else if i = r then M p j else M i j) := by
  refine ⟨h.hG, ?_, fun a ha => ?_, fun i j hi hj e => ?_⟩
  · obtain ⟨cs, hb, hsz0, hc⟩ := h.outer
    refine ⟨_, blk_set (blk_set hb _ _) _ _, by simpa using hsz0, fun i hi => ?_⟩
    have hsz : ∀ i, i < n → i < cs.size := fun i hi => by
      obtain ⟨c, hc1, _⟩ := hc i hi
      exact (Array.getElem?_eq_some_iff.1 hc1).1
    rw [Array.getElem?_setIfInBounds]
    by_cases e : p = i
    · subst e
      exact ⟨cr, by simp [hsz _ hp], h1⟩
    · rw [if_neg e, Array.getElem?_setIfInBounds]
      by_cases e2 : r = i
      · subst e2
        have e3 : ¬ r = p := fun h => e h.symm
        exact ⟨cp, by simp [hsz _ hr, e3], h2⟩
      · rw [if_neg e2]
        obtain ⟨c, hc1, hc2⟩ := hc i hi
        have e3 : ¬ i = p := fun h => e h.symm
        have e4 : ¬ i = r := fun h => e2 h.symm
        exact ⟨c, by simp [hc1, e3, e4], hc2⟩
  · have key : ∀ q, q < n → base ≤ gs q ∧ ∃ cs : Array Value, ((w.setCell ⟨G, r, none⟩ (.slice (some ⟨gs p, 0, none⟩) m cp)).setCell ⟨G, p, none⟩ (.slice (some ⟨gs r, 0, none⟩) m cr)).heap[gs q]? = some (.cells cs 5 (0, 0)) ∧ ∀ j, j < m → cs[j]? = some (.int .u8 (M q j)) := by
      intro q hq
      obtain ⟨h0, cs, hb, hc⟩ := h.row q hq
      exact ⟨h0, cs, blk_other (blk_other hb (h.neG hq) _) (h.neG hq) _, hc⟩
    by_cases e : a = p
    · simpa [e] using key r hr
    · by_cases e2 : a = r
      · have hne : ¬ r = p := fun h => e (e2.trans h)
        simpa [e2, hne] using key p hp
      · simpa [e, e2] using key a ha
  · have hh := h.inj
    by_cases e1 : i = p <;> by_cases e2 : j = p
    · omega
    · by_cases e3 : j = r
      · subst e1 e3
        by_cases e4 : j = i
        · omega
        · simp [e4] at e
          exact (hh _ _ hj hi e)|>.symm
      · simp [e1, e2, e3] at e
        have := hh _ _ hr hj e
        omega
    · by_cases e3 : i = r
      · subst e2 e3
        by_cases e4 : i = j
        · omega
        · simp [e4] at e
          exact (hh _ _ hj hi e).symm
      · simp [e1, e2, e3] at e
        have := hh _ _ hi hr e
        omega
    · by_cases e3 : i = r <;> by_cases e4 : j = r
      · omega
      · simp [e1, e2, e3, e4] at e
        have hrp : ¬ r = p := by omega
        simp [hrp] at e
        have := hh _ _ hp hj e
        omega
      · have hrp : ¬ r = p := by omega
        simp [e1, e2, e3, e4, hrp] at e
        have := hh _ _ hi hp e
        omega
      · simp [e1, e2, e3, e4] at e
        exact hh _ _ hi hj e
end
end Go.Proofs.Ythmlimkmcofkfaa.E

/- The contract of matrix.sweep. -/
namespace Go.Proofs.Ythmlimkmcofkfaa.E
open Go.RowKit Go.Proofs.YthmlimkmcofkfaaW.PrintWords Go.Proofs.YthmlimkmcofkfaaW.PrintLast Go.Proofs.YthmlimkmcofkfaaW.PrintMore Go.Proofs.Ythmlimkmcofkfaa.B
set_option linter.unusedVariables false
set_option linter.unusedSimpArgs false

/-- The first row from r on whose number in column c isn't 0 (n: none). -/
def piv (M : Nat → Nat → Int) (c n : Nat) : Nat → Nat → Nat
  | 0, a => a
  | k + 1, a => if a < n ∧ M a c = 0 then piv M c n k (a + 1) else a
def swapM (M : Nat → Nat → Int) (r p : Nat) : Nat → Nat → Int := fun i j => if i = p then M r j else if i = r then M p j else M i j
def normM (M : Nat → Nat → Int) (r : Nat) (f : Int) : Nat → Nat → Int := fun i j => if i = r then gmul (M i j) f else M i j
def elimM (M : Nat → Nat → Int) (r c : Nat) : Nat → Nat → Int := fun i j => if i ≠ r ∧ M i c ≠ 0 then gadd (M i j) (gmul (M i c) (M r j)) else M i j
def stepM (n c : Nat) (s : Nat × (Nat → Nat → Int)) : Nat × (Nat → Nat → Int) :=
  let p := piv s.2 c n (n - s.1) s.1
  if p = n then s else (s.1 + 1, elimM (normM (swapM s.2 s.1 p) s.1 (ginv (swapM s.2 s.1 p s.1 c))) s.1 c)
def sweepM (n : Nat) : Nat → Nat × (Nat → Nat → Int) → Nat × (Nat → Nat → Int)
  | 0, s => s
  | k + 1, s => stepM n k (sweepM n k s)


theorem piv_ge (M : Nat → Nat → Int) (c n : Nat) : ∀ k a, a ≤ piv M c n k a
  | 0, a => Nat.le_refl _
  | k + 1, a => by
    simp only [piv]
    split
    · exact Nat.le_trans (Nat.le_succ a) (piv_ge M c n k (a + 1))
    · exact Nat.le_refl _
theorem piv_le (M : Nat → Nat → Int) (c n : Nat) : ∀ k a, a ≤ n → piv M c n k a ≤ n
  | 0, a, h => h
  | k + 1, a, h => by
    simp only [piv]
    split
    · rename_i h1; exact piv_le M c n k (a + 1) (by omega)
    · exact h
theorem piv_ne (M : Nat → Nat → Int) (c n : Nat) : ∀ k a, n ≤ a + k → piv M c n k a < n → M (piv M c n k a) c ≠ 0
  | 0, a, h, h2 => by simp only [piv] at h2; omega
  | k + 1, a, h, h2 => by
    simp only [piv] at h2 ⊢
    split
    · rename_i h1; rw [if_pos h1] at h2; exact piv_ne M c n k (a + 1) (by omega) h2
    · rename_i h1; rw [if_neg h1] at h2; exact fun e => h1 ⟨h2, e⟩
theorem piv_step (M : Nat → Nat → Int) (c n a : Nat) (h1 : a < n) (h2 : M a c = 0) : piv M c n (n - a) a = piv M c n (n - (a + 1)) (a + 1) := by
  rw [show n - a = (n - (a + 1)) + 1 by omega]
  simp only [piv]
  rw [if_pos ⟨h1, h2⟩]
theorem piv_here (M : Nat → Nat → Int) (c n a : Nat) (h : ¬ (a < n ∧ M a c = 0)) : piv M c n (n - a) a = a := by
  rcases hk : n - a with _ | k
  · rfl
  · simp only [piv]; rw [if_neg h]

def Bytes (n m : Nat) (M : Nat → Nat → Int) : Prop := ∀ i j, i < n → j < m → Byte (M i j)
theorem swap_bytes {n m : Nat} {M : Nat → Nat → Int} (h : Bytes n m M) {r p : Nat} (hr : r < n) (hp : p < n) : Bytes n m (swapM M r p) := by
  intro i j hi hj
  unfold swapM
  split
  · exact h _ _ hr hj
  · split
    · exact h _ _ hp hj
    · exact h _ _ hi hj
theorem norm_bytes {n m : Nat} {M : Nat → Nat → Int} (h : Bytes n m M) (r : Nat) (f : Int) : Bytes n m (normM M r f) := by
  intro i j hi hj
  unfold normM
  split
  · exact gmul_byte (h _ _ hi hj)
  · exact h _ _ hi hj
theorem elim_bytes {n m : Nat} {M : Nat → Nat → Int} (h : Bytes n m M) {r c : Nat} (hc : c < m) : Bytes n m (elimM M r c) := by
  intro i j hi hj
  unfold elimM
  split
  · exact gadd_byte (h _ _ hi hj) (gmul_byte (h _ _ hi hc))
  · exact h _ _ hi hj
theorem step_facts {n m c : Nat} {s : Nat × (Nat → Nat → Int)} (h : Bytes n m s.2) (hs : s.1 ≤ n) (hc : c < m) : Bytes n m (stepM n c s).2 ∧ (stepM n c s).1 ≤ n := by
  have h1 := piv_le s.2 c n (n - s.1) s.1 hs
  have h2 := piv_ge s.2 c n (n - s.1) s.1
  simp only [stepM]
  split
  · exact ⟨h, hs⟩
  · exact ⟨elim_bytes (norm_bytes (swap_bytes h (by omega) (by omega)) _ _) hc, by show s.1 + 1 ≤ n; omega⟩
theorem sweep_facts {n m : Nat} {M : Nat → Nat → Int} (h : Bytes n m M) : ∀ c, c ≤ m → Bytes n m (sweepM n c (0, M)).2 ∧ (sweepM n c (0, M)).1 ≤ n
  | 0, _ => ⟨h, Nat.zero_le _⟩
  | c + 1, hc => by
    obtain ⟨h1, h2⟩ := sweep_facts h c (by omega)
    exact step_facts h1 h2 (by omega)

set_option maxHeartbeats 1000000 in
set_option maxRecDepth 100000 in
theorem sweep_calls (w : World) (base G n m q cap : Nat) (gs : Nat → Nat) (M : Nat → Nat → Int) (hb : base ≤ w.heap.size) (hn : n ≤ 1000) (hm : m ≤ 1000) (hq : q ≤ m) (hM : Mat w base G cap gs n m M)
    (hby : Bytes n m M) :
    Calls Try.prog 69 #[.slice (some ⟨G, 0, none⟩) n cap, .int .i64 q] w fun e w' => e = .returned (.int .i64 (sweepM n q (0, M)).1) ∧ (∃ gs', Mat w' base G cap gs' n m (sweepM n q (0, M)).2) ∧ Below base w w' := by
  have HM := Aside0.mk hM
  have HBY := Aside0.mk hby
  have HBW := Aside0.mk (Below.refl base w)
  clear hM hby
  go_enter Try.func69, Try.ntmps69
  go_wp2
  go_step3
  go_wp2
  go_step3
  go_wp2
  go_loopg [16, 5] q (fun k i r wr => ∃ c : Nat, c + k = q ∧ i = .int .i64 c ∧ r = .int .i64 ((sweepM n c (0, M)).1 : Int) ∧ Aside0 (∃ gs', Mat wr base G cap gs' n m (sweepM n c (0, M)).2) ∧ Aside0 (Below base w wr))
  case atStart => exact ⟨0, by omega, rfl, rfl, ⟨⟨gs, HM.out⟩⟩, HBW⟩
  case round =>
    obtain ⟨c, hc, rfl, rfl, HM1, HB1⟩ := hrel
    clear HM HBW
    by_cases hlt : c < q
    · obtain ⟨hb1, hr1⟩ := sweep_facts HBY.out c (by omega)
      have HS := Lib.hid (show sweepM n (c + 1) (0, M) = stepM n c (sweepM n c (0, M)) from rfl)
      generalize hs : sweepM n c (0, M) = s at *
      clear hs
      obtain ⟨r, M1⟩ := s
      simp only at *
      have HB2 := Aside0.mk hb1
      clear hb1
      have hpge := piv_ge M1 c n (n - r) r
      have hple := piv_le M1 c n (n - r) r hr1
      obtain ⟨gs1, hM1⟩ := HM1.out
      have HMM := Aside0.mk hM1
      clear hM1 HM1
      go_wp2
      go_loop [7] (fun i => ∃ a : Nat, r ≤ a ∧ a ≤ n ∧ i = .int .i64 a ∧ Hid (piv M1 c n (n - a) a = piv M1 c n (n - r) r)) (fun i => n - (intOf i).toNat)
      case atStart => exact ⟨r, Nat.le_refl _, hr1, rfl, rfl⟩
      case round =>
        obtain ⟨a, ha1, ha2, rfl, ha3⟩ := hrel
        by_cases han : a < n
        · obtain ⟨co, hco, hout⟩ := HMM.out.out han
          have hin := HMM.out.at_ han (show c < m by omega)
          have hcm : c < m := by omega
          by_cases hz : M1 a c = 0
          · have hz1 : (M1 a c == 0) = true := by simp [hz]
            have HST := Lib.hid (piv_step M1 c n a han hz)
            clear hz
            go_wp2
            go_round
            case rel => exact ⟨a + 1, by omega, by omega, by go_num, HST.out.symm.trans ha3.out⟩
            case measure => simp [intOf]; omega
          · have hz1 : (M1 a c == 0) = false := by simp [hz]
            have hz0 := Aside0.mk hz
            have HST := Lib.hid ((piv_here M1 c n a (fun h => hz h.2)).symm.trans ha3.out)
            clear hz
            have hrn : r < n := by omega
            obtain ⟨cr, hcr, houtr⟩ := HMM.out.out hrn
            have hfa := HMM.out.freeG a
            have hfr := HMM.out.freeG r
            go_wp2
            obtain ⟨v', hy'⟩ := cell?_setCell_some (w := wr) (p := ⟨G, r, none⟩) (x := .slice (some ⟨gs1 a, 0, none⟩) m co) (q := ⟨G, a, none⟩) (v := .slice (some ⟨gs1 a, 0, none⟩) m co) hout
            go_region
            have HM2 : Aside0 (Mat (((wr.setCell ⟨G, r, none⟩ (.slice (some ⟨gs1 a, 0, none⟩) m co)).setCell ⟨G, a, none⟩ (.slice (some ⟨gs1 r, 0, none⟩) m cr)).drew) base G cap (fun i => if i = a then gs1 r else if i = r then gs1 a else gs1 i) n m (swapM M1 r a)) := ⟨(HMM.out.swap hrn han hcr hco).drew⟩
            have HB3 : Aside0 (Below base w (((wr.setCell ⟨G, r, none⟩ (.slice (some ⟨gs1 a, 0, none⟩) m co)).setCell ⟨G, a, none⟩ (.slice (some ⟨gs1 r, 0, none⟩) m cr)).drew)) := ⟨((HB1.out.setCell HMM.out.hG _).setCell HMM.out.hG _).drew⟩
            clear hy' houtr hout hin hfa hfr
            revert HM2 HB3
            generalize ((wr.setCell ⟨G, r, none⟩ (.slice (some ⟨gs1 a, 0, none⟩) m co)).setCell ⟨G, a, none⟩ (.slice (some ⟨gs1 r, 0, none⟩) m cr)).drew = w2
            intro HM2 HB3
            generalize (fun i => if i = a then gs1 r else if i = r then gs1 a else gs1 i) = gs2 at HM2
            have HB2s := Aside0.mk (swap_bytes HB2.out hrn han)
            have hne : swapM M1 r a r c ≠ 0 := by
              have h := hz0.out
              unfold swapM
              split
              · rename_i h1; subst h1; exact h
              · simpa using h
            have HNE := Aside0.mk hne
            clear hne hz0
            generalize hM2 : swapM M1 r a = M2 at HM2 HB2s HNE
            have HM2e := Lib.hid hM2
            clear hM2
            obtain ⟨cr2, hcr2, hout2⟩ := HM2.out.out hrn
            have hin2 := HM2.out.at_ hrn hcm
            go_wp2_with fail
            refine (ginv_calls _ _ (HB2s.out _ _ hrn hcm) HNE.out).mono ?_
            rintro e w' ⟨rfl, ⟨nd, rfl⟩⟩
            have HM3 := Aside0.mk (HM2.out.drewN nd)
            have HB4 := Aside0.mk (pw_below_drewN HB3.out nd)
            clear hin2
            generalize hw3 : w2.drewN nd = w3 at *
            have hout3 : w3.cell? ⟨G, r, none⟩ = some (.slice (some ⟨gs2 r, 0, none⟩) m cr2) := by rw [← hw3]; exact hout2
            clear hw3 hout2 HM2 HB3
            generalize hf : ginv (M2 r c) = f
            have HF := Lib.hid hf
            clear hf
            go_wp2
            go_loopw [70] (fun i wr => ∃ j : Nat, j ≤ m ∧ i = .int .i64 j ∧ Aside0 (Mat wr base G cap gs2 n m (fun x y => if x = r ∧ y < j then gmul (M2 x y) f else M2 x y)) ∧ Aside0 (Below base w wr)) (fun i _ => m - (intOf i).toNat)
            case atStart => exact ⟨0, Nat.zero_le _, rfl, ⟨HM3.out.congr (fun x y _ _ => by simp)⟩, HB4⟩
            case round =>
              obtain ⟨j, hj, rfl, HMj, HBj⟩ := hrel
              by_cases hjm : j < m
              · obtain ⟨crj, hcrj, houtj⟩ := HMj.out.out hrn
                have hinj := HMj.out.at_ hrn hjm
                have hinj2 : wr.cell? ⟨gs2 r, j, none⟩ = some (.int .u8 (M2 r j)) := by rw [hinj]; simp
                clear hinj
                have hfree := HMj.out.free hrn j
                go_wp2
                have hb1 : Byte (M2 r j) := HB2s.out r j hrn hjm
                have hb2 : Byte f := by rw [← HF.out]; exact ginv_byte (HB2s.out _ _ hrn hcm)
                have HBb := Aside0.mk hb1
                have HBf := Aside0.mk hb2
                clear hb1 hb2
                go_still_tail 15, (by kernel_rfl)
                still_call (mul_still _ _ _ HBb.out HBf.out)
                repeat still_step
                refine wpStill_nil ?_
                change wpList _ _ _ _ _ wr.drew
                have HMd := Aside0.mk HMj.out.drew
                have HBd := Aside0.mk (below_drew HBj.out)
                have hcd : wr.drew.cell? ⟨gs2 r, j, none⟩ = some (.int .u8 (M2 r j)) := hinj2
                have hfd : wr.drew.frozen? ⟨gs2 r, j, none⟩ = false := hfree
                clear hinj2 hfree houtj HMj HBj
                generalize wr.drew = w5 at *
                go_wp2
                go_roundw
                case rel => exact ⟨j + 1, by omega, by go_num, ⟨(HMd.out.put hrn hjm (gmul (M2 r j) f)).congr (fun x y hx hy => by
                  by_cases e1 : x = r <;> by_cases e2 : y = j
                  · subst e1 e2; simp
                  · subst e1; simp [e2, show (y < j + 1) = (y < j) from propext ⟨fun h => by omega, fun h => by omega⟩]
                  · simp [e1]
                  · simp [e1])⟩, ⟨HBd.out.setCell (HMd.out.row r hrn).1 _⟩⟩
                case measure => simp [intOf]; omega
              · have HMN : Aside0 (Mat wr base G cap gs2 n m (normM M2 r f)) := ⟨HMj.out.congr (fun x y hx hy => by
                  unfold normM
                  simp [show y < j by omega])⟩
                clear HMj HM3 hout3 HB4
                have HBy3 := Aside0.mk (norm_bytes HB2s.out r f)
                have HE : Hid (sweepM n (c + 1) (0, M) = (r + 1, elimM (normM M2 r f) r c)) := by
                  show _ = _
                  rw [HS.out]
                  simp only [stepM]
                  rw [← HST.out, if_neg (by omega), HM2e.out, HF.out]
                generalize normM M2 r f = M3 at *
                clear HS HST HM2e HF HNE HB2s
                go_wp2
                go_loopw [91] (fun v wr => ∃ i : Nat, i ≤ n ∧ v = .int .i64 i ∧ Aside0 (Mat wr base G cap gs2 n m (fun x y => if x < i then elimM M3 r c x y else M3 x y)) ∧ Aside0 (Below base w wr)) (fun v _ => n - (intOf v).toNat)
                case atStart => exact ⟨0, Nat.zero_le _, rfl, ⟨HMN.out.congr (fun x y _ _ => by simp)⟩, HBj⟩
                case round =>
                  clear HMN HBj
                  obtain ⟨i, hi, rfl, HMi, HBi⟩ := hrel
                  by_cases hin' : i < n
                  · obtain ⟨ci, hci, houti⟩ := HMi.out.out hin'
                    have hii : wr.cell? ⟨gs2 i, c, none⟩ = some (.int .u8 (M3 i c)) := by
                      have h := HMi.out.at_ hin' hcm
                      rw [h]; simp
                    by_cases hir : i = r
                    · have q1 : ((i : Int) != (r : Int)) = false := by simp; omega
                      have HNX : Aside0 (Mat wr base G cap gs2 n m (fun x y => if x < i + 1 then elimM M3 r c x y else M3 x y)) := ⟨HMi.out.congr (fun x y hx hy => by
                        by_cases e : x = i
                        · subst e; simp [elimM, hir]
                        · simp [show (x < i + 1) = (x < i) from propext ⟨fun h => by omega, fun h => by omega⟩])⟩
                      clear hir HMi
                      go_wp2
                      go_roundw
                      case rel => exact ⟨i + 1, by omega, by go_num, HNX, HBi⟩
                      case measure => simp [intOf]; omega
                    · have q1 : ((i : Int) != (r : Int)) = true := by simp; omega
                      by_cases hz : M3 i c = 0
                      · have q2 : (M3 i c != 0) = false := by simp [hz]
                        have HNX : Aside0 (Mat wr base G cap gs2 n m (fun x y => if x < i + 1 then elimM M3 r c x y else M3 x y)) := ⟨HMi.out.congr (fun x y hx hy => by
                          by_cases e : x = i
                          · subst e; simp [elimM, hz]
                          · simp [show (x < i + 1) = (x < i) from propext ⟨fun h => by omega, fun h => by omega⟩])⟩
                        clear hir HMi hz
                        go_wp2
                        go_roundw
                        case rel => exact ⟨i + 1, by omega, by go_num, HNX, HBi⟩
                        case measure => simp [intOf]; omega
                      · have q2 : (M3 i c != 0) = true := by simp [hz]
                        have HIR := Aside0.mk hir
                        have HZ := Aside0.mk hz
                        clear hir hz
                        go_wp2
                        obtain ⟨wo, hwo⟩ : ∃ wo : World, wo = wr := ⟨_, rfl⟩
                        subst hwo
                        go_loopw [109] (fun v wr => ∃ j : Nat, j ≤ m ∧ v = .int .i64 j ∧ Aside0 (Mat wr base G cap gs2 n m (fun x y => if x = i ∧ y < j then gadd (M3 x y) (gmul (M3 x c) (M3 r y)) else if x < i then elimM M3 r c x y else M3 x y)) ∧ Aside0 (Below base w wr)) (fun v _ => m - (intOf v).toNat)
                        case atStart => exact ⟨0, Nat.zero_le _, rfl, ⟨HMi.out.congr (fun x y _ _ => by simp)⟩, HBi⟩
                        case round =>
                          clear HMi HBi
                          obtain ⟨k, hk, rfl, HMk, HBk⟩ := hrel
                          by_cases hkm : k < m
                          · obtain ⟨ck, hck, houtk⟩ := HMk.out.out hrn
                            have hk1 : wr.cell? ⟨gs2 i, k, none⟩ = some (.int .u8 (M3 i k)) := by
                              rw [HMk.out.at_ hin' hkm]; simp
                            have hk2 : wr.cell? ⟨gs2 r, k, none⟩ = some (.int .u8 (M3 r k)) := by
                              rw [HMk.out.at_ hrn hkm]
                              have hir : ¬ r = i := fun h => HIR.out h.symm
                              simp [hir, elimM]
                            have hkf := HMk.out.free hin' k
                            have HBa := Aside0.mk (HBy3.out i c hin' hcm)
                            have HBb := Aside0.mk (HBy3.out r k hrn hkm)
                            have HXX := Lib.hid (bits_xor (HBy3.out i k hin' hkm) (gmul_byte (b := M3 r k) (HBy3.out i c hin' hcm)))
                            clear houti hii
                            go_wp2
                            go_still_tail 15, (by kernel_rfl)
                            still_call (mul_still _ _ _ HBa.out HBb.out)
                            repeat still_step
                            refine wpStill_nil ?_
                            change wpList _ _ _ _ _ wr.drew
                            have HMd := Aside0.mk HMk.out.drew
                            have HBd := Aside0.mk (below_drew HBk.out)
                            have hcd : wr.drew.cell? ⟨gs2 i, k, none⟩ = some (.int .u8 (M3 i k)) := hk1
                            have hfd : wr.drew.frozen? ⟨gs2 i, k, none⟩ = false := hkf
                            clear hk1 hk2 hkf houtk HMk HBk
                            generalize wr.drew = w5 at *
                            go_wp2
                            go_roundw
                            case rel => exact ⟨k + 1, by omega, by go_num, ⟨by rw [HXX.out]; exact (HMd.out.put hin' hkm (gadd (M3 i k) (gmul (M3 i c) (M3 r k)))).congr (fun x y hx hy => by
                              by_cases e1 : x = i <;> by_cases e2 : y = k
                              · subst e1 e2; simp
                              · subst e1; simp [e2, show (y < k + 1) = (y < k) from propext ⟨fun h => by omega, fun h => by omega⟩]
                              · simp [e1]
                              · simp [e1])⟩, ⟨HBd.out.setCell (HMd.out.row i hin').1 _⟩⟩
                            case measure => simp [intOf]; omega
                          · have HNX : Aside0 (Mat wr base G cap gs2 n m (fun x y => if x < i + 1 then elimM M3 r c x y else M3 x y)) := ⟨HMk.out.congr (fun x y hx hy => by
                              have hy' : y < k := by omega
                              by_cases e : x = i
                              · subst e; simp [elimM, HIR.out, HZ.out, hy']
                              · simp [e, show (x < i + 1) = (x < i) from propext ⟨fun h => by omega, fun h => by omega⟩])⟩
                            clear HMk houti hii
                            go_wp2
                            go_roundw
                            case rel => exact ⟨i + 1, by omega, by go_num, HNX, HBk⟩
                            case measure => simp [intOf]; omega
                  · have HNX : Aside0 (Mat wr base G cap gs2 n m (elimM M3 r c)) := ⟨HMi.out.congr (fun x y hx hy => by simp [show x < i by omega])⟩
                    clear HMi
                    go_wp2
                    go_roundg (gk - 1)
                    case measure => omega
                    case rel => exact ⟨c + 1, by omega, by go_num, by rw [HE.out]; go_num, by rw [HE.out]; exact ⟨⟨gs2, HNX.out⟩⟩, HBi⟩
        · have HEN : Hid (sweepM n (c + 1) (0, M) = (r, M1)) := by
            show _ = _
            rw [HS.out]
            simp only [stepM]
            have h1 : piv M1 c n (n - r) r = n := by
              have h2 := ha3.out
              rw [piv_here M1 c n a (fun h => han h.1)] at h2
              omega
            rw [h1, if_pos rfl]
          have qa : ((a : Int) == (n : Int)) = true := by simp; omega
          go_wp2
          go_roundg (gk - 1)
          case measure => omega
          case rel => exact ⟨c + 1, by omega, by go_num, by rw [HEN.out], by rw [HEN.out]; exact ⟨⟨gs1, HMM.out⟩⟩, HB1⟩
    · have HC := Lib.hid (show sweepM n q (0, M) = sweepM n c (0, M) by rw [show q = c by omega])
      go_wp2
      rw [Exit.noGoto_ret]
      go_ret
      exact ⟨ret_i64 (by rw [HC.out]), by rw [HC.out]; exact HM1.out, HB1.out⟩
end Go.Proofs.Ythmlimkmcofkfaa.E
