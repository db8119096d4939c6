/- StripeAny: any k shards tell the bytes and all other shards, of any bytes of at most 1,000, any k and m that may be, any choice of k, or of more, shards. (Part 2 of 8.) -/
import Derived.WalkSpells
import Derived.Lib.SliceRun
import Derived.Lib.Hide
import Derived.Deep.RegionWith
import Derived.Deep.RegionHeld3
import Derived.Test.YthmlimkmcofkfaaMAny3x0
/- Contracts, by hand: slices.Clone of bytes. -/
namespace Go.Proofs.Ythmlimkmcofkfaa.E
open Go.RowKit Go.Proofs.YthmlimkmcofkfaaW.PrintWords Go.Proofs.YthmlimkmcofkfaaW.PrintLast Go.Proofs.YthmlimkmcofkfaaW.PrintMore Go.Proofs.Ythmlimkmcofkfaa.B
set_option linter.unusedVariables false
set_option linter.unusedSimpArgs false

def slices_Clone_byte_byte.f (l0 : List Int) : Option (List Int) := if l0.length < 140737488355328 then some l0 else none

theorem eqnil41 (w : World) (a : Option Addr) (n c : Nat) : (binOp .eql 41 (.slice a n c) (.slice none 0 0)).run Try.prog w = .ok (.bool a.isNone) w :=
  Lib.run_eql_slice_nil w 41 5 a n c 0 0 Try.underlying41

set_option maxHeartbeats 800000 in
set_option maxRecDepth 100000 in
theorem slices_Clone_byte_byte.calls (A0 : Option Addr) (c0 : Nat) (l0 : List Int) (r : List Int) (w : World) (hr0 : Kd.C (Kd.int .u8) w A0 l0.length l0) (hc0 : l0.length ≤ c0) (h : slices_Clone_byte_byte.f l0 = some r) :
    Calls Try.prog 58 #[.slice A0 l0.length c0] w fun e w' => ∃ v0_ : Value, e = .returned (v0_) ∧ Kd.R (Kd.int .u8) 5 w' w.heap.size (fun _ => True) v0_ r ∧ Below w.heap.size w w' := by
  have HR0 := Aside0.mk hr0
  have HC0 := Aside0.mk hc0
  clear hc0
  have HB := Aside0.mk (Below.refl w.heap.size w)
  unfold slices_Clone_byte_byte.f at h
  have q41 := eqnil41
  by_cases c2 : l0.length < 140737488355328
  · rw [if_pos c2] at h
    obtain rfl := Option.some.inj h
    have LMc2 := Aside0.mk c2
    clear c2 h
    cases A0 with
    | none =>
      have hl : l0.length = 0 := by
        rcases Nat.eq_zero_or_pos l0.length with h0 | h0
        · exact h0
        · obtain ⟨ad, h1, _⟩ := hr0.2.2 h0
          cases h1
      obtain rfl := List.eq_nil_of_length_eq_zero hl
      clear hr0 HR0 hl
      go_enter Try.func58, Try.ntmps58
      go_wp2
      go_ret
      exact ⟨_, rfl, Kd.R_nil _ _ _ _ _, HB.out⟩
    | some ad =>
      clear hr0
      obtain ⟨y184, hy184⟩ : ∃ y_ : List Int, y_ = ([] : List Int) := ⟨_, rfl⟩
      have Ny184 := Aside0.mk hy184
      clear hy184
      go_enter Try.func58, Try.ntmps58
      go_wp2_with (first | ((with_reducible refine gate_dst (N := 5) rfl ?_); refine Kd.R_lit (Kd.int .u8) _ 5 ?hg (N := 5) ?hd (xs := ([] : List Int)) (inner := []) (ok := fun _ => True) (okp := fun _ => True) ?hr ?hp (fun _ hk => hk) trivial (Below.refl _ _) (Nat.le_refl _) (by simp) ?_; (case hd => rfl); (case hg => rfl); (case hr => first | (go_simp; done) | (go_simp; rfl)); (case hp => exact (Reps.none _ _)); intro v185 w3 ho4 hb hg_ hnew_; clear hg_ hnew_; rw [← Ny184.out] at ho4; have n0_ := Aside0.mk (Kd.R_lower ho4 (below_size (by repeat (first | (with_reducible first | exact HB.out | apply below_alloc | apply pw_below_drewN | apply below_drew1) | exact HB.out)))); have n1_ := Aside0.mk (below_step (by repeat (first | (with_reducible first | exact HB.out | apply below_alloc | apply pw_below_drewN | apply below_drew1) | exact HB.out)) hb); clear HB; have HO186 := n0_; have HB := n1_; clear n0_ n1_; clear hb ho4) | ((with_reducible refine gate_builtin (b := .append) (xs := #[.tmp 5, .tmp 6]) rfl ?_); at_builtin; (refine Kd.R_append_rows (Kd.int .u8) (w0 := w) w.heap.size rfl (.tmp 5) (.tmp 6) 41 5 (.int .u8 0) 1 rfl Try.underlying41 info5 rfl (by decide) (by omega) v185 y184 l0 _ _ _ (fun _ => True) (fun _ => False) rfl rfl ?aO ?aR (fun _ _ h => h) (fun _ h => h.elim) ?aF ?aB ?aS ?aL ?_); (case aR => repeat (first | exact (Kd.C_below HR0.out HB.out) | (with_reducible refine Kd.C_alloc ?_ _) | (with_reducible refine Kd.C_drewN ?_ _) | (with_reducible refine Kd.C_drew ?_))); (case aB => exact (by repeat (first | (with_reducible first | exact HB.out | apply below_alloc | apply pw_below_drewN | apply below_drew1) | exact HB.out))); (case aF => exact (fun _ _ => trivial)); (case aO => exact (by (with_reducible repeat (first | apply Kd.R_alloc | apply Kd.R_drewN | apply Kd.R_drew)); exact HO186.out)); (case aS => exact (below_size (by repeat (first | (with_reducible first | exact HB.out | apply below_alloc | apply pw_below_drewN | apply below_drew1) | exact HB.out)))); (case aL => have h1_ := LMc2.out; have h2_ : y184.length = 0 := (congrArg List.length Ny184.out); omega); intro v188 w5 ho hb hg hat; have n0_ := Aside0.mk (hb); have n1_ := Aside0.mk (ho); clear HB; clear HO186; have HB := n0_; have HO189 := n1_; clear n0_ n1_; clear ho hb hg hat))
      go_ret
      exact ⟨_, rfl, by have h := HO189.out; rw [Ny184.out, List.nil_append] at h; exact h, HB.out⟩
  · rw [if_neg c2] at h
    exact absurd h (by simp)
end Go.Proofs.Ythmlimkmcofkfaa.E

/- Contracts of matrix.copied: with another matrix beside it, and with none. (Written by a program of this session, and turned by hand.) -/
namespace Go.Proofs.Ythmlimkmcofkfaa.E
open Go.RowKit Go.Proofs.YthmlimkmcofkfaaW.PrintWords Go.Proofs.YthmlimkmcofkfaaW.PrintLast Go.Proofs.YthmlimkmcofkfaaW.PrintMore Go.Proofs.Ythmlimkmcofkfaa.B
attribute [local go_sem] max2_int min2_int max_two min_two max_three min_three max_four min_four
set_option linter.unusedVariables false
set_option linter.unusedSimpArgs false

theorem neqnil22 (w : World) (a : Option Addr) (n c : Nat) : (binOp .neq 22 (.slice a n c) (.slice none 0 0)).run Try.prog w = .ok (.bool (!a.isNone)) w :=
  run_neq_slice_nil_any w 22 41 a n c 0 0 Try.underlying22
/-! ### matrix_copiedB: function 68 -/
def matrix_copiedB.l0 : Nat → List (List Int) → List (List Int) → List (List Int) → Int → Int → Option ((List (List Int)))
  | 0, _, _, _, _, _ => none
  | k + 1, x1, x5, x9, x10, x11 => if x11 < x10 then (if 0 ≤ x11 then (if x11 < (x9.length : Int) then ((slices_Clone_byte_byte.f (rd_L1 x9 x11)).bind fun t102 => (if x11 < (x1.length : Int) then (if t102.length + (rd_L1 x1 x11).length < 140737488355328 then (if x5.length < 5864062014805 then (matrix_copiedB.l0 k x1 (x5 ++ [(t102 ++ (rd_L1 x1 x11))]) x9 x10 (wrap64 (x11 + 1))) else (none)) else (none)) else (none))) else (none)) else (none)) else (some x5)
def matrix_copiedB.f (k : Nat) (l0 : List (List Int)) (l1 : List (List Int)) : Option ((List (List Int))) := matrix_copiedB.l0 k l1 ([] : List (List Int)) l0 (l0.length : Int) 0
theorem matrix_copiedB.mono_l : ∀ k, (∀ y0 y1 y2 y3 y4, LeO (matrix_copiedB.l0 k y0 y1 y2 y3 y4) (matrix_copiedB.l0 (k + 1) y0 y1 y2 y3 y4))
  | 0 => fun _ _ _ _ _ r h => by simp [matrix_copiedB.l0] at h
  | k + 1 => by
    have ih0 := matrix_copiedB.mono_l k
    · intro y0 y1 y2 y3 y4
      unfold matrix_copiedB.l0
      repeat' first
      | (with_reducible exact ih0 _ _ _ _ _)
      | (with_reducible exact LeO.refl _)
      | (with_reducible exact LeO.none _)
      | (with_reducible refine LeO.ite ?_ ?_)
      | (with_reducible refine LeO.bind ?_ (fun _ => ?_))
      | exact ih0 _ _ _ _ _
      | exact LeO.none _
      | refine LeO.ite ?_ ?_
      | refine LeO.bind ?_ (fun _ => ?_)
theorem matrix_copiedB.mono : ∀ a0 a1 k, LeO (matrix_copiedB.f k a0 a1) (matrix_copiedB.f (k + 1) a0 a1) := by
  intro a0 a1 k
  have ih0 := matrix_copiedB.mono_l k
  unfold matrix_copiedB.f
  repeat' first
      | (with_reducible exact ih0 _ _ _ _ _)
      | (with_reducible exact LeO.refl _)
      | (with_reducible exact LeO.none _)
      | (with_reducible refine LeO.ite ?_ ?_)
      | (with_reducible refine LeO.bind ?_ (fun _ => ?_))
      | exact ih0 _ _ _ _ _
      | exact LeO.none _
      | refine LeO.ite ?_ ?_
      | refine LeO.bind ?_ (fun _ => ?_)
set_option maxHeartbeats 8000000 in
set_option maxRecDepth 100000 in
theorem matrix_copiedB.calls (k : Nat) (A0 : Option Addr) (c0 : Nat) (l0 : List (List Int)) (ad1 : Addr) (c1 : Nat) (l1 : List (List Int)) (r : List (List Int)) (w : World) (hr0 : Kd.C (Kd.slice 5 (Kd.int .u8)) w A0 l0.length l0) (hc0 : l0.length ≤ c0) (hr1 : Kd.C (Kd.slice 5 (Kd.int .u8)) w (some ad1) l1.length l1) (hc1 : l1.length ≤ c1) (h : matrix_copiedB.f k l0 l1 = some r) :
    Calls Try.prog 68 #[.slice A0 l0.length c0, .slice (some ad1) l1.length c1] w fun e w' => ∃ v0_ : Value, e = .returned (v0_) ∧ Kd.S (Kd.slice 5 (Kd.int .u8)) 41 w' w.heap.size (fun _ => True) v0_ r ∧ Below w.heap.size w w' := by
  have HR0 := Aside0.mk hr0
  have HC0 := Aside0.mk hc0
  clear hr0 hc0
  have HR1 := Aside0.mk hr1
  have HC1 := Aside0.mk hc1
  clear hr1 hc1
  have HB := Aside0.mk (Below.refl w.heap.size w)
  have H : (matrix_copiedB.l0 k l1 ([] : List (List Int)) l0 (l0.length : Int) 0) = some r := h
  clear h
  have H' := Aside0.mk H
  clear H
  have q22 := neqnil22
  go_enter Try.func68, Try.ntmps68
  go_wp2
  go_loopg [5, 11] k (fun kq v5 v11 w' => ∃ (x5_1 : List (List Int)) (x11_1 : Int), v11 = .int .i64 x11_1 ∧ Aside0 (matrix_copiedB.l0 kq l1 x5_1 l0 (l0.length : Int) x11_1 = some r) ∧ Aside0 (kq ≤ k) ∧ Aside0 (Kd.S (Kd.slice 5 (Kd.int .u8)) 41 w' w.heap.size (fun _ => True) v5 x5_1) ∧ Aside0 (Below w.heap.size w w'))
  case atStart => exact ⟨(([] : List (List Int))), (0), (by first | rfl | (simp; done) | (simp [*]; done)), H', ⟨Nat.le_refl _⟩, ⟨by first | exact Kd.S_nil _ _ _ _ _ | exact Kd.N_nil _ _ _ _ _ | exact Kd.V_nil _ _ _ _ _ | exact Kd.Q_nil _ _ _ _ _ | exact Kd.R_nil _ _ _ _ _⟩, ⟨by repeat (first | (with_reducible first | exact HB.out | apply below_alloc | apply pw_below_drewN | apply below_drew1) | exact HB.out)⟩⟩
  case round =>
    clear H'
    try clear c1
    try clear p2
    obtain ⟨x5_1, x11_1, rfl, HA, HK1, HO_5, HB⟩ := hrel
    cases gk with
    | zero => exact absurd HA.out (by simp [matrix_copiedB.l0])
    | succ k1 =>
      have H := HA.out
      clear HA
      simp only [matrix_copiedB.l0] at H
      by_cases c3 : x11_1 < (l0.length : Int)
      · rw [if_pos c3] at H
        have c3b0 : decide (x11_1 < (l0.length : Int)) = true := decide_eq_true c3
        clear c3
        by_cases c4 : 0 ≤ x11_1
        · rw [if_pos c4] at H
          have c4b0 : decide (0 ≤ x11_1) = true := decide_eq_true c4
          clear c4
          by_cases c5 : x11_1 < (l0.length : Int)
          · rw [if_pos c5] at H
            have c5b0 : decide (x11_1 < (l0.length : Int)) = true := decide_eq_true c5
            clear c5
            replace H := Option.bind_eq_some_iff.mp H
            obtain ⟨t102, A60, H⟩ := H
            replace H : (if x11_1 < (l1.length : Int) then (if t102.length + (rd_L1 l1 x11_1).length < 140737488355328 then (if x5_1.length < 5864062014805 then (matrix_copiedB.l0 k1 l1 (x5_1 ++ [(t102 ++ (rd_L1 l1 x11_1))]) l0 (l0.length : Int) (wrap64 (x11_1 + 1))) else (none)) else (none)) else (none)) = some r := H
            have A6 := Aside0.mk A60
            clear A60
            by_cases c7 : x11_1 < (l1.length : Int)
            · rw [if_pos c7] at H
              have c7b0 : decide (x11_1 < (l1.length : Int)) = true := decide_eq_true c7
              clear c7
              by_cases c8 : t102.length + (rd_L1 l1 x11_1).length < 140737488355328
              · rw [if_pos c8] at H
                have LMc8 := Aside0.mk c8
                clear c8
                obtain ⟨y106, hy106⟩ : ∃ y_ : List Int, y_ = (t102 ++ (rd_L1 l1 x11_1)) := ⟨_, rfl⟩
                replace H : (if x5_1.length < 5864062014805 then (matrix_copiedB.l0 k1 l1 (x5_1 ++ [y106]) l0 (l0.length : Int) (wrap64 (x11_1 + 1))) else (none)) = some r := by first | (rw [hy106]; with_reducible exact H) | (have H2_ := (Option.bind_some _ _).symm.trans H; rw [hy106]; with_reducible exact H2_) | (have H2_ := (Option.bind_some _ _).symm.trans H; with_reducible exact H2_) | with_reducible exact H | (rw [hy106]; exact H) | exact H
                have Ny106 := Aside0.mk hy106
                clear hy106
                by_cases c9 : x5_1.length < 5864062014805
                · rw [if_pos c9] at H
                  have LMc9 := Aside0.mk c9
                  clear c9
                  obtain ⟨y109, hy109⟩ : ∃ y_ : List (List Int), y_ = (x5_1 ++ [y106]) := ⟨_, rfl⟩
                  replace H : (matrix_copiedB.l0 k1 l1 y109 l0 (l0.length : Int) (wrap64 (x11_1 + 1))) = some r := by first | (rw [hy109]; with_reducible exact H) | (have H2_ := (Option.bind_some _ _).symm.trans H; rw [hy109]; with_reducible exact H2_) | (have H2_ := (Option.bind_some _ _).symm.trans H; with_reducible exact H2_) | with_reducible exact H | (rw [hy109]; exact H) | exact H
                  have Ny109 := Aside0.mk hy109
                  clear hy109
                  have H' := Aside0.mk H
                  clear H
                  have p101 : 0 ≤ (x11_1 : Int) := of_decide_eq_true (by first | (with_reducible assumption) | assumption)
                  have q101 : x11_1 < (l0.length : Int) := of_decide_eq_true (by first | (with_reducible assumption) | assumption)
                  obtain ⟨ad101, A101_0, c101_0, e101, hx101_0, hl101_0, hi101_0⟩ := at_L1 HR0.out x11_1 p101 q101
                  cases e101
                  replace hx101_0 := (HB.out.cell (World.block_lt_of_cell? w _ hx101_0)).trans hx101_0
                  have HR101_0 := Aside0.mk hi101_0
                  have HC101_0 := Aside0.mk hl101_0
                  clear hi101_0 hl101_0
                  replace p101 := eq_true p101
                  replace q101 := eq_true q101
                  go_wp2_with (first | ((with_reducible refine gate_callee (f := 58) rfl ?_); refine goesL_ (some 17) rfl rfl Try.func58 (by kernel_rfl) rfl #[.slice A101_0 (rd_L1 l0 x11_1).length c101_0] rfl (by (try simp only [List.map_toArray, List.map_cons, List.map_nil]); first | done | rfl | (simp only [List.length_drop, List.length_take]; rfl)) ?_; (with_reducible refine (slices_Clone_byte_byte.calls _ _ (rd_L1 l0 x11_1) t102 _ ?side1 ?side2 A6.out).mono ?_); (case side1 => repeat (first | exact (Kd.C_below HR101_0.out HB.out) | (with_reducible refine Kd.C_alloc ?_ _) | (with_reducible refine Kd.C_drewN ?_ _) | (with_reducible refine Kd.C_drew ?_))); (case side2 => exact HC101_0.out); rintro e w10 ⟨v103, rfl, ho0, hb⟩; refine ⟨_, rfl, ?_⟩; have n0_ := Aside0.mk (Kd.S_elder' (by (with_reducible repeat (first | apply Kd.S_alloc | apply Kd.S_drewN | apply Kd.S_drew)); exact HO_5.out) (Kd.R_base ho0) hb); have n1_ := Aside0.mk (Kd.R_lower ho0 (below_size (by repeat (first | (with_reducible first | exact HB.out | apply below_alloc | apply pw_below_drewN | apply below_drew1) | exact HB.out)))); have n2_ := Aside0.mk (below_step (by repeat (first | (with_reducible first | exact HB.out | apply below_alloc | apply pw_below_drewN | apply below_drew1) | exact HB.out)) hb); clear HO_5; clear HB; have HO_5 := n0_; have HO104 := n1_; have HB := n2_; clear n0_ n1_ n2_; (try clear hb); (try clear hb2); (try clear hk); (try clear hi); (try clear ho0); have p105 : 0 ≤ (x11_1 : Int) := of_decide_eq_true (by first | (with_reducible assumption) | assumption); have q105 : x11_1 < (l1.length : Int) := of_decide_eq_true (by first | (with_reducible assumption) | assumption); obtain ⟨ad105, A105_0, c105_0, e105, hx105_0, hl105_0, hi105_0⟩ := at_L1 HR1.out x11_1 p105 q105; cases e105; replace hx105_0 := (HB.out.cell (World.block_lt_of_cell? w _ hx105_0)).trans hx105_0; have HR105_0 := Aside0.mk hi105_0; have HC105_0 := Aside0.mk hl105_0; clear hi105_0 hl105_0; replace p105 := eq_true p105; replace q105 := eq_true q105) | ((with_reducible refine gate_builtin (b := .append) (xs := #[.tmp 20, .tmp 24]) rfl ?_); at_builtin; refine Kd.R_append_rows (Kd.int .u8) (w0 := w) w.heap.size rfl (.tmp 20) (.tmp 24) 41 5 (.int .u8 0) 1 rfl Try.underlying41 info5 rfl (by decide) (by omega) v103 t102 (rd_L1 l1 x11_1) _ _ _ (fun _ => True) (fun _ => False) rfl rfl ?aO ?aR (fun _ _ h => h) (fun _ h => h.elim) ?aF ?aB ?aS ?aL ?_; (case aR => repeat (first | exact (Kd.C_below HR105_0.out HB.out) | (with_reducible refine Kd.C_alloc ?_ _) | (with_reducible refine Kd.C_drewN ?_ _) | (with_reducible refine Kd.C_drew ?_))); (case aB => exact (by repeat (first | (with_reducible first | exact HB.out | apply below_alloc | apply pw_below_drewN | apply below_drew1) | exact HB.out))); (case aF => exact (fun _ _ => trivial)); (case aO => exact (by (with_reducible repeat (first | apply Kd.R_alloc | apply Kd.R_drewN | apply Kd.R_drew)); exact HO104.out)); (case aS => exact (below_size (by repeat (first | (with_reducible first | exact HB.out | apply below_alloc | apply pw_below_drewN | apply below_drew1) | exact HB.out)))); (case aL => have := LMc8.out; omega); intro v107 w11 ho hb hg hat; rw [← Ny106.out] at ho; have n0_ := Aside0.mk (Kd.S_after (ok := (fun _ => True)) (by (with_reducible repeat (first | apply Kd.S_alloc | apply Kd.S_drewN | apply Kd.S_drew)); exact HO_5.out) hg hat); have n1_ := Aside0.mk (hb); have n2_ := Aside0.mk (ho); clear HO_5; clear HB; clear HO104; have HO_5 := n0_; have HB := n1_; have HO108 := n2_; clear n0_ n1_ n2_; clear ho hb hg hat; obtain ⟨Ao13, co13, eo13⟩ := Kd.R_slice HO108.out; subst eo13) | ((with_reducible refine gate_builtin (b := .append) (xs := #[.tmp 26, .tmp 28]) rfl ?_); at_builtin; refine Kd.S_append (Kd.slice 5 (Kd.int .u8)) (w0 := w) w.heap.size rfl (.tmp 26) (.tmp 28) 22 41 (.slice none 0 0) 24 rfl Try.underlying22 info41 rfl (by decide) (by omega) u5 x5_1 y106 [.slice Ao13 y106.length co13] (fun _ => True) (fun k_ => some k_ = (.slice Ao13 y106.length co13 : Value).ownBlock) rfl rfl ?aP (fun k_ hk_ => ((Kd.R_mono (ok' := fun k_ => ((fun _ => True)) k_ ∧ some k_ ≠ (u5 : Value).ownBlock) (Kd.R_apart' (HO108.out) (Kd.S_typed HO_5.out) (by decide)) (fun k_ hk => ⟨trivial, hk.2⟩))).1 k_ hk_.symm) ?aF ?aO ?aB ?aS ?aL ?_; (case aP => exact Kd.M_row (Kd.R_mono (Kd.R_tight rfl (Kd.R_mono (ok' := fun k_ => ((fun _ => True)) k_ ∧ some k_ ≠ (u5 : Value).ownBlock) (Kd.R_apart' (HO108.out) (Kd.S_typed HO_5.out) (by decide)) (fun k_ hk => ⟨trivial, hk.2⟩))) (fun _ h_ => h_))); (case aB => exact (by repeat (first | (with_reducible first | exact HB.out | apply below_alloc | apply pw_below_drewN | apply below_drew1) | exact HB.out))); (case aF => exact (fun _ _ => trivial)); (case aO => exact (by (with_reducible repeat (first | apply Kd.S_alloc | apply Kd.S_drewN | apply Kd.S_drew)); exact Kd.S_mono HO_5.out (fun k_ hk => ⟨trivial, fun e_ => hk.2 e_⟩))); (case aS => exact (below_size (by repeat (first | (with_reducible first | exact HB.out | apply below_alloc | apply pw_below_drewN | apply below_drew1) | exact HB.out)))); (case aL => have := LMc9.out; omega); intro v110 w12 ho hb hg hat; rw [← Ny109.out] at ho; have n0_ := Aside0.mk (hb); have n1_ := Aside0.mk (ho); clear HB; clear HO_5; clear HO108; have HB := n0_; have HO111 := n1_; clear n0_ n1_; clear ho hb hg hat))
                  go_roundg k1
                  case measure => have := HK1.out; omega
                  case rel => exact ⟨(y109), (wrap64 (x11_1 + 1)), (by first | rfl | (simp; done) | (simp [*]; done)), H', ⟨by have := HK1.out; omega⟩, ⟨by (with_reducible repeat (first | apply Kd.S_alloc | apply Kd.S_drewN | apply Kd.S_drew)); exact HO111.out⟩, ⟨by repeat (first | (with_reducible first | exact HB.out | apply below_alloc | apply pw_below_drewN | apply below_drew1) | exact HB.out)⟩⟩
                · rw [if_neg c9] at H
                  exact absurd H (by simp)
              · rw [if_neg c8] at H
                exact absurd H (by simp)
            · rw [if_neg c7] at H
              exact absurd H (by simp)
          · rw [if_neg c5] at H
            exact absurd H (by simp)
        · rw [if_neg c4] at H
          exact absurd H (by simp)
      · rw [if_neg c3] at H
        have c3b0 : decide (x11_1 < (l0.length : Int)) = false := decide_eq_false c3
        clear c3
        obtain rfl := Option.some.inj H
        go_wp2
        go_ret
        exact ⟨_, by first | rfl | (simp [errW_none, errW_some] <;> rfl) | (simp [*, errW_none, errW_some] <;> rfl), by (with_reducible repeat (first | apply Kd.S_alloc | apply Kd.S_drewN | apply Kd.S_drew)); exact HO_5.out, by repeat (first | (with_reducible first | exact HB.out | apply below_alloc | apply pw_below_drewN | apply below_drew1) | exact HB.out)⟩


/-! ### matrix_copiedN: function 68 -/
def matrix_copiedN.l0 : Nat → List (List Int) → List (List Int) → Int → Int → Option ((List (List Int)))
  | 0, _, _, _, _ => none
  | k + 1, x5, x9, x10, x11 => if x11 < x10 then (if 0 ≤ x11 then (if x11 < (x9.length : Int) then ((slices_Clone_byte_byte.f (rd_L1 x9 x11)).bind fun t102 => (if x5.length < 5864062014805 then (matrix_copiedN.l0 k (x5 ++ [t102]) x9 x10 (wrap64 (x11 + 1))) else (none))) else (none)) else (none)) else (some x5)
def matrix_copiedN.f (k : Nat) (l0 : List (List Int)) (l1 : List (List Int)) : Option ((List (List Int))) := matrix_copiedN.l0 k ([] : List (List Int)) l0 (l0.length : Int) 0
theorem matrix_copiedN.mono_l : ∀ k, (∀ y0 y1 y2 y3, LeO (matrix_copiedN.l0 k y0 y1 y2 y3) (matrix_copiedN.l0 (k + 1) y0 y1 y2 y3))
  | 0 => fun _ _ _ _ r h => by simp [matrix_copiedN.l0] at h
  | k + 1 => by
    have ih0 := matrix_copiedN.mono_l k
    · intro y0 y1 y2 y3
      unfold matrix_copiedN.l0
      repeat' first
      | (with_reducible exact ih0 _ _ _ _)
      | (with_reducible exact LeO.refl _)
      | (with_reducible exact LeO.none _)
      | (with_reducible refine LeO.ite ?_ ?_)
      | (with_reducible refine LeO.bind ?_ (fun _ => ?_))
      | exact ih0 _ _ _ _
      | exact LeO.none _
      | refine LeO.ite ?_ ?_
      | refine LeO.bind ?_ (fun _ => ?_)
theorem matrix_copiedN.mono : ∀ a0 a1 k, LeO (matrix_copiedN.f k a0 a1) (matrix_copiedN.f (k + 1) a0 a1) := by
  intro a0 a1 k
  have ih0 := matrix_copiedN.mono_l k
  unfold matrix_copiedN.f
  repeat' first
      | (with_reducible exact ih0 _ _ _ _)
      | (with_reducible exact LeO.refl _)
      | (with_reducible exact LeO.none _)
      | (with_reducible refine LeO.ite ?_ ?_)
      | (with_reducible refine LeO.bind ?_ (fun _ => ?_))
      | exact ih0 _ _ _ _
      | exact LeO.none _
      | refine LeO.ite ?_ ?_
      | refine LeO.bind ?_ (fun _ => ?_)
set_option maxHeartbeats 8000000 in
set_option maxRecDepth 100000 in
theorem matrix_copiedN.calls (k : Nat) (A0 : Option Addr) (c0 : Nat) (l0 : List (List Int)) (r : List (List Int)) (w : World) (hr0 : Kd.C (Kd.slice 5 (Kd.int .u8)) w A0 l0.length l0) (hc0 : l0.length ≤ c0) (h : matrix_copiedN.f k l0 [] = some r) :
    Calls Try.prog 68 #[.slice A0 l0.length c0, .slice none 0 0] w fun e w' => ∃ v0_ : Value, e = .returned (v0_) ∧ Kd.S (Kd.slice 5 (Kd.int .u8)) 41 w' w.heap.size (fun _ => True) v0_ r ∧ Below w.heap.size w w' := by
  have HR0 := Aside0.mk hr0
  have HC0 := Aside0.mk hc0
  clear hr0 hc0
  have HB := Aside0.mk (Below.refl w.heap.size w)
  have H : (matrix_copiedN.l0 k ([] : List (List Int)) l0 (l0.length : Int) 0) = some r := h
  clear h
  have H' := Aside0.mk H
  clear H
  have q22 := neqnil22
  go_enter Try.func68, Try.ntmps68
  go_wp2
  go_loopg [5, 11] k (fun kq v5 v11 w' => ∃ (x5_1 : List (List Int)) (x11_1 : Int), v11 = .int .i64 x11_1 ∧ Aside0 (matrix_copiedN.l0 kq x5_1 l0 (l0.length : Int) x11_1 = some r) ∧ Aside0 (kq ≤ k) ∧ Aside0 (Kd.S (Kd.slice 5 (Kd.int .u8)) 41 w' w.heap.size (fun _ => True) v5 x5_1) ∧ Aside0 (Below w.heap.size w w'))
  case atStart => exact ⟨(([] : List (List Int))), (0), (by first | rfl | (simp; done) | (simp [*]; done)), H', ⟨Nat.le_refl _⟩, ⟨by first | exact Kd.S_nil _ _ _ _ _ | exact Kd.N_nil _ _ _ _ _ | exact Kd.V_nil _ _ _ _ _ | exact Kd.Q_nil _ _ _ _ _ | exact Kd.R_nil _ _ _ _ _⟩, ⟨by repeat (first | (with_reducible first | exact HB.out | apply below_alloc | apply pw_below_drewN | apply below_drew1) | exact HB.out)⟩⟩
  case round =>
    clear H'
    try clear c1
    try clear p2
    obtain ⟨x5_1, x11_1, rfl, HA, HK1, HO_5, HB⟩ := hrel
    cases gk with
    | zero => exact absurd HA.out (by simp [matrix_copiedN.l0])
    | succ k1 =>
      have H := HA.out
      clear HA
      simp only [matrix_copiedN.l0] at H
      by_cases c3 : x11_1 < (l0.length : Int)
      · rw [if_pos c3] at H
        have c3b0 : decide (x11_1 < (l0.length : Int)) = true := decide_eq_true c3
        clear c3
        by_cases c4 : 0 ≤ x11_1
        · rw [if_pos c4] at H
          have c4b0 : decide (0 ≤ x11_1) = true := decide_eq_true c4
          clear c4
          by_cases c5 : x11_1 < (l0.length : Int)
          · rw [if_pos c5] at H
            have c5b0 : decide (x11_1 < (l0.length : Int)) = true := decide_eq_true c5
            clear c5
            replace H := Option.bind_eq_some_iff.mp H
            obtain ⟨t102, A60, H⟩ := H
            replace H : (if x5_1.length < 5864062014805 then (matrix_copiedN.l0 k1 (x5_1 ++ [t102]) l0 (l0.length : Int) (wrap64 (x11_1 + 1))) else (none)) = some r := H
            have A6 := Aside0.mk A60
            clear A60
            by_cases c7 : x5_1.length < 5864062014805
            · rw [if_pos c7] at H
              have LMc7 := Aside0.mk c7
              clear c7
              obtain ⟨y105, hy105⟩ : ∃ y_ : List (List Int), y_ = (x5_1 ++ [t102]) := ⟨_, rfl⟩
              replace H : (matrix_copiedN.l0 k1 y105 l0 (l0.length : Int) (wrap64 (x11_1 + 1))) = some r := by first | (rw [hy105]; with_reducible exact H) | (have H2_ := (Option.bind_some _ _).symm.trans H; rw [hy105]; with_reducible exact H2_) | (have H2_ := (Option.bind_some _ _).symm.trans H; with_reducible exact H2_) | with_reducible exact H | (rw [hy105]; exact H) | exact H
              have Ny105 := Aside0.mk hy105
              clear hy105
              have H' := Aside0.mk H
              clear H
              have p101 : 0 ≤ (x11_1 : Int) := of_decide_eq_true (by first | (with_reducible assumption) | assumption)
              have q101 : x11_1 < (l0.length : Int) := of_decide_eq_true (by first | (with_reducible assumption) | assumption)
              obtain ⟨ad101, A101_0, c101_0, e101, hx101_0, hl101_0, hi101_0⟩ := at_L1 HR0.out x11_1 p101 q101
              cases e101
              replace hx101_0 := (HB.out.cell (World.block_lt_of_cell? w _ hx101_0)).trans hx101_0
              have HR101_0 := Aside0.mk hi101_0
              have HC101_0 := Aside0.mk hl101_0
              clear hi101_0 hl101_0
              replace p101 := eq_true p101
              replace q101 := eq_true q101
              go_wp2_with (first | ((with_reducible refine gate_callee (f := 58) rfl ?_); refine goesL_ (some 17) rfl rfl Try.func58 (by kernel_rfl) rfl #[.slice A101_0 (rd_L1 l0 x11_1).length c101_0] rfl (by (try simp only [List.map_toArray, List.map_cons, List.map_nil]); first | done | rfl | (simp only [List.length_drop, List.length_take]; rfl)) ?_; (with_reducible refine (slices_Clone_byte_byte.calls _ _ (rd_L1 l0 x11_1) t102 _ ?side1 ?side2 A6.out).mono ?_); (case side1 => repeat (first | exact (Kd.C_below HR101_0.out HB.out) | (with_reducible refine Kd.C_alloc ?_ _) | (with_reducible refine Kd.C_drewN ?_ _) | (with_reducible refine Kd.C_drew ?_))); (case side2 => exact HC101_0.out); rintro e w8 ⟨v103, rfl, ho0, hb⟩; refine ⟨_, rfl, ?_⟩; have n0_ := Aside0.mk (Kd.S_elder' (by (with_reducible repeat (first | apply Kd.S_alloc | apply Kd.S_drewN | apply Kd.S_drew)); exact HO_5.out) (Kd.R_base ho0) hb); have n1_ := Aside0.mk (Kd.R_lower ho0 (below_size (by repeat (first | (with_reducible first | exact HB.out | apply below_alloc | apply pw_below_drewN | apply below_drew1) | exact HB.out)))); have n2_ := Aside0.mk (below_step (by repeat (first | (with_reducible first | exact HB.out | apply below_alloc | apply pw_below_drewN | apply below_drew1) | exact HB.out)) hb); clear HO_5; clear HB; have HO_5 := n0_; have HO104 := n1_; have HB := n2_; clear n0_ n1_ n2_; (try clear hb); (try clear hb2); (try clear hk); (try clear hi); (try clear ho0); obtain ⟨Ao10, co10, eo10⟩ := Kd.R_slice HO104.out; subst eo10) | ((with_reducible refine gate_builtin (b := .append) (xs := #[.tmp 26, .tmp 28]) rfl ?_); at_builtin; refine Kd.S_append (Kd.slice 5 (Kd.int .u8)) (w0 := w) w.heap.size rfl (.tmp 26) (.tmp 28) 22 41 (.slice none 0 0) 24 rfl Try.underlying22 info41 rfl (by decide) (by omega) u5 x5_1 t102 [.slice Ao10 t102.length co10] (fun _ => True) (fun k_ => some k_ = (.slice Ao10 t102.length co10 : Value).ownBlock) rfl rfl ?aP (fun k_ hk_ => ((Kd.R_mono (ok' := fun k_ => ((fun _ => True)) k_ ∧ some k_ ≠ (u5 : Value).ownBlock) (Kd.R_apart' (HO104.out) (Kd.S_typed HO_5.out) (by decide)) (fun k_ hk => ⟨trivial, hk.2⟩))).1 k_ hk_.symm) ?aF ?aO ?aB ?aS ?aL ?_; (case aP => exact Kd.M_row (Kd.R_mono (Kd.R_tight rfl (Kd.R_mono (ok' := fun k_ => ((fun _ => True)) k_ ∧ some k_ ≠ (u5 : Value).ownBlock) (Kd.R_apart' (HO104.out) (Kd.S_typed HO_5.out) (by decide)) (fun k_ hk => ⟨trivial, hk.2⟩))) (fun _ h_ => h_))); (case aB => exact (by repeat (first | (with_reducible first | exact HB.out | apply below_alloc | apply pw_below_drewN | apply below_drew1) | exact HB.out))); (case aF => exact (fun _ _ => trivial)); (case aO => exact (by (with_reducible repeat (first | apply Kd.S_alloc | apply Kd.S_drewN | apply Kd.S_drew)); exact Kd.S_mono HO_5.out (fun k_ hk => ⟨trivial, fun e_ => hk.2 e_⟩))); (case aS => exact (below_size (by repeat (first | (with_reducible first | exact HB.out | apply below_alloc | apply pw_below_drewN | apply below_drew1) | exact HB.out)))); (case aL => have := LMc7.out; omega); intro v106 w9 ho hb hg hat; rw [← Ny105.out] at ho; have n0_ := Aside0.mk (hb); have n1_ := Aside0.mk (ho); clear HB; clear HO_5; clear HO104; have HB := n0_; have HO107 := n1_; clear n0_ n1_; clear ho hb hg hat))
              go_roundg k1
              case measure => have := HK1.out; omega
              case rel => exact ⟨(y105), (wrap64 (x11_1 + 1)), (by first | rfl | (simp; done) | (simp [*]; done)), H', ⟨by have := HK1.out; omega⟩, ⟨by (with_reducible repeat (first | apply Kd.S_alloc | apply Kd.S_drewN | apply Kd.S_drew)); exact HO107.out⟩, ⟨by repeat (first | (with_reducible first | exact HB.out | apply below_alloc | apply pw_below_drewN | apply below_drew1) | exact HB.out)⟩⟩
            · rw [if_neg c7] at H
              exact absurd H (by simp)
          · rw [if_neg c5] at H
            exact absurd H (by simp)
        · rw [if_neg c4] at H
          exact absurd H (by simp)
      · rw [if_neg c3] at H
        have c3b0 : decide (x11_1 < (l0.length : Int)) = false := decide_eq_false c3
        clear c3
        obtain rfl := Option.some.inj H
        go_wp2
        go_ret
        exact ⟨_, by first | rfl | (simp [errW_none, errW_some] <;> rfl) | (simp [*, errW_none, errW_some] <;> rfl), by (with_reducible repeat (first | apply Kd.S_alloc | apply Kd.S_drewN | apply Kd.S_drew)); exact HO_5.out, by repeat (first | (with_reducible first | exact HB.out | apply below_alloc | apply pw_below_drewN | apply below_drew1) | exact HB.out)⟩

end Go.Proofs.Ythmlimkmcofkfaa.E

/- Lists of rows as matrices in memory; what copied makes. -/
namespace Go.Proofs.Ythmlimkmcofkfaa.E
open Go.RowKit Go.Proofs.YthmlimkmcofkfaaW.PrintWords Go.Proofs.YthmlimkmcofkfaaW.PrintLast Go.Proofs.YthmlimkmcofkfaaW.PrintMore Go.Proofs.Ythmlimkmcofkfaa.B
set_option linter.unusedVariables false
set_option linter.unusedSimpArgs false

def entry (xs : List (List Int)) : Nat → Nat → Int := fun i j => rd (rd_L1 xs i) j
def Rect (m : Nat) (xs : List (List Int)) : Prop := ∀ i : Nat, i < xs.length → (rd_L1 xs i).length = m

theorem rdL_nat (xs : List (List Int)) (i : Nat) : rd_L1 xs (i : Int) = xs.getD i [] := by simp [rd_L1]
theorem rd_nat (xs : List Int) (i : Nat) : rd xs (i : Int) = xs.getD i 0 := by simp [rd]
theorem rdL_get {xs : List (List Int)} {i : Nat} (h : i < xs.length) : xs[i]? = some (rd_L1 xs i) := by simp [rd_L1, h]

/-- What S says of rows that are all of one length, as a matrix. -/
theorem S_Mat {w : World} {base : Nat} {ok : Nat → Prop} {v : Value} {xs : List (List Int)} {m : Nat} (h : Kd.S MK 41 w base ok v xs) (hn : 0 < xs.length) (hm : 0 < m) (hr : Rect m xs) :
    ∃ G cap gs, v = .slice (some ⟨G, 0, none⟩) xs.length cap ∧ xs.length ≤ cap ∧ cap ≤ maxLen ∧ Mat w base G cap gs xs.length m (entry xs) := by
  obtain ⟨f, h0, inner, ho, hreps⟩ := h
  rw [List.length_zipIdx] at ho
  rcases ho.2 with ⟨_, h1⟩ | ⟨G, cap, cur, rfl, hbG, hh, hnc, hcm, hcs, htake⟩
  · omega
  have key : ∀ i, i < xs.length → ∃ g c, cur[i]? = some (.slice (some ⟨g, 0, none⟩) m c) ∧ m ≤ c ∧ base ≤ g ∧ f g = i ∧ ∃ cs : Array Value, w.heap[g]? = some (.cells cs 5 (0, 0)) ∧ ∀ j, j < m → cs[j]? = some (.int .u8 (entry xs i j)) := by
    intro i hi
    have hz : xs.zipIdx[i]? = some (rd_L1 xs i, i) := Kd.zip_at (rdL_get hi)
    obtain ⟨v', hv', hR⟩ := hreps.2 i _ hz
    have hcell : cur[i]? = some v' := by
      have e1 : inner[i]? = some v' := by
        have := congrArg (fun l : List Value => l[0]?) hv'
        have hsz : (Kd.tag f MK).sz = 1 := rfl
        simp only [hsz, Nat.mul_one, List.getElem?_take, List.getElem?_drop, Nat.add_zero] at this
        simpa using this
      have hsz : (Kd.tag f MK).sz = 1 := rfl
      rw [← htake, hsz, Nat.mul_one, List.getElem?_take, if_pos hi] at e1
      simpa using e1
    have hlen : (rd_L1 xs i).length = m := hr i hi
    obtain ⟨k0, inn, hown, hrep2⟩ := hR
    rcases hown.2 with ⟨_, h1⟩ | ⟨g, c, cs, rfl, hbg, hhg, hmc, hcm2, hcs2, htk⟩
    · have : (rd_L1 xs i).length = 0 := h1
      omega
    have hl' : (rd_L1 xs i, i).1.length = m := hlen
    refine ⟨g, c, by rw [hcell]; simp only [hl'], by rw [← hl']; exact hmc, hbg, (k0 g (by simp [Value.ownBlock])).2, cs, hhg, fun j hj => ?_⟩
    have hj2 : j < (rd_L1 xs i).length := by omega
    have hp := hrep2.2 j ((rd_L1 xs i)[j]) (List.getElem?_eq_getElem hj2)
    have hp' : (inn.drop (j * 1)).take 1 = [Value.int .u8 ((rd_L1 xs i)[j])] := hp
    have e1 : inn[j]? = some (Value.int .u8 ((rd_L1 xs i)[j])) := by
      have := congrArg (fun l : List Value => l[0]?) hp'
      simp only [Nat.mul_one, List.getElem?_take, List.getElem?_drop, Nat.add_zero] at this
      simpa using this
    have hsz : (Kd.int .u8).sz = 1 := rfl
    rw [← htk, hsz, Nat.mul_one, List.getElem?_take, if_pos hj2] at e1
    have e2 : cs[j]? = some (Value.int .u8 ((rd_L1 xs i)[j])) := by simpa using e1
    rw [e2]
    simp [entry, rd, hj2]
  have key' : ∀ i, ∃ g, i < xs.length → ∃ c, cur[i]? = some (.slice (some ⟨g, 0, none⟩) m c) ∧ m ≤ c ∧ base ≤ g ∧ f g = i ∧ ∃ cs : Array Value, w.heap[g]? = some (.cells cs 5 (0, 0)) ∧ ∀ j, j < m → cs[j]? = some (.int .u8 (entry xs i j)) := by
    intro i
    by_cases hi : i < xs.length
    · obtain ⟨g, hg⟩ := key i hi
      exact ⟨g, fun _ => hg⟩
    · exact ⟨0, fun h => absurd h hi⟩
  obtain ⟨gs, hgs⟩ := Classical.axiomOfChoice key'
  have hsz : (Kd.tag f MK).sz = 1 := rfl
  refine ⟨G, cap, gs, rfl, hnc, hcm, hbG, ⟨cur, hh, by rw [hcs, hsz, Nat.mul_one], fun i hi => ?_⟩, fun i hi => ?_, fun i j hi hj e => ?_⟩
  · obtain ⟨c, h1, h2, _⟩ := hgs i hi
    exact ⟨c, h1, h2⟩
  · obtain ⟨c, _, _, h3, _, h5⟩ := hgs i hi
    exact ⟨h3, h5⟩
  · obtain ⟨_, _, _, _, h4, _⟩ := hgs i hi
    obtain ⟨_, _, _, _, h4', _⟩ := hgs j hj
    rw [← h4, ← h4', e]

/-! ### What copied and one tell -/
theorem wrap_succ {i n : Nat} (h : i < n) (hn : n ≤ 1000000) : wrap64 ((i : Int) + 1) = ((i + 1 : Nat) : Int) := by unfold wrap64; omega
theorem copiedN_l0 (l : List (List Int)) (hn : l.length ≤ 1000) (hm : ∀ i : Nat, i < l.length → (rd_L1 l i).length ≤ 1000) : ∀ (d k i : Nat) (acc : List (List Int)), l.length = i + d → d < k → acc.length ≤ 1000000 - d →
    matrix_copiedN.l0 k acc l (l.length : Int) i = some (acc ++ l.drop i)
  | 0, k, i, acc, hi, hk, ha => by
    obtain ⟨k, rfl⟩ : ∃ q, k = q + 1 := ⟨k - 1, by omega⟩
    simp only [matrix_copiedN.l0]
    rw [if_neg (by omega), List.drop_eq_nil_of_le (by omega)]; simp
  | d + 1, k, i, acc, hi, hk, ha => by
    obtain ⟨k, rfl⟩ : ∃ q, k = q + 1 := ⟨k - 1, by omega⟩
    have hlt : i < l.length := by omega
    have hmi := hm i hlt
    simp only [matrix_copiedN.l0]
    rw [if_pos (by omega), if_pos (by omega), if_pos (by omega)]
    unfold slices_Clone_byte_byte.f
    rw [if_pos (by omega)]
    simp only [Option.bind_some]
    rw [if_pos (by omega), wrap_succ hlt (by omega), copiedN_l0 l hn hm d k (i + 1) _ (by omega) (by omega) (by simp; omega)]
    rw [List.drop_eq_getElem_cons hlt, rdL_nat]
    simp [hlt]
theorem copiedN_f (l : List (List Int)) (hn : l.length ≤ 1000) (hm : ∀ i : Nat, i < l.length → (rd_L1 l i).length ≤ 1000) : matrix_copiedN.f (l.length + 1) l [] = some l := by
  unfold matrix_copiedN.f
  have := copiedN_l0 l hn hm l.length (l.length + 1) 0 [] (by omega) (by omega) (by simp)
  simpa using this
def besideL (l l1 : List (List Int)) (i d : Nat) : List (List Int) := (List.range' i d).map fun j => rd_L1 l (j : Nat) ++ rd_L1 l1 (j : Nat)
theorem copiedB_l0 (l l1 : List (List Int)) (hn : l.length ≤ 1000) (h1 : l1.length = l.length) (hm : ∀ i : Nat, i < l.length → (rd_L1 l i).length ≤ 1000) (hm1 : ∀ i : Nat, i < l.length → (rd_L1 l1 i).length ≤ 1000) : ∀ (d k i : Nat) (acc : List (List Int)), l.length = i + d → d < k → acc.length ≤ 1000000 - d →
    matrix_copiedB.l0 k l1 acc l (l.length : Int) i = some (acc ++ besideL l l1 i d)
  | 0, k, i, acc, hi, hk, ha => by
    obtain ⟨k, rfl⟩ : ∃ q, k = q + 1 := ⟨k - 1, by omega⟩
    simp only [matrix_copiedB.l0]
    rw [if_neg (by omega)]; simp [besideL]
  | d + 1, k, i, acc, hi, hk, ha => by
    obtain ⟨k, rfl⟩ : ∃ q, k = q + 1 := ⟨k - 1, by omega⟩
    have hlt : i < l.length := by omega
    have hmi := hm i hlt
    have hmi1 := hm1 i hlt
    simp only [matrix_copiedB.l0]
    rw [if_pos (by omega), if_pos (by omega), if_pos (by omega)]
    unfold slices_Clone_byte_byte.f
    rw [if_pos (by omega)]
    simp only [Option.bind_some]
    rw [if_pos (by omega), if_pos (by omega), if_pos (by omega), wrap_succ hlt (by omega), copiedB_l0 l l1 hn h1 hm hm1 d k (i + 1) _ (by omega) (by omega) (by simp; omega)]
    simp [besideL, List.range'_succ]
theorem copiedB_f (l l1 : List (List Int)) (hn : l.length ≤ 1000) (h1 : l1.length = l.length) (hm : ∀ i : Nat, i < l.length → (rd_L1 l i).length ≤ 1000) (hm1 : ∀ i : Nat, i < l.length → (rd_L1 l1 i).length ≤ 1000) : matrix_copiedB.f (l.length + 1) l l1 = some (besideL l l1 0 l.length) := by
  unfold matrix_copiedB.f
  have := copiedB_l0 l l1 hn h1 hm hm1 l.length (l.length + 1) 0 [] (by omega) (by omega) (by simp)
  simpa using this
def idRow (n i : Nat) : List Int := (List.replicate n (0 : Int)).set i 1
theorem one_l0 (n : Nat) (hn : n ≤ 1000) : ∀ (d k i : Nat) (acc : List (List Int)), n = i + d → d < k → acc.length ≤ 1000000 - d →
    matrix_one.l0 k (n : Int) acc (n : Int) i = some (acc ++ (List.range' i d).map (idRow n))
  | 0, k, i, acc, hi, hk, ha => by
    obtain ⟨k, rfl⟩ : ∃ q, k = q + 1 := ⟨k - 1, by omega⟩
    simp only [matrix_one.l0]
    rw [if_neg (by omega)]; simp
  | d + 1, k, i, acc, hi, hk, ha => by
    obtain ⟨k, rfl⟩ : ∃ q, k = q + 1 := ⟨k - 1, by omega⟩
    simp only [matrix_one.l0]
    rw [if_pos (by omega), if_pos (by omega), if_pos (by omega)]
    simp only [Option.bind_some, List.length_replicate, Int.toNat_natCast]
    rw [if_pos (by omega), if_pos (by omega), if_pos (by omega), wrap_succ (show i < n by omega) (by omega), one_l0 n hn d k (i + 1) _ (by omega) (by omega) (by simp; omega)]
    simp [List.range'_succ, idRow]
theorem one_f (n : Nat) (hn : n ≤ 1000) : matrix_one.f (n + 1) (n : Int) = some ((List.range' 0 n).map (idRow n)) := by
  unfold matrix_one.f
  have := one_l0 n hn n (n + 1) 0 [] (by omega) (by omega) (by simp)
  simpa using this
end Go.Proofs.Ythmlimkmcofkfaa.E

/- The contract of matrix.Rank. -/
namespace Go.Proofs.Ythmlimkmcofkfaa.E
open Go.RowKit Go.Proofs.YthmlimkmcofkfaaW.PrintWords Go.Proofs.YthmlimkmcofkfaaW.PrintLast Go.Proofs.YthmlimkmcofkfaaW.PrintMore Go.Proofs.Ythmlimkmcofkfaa.B
set_option linter.unusedVariables false
set_option linter.unusedSimpArgs false

def okB (l : List (List Int)) : Bool := l.all fun r => r.all fun x => decide (0 ≤ x ∧ x < 256)
theorem okB_entry {l : List (List Int)} (h : okB l = true) {m : Nat} (hr : Rect m l) : Bytes l.length m (entry l) := by
  intro i j hi hj
  have h1 := List.all_eq_true.1 h (rd_L1 l i) (by rw [rdL_nat]; simp [hi])
  have hl := hr i hi
  have h2 := List.all_eq_true.1 h1 (entry l i j) (by unfold entry; rw [rd_nat]; simp [hl, hj])
  simpa [Byte] using h2
theorem check_ok {l : List (List Int)} (h : check l = 0) : 0 < l.length ∧ l.length ≤ 32 ∧ 0 < (rd_L1 l 0).length ∧ (rd_L1 l 0).length ≤ 32 ∧ Rect (rd_L1 l 0).length l := by
  unfold check at h
  split at h
  · cases h
  · rename_i h1
    split at h
    · cases h
    · rename_i h2
      have g1 : l.length ≤ 32 := Nat.le_of_not_lt fun e => h1 (.inl e)
      have g2 : l.any P1 = false := by simpa using fun e => h1 (.inr e)
      have g3 : l.length ≠ 0 := fun e => h2 (.inl e)
      have g4 : l.any (P2 (rd_L1 l 0).length) = false := by simpa using fun e => h2 (.inr e)
      have r1 : ∀ i : Nat, i < l.length → (rd_L1 l i).length ≤ 32 ∧ (rd_L1 l i).length ≠ 0 ∧ (rd_L1 l i).length = (rd_L1 l 0).length := by
        intro i hi
        have hmem : rd_L1 l i ∈ l := by rw [rdL_nat]; simp [hi]
        have a1 := List.any_eq_false.1 g2 _ hmem
        have a2 := List.any_eq_false.1 g4 _ hmem
        simp only [P1, P2, decide_eq_true_eq, Bool.or_eq_true, Bool.not_eq_true', decide_eq_false_iff_not] at a1 a2
        exact ⟨by omega, fun e => a2 (.inl e), Classical.byContradiction fun e => a2 (.inr e)⟩
      have r0 := r1 0 (by omega)
      exact ⟨by omega, g1, by have := r0.2.1; simp at this ⊢; omega, r0.1, fun i hi => (r1 i hi).2.2⟩

def rankV (l : List (List Int)) : Int × Int := if check l ≠ 0 then (0, check l) else (((sweepM l.length (rd_L1 l 0).length (0, entry l)).1 : Nat), 0)
def matrix_Rank.f (l0 : List (List Int)) : Option (Int × Int) := if okB l0 = true then some (rankV l0) else none

theorem ret2_ii {a b c d : Int} (h : a = c) (h2 : b = d) : Ending.returned (.tuple #[.int .i64 a, .int .i64 b]) = .returned (.tuple #[.int .i64 c, .int .i64 d]) := by rw [h, h2]

set_option maxHeartbeats 1000000 in
set_option maxRecDepth 100000 in
theorem matrix_Rank.calls (A0 : Option Addr) (c0 : Nat) (l0 : List (List Int)) (r1 : Int) (r2 : Int) (w : World) (hr0 : Kd.C (Kd.slice 5 (Kd.int .u8)) w A0 l0.length l0) (hc0 : l0.length ≤ c0) (h : matrix_Rank.f l0 = some (r1, r2)) :
    Calls Try.prog 31 #[.slice A0 l0.length c0] w fun e w' => e = .returned (.tuple #[.int .i64 r1, .int .i64 r2]) ∧ Below w.heap.size w w' := by
  unfold matrix_Rank.f at h
  by_cases hok : okB l0 = true
  · rw [if_pos hok] at h
    have hv : rankV l0 = (r1, r2) := Option.some.inj h
    clear h
    have HR0 := Aside0.mk hr0
    have HC0 := Aside0.mk hc0
    clear hr0 hc0
    by_cases hch : check l0 = 0
    · obtain ⟨g1, g2, g3, g4, g5⟩ := check_ok hch
      have hv1 : ((sweepM l0.length (rd_L1 l0 0).length (0, entry l0)).1 : Int) = r1 ∧ 0 = r2 := by
        unfold rankV at hv
        rw [if_neg (by simp [hch])] at hv
        simpa using hv
      have HV := Lib.hid hv1
      have HCH := Lib.hid hch
      have HOK := Lib.hid (okB_entry hok g5)
      clear hv hv1 hch hok
      have HG5 := Aside0.mk g5
      clear g5
      obtain ⟨ad, A1, cc, rfl, hx, hxc, _⟩ := at_L1 HR0.out 0 (by omega) (by omega)
      have hx0 : w.cell? ad = some (.slice A1 (rd_L1 l0 0).length cc) := by simpa [Addr.add] using hx
      clear hx
      have HX := Aside0.mk hx0
      clear hx0
      have hn0 : (0 : Int) < (l0.length : Int) := by omega
      have hne0 : l0.length ≠ 0 := by omega
      go_enter Try.func31, Try.ntmps31
      go_wp2_with fail
      refine (matrix_Check.calls _ _ l0 0 _ HR0.out HC0.out (by unfold matrix_Check.f; rw [HCH.out])).mono ?_
      rintro e w1 ⟨rfl, hb1⟩
      have HB1 := Aside0.mk hb1
      clear hb1
      have hx1 : w1.cell? ad = some (.slice A1 (rd_L1 l0 0).length cc) := pw_cell_below HB1.out HX.out
      go_wp2_with fail
      go_region_with (first
        | (go_at_call 68; refine (matrix_copiedN.calls (l0.length + 1) _ _ l0 l0 _ (Kd.C_drewN (Kd.C_below HR0.out HB1.out) _) HC0.out (copiedN_f l0 (by omega) (fun i hi => by rw [HG5.out i hi]; omega))).mono ?_; rintro e w2 ⟨v2, rfl, ho2, hb2⟩; have hx2 : w2.cell? ad = some (.slice A1 (rd_L1 l0 0).length cc) := pw_cell_below hb2 hx1; obtain ⟨G, cap, gs, rfl, hnc, hcm, hMat⟩ := S_Mat ho2 g1 g3 HG5.out; have HMAT := Aside0.mk hMat; have HB2 := Aside0.mk hb2; clear hMat hb2 ho2)
        | (go_at_call 69; refine (sweep_calls _ _ _ _ _ _ _ _ _ (Nat.le_trans (Nat.le_refl _) HB2.out.size) (by omega) (by omega) (Nat.le_refl _) HMAT.out HOK.out).mono ?_; rintro e w3 ⟨rfl, _, hb3⟩))
      all_goals
        go_wp2
        go_ret2
        exact ⟨ret2_ii HV.out.1 HV.out.2, (pw_below_drewN HB1.out 1).trans ((HB2.out.mono HB1.out.size).trans (hb3.mono HB1.out.size))⟩
    · have hne : ((check l0 : Int) != 0) = true := by simp [hch]
      have hv1 : 0 = r1 ∧ check l0 = r2 := by
        unfold rankV at hv
        rw [if_pos hch] at hv
        simpa using hv
      have HV := Lib.hid hv1
      clear hv hv1 hok
      go_enter Try.func31, Try.ntmps31
      go_wp2_with (go_at_call 33; refine (matrix_Check.calls _ _ l0 (check l0) _ HR0.out HC0.out rfl).mono ?_; rintro e w1 ⟨rfl, hb1⟩)
      go_ret2
      exact ⟨ret2_ii HV.out.1 HV.out.2, hb1⟩
  · rw [if_neg hok] at h; cases h
end Go.Proofs.Ythmlimkmcofkfaa.E

/- The contract of matrix.Invert. -/
namespace Go.Proofs.Ythmlimkmcofkfaa.E
open Go.RowKit Go.Proofs.YthmlimkmcofkfaaW.PrintWords Go.Proofs.YthmlimkmcofkfaaW.PrintLast Go.Proofs.YthmlimkmcofkfaaW.PrintMore Go.Proofs.Ythmlimkmcofkfaa.B
set_option linter.unusedVariables false
set_option linter.unusedSimpArgs false

def rightRow (M : Nat → Nat → Int) (n t : Nat) : List Int := (List.range n).map fun j => M t (n + j)
def rightL (M : Nat → Nat → Int) (n : Nat) : List (List Int) := (List.range n).map (rightRow M n)

theorem C_of_cells {w : World} {g off n : Nat} {xs : List Int} (hl : xs.length = n) (hn : n ≤ 9223372036854775807) (h : ∀ j, j < n → w.cell? ⟨g, off + j, none⟩ = some (.int .u8 (xs.getD j 0))) : Kd.C (Kd.int .u8) w (some ⟨g, off, none⟩) n xs := by
  refine ⟨hl, hn, fun _ => ⟨_, rfl, fun j p hj => ⟨[.int .u8 p], rfl, rfl, fun i u hu => ?_⟩⟩⟩
  rcases i with _ | i
  · have hlt : j < n := by rw [← hl]; exact (List.getElem?_eq_some_iff.1 hj).1
    have := h j hlt
    rw [List.getD_eq_getElem?_getD, hj] at this
    simp at hu
    subst hu
    have e : (⟨g, off, none⟩ : Addr).add (j * 1 + 0) = ⟨g, off + j, none⟩ := by unfold Addr.add; split <;> simp_all
    have e1 : (Kd.int .u8).sz = 1 := rfl
    rw [e1, e]; exact this
  · simp at hu

theorem take1 {α : Type} {L : List α} {j : Nat} {a : α} (h : L[j]? = some a) : (L.drop j).take 1 = [a] := by
  obtain ⟨hj, rfl⟩ := List.getElem?_eq_some_iff.1 h
  rw [List.drop_eq_getElem_cons hj]
  rfl

structure Half (w : World) (base G cap n m : Nat) (M : Nat → Nat → Int) (i : Nat) (vs : Nat → Value) : Prop where
  hG : base ≤ G
  outer : ∃ cs : Array Value, w.heap[G]? = some (.cells cs 41 (0, 0)) ∧ cs.size = cap ∧ ∀ t, t < n → cs[t]? = some (vs t)
  done : ∀ t, t < i → Kd.R (Kd.int .u8) 5 w base (fun k => some k = (vs t).ownBlock) (vs t) (rightRow M n t)
  todo : ∀ t, i ≤ t → t < n → ∃ (g c : Nat) (cs : Array Value), vs t = .slice (some ⟨g, 0, none⟩) m c ∧ m ≤ c ∧ w.heap[g]? = some (.cells cs 5 (0, 0)) ∧ ∀ j, j < m → cs[j]? = some (.int .u8 (M t j))
  apart : ∀ s t, s < i → t < i → s ≠ t → ∀ k, (vs s).ownBlock = some k → (vs t).ownBlock ≠ some k

theorem Mat.half {w : World} {base G cap n m : Nat} {gs : Nat → Nat} {M : Nat → Nat → Int} (h : Mat w base G cap gs n m M) : ∃ vs, Half w base G cap n m M 0 vs := by
  obtain ⟨cs, h1, h2, h3⟩ := h.outer
  refine ⟨fun t => (cs[t]?).getD undef, h.hG, ⟨cs, h1, h2, fun t ht => ?_⟩, fun t ht => by omega, fun t _ ht => ?_, fun s t hs => by omega⟩
  · obtain ⟨c, hc, _⟩ := h3 t ht
    rw [hc]; rfl
  · obtain ⟨c, hc, hmc⟩ := h3 t ht
    obtain ⟨_, rs, hr1, hr2⟩ := h.row t ht
    exact ⟨gs t, c, rs, by rw [hc]; rfl, hmc, hr1, hr2⟩

section
variable {w w2 : World} {base G cap n m i : Nat} {M : Nat → Nat → Int} {vs : Nat → Value}
theorem Half.ltG (h : Half w base G cap n m M i vs) : G < w.heap.size := by
  obtain ⟨cs, h1, _⟩ := h.outer
  exact blk_lt h1
theorem Half.cellG (h : Half w base G cap n m M i vs) {t : Nat} (ht : t < n) : w.cell? ⟨G, t, none⟩ = some (vs t) := by
  obtain ⟨cs, h1, _, h3⟩ := h.outer
  exact (cell_of_blk h1 t).trans (h3 t ht)
theorem Half.freeG (h : Half w base G cap n m M i vs) (t : Nat) : w.frozen? ⟨G, t, none⟩ = false := by
  obtain ⟨cs, h1, _, h3⟩ := h.outer
  exact free_of_blk h1 t
theorem rightRow_len (M : Nat → Nat → Int) (n t : Nat) : (rightRow M n t).length = n := by simp [rightRow]
theorem Half.reads (h : Half w base G cap n m M i vs) (hi : i < n) (hm : m = n + n) (hn : n ≤ 1000) : ∃ g c, vs i = .slice (some ⟨g, 0, none⟩) m c ∧ m ≤ c ∧ Kd.C (Kd.int .u8) w (some ⟨g, n, none⟩) (rightRow M n i).length (rightRow M n i) := by
  obtain ⟨g, c, cs, h1, h2, h3, h4⟩ := h.todo i (Nat.le_refl _) hi
  refine ⟨g, c, h1, h2, C_of_cells rfl (by rw [rightRow_len]; omega) (fun j hj => ?_)⟩
  rw [rightRow_len] at hj
  rw [cell_of_blk h3, h4 (n + j) (by omega)]
  simp [rightRow, hj]
/-- Clone has made a row; it is laid in the i-th place. -/
theorem Half.step (h : Half w base G cap n m M i vs) (hi : i < n) {v : Value} (hb : Below w.heap.size w w2) (hbase : base ≤ w.heap.size) (hR : Kd.R (Kd.int .u8) 5 w2 w.heap.size (fun _ => True) v (rightRow M n i)) :
    Half (w2.setCell ⟨G, i, none⟩ v) base G cap n m M (i + 1) (fun t => if t = i then v else vs t) := by
  have hG2 := h.ltG
  obtain ⟨cs, h1, h2, h3⟩ := h.outer
  have h1' : w2.heap[G]? = some (.cells cs 41 (0, 0)) := (hb.block G hG2).trans h1
  refine ⟨h.hG, ⟨_, blk_set h1' i v, by simpa using h2, fun t ht => ?_⟩, fun t ht => ?_, fun t ht1 ht2 => ?_, fun s t hs ht hst k hk => ?_⟩
  · rw [Array.getElem?_setIfInBounds]
    have hlt : i < cs.size := (Array.getElem?_eq_some_iff.1 (h3 i hi)).1
    by_cases e : i = t
    · subst e; simp [hlt]
    · have e2 : ¬ t = i := fun h => e h.symm
      rw [if_neg e, h3 t ht]; simp [e2]
  · by_cases e : t = i
    · subst e
      simp only [if_true]
      have hne : some G ≠ v.ownBlock := Kd.R_ne hR h1' (by decide)
      refine Kd.R_far (p := ⟨G, t, none⟩) (Kd.R_lower (Kd.R_tight rfl hR) hbase) (fun k hk e => ?_) v
      exact hne (by rw [← hk, e])
    · simp only [if_neg e]
      have hd := Kd.R_below (h.done t (by omega)) hb
      have hne : some G ≠ (vs t).ownBlock := Kd.R_ne hd h1' (by decide)
      exact Kd.R_far (p := ⟨G, i, none⟩) hd (fun k hk e => hne (by rw [← hk, e])) v
  · have e : ¬ t = i := by omega
    obtain ⟨g, c, rs, g1, g2, g3, g4⟩ := h.todo t (by omega) ht2
    have g3' : w2.heap[g]? = some (.cells rs 5 (0, 0)) := (hb.block g (blk_lt g3)).trans g3
    refine ⟨g, c, rs, by simp only [if_neg e]; exact g1, g2, blk_other g3' (fun e2 => ?_) v, g4⟩
    have e3 : g = G := e2
    rw [e3, h1'] at g3'
    injection g3' with g3'
    injection g3' with _ ht
    exact absurd ht (by decide)
  · have old : ∀ q, q < i → ∀ k, (vs q).ownBlock = some k → k < w.heap.size := fun q hq k hk => Kd.R_lt (h.done q hq) k hk
    have new : ∀ k, v.ownBlock = some k → w.heap.size ≤ k := fun k hk => Kd.R_base hR k hk
    by_cases e1 : s = i <;> by_cases e2 : t = i
    · omega
    · simp only [e1, if_true] at hk
      simp only [if_neg e2]
      intro hk2
      have a1 := new k hk
      have a2 := old t (by omega) k hk2
      omega
    · simp only [if_neg e1] at hk
      simp only [e2, if_true]
      intro hk2
      have a1 := new k hk2
      have a2 := old s (by omega) k hk
      omega
    · simp only [if_neg e1] at hk
      simp only [if_neg e2]
      exact h.apart s t (by omega) (by omega) hst k hk
theorem Half.S (h : Half w base G cap n m M n vs) (hcap : n ≤ cap) (hmax : cap ≤ maxLen) : Kd.S MK 41 w base (fun _ => True) (.slice (some ⟨G, 0, none⟩) n cap) (rightL M n) := by
  obtain ⟨cs, h1, h2, h3⟩ := h.outer
  have hlen : (rightL M n).length = n := by simp [rightL]
  have hex : ∃ f : Nat → Nat, ∀ t, t < n → ∀ k, (vs t).ownBlock = some k → f k = t := by
    have : ∀ k, ∃ t0, ∀ t, t < n → (vs t).ownBlock = some k → t0 = t := by
      intro k
      by_cases hk : ∃ t, t < n ∧ (vs t).ownBlock = some k
      · obtain ⟨t0, ht0, hk0⟩ := hk
        exact ⟨t0, fun t ht hkt => Classical.byContradiction fun hne => h.apart t0 t ht0 ht hne k hk0 hkt⟩
      · exact ⟨0, fun t ht hkt => absurd ⟨t, ht, hkt⟩ hk⟩
    obtain ⟨f, hf⟩ := Classical.axiomOfChoice this
    exact ⟨f, fun t ht k hk => hf k t ht hk⟩
  obtain ⟨f, hf⟩ := hex
  refine ⟨f, fun _ _ => trivial, (List.range n).map vs, ⟨by simp [rightL, Kd.tag, Kd.slice], .inr ⟨G, cap, cs, by rw [List.length_zipIdx, hlen], h.hG, h1, by rw [List.length_zipIdx, hlen]; exact hcap, hmax, by rw [h2]; simp [Kd.tag, Kd.slice], ?_⟩⟩, by simp [rightL, Kd.tag, Kd.slice], fun j p hj => ?_⟩
  · rw [List.length_zipIdx, hlen]
    have e1 : (Kd.tag f MK).sz = 1 := rfl
    rw [e1, Nat.mul_one]
    apply List.ext_getElem?
    intro t
    rw [List.getElem?_take]
    by_cases ht : t < n
    · rw [if_pos ht, Array.getElem?_toList, h3 t ht]; simp [ht]
    · rw [if_neg ht]; simp [ht]
  · have hjn : j < n := by
      have := (List.getElem?_eq_some_iff.1 hj).1
      rw [List.length_zipIdx, hlen] at this; exact this
    rw [List.getElem?_zipIdx] at hj
    have hp : p = (rightRow M n j, j) := by
      simp [rightL, hjn] at hj
      exact hj.symm
    subst hp
    have hd := h.done j hjn
    have e1 : (Kd.tag f MK).sz = 1 := rfl
    refine ⟨vs j, ?_, Kd.R_mono hd (fun k hk => ⟨⟨trivial, fun e => ?_⟩, hf j hjn k hk.symm⟩)⟩
    · rw [e1, Nat.mul_one]
      exact take1 (by simp [hjn])
    · have hne : some G ≠ (vs j).ownBlock := Kd.R_ne hd h1 (by decide)
      simp only [Value.ownBlock] at e
      exact hne (by rw [← hk, e])
end

/-- A matrix with the one beside it. -/
def augM (l : List (List Int)) (n : Nat) : Nat → Nat → Int := fun i j => if j < n then entry l i j else if j - n = i then 1 else 0
def invS (l : List (List Int)) : Nat × (Nat → Nat → Int) := sweepM l.length l.length (0, augM l l.length)
def invertV (l : List (List Int)) : List (List Int) × Int :=
  if check l ≠ 0 then ([], check l) else if (rd_L1 l 0).length ≠ l.length then ([], 2) else
  if (invS l).1 < l.length then ([], 120) else (rightL (invS l).2 l.length, 0)
def matrix_Invert.f (l0 : List (List Int)) : Option (List (List Int) × Int) := if okB l0 = true then some (invertV l0) else none

def idL (n : Nat) : List (List Int) := (List.range' 0 n).map (idRow n)
theorem idL_len (n : Nat) : (idL n).length = n := by simp [idL]
theorem idL_row {n i : Nat} (h : i < n) : rd_L1 (idL n) i = idRow n i := by rw [rdL_nat]; simp [idL, h]
theorem idRow_len (n i : Nat) : (idRow n i).length = n := by simp [idRow]
theorem beside_len (l l1 : List (List Int)) (n : Nat) : (besideL l l1 0 n).length = n := by simp [besideL]
theorem beside_row {l l1 : List (List Int)} {n i : Nat} (h : i < n) : rd_L1 (besideL l l1 0 n) i = rd_L1 l i ++ rd_L1 l1 i := by rw [rdL_nat]; simp [besideL, h]
theorem beside_rect {l : List (List Int)} {n : Nat} (hl : l.length = n) (h : Rect n l) : Rect (n + n) (besideL l (idL n) 0 n) := by
  intro i hi
  rw [beside_len] at hi
  rw [beside_row hi, List.length_append, h i (by omega), idL_row hi, idRow_len]
theorem beside_entry {l : List (List Int)} {n i j : Nat} (hl : l.length = n) (h : Rect n l) (hi : i < n) (hj : j < n + n) : entry (besideL l (idL n) 0 n) i j = augM l n i j := by
  unfold entry augM
  rw [beside_row hi, rd_nat, idL_row hi]
  have hr := h i (by omega)
  by_cases e : j < n
  · rw [if_pos e]; unfold entry; rw [rd_nat]
    simp [List.getD_eq_getElem?_getD, List.getElem?_append_left (show j < (rd_L1 l i).length by omega)]
  · rw [if_neg e]
    rw [List.getD_eq_getElem?_getD, List.getElem?_append_right (by omega), hr]
    unfold idRow
    rw [List.getElem?_set]
    by_cases e2 : i = j - n
    · have e3 : j - n = i := e2.symm
      rw [if_pos e2, if_pos e3]; simp [hi]
    · have e3 : ¬ j - n = i := fun h => e2 h.symm
      rw [if_neg e2, if_neg e3]
      simp [show j - n < n by omega]
theorem aug_bytes {l : List (List Int)} {n : Nat} (hl : l.length = n) (h : Rect n l) (hok : okB l = true) : Bytes n (n + n) (augM l n) := by
  intro i j hi hj
  unfold augM
  split
  · rename_i e; rw [← hl] at hi; exact okB_entry hok h i j hi e
  · split <;> (unfold Byte; omega)

theorem ret2_si {v v' : Value} {a b : Int} (h : v = v') (h2 : a = b) : Ending.returned (.tuple #[v, .int .i64 a]) = .returned (.tuple #[v', .int .i64 b]) := by rw [h, h2]

set_option maxHeartbeats 2000000 in
set_option maxRecDepth 100000 in
theorem matrix_Invert.calls (A0 : Option Addr) (c0 : Nat) (l0 : List (List Int)) (r1 : List (List Int)) (r2 : Int) (w : World) (hr0 : Kd.C (Kd.slice 5 (Kd.int .u8)) w A0 l0.length l0) (hc0 : l0.length ≤ c0) (h : matrix_Invert.f l0 = some (r1, r2)) :
    Calls Try.prog 29 #[.slice A0 l0.length c0] w fun e w' => ∃ v0_ : Value, e = .returned (.tuple #[v0_, .int .i64 r2]) ∧ Kd.S (Kd.slice 5 (Kd.int .u8)) 41 w' w.heap.size (fun _ => True) v0_ r1 ∧ Below w.heap.size w w' := by
  unfold matrix_Invert.f at h
  by_cases hok : okB l0 = true
  · rw [if_pos hok] at h
    have hv : invertV l0 = (r1, r2) := Option.some.inj h
    clear h
    have HR0 := Aside0.mk hr0
    have HC0 := Aside0.mk hc0
    clear hr0 hc0
    by_cases hch : check l0 = 0
    · obtain ⟨g1, g2, g3, g4, g5⟩ := check_ok hch
      obtain ⟨ad, A1, cc, rfl, hx, hxc, _⟩ := at_L1 HR0.out 0 (by omega) (by omega)
      have hx0 : w.cell? ad = some (.slice A1 (rd_L1 l0 0).length cc) := by simpa [Addr.add] using hx
      clear hx
      have HX := Aside0.mk hx0
      clear hx0
      have hn0 : (0 : Int) < (l0.length : Int) := by omega
      have hne0 : l0.length ≠ 0 := by omega
      have HCH := Lib.hid hch
      by_cases hsq : (rd_L1 l0 0).length = l0.length
      · have q1 : (((rd_L1 l0 0).length : Int) != (l0.length : Int)) = false := by simp; omega
        have hg5 : Rect l0.length l0 := fun i hi => (g5 i hi).trans hsq
        have HG5 := Aside0.mk hg5
        have HBY := Aside0.mk (aug_bytes rfl hg5 hok)
        have HSQ := Lib.hid hsq
        have HVV := Lib.hid hv
        clear hv hok g5 hg5 hch hsq
        obtain ⟨n, hn⟩ : ∃ n, n = l0.length := ⟨_, rfl⟩
        have g2' : n ≤ 32 := by omega
        have g1' : 0 < n := by omega
        have HN := Lib.hid hn
        clear hn
        go_enter Try.func29, Try.ntmps29
        go_wp2_with fail
        refine (matrix_Check.calls _ _ l0 0 _ HR0.out HC0.out (by unfold matrix_Check.f; rw [HCH.out])).mono ?_
        rintro e w1 ⟨rfl, hb1⟩
        have hx1 : w1.cell? ad = some (.slice A1 (rd_L1 l0 0).length cc) := pw_cell_below hb1 HX.out
        have HB1 := Aside0.mk hb1
        clear hb1
        go_wp2_with fail
        refine (matrix_one.calls (l0.length + 1) _ (idL l0.length) _ (one_f _ (by omega))).mono ?_
        rintro e w2 ⟨v1, rfl, ho1, hb2⟩
        obtain ⟨gi, capi, rfl, _⟩ := Kd.S_form ho1 (by rw [idL_len]; exact g1)
        have HO1 := Aside0.mk ho1
        have HB2 := Aside0.mk (HB1.out.trans (hb2.mono HB1.out.size))
        clear ho1 hb2 hx1
        go_wp2_with fail
        refine (matrix_copiedB.calls (l0.length + 1) _ _ l0 _ _ (idL l0.length) (besideL l0 (idL l0.length) 0 l0.length) _ (Kd.C_below HR0.out HB2.out) HC0.out (Kd.S_reads' HO1.out).2.2 (Kd.S_reads' HO1.out).2.1 (copiedB_f l0 (idL l0.length) (by omega) (idL_len _) (fun i hi => by rw [HG5.out i hi]; omega) (fun i hi => by rw [idL_row hi, idRow_len]; omega))).mono ?_
        rintro e w3 ⟨v2, rfl, ho2, hb3⟩
        obtain ⟨G, cap, gs, rfl, hnc, hcm, hMat⟩ := S_Mat (m := l0.length + l0.length) ho2 (by rw [beside_len]; exact g1) (by omega) (beside_rect rfl HG5.out)
        rw [beside_len] at hnc hMat ⊢
        have HMAT := Aside0.mk (hMat.congr (fun i j hi hj => beside_entry rfl HG5.out hi hj))
        have HB3 := Aside0.mk (HB2.out.trans (hb3.mono HB2.out.size))
        have HBS := Aside0.mk (Nat.le_trans HB2.out.size hb3.size)
        have HBS2 := Aside0.mk HB2.out.size
        have HSZ := Aside0.mk hb3.size
        clear hMat hb3 ho2 HO1
        go_wp2_with fail
        refine (sweep_calls _ _ _ _ _ _ _ _ _ HSZ.out (by omega) (by omega) (by omega) HMAT.out HBY.out).mono ?_
        rintro e w4 ⟨rfl, ⟨gs4, hM4⟩, hb4⟩
        have hvv : (if (invS l0).1 < l0.length then (([] : List (List Int)), (120 : Int)) else (rightL (invS l0).2 l0.length, 0)) = (r1, r2) := by
          have h := HVV.out
          unfold invertV at h
          rw [if_neg (by simp [HCH.out]), if_neg (by simp [HSQ.out])] at h
          exact h
        have hM5 : Mat w4 w2.heap.size G cap gs4 l0.length (l0.length + l0.length) (invS l0).2 := hM4
        have he : sweepM l0.length l0.length (0, augM l0 l0.length) = invS l0 := rfl
        rw [he]
        generalize invS l0 = s at *
        obtain ⟨r, S⟩ := s
        simp only at hvv hM5
        have HB4 := Aside0.mk (HB3.out.trans (hb4.mono HBS2.out))
        have HSZ4 := Aside0.mk (Nat.le_trans HSZ.out hb4.size)
        clear hM4 he hb4 HVV HMAT HB3 HSZ HBY
        by_cases hrn : r < l0.length
        · rw [if_pos hrn] at hvv
          have HV := Lib.hid hvv
          clear hvv hM5
          go_wp2
          go_ret2
          have e1 := congrArg Prod.fst HV.out
          have e2 := congrArg Prod.snd HV.out
          simp only at e1 e2
          exact ⟨_, ret2_si rfl e2, by rw [← e1]; exact Kd.S_nil _ _ _ _ _, HB4.out⟩
        · rw [if_neg hrn] at hvv
          have HV := Lib.hid hvv
          clear hvv
          obtain ⟨vs0, hH0⟩ := hM5.half
          have HH0 := Aside0.mk hH0
          clear hM5 hH0
          go_wp2
          go_loopw [32] (fun v wr => ∃ (i : Nat) (vs : Nat → Value), i ≤ l0.length ∧ v = .int .i64 i ∧ Aside0 (Half wr w2.heap.size G cap l0.length (l0.length + l0.length) S i vs) ∧ Aside0 (Below w.heap.size w wr) ∧ Aside0 (w2.heap.size ≤ wr.heap.size)) (fun v _ => l0.length - (intOf v).toNat)
          case atStart => exact ⟨0, vs0, Nat.zero_le _, rfl, HH0, HB4, HSZ4⟩
          case round =>
            obtain ⟨i, vs, hi, rfl, HH, HBi, HSi⟩ := hrel
            clear HH0 HB4 HSZ4
            by_cases hin : i < l0.length
            · obtain ⟨g, c, hvs, hmc, hC⟩ := HH.out.reads hin rfl (by omega)
              have hcell := HH.out.cellG hin
              rw [hvs] at hcell
              have hfree := HH.out.freeG i
              have HCc := Aside0.mk hC
              have HVS := Lib.hid hvs
              clear hC hvs
              have hcn : ¬ c = l0.length := by omega
              have hcl := slices_Clone_byte_byte.calls (some ⟨g, l0.length, none⟩) (c - l0.length) (rightRow S l0.length i) (rightRow S l0.length i) wr HCc.out (by rw [rightRow_len]; omega) (by unfold slices_Clone_byte_byte.f; rw [if_pos (by rw [rightRow_len]; omega)])
              rw [rightRow_len] at hcl
              have HCL := Aside0.mk hcl
              clear hcl HCc
              go_wp2_with fail
              refine HCL.out.mono ?_
              rintro e w5 ⟨v, rfl, hR, hb5⟩
              have HNX := Aside0.mk (HH.out.step hin hb5 HSi.out hR)
              have HB5 := Aside0.mk ((HBi.out.trans (hb5.mono HBi.out.size)).setCell (p := ⟨G, i, none⟩) (Nat.le_trans HBS2.out HH.out.hG) v)
              have HS5 := Aside0.mk (Nat.le_trans HSi.out (Nat.le_trans hb5.size (show w5.heap.size ≤ (w5.setCell ⟨G, i, none⟩ v).heap.size by simp [World.setCell])))
              have hc5 := pw_cell_below hb5 hcell
              have hf5 : w5.frozen? ⟨G, i, none⟩ = false := (hb5.frozen (p := ⟨G, i, none⟩) HH.out.ltG).trans hfree
              obtain ⟨Av, cv, hve⟩ := Kd.R_slice hR
              clear hR hb5 hcell hfree HCL HH
              subst hve
              go_wp2
              go_roundw
              case rel => exact ⟨i + 1, _, by omega, by go_num, HNX, HB5, HS5⟩
              case measure => simp [intOf]; omega
            · have hil : i = l0.length := by omega
              have HFIN := Aside0.mk ((hil ▸ HH.out : Half wr w2.heap.size G cap l0.length (l0.length + l0.length) S l0.length vs).S hnc hcm)
              clear HH hil
              go_wp2
              go_ret2
              have e1 := congrArg Prod.fst HV.out
              have e2 := congrArg Prod.snd HV.out
              simp only at e1 e2
              exact ⟨_, ret2_si rfl e2, by rw [← e1]; exact Kd.S_lower HFIN.out HBS2.out, HBi.out⟩
      · have q1 : (((rd_L1 l0 0).length : Int) != (l0.length : Int)) = true := by simp; omega
        have hv1 : [] = r1 ∧ 2 = r2 := by
          unfold invertV at hv
          rw [if_neg (by simp [hch]), if_pos hsq] at hv
          simpa using hv
        have HV := Lib.hid hv1
        clear hv hv1 hok hch hsq g5
        go_enter Try.func29, Try.ntmps29
        go_wp2_with fail
        refine (matrix_Check.calls _ _ l0 0 _ HR0.out HC0.out (by unfold matrix_Check.f; rw [HCH.out])).mono ?_
        rintro e w1 ⟨rfl, hb1⟩
        have hx1 : w1.cell? ad = some (.slice A1 (rd_L1 l0 0).length cc) := pw_cell_below hb1 HX.out
        go_wp2
        go_ret2
        exact ⟨_, ret2_si rfl HV.out.2, by rw [← HV.out.1]; exact Kd.S_nil _ _ _ _ _, hb1⟩
    · have hne : ((check l0 : Int) != 0) = true := by simp [hch]
      have hv1 : [] = r1 ∧ check l0 = r2 := by
        unfold invertV at hv
        rw [if_pos hch] at hv
        simpa using hv
      have HV := Lib.hid hv1
      clear hv hv1 hok
      go_enter Try.func29, Try.ntmps29
      go_wp2_with (go_at_call 33; refine (matrix_Check.calls _ _ l0 (check l0) _ HR0.out HC0.out rfl).mono ?_; rintro e w1 ⟨rfl, hb1⟩)
      go_ret2
      exact ⟨_, ret2_si rfl HV.out.2, by rw [← HV.out.1]; exact Kd.S_nil _ _ _ _ _, hb1⟩
  · rw [if_neg hok] at h; cases h
end Go.Proofs.Ythmlimkmcofkfaa.E

/- What the texts of the matrix laws stand on, together. -/

/- Contracts of functions of the program, written by a program of this session. -/
namespace Go.Proofs.Ythmlimkmcofkfaa.B
open Go.RowKit Go.Proofs.YthmlimkmcofkfaaW.PrintWords Go.Proofs.YthmlimkmcofkfaaW.PrintLast Go.Proofs.YthmlimkmcofkfaaW.PrintMore
attribute [local go_sem] max2_int min2_int max_two min_two max_three min_three max_four min_four   -- for this text's walks alone
set_option linter.unusedVariables false
set_option linter.unusedSimpArgs false

/-! ### stripe_Length: function 41 -/
def stripe_Length.f (a0 : Int) (a1 : Int) : Option (Int × Int) := if a0 < 0 then (some (0, 5)) else (if a0 > 65536 then (some (0, 5)) else (if a1 < 1 then (some (0, 5)) else (if a1 > 15 then (some (0, 5)) else (if a1 = 0 then (none) else (some (wrap64 (Int.tdiv (wrap64 ((wrap64 (a0 + a1)) - 1)) a1), 0))))))
set_option maxHeartbeats 8000000 in
set_option maxRecDepth 100000 in
theorem stripe_Length.calls (a0 : Int) (a1 : Int) (r1 : Int) (r2 : Int) (w : World) (h : stripe_Length.f a0 a1 = some (r1, r2)) :
    Calls Try.prog 41 #[.int .i64 a0, .int .i64 a1] w fun e w' => e = .returned (.tuple #[.int .i64 r1, .int .i64 r2]) ∧ Drawn0 w w' := by
  have H : (if a0 < 0 then (some (0, 5)) else (if a0 > 65536 then (some (0, 5)) else (if a1 < 1 then (some (0, 5)) else (if a1 > 15 then (some (0, 5)) else (if a1 = 0 then (none) else (some (wrap64 (Int.tdiv (wrap64 ((wrap64 (a0 + a1)) - 1)) a1), 0))))))) = some (r1, r2) := h
  clear h
  by_cases c3 : a0 < 0
  · rw [if_pos c3] at H
    have c3b0 : decide (a0 < 0) = true := decide_eq_true c3
    clear c3
    simp only [Option.some.injEq, Prod.mk.injEq] at H
    obtain ⟨rfl, rfl⟩ := H
    go_enter Try.func41, Try.ntmps41
    go_wp2
    go_ret2
    exact ⟨by first | rfl | (simp; done) | (simp [*]; done), by repeat (first | exact Drawn0.refl _ | apply Drawn0.step)⟩
  · rw [if_neg c3] at H
    have c3b0 : decide (a0 < 0) = false := decide_eq_false c3
    clear c3
    by_cases c4 : a0 > 65536
    · rw [if_pos c4] at H
      have c4b0 : decide (65536 < a0) = true := decide_eq_true c4
      clear c4
      simp only [Option.some.injEq, Prod.mk.injEq] at H
      obtain ⟨rfl, rfl⟩ := H
      go_enter Try.func41, Try.ntmps41
      go_wp2
      go_ret2
      exact ⟨by first | rfl | (simp; done) | (simp [*]; done), by repeat (first | exact Drawn0.refl _ | apply Drawn0.step)⟩
    · rw [if_neg c4] at H
      have c4b0 : decide (65536 < a0) = false := decide_eq_false c4
      clear c4
      by_cases c5 : a1 < 1
      · rw [if_pos c5] at H
        have c5b0 : decide (a1 < 1) = true := decide_eq_true c5
        clear c5
        simp only [Option.some.injEq, Prod.mk.injEq] at H
        obtain ⟨rfl, rfl⟩ := H
        go_enter Try.func41, Try.ntmps41
        go_wp2
        go_ret2
        exact ⟨by first | rfl | (simp; done) | (simp [*]; done), by repeat (first | exact Drawn0.refl _ | apply Drawn0.step)⟩
      · rw [if_neg c5] at H
        have c5b0 : decide (a1 < 1) = false := decide_eq_false c5
        clear c5
        by_cases c6 : a1 > 15
        · rw [if_pos c6] at H
          have c6b0 : decide (15 < a1) = true := decide_eq_true c6
          clear c6
          simp only [Option.some.injEq, Prod.mk.injEq] at H
          obtain ⟨rfl, rfl⟩ := H
          go_enter Try.func41, Try.ntmps41
          go_wp2
          go_ret2
          exact ⟨by first | rfl | (simp; done) | (simp [*]; done), by repeat (first | exact Drawn0.refl _ | apply Drawn0.step)⟩
        · rw [if_neg c6] at H
          have c6b0 : decide (15 < a1) = false := decide_eq_false c6
          clear c6
          by_cases c7 : a1 = 0
          · rw [if_pos c7] at H
            exact absurd H (by simp)
          · rw [if_neg c7] at H
            have c7b0 : (a1 == 0) = false := beq_eq_false_iff_ne.mpr c7
            have c7b1 : (a1 != 0) = true := bne_iff_ne.mpr c7
            simp only [Option.some.injEq, Prod.mk.injEq] at H
            obtain ⟨rfl, rfl⟩ := H
            go_enter Try.func41, Try.ntmps41
            go_wp2
            go_ret2
            exact ⟨by first | rfl | (simp; done) | (simp [*]; done), by repeat (first | exact Drawn0.refl _ | apply Drawn0.step)⟩

end Go.Proofs.Ythmlimkmcofkfaa.B

/- Contracts of functions of the program, written by a program of this session. -/
namespace Go.Proofs.Ythmlimkmcofkfaa.B
open Go.RowKit Go.Proofs.YthmlimkmcofkfaaW.PrintWords Go.Proofs.YthmlimkmcofkfaaW.PrintLast Go.Proofs.YthmlimkmcofkfaaW.PrintMore
attribute [local go_sem] max2_int min2_int max_two min_two max_three min_three max_four min_four   -- for this text's walks alone
set_option linter.unusedVariables false
set_option linter.unusedSimpArgs false

/-! ### stripe_may: function 75 -/
def stripe_may.f (a0 : Int) (a1 : Int) : Option (Bool) := if a0 ≥ 1 then (if a1 ≥ 1 then (if a0 ≤ 16 then (some (decide (a1 ≤ (wrap64 (16 - a0))))) else (some false)) else (some false)) else (some false)
set_option maxHeartbeats 8000000 in
set_option maxRecDepth 100000 in
theorem stripe_may.calls (a0 : Int) (a1 : Int) (r : Bool) (w : World) (h : stripe_may.f a0 a1 = some r) :
    Calls Try.prog 75 #[.int .i64 a0, .int .i64 a1] w fun e w' => e = .returned (.bool r) ∧ Drawn0 w w' := by
  have H : (if a0 ≥ 1 then (if a1 ≥ 1 then (if a0 ≤ 16 then (some (decide (a1 ≤ (wrap64 (16 - a0))))) else (some false)) else (some false)) else (some false)) = some r := h
  clear h
  by_cases c3 : a0 ≥ 1
  · rw [if_pos c3] at H
    have c3b0 : decide (1 ≤ a0) = true := decide_eq_true c3
    clear c3
    by_cases c4 : a1 ≥ 1
    · rw [if_pos c4] at H
      have c4b0 : decide (1 ≤ a1) = true := decide_eq_true c4
      clear c4
      by_cases c5 : a0 ≤ 16
      · rw [if_pos c5] at H
        have c5b0 : decide (a0 ≤ 16) = true := decide_eq_true c5
        clear c5
        obtain rfl := Option.some.inj H
        go_enter Try.func75, Try.ntmps75
        go_wp2
        go_ret
        exact ⟨by first | rfl | (simp; done) | (simp [*]; done), by repeat (first | exact Drawn0.refl _ | apply Drawn0.step)⟩
      · rw [if_neg c5] at H
        have c5b0 : decide (a0 ≤ 16) = false := decide_eq_false c5
        clear c5
        obtain rfl := Option.some.inj H
        go_enter Try.func75, Try.ntmps75
        go_wp2
        go_ret
        exact ⟨by first | rfl | (simp; done) | (simp [*]; done), by repeat (first | exact Drawn0.refl _ | apply Drawn0.step)⟩
    · rw [if_neg c4] at H
      have c4b0 : decide (1 ≤ a1) = false := decide_eq_false c4
      clear c4
      obtain rfl := Option.some.inj H
      go_enter Try.func75, Try.ntmps75
      go_wp2
      go_ret
      exact ⟨by first | rfl | (simp; done) | (simp [*]; done), by repeat (first | exact Drawn0.refl _ | apply Drawn0.step)⟩
  · rw [if_neg c3] at H
    have c3b0 : decide (1 ≤ a0) = false := decide_eq_false c3
    clear c3
    obtain rfl := Option.some.inj H
    go_enter Try.func75, Try.ntmps75
    go_wp2
    go_ret
    exact ⟨by first | rfl | (simp; done) | (simp [*]; done), by repeat (first | exact Drawn0.refl _ | apply Drawn0.step)⟩

end Go.Proofs.Ythmlimkmcofkfaa.B

/- Contracts of functions of the program, written by a program of this session. -/
namespace Go.Proofs.Ythmlimkmcofkfaa.B
open Go.RowKit Go.Proofs.YthmlimkmcofkfaaW.PrintWords Go.Proofs.YthmlimkmcofkfaaW.PrintLast Go.Proofs.YthmlimkmcofkfaaW.PrintMore
attribute [local go_sem] max2_int min2_int max_two min_two max_three min_three max_four min_four   -- for this text's walks alone
set_option linter.unusedVariables false
set_option linter.unusedSimpArgs false

/-! ### stripe_look: function 81 -/
mutual
def stripe_look.j0 : Nat → List (List Int) → List Bool → Int → Bool → Option (Int × Int)
  | 0, _, _, _, _ => none
  | k + 1, x0, x1, x4, x31 => if x31 = true then (some (0, 2)) else (stripe_look.l0 k x0 x1 x4 x0 (x0.length : Int) 0)
def stripe_look.l0 : Nat → List (List Int) → List Bool → Int → List (List Int) → Int → Int → Option (Int × Int)
  | 0, _, _, _, _, _, _ => none
  | k + 1, x0, x1, x4, x32, x33, x34 => if x34 < x33 then (if 0 ≤ x34 then (if x34 < (x32.length : Int) then (if x34 < (x1.length : Int) then (if rdOf false x1 x34 = true then (if ((rd_L1 x32 x34).length : Int) > 65536 then (some (0, 3)) else (stripe_look.l0 k x0 x1 x4 x32 x33 (wrap64 (x34 + 1)))) else (stripe_look.l0 k x0 x1 x4 x32 x33 (wrap64 (x34 + 1)))) else (none)) else (none)) else (none)) else (stripe_look.l1 k x1 x4 (decide (x4 ≥ 0)) x0 (x0.length : Int) 0)
def stripe_look.l1 : Nat → List Bool → Int → Bool → List (List Int) → Int → Int → Option (Int × Int)
  | 0, _, _, _, _, _, _ => none
  | k + 1, x1, x14, x15, x52, x53, x54 => if x54 < x53 then (if 0 ≤ x54 then (if x54 < (x52.length : Int) then (if x54 < (x1.length : Int) then (if rdOf false x1 x54 = true then (if x15 = true then (if ((rd_L1 x52 x54).length : Int) = x14 then (stripe_look.l1 k x1 x14 x15 x52 x53 (wrap64 (x54 + 1))) else (some (0, 2))) else (stripe_look.l1 k x1 ((rd_L1 x52 x54).length : Int) true x52 x53 (wrap64 (x54 + 1)))) else (stripe_look.l1 k x1 x14 x15 x52 x53 (wrap64 (x54 + 1)))) else (none)) else (none)) else (none)) else (some (x14, 0))
end
def stripe_look.f (k : Nat) (l0 : List (List Int)) (l1 : List Bool) (a2 : Int) (a3 : Int) (a4 : Int) : Option (Int × Int) := if (l0.length : Int) = (wrap64 (a2 + a3)) then (stripe_look.j0 k l0 l1 a4 ((l1.length : Int) != (wrap64 (a2 + a3)))) else (stripe_look.j0 k l0 l1 a4 true)
theorem stripe_look.mono_l : ∀ k, (∀ y0 y1 y2 y3, LeO (stripe_look.j0 k y0 y1 y2 y3) (stripe_look.j0 (k + 1) y0 y1 y2 y3)) ∧ (∀ y0 y1 y2 y3 y4 y5, LeO (stripe_look.l0 k y0 y1 y2 y3 y4 y5) (stripe_look.l0 (k + 1) y0 y1 y2 y3 y4 y5)) ∧ (∀ y0 y1 y2 y3 y4 y5, LeO (stripe_look.l1 k y0 y1 y2 y3 y4 y5) (stripe_look.l1 (k + 1) y0 y1 y2 y3 y4 y5))
  | 0 => ⟨fun _ _ _ _ r h => by simp [stripe_look.j0] at h, fun _ _ _ _ _ _ r h => by simp [stripe_look.l0] at h, fun _ _ _ _ _ _ r h => by simp [stripe_look.l1] at h⟩
  | k + 1 => by
    obtain ⟨ih0, ih1, ih2⟩ := stripe_look.mono_l k
    refine ⟨?_, ?_, ?_⟩
    · intro y0 y1 y2 y3
      unfold stripe_look.j0
      repeat' first
      | (with_reducible exact ih0 _ _ _ _)
      | (with_reducible exact ih1 _ _ _ _ _ _)
      | (with_reducible exact ih2 _ _ _ _ _ _)
      | (with_reducible exact LeO.refl _)
      | (with_reducible exact LeO.none _)
      | (with_reducible refine LeO.ite ?_ ?_)
      | (with_reducible refine LeO.bind ?_ (fun _ => ?_))
      | exact ih0 _ _ _ _
      | exact ih1 _ _ _ _ _ _
      | exact ih2 _ _ _ _ _ _
      | exact LeO.none _
      | refine LeO.ite ?_ ?_
      | refine LeO.bind ?_ (fun _ => ?_)
    · intro y0 y1 y2 y3 y4 y5
      unfold stripe_look.l0
      repeat' first
      | (with_reducible exact ih0 _ _ _ _)
      | (with_reducible exact ih1 _ _ _ _ _ _)
      | (with_reducible exact ih2 _ _ _ _ _ _)
      | (with_reducible exact LeO.refl _)
      | (with_reducible exact LeO.none _)
      | (with_reducible refine LeO.ite ?_ ?_)
      | (with_reducible refine LeO.bind ?_ (fun _ => ?_))
      | exact ih0 _ _ _ _
      | exact ih1 _ _ _ _ _ _
      | exact ih2 _ _ _ _ _ _
      | exact LeO.none _
      | refine LeO.ite ?_ ?_
      | refine LeO.bind ?_ (fun _ => ?_)
    · intro y0 y1 y2 y3 y4 y5
      unfold stripe_look.l1
      repeat' first
      | (with_reducible exact ih0 _ _ _ _)
      | (with_reducible exact ih1 _ _ _ _ _ _)
      | (with_reducible exact ih2 _ _ _ _ _ _)
      | (with_reducible exact LeO.refl _)
      | (with_reducible exact LeO.none _)
      | (with_reducible refine LeO.ite ?_ ?_)
      | (with_reducible refine LeO.bind ?_ (fun _ => ?_))
      | exact ih0 _ _ _ _
      | exact ih1 _ _ _ _ _ _
      | exact ih2 _ _ _ _ _ _
      | exact LeO.none _
      | refine LeO.ite ?_ ?_
      | refine LeO.bind ?_ (fun _ => ?_)
theorem stripe_look.mono : ∀ a0 a1 a2 a3 a4 k, LeO (stripe_look.f k a0 a1 a2 a3 a4) (stripe_look.f (k + 1) a0 a1 a2 a3 a4) := by
  intro a0 a1 a2 a3 a4 k
  obtain ⟨ih0, ih1, ih2⟩ := stripe_look.mono_l k
  unfold stripe_look.f
  repeat' first
      | (with_reducible exact ih0 _ _ _ _)
      | (with_reducible exact ih1 _ _ _ _ _ _)
      | (with_reducible exact ih2 _ _ _ _ _ _)
      | (with_reducible exact LeO.refl _)
      | (with_reducible exact LeO.none _)
      | (with_reducible refine LeO.ite ?_ ?_)
      | (with_reducible refine LeO.bind ?_ (fun _ => ?_))
      | exact ih0 _ _ _ _
      | exact ih1 _ _ _ _ _ _
      | exact ih2 _ _ _ _ _ _
      | exact LeO.none _
      | refine LeO.ite ?_ ?_
      | refine LeO.bind ?_ (fun _ => ?_)
set_option maxHeartbeats 8000000 in
set_option maxRecDepth 100000 in
theorem stripe_look.calls (k : Nat) (A0 : Option Addr) (c0 : Nat) (l0 : List (List Int)) (A1 : Option Addr) (c1 : Nat) (l1 : List Bool) (a2 : Int) (a3 : Int) (a4 : Int) (r1 : Int) (r2 : Int) (w : World) (hr0 : Kd.C (Kd.slice 5 (Kd.int .u8)) w A0 l0.length l0) (hc0 : l0.length ≤ c0) (hr1 : Kd.C Kd.bool w A1 l1.length l1) (hc1 : l1.length ≤ c1) (h : stripe_look.f k l0 l1 a2 a3 a4 = some (r1, r2)) :
    Calls Try.prog 81 #[.slice A0 l0.length c0, .slice A1 l1.length c1, .int .i64 a2, .int .i64 a3, .int .i64 a4] w fun e w' => e = .returned (.tuple #[.int .i64 r1, .int .i64 r2]) ∧ Drawn0 w w' := by
  have HR0 := Aside0.mk hr0
  have HC0 := Aside0.mk hc0
  clear hr0 hc0
  have HR1 := Aside0.mk hr1
  have HC1 := Aside0.mk hc1
  clear hr1 hc1
  have H : (if (l0.length : Int) = (wrap64 (a2 + a3)) then (stripe_look.j0 k l0 l1 a4 ((l1.length : Int) != (wrap64 (a2 + a3)))) else (stripe_look.j0 k l0 l1 a4 true)) = some (r1, r2) := h
  clear h
  have HC6 := Aside0.mk H
  clear H
  go_enter Try.func81, Try.ntmps81
  go_upto_region 1 with (fail)
  go_cut [31] (fun v31 wc => ∃ (kq : Nat) (x31_5 : Bool), v31 = .bool x31_5 ∧ Aside0 (stripe_look.j0 kq l0 l1 a4 x31_5 = some (r1, r2)) ∧ Aside0 (kq ≤ k) ∧ Drawn0 w wc)
  case first =>
    have H := HC6.out
    clear HC6
    by_cases c7 : (l0.length : Int) = (wrap64 (a2 + a3))
    · rw [if_pos c7] at H
      have c7b0 : ((l0.length : Int) == (wrap64 (a2 + a3))) = true := beq_iff_eq.mpr c7
      have c7b1 : ((l0.length : Int) != (wrap64 (a2 + a3))) = false := bne_eq_false_iff_eq.mpr c7
      clear c7
      (first | rw [c7b0] | (simp only [i64_w, i32_w]; rw [c7b0]) | skip)
      have H' := Aside0.mk H
      clear H
      go_wp2
      go_meet
      case rel => exact ⟨_, (((l1.length : Int) != (wrap64 (a2 + a3)))), (by first | rfl | (simp; done) | (simp [*]; done)), H', ⟨by first | omega | exact Nat.le_refl _⟩, by repeat (first | exact Drawn0.refl _ | apply Drawn0.step)⟩
    · rw [if_neg c7] at H
      have c7b0 : ((l0.length : Int) == (wrap64 (a2 + a3))) = false := beq_eq_false_iff_ne.mpr c7
      have c7b1 : ((l0.length : Int) != (wrap64 (a2 + a3))) = true := bne_iff_ne.mpr c7
      (first | rw [c7b0] | (simp only [i64_w, i32_w]; rw [c7b0]) | skip)
      have H' := Aside0.mk H
      clear H
      go_wp2
      go_meet
      case rel => exact ⟨_, (true), (by first | rfl | (simp; done) | (simp [*]; done)), H', ⟨by first | omega | exact Nat.le_refl _⟩, by repeat (first | exact Drawn0.refl _ | apply Drawn0.step)⟩
  case rest =>
    clear HC6
    try clear c1
    try clear p2
    try clear p6
    try clear c7
    try clear c7b0
    try clear c7b1
    obtain ⟨kq, x31_5, rfl, HA, HJ5, ⟨mc5, rfl⟩⟩ := hcut
    cases kq with
    | zero => exact absurd HA.out (by simp [stripe_look.j0])
    | succ kj5 =>
      have H := HA.out
      clear HA
      simp only [stripe_look.j0] at H
      by_cases c8 : x31_5 = true
      · subst c8
        have H1 : (some (0, 2)) = some (r1, r2) := by rw [if_pos rfl] at H; exact H
        clear H
        have H := H1
        clear H1
        simp only [Option.some.injEq, Prod.mk.injEq] at H
        obtain ⟨rfl, rfl⟩ := H
        go_wp2
        go_ret2
        exact ⟨by first | rfl | (simp; done) | (simp [*]; done), by repeat (first | exact Drawn0.refl _ | apply Drawn0.step)⟩
      · replace c8 := Bool.eq_false_iff.mpr c8
        subst c8
        have H1 : (stripe_look.l0 kj5 l0 l1 a4 l0 (l0.length : Int) 0) = some (r1, r2) := by rw [if_neg (show ¬ (false = true) by decide)] at H; exact H
        clear H
        have H := H1
        clear H1
        have H' := Aside0.mk H
        clear H
        go_wp2
        go_loopg [34] kj5 (fun kq v34 w' => ∃ (x34_2 : Int), v34 = .int .i64 x34_2 ∧ Aside0 (stripe_look.l0 kq l0 l1 a4 l0 (l0.length : Int) x34_2 = some (r1, r2)) ∧ Aside0 (kq ≤ kj5) ∧ Drawn0 w w')
        case atStart => exact ⟨(0), (by first | rfl | (simp; done) | (simp [*]; done)), H', ⟨Nat.le_refl _⟩, by repeat (first | exact Drawn0.refl _ | apply Drawn0.step)⟩
        case round =>
          clear H'
          try clear c1
          try clear p2
          try clear c5
          try clear p6
          try clear c7
          try clear c7b0
          try clear c7b1
          try clear c8
          try clear p2
          try clear p6
          obtain ⟨x34_2, rfl, HA, HK2, ⟨m2, rfl⟩⟩ := hrel
          cases gk with
          | zero => exact absurd HA.out (by simp [stripe_look.l0])
          | succ k2 =>
            have H := HA.out
            clear HA
            simp only [stripe_look.l0] at H
            by_cases c9 : x34_2 < (l0.length : Int)
            · rw [if_pos c9] at H
              have c9b0 : decide (x34_2 < (l0.length : Int)) = true := decide_eq_true c9
              clear c9
              by_cases c10 : 0 ≤ x34_2
              · rw [if_pos c10] at H
                have c10b0 : decide (0 ≤ x34_2) = true := decide_eq_true c10
                clear c10
                by_cases c11 : x34_2 < (l0.length : Int)
                · rw [if_pos c11] at H
                  have c11b0 : decide (x34_2 < (l0.length : Int)) = true := decide_eq_true c11
                  clear c11
                  by_cases c12 : x34_2 < (l1.length : Int)
                  · rw [if_pos c12] at H
                    have c12b0 : decide (x34_2 < (l1.length : Int)) = true := decide_eq_true c12
                    clear c12
                    obtain ⟨bq13, hbq13⟩ : ∃ b_ : Bool, b_ = (rdOf false l1 x34_2) := ⟨_, rfl⟩
                    replace H : (if bq13 = true then (if ((rd_L1 l0 x34_2).length : Int) > 65536 then (some (0, 3)) else (stripe_look.l0 k2 l0 l1 a4 l0 (l0.length : Int) (wrap64 (x34_2 + 1)))) else (stripe_look.l0 k2 l0 l1 a4 l0 (l0.length : Int) (wrap64 (x34_2 + 1)))) = some (r1, r2) := by rw [← hbq13] at H; exact H
                    have Nbq13 := Aside0.mk hbq13
                    clear hbq13
                    by_cases c14 : bq13 = true
                    · subst c14
                      have H1 : (if ((rd_L1 l0 x34_2).length : Int) > 65536 then (some (0, 3)) else (stripe_look.l0 k2 l0 l1 a4 l0 (l0.length : Int) (wrap64 (x34_2 + 1)))) = some (r1, r2) := by rw [if_pos rfl] at H; exact H
                      clear H
                      have H := H1
                      clear H1
                      by_cases c15 : ((rd_L1 l0 x34_2).length : Int) > 65536
                      · rw [if_pos c15] at H
                        have c15b0 : decide (65536 < ((rd_L1 l0 x34_2).length : Int)) = true := decide_eq_true c15
                        have c15b1 : decide (65536 < (rd_L1 l0 x34_2).length) = true := decide_eq_true (by omega)
                        clear c15
                        simp only [Option.some.injEq, Prod.mk.injEq] at H
                        obtain ⟨rfl, rfl⟩ := H
                        have p332 : 0 ≤ (x34_2 : Int) := of_decide_eq_true (by first | (with_reducible assumption) | assumption)
                        have q332 : x34_2 < (l0.length : Int) := of_decide_eq_true (by first | (with_reducible assumption) | assumption)
                        obtain ⟨ad332, A332_0, c332_0, e332, hx332_0, hl332_0, hi332_0⟩ := at_L1 HR0.out x34_2 p332 q332
                        cases e332
                        have HR332_0 := Aside0.mk hi332_0
                        have HC332_0 := Aside0.mk hl332_0
                        clear hi332_0 hl332_0
                        replace p332 := eq_true p332
                        replace q332 := eq_true q332
                        have p333 : 0 ≤ (x34_2 : Int) := of_decide_eq_true (by first | (with_reducible assumption) | assumption)
                        have q333 : x34_2 < (l1.length : Int) := of_decide_eq_true (by first | (with_reducible assumption) | assumption)
                        obtain ⟨ad333, e333, hx333_0⟩ := Kd.at_bool HR1.out x34_2 p333 q333
                        (try rw [← Nbq13.out] at hx333_0)
                        cases e333
                        replace p333 := eq_true p333
                        replace q333 := eq_true q333
                        go_wp2
                        go_ret2
                        exact ⟨by first | rfl | (simp; done) | (simp [*]; done), by repeat (first | exact Drawn0.refl _ | apply Drawn0.step)⟩
                      · rw [if_neg c15] at H
                        have c15b0 : decide (65536 < ((rd_L1 l0 x34_2).length : Int)) = false := decide_eq_false c15
                        have c15b1 : decide (65536 < (rd_L1 l0 x34_2).length) = false := decide_eq_false (by omega)
                        clear c15
                        have H' := Aside0.mk H
                        clear H
                        have p332 : 0 ≤ (x34_2 : Int) := of_decide_eq_true (by first | (with_reducible assumption) | assumption)
                        have q332 : x34_2 < (l0.length : Int) := of_decide_eq_true (by first | (with_reducible assumption) | assumption)
                        obtain ⟨ad332, A332_0, c332_0, e332, hx332_0, hl332_0, hi332_0⟩ := at_L1 HR0.out x34_2 p332 q332
                        cases e332
                        have HR332_0 := Aside0.mk hi332_0
                        have HC332_0 := Aside0.mk hl332_0
                        clear hi332_0 hl332_0
                        replace p332 := eq_true p332
                        replace q332 := eq_true q332
                        have p333 : 0 ≤ (x34_2 : Int) := of_decide_eq_true (by first | (with_reducible assumption) | assumption)
                        have q333 : x34_2 < (l1.length : Int) := of_decide_eq_true (by first | (with_reducible assumption) | assumption)
                        obtain ⟨ad333, e333, hx333_0⟩ := Kd.at_bool HR1.out x34_2 p333 q333
                        (try rw [← Nbq13.out] at hx333_0)
                        cases e333
                        replace p333 := eq_true p333
                        replace q333 := eq_true q333
                        go_wp2
                        go_roundg k2
                        case measure => have := HJ5.out; have := HK2.out; omega
                        case rel => exact ⟨(wrap64 (x34_2 + 1)), (by first | rfl | (simp; done) | (simp [*]; done)), H', ⟨by have := HJ5.out; have := HK2.out; omega⟩, by repeat (first | exact Drawn0.refl _ | apply Drawn0.step)⟩
                    · replace c14 := Bool.eq_false_iff.mpr c14
                      subst c14
                      have H1 : (stripe_look.l0 k2 l0 l1 a4 l0 (l0.length : Int) (wrap64 (x34_2 + 1))) = some (r1, r2) := by rw [if_neg (show ¬ (false = true) by decide)] at H; exact H
                      clear H
                      have H := H1
                      clear H1
                      have H' := Aside0.mk H
                      clear H
                      have p332 : 0 ≤ (x34_2 : Int) := of_decide_eq_true (by first | (with_reducible assumption) | assumption)
                      have q332 : x34_2 < (l0.length : Int) := of_decide_eq_true (by first | (with_reducible assumption) | assumption)
                      obtain ⟨ad332, A332_0, c332_0, e332, hx332_0, hl332_0, hi332_0⟩ := at_L1 HR0.out x34_2 p332 q332
                      cases e332
                      have HR332_0 := Aside0.mk hi332_0
                      have HC332_0 := Aside0.mk hl332_0
                      clear hi332_0 hl332_0
                      replace p332 := eq_true p332
                      replace q332 := eq_true q332
                      have p333 : 0 ≤ (x34_2 : Int) := of_decide_eq_true (by first | (with_reducible assumption) | assumption)
                      have q333 : x34_2 < (l1.length : Int) := of_decide_eq_true (by first | (with_reducible assumption) | assumption)
                      obtain ⟨ad333, e333, hx333_0⟩ := Kd.at_bool HR1.out x34_2 p333 q333
                      (try rw [← Nbq13.out] at hx333_0)
                      cases e333
                      replace p333 := eq_true p333
                      replace q333 := eq_true q333
                      go_wp2
                      go_roundg k2
                      case measure => have := HJ5.out; have := HK2.out; omega
                      case rel => exact ⟨(wrap64 (x34_2 + 1)), (by first | rfl | (simp; done) | (simp [*]; done)), H', ⟨by have := HJ5.out; have := HK2.out; omega⟩, by repeat (first | exact Drawn0.refl _ | apply Drawn0.step)⟩
                  · rw [if_neg c12] at H
                    exact absurd H (by simp)
                · rw [if_neg c11] at H
                  exact absurd H (by simp)
              · rw [if_neg c10] at H
                exact absurd H (by simp)
            · rw [if_neg c9] at H
              have c9b0 : decide (x34_2 < (l0.length : Int)) = false := decide_eq_false c9
              clear c9
              have H' := Aside0.mk H
              clear H
              go_wp2
              go_loopg [14, 15, 54] k2 (fun kq v14 v15 v54 w' => ∃ (x14_3 : Int) (x15_3 : Bool) (x54_3 : Int), v14 = .int .i64 x14_3 ∧ v15 = .bool x15_3 ∧ v54 = .int .i64 x54_3 ∧ Aside0 (stripe_look.l1 kq l1 x14_3 x15_3 l0 (l0.length : Int) x54_3 = some (r1, r2)) ∧ Aside0 (kq ≤ k2) ∧ Drawn0 w w')
              case atStart => exact ⟨(a4), (decide (a4 ≥ 0)), (0), (by first | rfl | (simp; done) | (simp [*]; done)), (by first | rfl | (simp; done) | (simp [*]; done)), (by first | rfl | (simp; done) | (simp [*]; done)), H', ⟨Nat.le_refl _⟩, by repeat (first | exact Drawn0.refl _ | apply Drawn0.step)⟩
              case round =>
                clear H'
                try clear c1
                try clear q1
                try clear p2
                try clear c3
                try clear p3
                try clear q3
                try clear hx3
                try clear c5
                try clear p6
                try clear c7
                try clear c7b0
                try clear c7b1
                try clear c8
                try clear c9
                try clear c9b0
                try clear c10
                try clear c10b0
                try clear c11
                try clear c11b0
                try clear c12
                try clear c12b0
                try clear q13
                try clear c14
                try clear c15
                try clear c15b0
                try clear c15b1
                try clear hx332_0
                try clear hx333_0
                try clear p2
                try clear p332
                try clear p333
                try clear p6
                try clear q332
                try clear q333
                obtain ⟨x14_3, x15_3, x54_3, rfl, rfl, rfl, HA, HK3, ⟨m3, rfl⟩⟩ := hrel
                cases gk with
                | zero => exact absurd HA.out (by simp [stripe_look.l1])
                | succ k3 =>
                  have H := HA.out
                  clear HA
                  simp only [stripe_look.l1] at H
                  by_cases c16 : x54_3 < (l0.length : Int)
                  · rw [if_pos c16] at H
                    have c16b0 : decide (x54_3 < (l0.length : Int)) = true := decide_eq_true c16
                    clear c16
                    by_cases c17 : 0 ≤ x54_3
                    · rw [if_pos c17] at H
                      have c17b0 : decide (0 ≤ x54_3) = true := decide_eq_true c17
                      clear c17
                      by_cases c18 : x54_3 < (l0.length : Int)
                      · rw [if_pos c18] at H
                        have c18b0 : decide (x54_3 < (l0.length : Int)) = true := decide_eq_true c18
                        clear c18
                        by_cases c19 : x54_3 < (l1.length : Int)
                        · rw [if_pos c19] at H
                          have c19b0 : decide (x54_3 < (l1.length : Int)) = true := decide_eq_true c19
                          clear c19
                          obtain ⟨bq20, hbq20⟩ : ∃ b_ : Bool, b_ = (rdOf false l1 x54_3) := ⟨_, rfl⟩
                          replace H : (if bq20 = true then (if x15_3 = true then (if ((rd_L1 l0 x54_3).length : Int) = x14_3 then (stripe_look.l1 k3 l1 x14_3 x15_3 l0 (l0.length : Int) (wrap64 (x54_3 + 1))) else (some (0, 2))) else (stripe_look.l1 k3 l1 ((rd_L1 l0 x54_3).length : Int) true l0 (l0.length : Int) (wrap64 (x54_3 + 1)))) else (stripe_look.l1 k3 l1 x14_3 x15_3 l0 (l0.length : Int) (wrap64 (x54_3 + 1)))) = some (r1, r2) := by rw [← hbq20] at H; exact H
                          have Nbq20 := Aside0.mk hbq20
                          clear hbq20
                          by_cases c21 : bq20 = true
                          · subst c21
                            have H1 : (if x15_3 = true then (if ((rd_L1 l0 x54_3).length : Int) = x14_3 then (stripe_look.l1 k3 l1 x14_3 x15_3 l0 (l0.length : Int) (wrap64 (x54_3 + 1))) else (some (0, 2))) else (stripe_look.l1 k3 l1 ((rd_L1 l0 x54_3).length : Int) true l0 (l0.length : Int) (wrap64 (x54_3 + 1)))) = some (r1, r2) := by rw [if_pos rfl] at H; exact H
                            clear H
                            have H := H1
                            clear H1
                            by_cases c22 : x15_3 = true
                            · subst c22
                              have H1 : (if ((rd_L1 l0 x54_3).length : Int) = x14_3 then (stripe_look.l1 k3 l1 x14_3 true l0 (l0.length : Int) (wrap64 (x54_3 + 1))) else (some (0, 2))) = some (r1, r2) := by rw [if_pos rfl] at H; exact H
                              clear H
                              have H := H1
                              clear H1
                              by_cases c23 : ((rd_L1 l0 x54_3).length : Int) = x14_3
                              · rw [if_pos c23] at H
                                have c23b0 : (((rd_L1 l0 x54_3).length : Int) == x14_3) = true := beq_iff_eq.mpr c23
                                have c23b1 : (((rd_L1 l0 x54_3).length : Int) != x14_3) = false := bne_eq_false_iff_eq.mpr c23
                                clear c23
                                have H' := Aside0.mk H
                                clear H
                                have p334 : 0 ≤ (x54_3 : Int) := of_decide_eq_true (by first | (with_reducible assumption) | assumption)
                                have q334 : x54_3 < (l0.length : Int) := of_decide_eq_true (by first | (with_reducible assumption) | assumption)
                                obtain ⟨ad334, A334_0, c334_0, e334, hx334_0, hl334_0, hi334_0⟩ := at_L1 HR0.out x54_3 p334 q334
                                cases e334
                                have HR334_0 := Aside0.mk hi334_0
                                have HC334_0 := Aside0.mk hl334_0
                                clear hi334_0 hl334_0
                                replace p334 := eq_true p334
                                replace q334 := eq_true q334
                                have p335 : 0 ≤ (x54_3 : Int) := of_decide_eq_true (by first | (with_reducible assumption) | assumption)
                                have q335 : x54_3 < (l1.length : Int) := of_decide_eq_true (by first | (with_reducible assumption) | assumption)
                                obtain ⟨ad335, e335, hx335_0⟩ := Kd.at_bool HR1.out x54_3 p335 q335
                                (try rw [← Nbq20.out] at hx335_0)
                                cases e335
                                replace p335 := eq_true p335
                                replace q335 := eq_true q335
                                go_wp2
                                go_roundg k3
                                case measure => have := HJ5.out; have := HK2.out; have := HK3.out; omega
                                case rel => exact ⟨(x14_3), (true), (wrap64 (x54_3 + 1)), (by first | rfl | (simp; done) | (simp [*]; done)), (by first | rfl | (simp; done) | (simp [*]; done)), (by first | rfl | (simp; done) | (simp [*]; done)), H', ⟨by have := HJ5.out; have := HK2.out; have := HK3.out; omega⟩, by repeat (first | exact Drawn0.refl _ | apply Drawn0.step)⟩
                              · rw [if_neg c23] at H
                                have c23b0 : (((rd_L1 l0 x54_3).length : Int) == x14_3) = false := beq_eq_false_iff_ne.mpr c23
                                have c23b1 : (((rd_L1 l0 x54_3).length : Int) != x14_3) = true := bne_iff_ne.mpr c23
                                simp only [Option.some.injEq, Prod.mk.injEq] at H
                                obtain ⟨rfl, rfl⟩ := H
                                have p334 : 0 ≤ (x54_3 : Int) := of_decide_eq_true (by first | (with_reducible assumption) | assumption)
                                have q334 : x54_3 < (l0.length : Int) := of_decide_eq_true (by first | (with_reducible assumption) | assumption)
                                obtain ⟨ad334, A334_0, c334_0, e334, hx334_0, hl334_0, hi334_0⟩ := at_L1 HR0.out x54_3 p334 q334
                                cases e334
                                have HR334_0 := Aside0.mk hi334_0
                                have HC334_0 := Aside0.mk hl334_0
                                clear hi334_0 hl334_0
                                replace p334 := eq_true p334
                                replace q334 := eq_true q334
                                have p335 : 0 ≤ (x54_3 : Int) := of_decide_eq_true (by first | (with_reducible assumption) | assumption)
                                have q335 : x54_3 < (l1.length : Int) := of_decide_eq_true (by first | (with_reducible assumption) | assumption)
                                obtain ⟨ad335, e335, hx335_0⟩ := Kd.at_bool HR1.out x54_3 p335 q335
                                (try rw [← Nbq20.out] at hx335_0)
                                cases e335
                                replace p335 := eq_true p335
                                replace q335 := eq_true q335
                                go_wp2
                                go_ret2
                                exact ⟨by first | rfl | (simp; done) | (simp [*]; done), by repeat (first | exact Drawn0.refl _ | apply Drawn0.step)⟩
                            · replace c22 := Bool.eq_false_iff.mpr c22
                              subst c22
                              have H1 : (stripe_look.l1 k3 l1 ((rd_L1 l0 x54_3).length : Int) true l0 (l0.length : Int) (wrap64 (x54_3 + 1))) = some (r1, r2) := by rw [if_neg (show ¬ (false = true) by decide)] at H; exact H
                              clear H
                              have H := H1
                              clear H1
                              have H' := Aside0.mk H
                              clear H
                              have p334 : 0 ≤ (x54_3 : Int) := of_decide_eq_true (by first | (with_reducible assumption) | assumption)
                              have q334 : x54_3 < (l0.length : Int) := of_decide_eq_true (by first | (with_reducible assumption) | assumption)
                              obtain ⟨ad334, A334_0, c334_0, e334, hx334_0, hl334_0, hi334_0⟩ := at_L1 HR0.out x54_3 p334 q334
                              cases e334
                              have HR334_0 := Aside0.mk hi334_0
                              have HC334_0 := Aside0.mk hl334_0
                              clear hi334_0 hl334_0
                              replace p334 := eq_true p334
                              replace q334 := eq_true q334
                              have p335 : 0 ≤ (x54_3 : Int) := of_decide_eq_true (by first | (with_reducible assumption) | assumption)
                              have q335 : x54_3 < (l1.length : Int) := of_decide_eq_true (by first | (with_reducible assumption) | assumption)
                              obtain ⟨ad335, e335, hx335_0⟩ := Kd.at_bool HR1.out x54_3 p335 q335
                              (try rw [← Nbq20.out] at hx335_0)
                              cases e335
                              replace p335 := eq_true p335
                              replace q335 := eq_true q335
                              go_wp2
                              go_roundg k3
                              case measure => have := HJ5.out; have := HK2.out; have := HK3.out; omega
                              case rel => exact ⟨(((rd_L1 l0 x54_3).length : Int)), (true), (wrap64 (x54_3 + 1)), (by first | rfl | (simp; done) | (simp [*]; done)), (by first | rfl | (simp; done) | (simp [*]; done)), (by first | rfl | (simp; done) | (simp [*]; done)), H', ⟨by have := HJ5.out; have := HK2.out; have := HK3.out; omega⟩, by repeat (first | exact Drawn0.refl _ | apply Drawn0.step)⟩
                          · replace c21 := Bool.eq_false_iff.mpr c21
                            subst c21
                            have H1 : (stripe_look.l1 k3 l1 x14_3 x15_3 l0 (l0.length : Int) (wrap64 (x54_3 + 1))) = some (r1, r2) := by rw [if_neg (show ¬ (false = true) by decide)] at H; exact H
                            clear H
                            have H := H1
                            clear H1
                            have H' := Aside0.mk H
                            clear H
                            have p334 : 0 ≤ (x54_3 : Int) := of_decide_eq_true (by first | (with_reducible assumption) | assumption)
                            have q334 : x54_3 < (l0.length : Int) := of_decide_eq_true (by first | (with_reducible assumption) | assumption)
                            obtain ⟨ad334, A334_0, c334_0, e334, hx334_0, hl334_0, hi334_0⟩ := at_L1 HR0.out x54_3 p334 q334
                            cases e334
                            have HR334_0 := Aside0.mk hi334_0
                            have HC334_0 := Aside0.mk hl334_0
                            clear hi334_0 hl334_0
                            replace p334 := eq_true p334
                            replace q334 := eq_true q334
                            have p335 : 0 ≤ (x54_3 : Int) := of_decide_eq_true (by first | (with_reducible assumption) | assumption)
                            have q335 : x54_3 < (l1.length : Int) := of_decide_eq_true (by first | (with_reducible assumption) | assumption)
                            obtain ⟨ad335, e335, hx335_0⟩ := Kd.at_bool HR1.out x54_3 p335 q335
                            (try rw [← Nbq20.out] at hx335_0)
                            cases e335
                            replace p335 := eq_true p335
                            replace q335 := eq_true q335
                            go_wp2
                            go_roundg k3
                            case measure => have := HJ5.out; have := HK2.out; have := HK3.out; omega
                            case rel => exact ⟨(x14_3), (x15_3), (wrap64 (x54_3 + 1)), (by first | rfl | (simp; done) | (simp [*]; done)), (by first | rfl | (simp; done) | (simp [*]; done)), (by first | rfl | (simp; done) | (simp [*]; done)), H', ⟨by have := HJ5.out; have := HK2.out; have := HK3.out; omega⟩, by repeat (first | exact Drawn0.refl _ | apply Drawn0.step)⟩
                        · rw [if_neg c19] at H
                          exact absurd H (by simp)
                      · rw [if_neg c18] at H
                        exact absurd H (by simp)
                    · rw [if_neg c17] at H
                      exact absurd H (by simp)
                  · rw [if_neg c16] at H
                    have c16b0 : decide (x54_3 < (l0.length : Int)) = false := decide_eq_false c16
                    clear c16
                    simp only [Option.some.injEq, Prod.mk.injEq] at H
                    obtain ⟨rfl, rfl⟩ := H
                    go_wp2
                    go_ret2
                    exact ⟨by first | rfl | (simp; done) | (simp [*]; done), by repeat (first | exact Drawn0.refl _ | apply Drawn0.step)⟩

end Go.Proofs.Ythmlimkmcofkfaa.B

/- Contracts of functions of the program, written by a program of this session. -/
namespace Go.Proofs.Ythmlimkmcofkfaa.B
open Go.RowKit Go.Proofs.YthmlimkmcofkfaaW.PrintWords Go.Proofs.YthmlimkmcofkfaaW.PrintLast Go.Proofs.YthmlimkmcofkfaaW.PrintMore
attribute [local go_sem] max2_int min2_int max_two min_two max_three min_three max_four min_four   -- for this text's walks alone
set_option linter.unusedVariables false
set_option linter.unusedSimpArgs false

/-! ### stowagelaw03_three: function 80 -/
def stowagelaw03_three.f  : Option ((List (List Int))) := some (([(([1, 2] : List Int)), (([3, 0] : List Int)), (([143, 1] : List Int))] : List (List Int)))
set_option maxHeartbeats 8000000 in
set_option maxRecDepth 100000 in
theorem stowagelaw03_three.calls  (r : List (List Int)) (w : World) (h : stowagelaw03_three.f  = some r) :
    Calls Try.prog 80 #[] w fun e w' => ∃ v0_ : Value, e = .returned (v0_) ∧ Kd.N (Kd.slice 5 (Kd.int .u8)) 41 w' w.heap.size (fun k_ => (w.heap.size ≤ k_)) v0_ r ∧ Below w.heap.size w w' := by
  have HB := Aside0.mk (Below.refl w.heap.size w)
  have H : (some (([(([1, 2] : List Int)), (([3, 0] : List Int)), (([143, 1] : List Int))] : List (List Int)))) = some r := h
  clear h
  obtain ⟨y341, hy341⟩ : ∃ y_ : List Int, y_ = (([1, 2] : List Int)) := ⟨_, rfl⟩
  replace H : (some (([y341, (([3, 0] : List Int)), (([143, 1] : List Int))] : List (List Int)))) = some r := by first | (rw [hy341]; with_reducible exact H) | (have H2_ := (Option.bind_some _ _).symm.trans H; rw [hy341]; with_reducible exact H2_) | (have H2_ := (Option.bind_some _ _).symm.trans H; with_reducible exact H2_) | with_reducible exact H | (rw [hy341]; exact H) | exact H
  have Ny341 := Aside0.mk hy341
  clear hy341
  obtain ⟨y344, hy344⟩ : ∃ y_ : List Int, y_ = (([3, 0] : List Int)) := ⟨_, rfl⟩
  replace H : (some (([y341, y344, (([143, 1] : List Int))] : List (List Int)))) = some r := by first | (rw [hy344]; with_reducible exact H) | (have H2_ := (Option.bind_some _ _).symm.trans H; rw [hy344]; with_reducible exact H2_) | (have H2_ := (Option.bind_some _ _).symm.trans H; with_reducible exact H2_) | with_reducible exact H | (rw [hy344]; exact H) | exact H
  have Ny344 := Aside0.mk hy344
  clear hy344
  obtain ⟨y347, hy347⟩ : ∃ y_ : List Int, y_ = (([143, 1] : List Int)) := ⟨_, rfl⟩
  replace H : (some (([y341, y344, y347] : List (List Int)))) = some r := by first | (rw [hy347]; with_reducible exact H) | (have H2_ := (Option.bind_some _ _).symm.trans H; rw [hy347]; with_reducible exact H2_) | (have H2_ := (Option.bind_some _ _).symm.trans H; with_reducible exact H2_) | with_reducible exact H | (rw [hy347]; exact H) | exact H
  have Ny347 := Aside0.mk hy347
  clear hy347
  obtain ⟨y350, hy350⟩ : ∃ y_ : List (List Int), y_ = (([y341, y344, y347] : List (List Int))) := ⟨_, rfl⟩
  replace H : (some y350) = some r := by first | (rw [hy350]; with_reducible exact H) | (have H2_ := (Option.bind_some _ _).symm.trans H; rw [hy350]; with_reducible exact H2_) | (have H2_ := (Option.bind_some _ _).symm.trans H; with_reducible exact H2_) | with_reducible exact H | (rw [hy350]; exact H) | exact H
  have Ny350 := Aside0.mk hy350
  clear hy350
  obtain rfl := Option.some.inj H
  go_enter Try.func80, Try.ntmps80
  go_wp2_with (first | ((with_reducible refine gate_dst (N := 1) rfl ?_); refine Kd.R_lit (Kd.int .u8) _ 5 ?hg (N := 1) ?hd (xs := ([1, 2] : List Int)) (inner := [.int .u8 1, .int .u8 2]) (ok := fun _ => True) (okp := fun _ => True) ?hr ?hp (fun _ hk => hk) trivial (Below.refl _ _) (Nat.le_refl _) (by simp) ?_; (case hd => rfl); (case hg => rfl); (case hr => first | (go_simp; done) | (go_simp; rfl)); (case hp => exact (Reps.one (show Kd.M (Kd.int .u8) _ _ _ 1 [.int .u8 1] from rfl) (Reps.one (show Kd.M (Kd.int .u8) _ _ _ 2 [.int .u8 2] from rfl) (Reps.none _ _)))); intro v342 w1 ho2 hb hg_ hnew_; clear hg_ hnew_; (first | rw [← Ny341.out] at ho2 | (simp only [Int.reduceToNat] at ho2; rw [← Ny341.out] at ho2)); have n0_ := Aside0.mk (Kd.R_lower (Kd.R_newM (M := fun k_ => (w.heap.size ≤ k_)) ho2 (below_size (by repeat (first | (with_reducible first | exact HB.out | apply below_alloc | apply pw_below_drewN | apply below_drew1) | exact HB.out))) (fun k_ h_ => h_)) (below_size (by repeat (first | (with_reducible first | exact HB.out | apply below_alloc | apply pw_below_drewN | apply below_drew1) | exact HB.out)))); have n1_ := Aside0.mk (below_step (by repeat (first | (with_reducible first | exact HB.out | apply below_alloc | apply pw_below_drewN | apply below_drew1) | exact HB.out)) hb); clear HB; have HO343 := n0_; have HB := n1_; clear n0_ n1_; clear hb ho2) | ((with_reducible refine gate_dst (N := 2) rfl ?_); refine Kd.R_lit (Kd.int .u8) _ 5 ?hg (N := 2) ?hd (xs := ([3, 0] : List Int)) (inner := [.int .u8 3, .int .u8 0]) (ok := fun _ => True) (okp := fun _ => True) ?hr ?hp (fun _ hk => hk) trivial (Below.refl _ _) (Nat.le_refl _) (by simp) ?_; (case hd => rfl); (case hg => rfl); (case hr => first | (go_simp; done) | (go_simp; rfl)); (case hp => exact (Reps.one (show Kd.M (Kd.int .u8) _ _ _ 3 [.int .u8 3] from rfl) (Reps.one (show Kd.M (Kd.int .u8) _ _ _ 0 [.int .u8 0] from rfl) (Reps.none _ _)))); intro v345 w3 ho4 hb hg_ hnew_; clear hg_ hnew_; (first | rw [← Ny344.out] at ho4 | (simp only [Int.reduceToNat] at ho4; rw [← Ny344.out] at ho4)); have n0_ := Aside0.mk (Kd.R_elder' (by (with_reducible repeat (first | apply Kd.R_alloc | apply Kd.R_drewN | apply Kd.R_drew)); exact HO343.out) (Kd.R_base ho4) hb); have n1_ := Aside0.mk (Kd.R_lower (Kd.R_new' (Kd.R_newM (M := fun k_ => (w.heap.size ≤ k_)) ho4 (below_size (by repeat (first | (with_reducible first | exact HB.out | apply below_alloc | apply pw_below_drewN | apply below_drew1) | exact HB.out))) (fun k_ h_ => h_)) (Kd.R_lt (by (with_reducible repeat (first | apply Kd.R_alloc | apply Kd.R_drewN | apply Kd.R_drew)); exact HO343.out))) (below_size (by repeat (first | (with_reducible first | exact HB.out | apply below_alloc | apply pw_below_drewN | apply below_drew1) | exact HB.out)))); have n2_ := Aside0.mk (below_step (by repeat (first | (with_reducible first | exact HB.out | apply below_alloc | apply pw_below_drewN | apply below_drew1) | exact HB.out)) hb); clear HO343; clear HB; have HO343 := n0_; have HO346 := n1_; have HB := n2_; clear n0_ n1_ n2_; clear hb ho4) | ((with_reducible refine gate_dst (N := 3) rfl ?_); refine Kd.R_lit (Kd.int .u8) _ 5 ?hg (N := 3) ?hd (xs := ([143, 1] : List Int)) (inner := [.int .u8 143, .int .u8 1]) (ok := fun _ => True) (okp := fun _ => True) ?hr ?hp (fun _ hk => hk) trivial (Below.refl _ _) (Nat.le_refl _) (by simp) ?_; (case hd => rfl); (case hg => rfl); (case hr => first | (go_simp; done) | (go_simp; rfl)); (case hp => exact (Reps.one (show Kd.M (Kd.int .u8) _ _ _ 143 [.int .u8 143] from rfl) (Reps.one (show Kd.M (Kd.int .u8) _ _ _ 1 [.int .u8 1] from rfl) (Reps.none _ _)))); intro v348 w5 ho6 hb hg_ hnew_; clear hg_ hnew_; (first | rw [← Ny347.out] at ho6 | (simp only [Int.reduceToNat] at ho6; rw [← Ny347.out] at ho6)); have n0_ := Aside0.mk (Kd.R_elder' (by (with_reducible repeat (first | apply Kd.R_alloc | apply Kd.R_drewN | apply Kd.R_drew)); exact HO343.out) (Kd.R_base ho6) hb); have n1_ := Aside0.mk (Kd.R_elder' (by (with_reducible repeat (first | apply Kd.R_alloc | apply Kd.R_drewN | apply Kd.R_drew)); exact HO346.out) (Kd.R_base ho6) hb); have n2_ := Aside0.mk (Kd.R_lower (Kd.R_new' (Kd.R_new' (Kd.R_newM (M := fun k_ => (w.heap.size ≤ k_)) ho6 (below_size (by repeat (first | (with_reducible first | exact HB.out | apply below_alloc | apply pw_below_drewN | apply below_drew1) | exact HB.out))) (fun k_ h_ => h_)) (Kd.R_lt (by (with_reducible repeat (first | apply Kd.R_alloc | apply Kd.R_drewN | apply Kd.R_drew)); exact HO343.out))) (Kd.R_lt (by (with_reducible repeat (first | apply Kd.R_alloc | apply Kd.R_drewN | apply Kd.R_drew)); exact HO346.out))) (below_size (by repeat (first | (with_reducible first | exact HB.out | apply below_alloc | apply pw_below_drewN | apply below_drew1) | exact HB.out)))); have n3_ := Aside0.mk (below_step (by repeat (first | (with_reducible first | exact HB.out | apply below_alloc | apply pw_below_drewN | apply below_drew1) | exact HB.out)) hb); clear HO343; clear HO346; clear HB; have HO343 := n0_; have HO346 := n1_; have HO349 := n2_; have HB := n3_; clear n0_ n1_ n2_ n3_; clear hb ho6; obtain ⟨Ao7, co7, eo7⟩ := Kd.R_slice HO343.out; subst eo7; obtain ⟨Ao8, co8, eo8⟩ := Kd.R_slice HO346.out; subst eo8; obtain ⟨Ao9, co9, eo9⟩ := Kd.R_slice HO349.out; subst eo9) | ((with_reducible refine gate_dst (N := 4) rfl ?_); refine Kd.N_lit (Kd.slice 5 (Kd.int .u8)) _ 41 ?hg (N' := 4) ?hd (xs := ([y341, y344, y347] : List (List Int))) (inner := [.slice Ao7 y341.length co7, .slice Ao8 y344.length co8, .slice Ao9 y347.length co9]) (ok := (fun k_ => (w.heap.size ≤ k_))) (okp := (fun k_ => (w.heap.size ≤ k_))) ?hr ?hp (fun _ hk => hk) ((show ∀ k_, w5.heap.size ≤ k_ → (fun k_ => (w.heap.size ≤ k_)) k_ from fun k_ hk => (Nat.le_trans (below_size (by repeat (first | (with_reducible first | exact HB.out | apply below_alloc | apply pw_below_drewN | apply below_drew1) | exact HB.out))) hk)) _ (Nat.le_refl _)) (Below.refl _ _) (Nat.le_refl _) (by simp) ?_; (case hd => rfl); (case hg => rfl); (case hr => first | (go_simp; done) | (go_simp; rfl)); (case hp => exact (Reps.one (show Kd.FK (Kd.slice 5 (Kd.int .u8)) _ _ y341 [.slice Ao7 y341.length co7] from (Kd.FK_slice_mk (Kd.R_reads' (Kd.R_mono (ok' := (fun k_ => (w.heap.size ≤ k_))) (HO343.out) (fun k_ hk => hk.1.1.1))).2.1 (Kd.R_F (Kd.R_mono (ok' := (fun k_ => (w.heap.size ≤ k_))) (HO343.out) (fun k_ hk => hk.1.1.1))))) (Reps.one (show Kd.FK (Kd.slice 5 (Kd.int .u8)) _ _ y344 [.slice Ao8 y344.length co8] from (Kd.FK_slice_mk (Kd.R_reads' (Kd.R_mono (ok' := (fun k_ => (w.heap.size ≤ k_))) (HO346.out) (fun k_ hk => hk.1.1.1))).2.1 (Kd.R_F (Kd.R_mono (ok' := (fun k_ => (w.heap.size ≤ k_))) (HO346.out) (fun k_ hk => hk.1.1.1))))) (Reps.one (show Kd.FK (Kd.slice 5 (Kd.int .u8)) _ _ y347 [.slice Ao9 y347.length co9] from (Kd.FK_slice_mk (Kd.R_reads' (Kd.R_mono (ok' := (fun k_ => (w.heap.size ≤ k_))) (HO349.out) (fun k_ hk => hk.1.1.1))).2.1 (Kd.R_F (Kd.R_mono (ok' := (fun k_ => (w.heap.size ≤ k_))) (HO349.out) (fun k_ hk => hk.1.1.1))))) (Reps.none _ _))))); intro v351 w10 ho11 hb hg_ hnew_; clear hg_ hnew_; (first | rw [← Ny350.out] at ho11 | (simp only [Int.reduceToNat] at ho11; rw [← Ny350.out] at ho11)); have n0_ := Aside0.mk (Kd.N_lower ho11 (below_size (by repeat (first | (with_reducible first | exact HB.out | apply below_alloc | apply pw_below_drewN | apply below_drew1) | exact HB.out)))); have n1_ := Aside0.mk (below_step (by repeat (first | (with_reducible first | exact HB.out | apply below_alloc | apply pw_below_drewN | apply below_drew1) | exact HB.out)) hb); clear HB; clear HO343; clear HO346; clear HO349; have HO352 := n0_; have HB := n1_; clear n0_ n1_; clear hb ho11))
  go_ret
  exact ⟨_, by first | rfl | (simp [errW_none, errW_some] <;> rfl) | (simp [*, errW_none, errW_some] <;> rfl), by (with_reducible repeat (first | apply Kd.N_alloc | apply Kd.N_drewN | apply Kd.N_drew)); exact HO352.out, by repeat (first | (with_reducible first | exact HB.out | apply below_alloc | apply pw_below_drewN | apply below_drew1) | exact HB.out)⟩

end Go.Proofs.Ythmlimkmcofkfaa.B

/- Contracts of functions of the program, written by a program of this session. -/
namespace Go.Proofs.Ythmlimkmcofkfaa.B
open Go.RowKit Go.Proofs.YthmlimkmcofkfaaW.PrintWords Go.Proofs.YthmlimkmcofkfaaW.PrintLast Go.Proofs.YthmlimkmcofkfaaW.PrintMore
attribute [local go_sem] max2_int min2_int max_two min_two max_three min_three max_four min_four   -- for this text's walks alone
set_option linter.unusedVariables false
set_option linter.unusedSimpArgs false

/-! ### stowagelaw03_some: function 46 -/
mutual
def stowagelaw03_some.l0 : Nat → Int → Int → List Int → List Bool → Int → Option (List Bool)
  | 0, _, _, _, _, _ => none
  | k + 1, x0, x1, x2, x7, x8 => if x8 < x0 then (if x8 < (x2.length : Int) then (if 0 ≤ x8 then ((stowagekit_Pick.f (rd x2 x8) (wrap64 (x1 - x8))).bind fun t370 => (stowagelaw03_some.j1 k x0 x1 x2 x7 x8 t370)) else (none)) else (stowagelaw03_some.j1 k x0 x1 x2 x7 x8 0)) else (some x7)
def stowagelaw03_some.j1 : Nat → Int → Int → List Int → List Bool → Int → Int → Option (List Bool)
  | 0, _, _, _, _, _, _ => none
  | k + 1, x0, x1, x2, x7, x8, x9 => stowagelaw03_some.l1 k x0 x1 x2 x7 x8 x9 0
def stowagelaw03_some.l1 : Nat → Int → Int → List Int → List Bool → Int → Int → Int → Option (List Bool)
  | 0, _, _, _, _, _, _, _ => none
  | k + 1, x0, x1, x2, x7, x8, x9, x10 => if x10 < x1 then (if 0 ≤ x10 then (if x10 < (x7.length : Int) then (if rdOf false x7 x10 = true then (stowagelaw03_some.l1 k x0 x1 x2 x7 x8 x9 (wrap64 (x10 + 1))) else (if x9 = 0 then (stowagelaw03_some.l0 k x0 x1 x2 (x7.set (x10 : Int).toNat true) (wrap64 (x8 + 1))) else (stowagelaw03_some.l1 k x0 x1 x2 x7 x8 (wrap64 (x9 - 1)) (wrap64 (x10 + 1))))) else (none)) else (none)) else (stowagelaw03_some.l0 k x0 x1 x2 x7 (wrap64 (x8 + 1)))
end
def stowagelaw03_some.f (k : Nat) (a0 : Int) (a1 : Int) (l2 : List Int) : Option (List Bool) := if 0 ≤ a1 then (if (a1 : Int).toNat ≤ 281474976710656 then (stowagelaw03_some.l0 k a0 a1 l2 (List.replicate (a1 : Int).toNat false) 0) else (none)) else (none)
theorem stowagelaw03_some.mono_l : ∀ k, (∀ y0 y1 y2 y3 y4, LeO (stowagelaw03_some.l0 k y0 y1 y2 y3 y4) (stowagelaw03_some.l0 (k + 1) y0 y1 y2 y3 y4)) ∧ (∀ y0 y1 y2 y3 y4 y5, LeO (stowagelaw03_some.j1 k y0 y1 y2 y3 y4 y5) (stowagelaw03_some.j1 (k + 1) y0 y1 y2 y3 y4 y5)) ∧ (∀ y0 y1 y2 y3 y4 y5 y6, LeO (stowagelaw03_some.l1 k y0 y1 y2 y3 y4 y5 y6) (stowagelaw03_some.l1 (k + 1) y0 y1 y2 y3 y4 y5 y6))
  | 0 => ⟨fun _ _ _ _ _ r h => by simp [stowagelaw03_some.l0] at h, fun _ _ _ _ _ _ r h => by simp [stowagelaw03_some.j1] at h, fun _ _ _ _ _ _ _ r h => by simp [stowagelaw03_some.l1] at h⟩
  | k + 1 => by
    obtain ⟨ih0, ih1, ih2⟩ := stowagelaw03_some.mono_l k
    refine ⟨?_, ?_, ?_⟩
    · intro y0 y1 y2 y3 y4
      unfold stowagelaw03_some.l0
      repeat' first
      | (with_reducible exact ih0 _ _ _ _ _)
      | (with_reducible exact ih1 _ _ _ _ _ _)
      | (with_reducible exact ih2 _ _ _ _ _ _ _)
      | (with_reducible exact LeO.refl _)
      | (with_reducible exact LeO.none _)
      | (with_reducible refine LeO.ite ?_ ?_)
      | (with_reducible refine LeO.bind ?_ (fun _ => ?_))
      | exact ih0 _ _ _ _ _
      | exact ih1 _ _ _ _ _ _
      | exact ih2 _ _ _ _ _ _ _
      | exact LeO.none _
      | refine LeO.ite ?_ ?_
      | refine LeO.bind ?_ (fun _ => ?_)
    · intro y0 y1 y2 y3 y4 y5
      unfold stowagelaw03_some.j1
      repeat' first
      | (with_reducible exact ih0 _ _ _ _ _)
      | (with_reducible exact ih1 _ _ _ _ _ _)
      | (with_reducible exact ih2 _ _ _ _ _ _ _)
      | (with_reducible exact LeO.refl _)
      | (with_reducible exact LeO.none _)
      | (with_reducible refine LeO.ite ?_ ?_)
      | (with_reducible refine LeO.bind ?_ (fun _ => ?_))
      | exact ih0 _ _ _ _ _
      | exact ih1 _ _ _ _ _ _
      | exact ih2 _ _ _ _ _ _ _
      | exact LeO.none _
      | refine LeO.ite ?_ ?_
      | refine LeO.bind ?_ (fun _ => ?_)
    · intro y0 y1 y2 y3 y4 y5 y6
      unfold stowagelaw03_some.l1
      repeat' first
      | (with_reducible exact ih0 _ _ _ _ _)
      | (with_reducible exact ih1 _ _ _ _ _ _)
      | (with_reducible exact ih2 _ _ _ _ _ _ _)
      | (with_reducible exact LeO.refl _)
      | (with_reducible exact LeO.none _)
      | (with_reducible refine LeO.ite ?_ ?_)
      | (with_reducible refine LeO.bind ?_ (fun _ => ?_))
      | exact ih0 _ _ _ _ _
      | exact ih1 _ _ _ _ _ _
      | exact ih2 _ _ _ _ _ _ _
      | exact LeO.none _
      | refine LeO.ite ?_ ?_
      | refine LeO.bind ?_ (fun _ => ?_)
theorem stowagelaw03_some.mono : ∀ a0 a1 a2 k, LeO (stowagelaw03_some.f k a0 a1 a2) (stowagelaw03_some.f (k + 1) a0 a1 a2) := by
  intro a0 a1 a2 k
  obtain ⟨ih0, ih1, ih2⟩ := stowagelaw03_some.mono_l k
  unfold stowagelaw03_some.f
  repeat' first
      | (with_reducible exact ih0 _ _ _ _ _)
      | (with_reducible exact ih1 _ _ _ _ _ _)
      | (with_reducible exact ih2 _ _ _ _ _ _ _)
      | (with_reducible exact LeO.refl _)
      | (with_reducible exact LeO.none _)
      | (with_reducible refine LeO.ite ?_ ?_)
      | (with_reducible refine LeO.bind ?_ (fun _ => ?_))
      | exact ih0 _ _ _ _ _
      | exact ih1 _ _ _ _ _ _
      | exact ih2 _ _ _ _ _ _ _
      | exact LeO.none _
      | refine LeO.ite ?_ ?_
      | refine LeO.bind ?_ (fun _ => ?_)
set_option maxHeartbeats 8000000 in
set_option maxRecDepth 100000 in
theorem stowagelaw03_some.calls (k : Nat) (a0 : Int) (a1 : Int) (A2 : Option Addr) (c2 : Nat) (l2 : List Int) (r : List Bool) (w : World) (hr2 : Kd.C (Kd.int .i64) w A2 l2.length l2) (hc2 : l2.length ≤ c2) (h : stowagelaw03_some.f k a0 a1 l2 = some r) :
    Calls Try.prog 46 #[.int .i64 a0, .int .i64 a1, .slice A2 l2.length c2] w fun e w' => ∃ v0_ : Value, e = .returned (v0_) ∧ Kd.R Kd.bool 4 w' w.heap.size (fun _ => True) v0_ r ∧ Below w.heap.size w w' := by
  have HR2 := Aside0.mk hr2
  have HC2 := Aside0.mk hc2
  clear hr2 hc2
  have HB := Aside0.mk (Below.refl w.heap.size w)
  have H : (if 0 ≤ a1 then (if (a1 : Int).toNat ≤ 281474976710656 then (stowagelaw03_some.l0 k a0 a1 l2 (List.replicate (a1 : Int).toNat false) 0) else (none)) else (none)) = some r := h
  clear h
  by_cases c4 : 0 ≤ a1
  · rw [if_pos c4] at H
    have c4b0 := eq_true c4
    have c4b1 : decide (0 ≤ a1) = true := decide_eq_true c4
    clear c4
    by_cases c5 : (a1 : Int).toNat ≤ 281474976710656
    · rw [if_pos c5] at H
      have c5b0 := eq_true c5
      have c5b1 : decide ((a1 : Int).toNat ≤ 281474976710656) = true := decide_eq_true c5
      clear c5
      obtain ⟨y366, hy366⟩ : ∃ y_ : List Bool, y_ = (List.replicate (a1 : Int).toNat false) := ⟨_, rfl⟩
      replace H : (stowagelaw03_some.l0 k a0 a1 l2 y366 0) = some r := by first | (rw [hy366]; with_reducible exact H) | (have H2_ := (Option.bind_some _ _).symm.trans H; rw [hy366]; with_reducible exact H2_) | (have H2_ := (Option.bind_some _ _).symm.trans H; with_reducible exact H2_) | with_reducible exact H | (rw [hy366]; exact H) | exact H
      have Ny366 := Aside0.mk hy366
      clear hy366
      have H' := Aside0.mk H
      clear H
      go_enter Try.func46, Try.ntmps46
      go_wp2_with (first | ((with_reducible refine gate_dst (N := 12) rfl ?_); refine Kd.R_make Kd.bool _ 4 rfl (N := 12) rfl 51 _ _ rfl a1 rfl rfl Try.underlying51 (.bool false) 1 info4 rfl (by decide) (by omega) false (ok := fun _ => True) (okp := fun _ => True) rfl (fun _ hk => hk) trivial (of_decide_eq_true (by first | (with_reducible assumption) | assumption)) (Nat.le_trans (Nat.mul_le_mul_right _ (of_decide_eq_true (by first | (with_reducible assumption) | assumption) : a1.toNat ≤ 281474976710656)) (by omega)) (Below.refl _ _) (Nat.le_refl _) ?_; intro v367 w6 ho7 hb hg_ hnew_; clear hg_ hnew_; (first | rw [← Ny366.out] at ho7 | (simp only [Int.reduceToNat] at ho7; rw [← Ny366.out] at ho7)); have n0_ := Aside0.mk (Kd.R_lower ho7 (below_size (by repeat (first | (with_reducible first | exact HB.out | apply below_alloc | apply pw_below_drewN | apply below_drew1) | exact HB.out)))); have n1_ := Aside0.mk (below_step (by repeat (first | (with_reducible first | exact HB.out | apply below_alloc | apply pw_below_drewN | apply below_drew1) | exact HB.out)) hb); clear HB; have HO368 := n0_; have HB := n1_; clear n0_ n1_; clear hb ho7))
      go_loopg [8] k (fun kq v8 w' => ∃ (x7_1 : List Bool) (x8_1 : Int), v8 = .int .i64 x8_1 ∧ Aside0 (stowagelaw03_some.l0 kq a0 a1 l2 x7_1 x8_1 = some r) ∧ Aside0 (kq ≤ k) ∧ Aside0 (Kd.R Kd.bool 4 w' w.heap.size (fun _ => True) v367 x7_1) ∧ Aside0 (Below w.heap.size w w'))
      case atStart => exact ⟨(y366), (0), (by first | rfl | (simp; done) | (simp [*]; done)), H', ⟨Nat.le_refl _⟩, ⟨by (with_reducible repeat (first | apply Kd.R_alloc | apply Kd.R_drewN | apply Kd.R_drew)); exact HO368.out⟩, ⟨by repeat (first | (with_reducible first | exact HB.out | apply below_alloc | apply pw_below_drewN | apply below_drew1) | exact HB.out)⟩⟩
      case round =>
        clear H'
        try clear c2
        try clear p2
        try clear c4
        try clear c4b0
        try clear c4b1
        try clear c5
        try clear c5b0
        try clear c5b1
        obtain ⟨x7_1, x8_1, rfl, HA, HK1, HO_7, HB⟩ := hrel
        cases gk with
        | zero => exact absurd HA.out (by simp [stowagelaw03_some.l0])
        | succ k1 =>
          have H := HA.out
          clear HA
          simp only [stowagelaw03_some.l0] at H
          by_cases c8 : x8_1 < a0
          · rw [if_pos c8] at H
            have c8b0 : decide (x8_1 < a0) = true := decide_eq_true c8
            clear c8
            have HC9 := Aside0.mk H
            clear H
            go_upto_if 21 with (fail)
            go_cut [9] (fun v9 wc => ∃ (kq : Nat) (x9_8 : Int), v9 = .int .i64 x9_8 ∧ Aside0 (stowagelaw03_some.j1 kq a0 a1 l2 x7_1 x8_1 x9_8 = some r) ∧ Aside0 (kq ≤ k1) ∧ Aside0 (Kd.R Kd.bool 4 wc w.heap.size (fun _ => True) v367 x7_1) ∧ Aside0 (Below w.heap.size w wc))
            case first =>
              have H := HC9.out
              clear HC9
              by_cases c10 : x8_1 < (l2.length : Int)
              · rw [if_pos c10] at H
                have c10b0 : decide (x8_1 < (l2.length : Int)) = true := decide_eq_true c10
                clear c10
                (first | rw [c10b0] | (simp only [i64_w, i32_w]; rw [c10b0]) | skip)
                by_cases c11 : 0 ≤ x8_1
                · rw [if_pos c11] at H
                  have c11b0 : decide (0 ≤ x8_1) = true := decide_eq_true c11
                  clear c11
                  replace H := Option.bind_eq_some_iff.mp H
                  obtain ⟨t370, A120, H⟩ := H
                  replace H : (stowagelaw03_some.j1 k1 a0 a1 l2 x7_1 x8_1 t370) = some r := H
                  have A12 := Aside0.mk A120
                  clear A120
                  have H' := Aside0.mk H
                  clear H
                  have p369 : 0 ≤ (x8_1 : Int) := of_decide_eq_true (by first | (with_reducible assumption) | assumption)
                  have q369 : x8_1 < (l2.length : Int) := of_decide_eq_true (by first | (with_reducible assumption) | assumption)
                  obtain ⟨ad369, e369, hx369_0⟩ := Kd.at_int HR2.out x8_1 p369 q369
                  cases e369
                  replace hx369_0 := (HB.out.cell (World.block_lt_of_cell? w _ hx369_0)).trans hx369_0
                  replace p369 := eq_true p369
                  replace q369 := eq_true q369
                  go_wp2_with (first | ((with_reducible refine gate_callee (f := 37) rfl ?_); refine goesL_ (some 29) rfl rfl Try.func37 (by kernel_rfl) rfl #[.int .i64 (rd l2 x8_1), .int .i64 (wrap64 (a1 - x8_1))] rfl (by (try simp only [List.map_toArray, List.map_cons, List.map_nil]); first | done | rfl | (simp only [List.length_drop, List.length_take]; rfl)) ?_; (with_reducible refine (stowagekit_Pick.calls (rd l2 x8_1) (wrap64 (a1 - x8_1)) t370 _ A12.out).mono ?_); rintro e w' ⟨rfl, ⟨nd, rfl⟩⟩; refine ⟨_, rfl, ?_⟩))
                  go_meet
                  case rel => exact ⟨_, (t370), (by first | rfl | (simp; done) | (simp [*]; done)), H', ⟨by have := HK1.out; first | omega | exact Nat.le_refl _⟩, ⟨by (with_reducible repeat (first | apply Kd.R_alloc | apply Kd.R_drewN | apply Kd.R_drew)); exact HO_7.out⟩, ⟨by repeat (first | (with_reducible first | exact HB.out | apply below_alloc | apply pw_below_drewN | apply below_drew1) | exact HB.out)⟩⟩
                · rw [if_neg c11] at H
                  exact absurd H (by simp)
              · rw [if_neg c10] at H
                have c10b0 : decide (x8_1 < (l2.length : Int)) = false := decide_eq_false c10
                clear c10
                (first | rw [c10b0] | (simp only [i64_w, i32_w]; rw [c10b0]) | skip)
                have H' := Aside0.mk H
                clear H
                go_wp2
                go_meet
                case rel => exact ⟨_, (0), (by first | rfl | (simp; done) | (simp [*]; done)), H', ⟨by have := HK1.out; first | omega | exact Nat.le_refl _⟩, ⟨by (with_reducible repeat (first | apply Kd.R_alloc | apply Kd.R_drewN | apply Kd.R_drew)); exact HO_7.out⟩, ⟨by repeat (first | (with_reducible first | exact HB.out | apply below_alloc | apply pw_below_drewN | apply below_drew1) | exact HB.out)⟩⟩
            case rest =>
              clear HC9
              try clear c1
              try clear c2
              try clear p2
              try clear c3
              try clear p3
              try clear q3
              try clear hx3
              try clear c4
              try clear c4b0
              try clear c4b1
              try clear c5
              try clear c5b0
              try clear c5b1
              try clear p6
              try clear c8
              try clear c8b0
              try clear c10
              try clear c10b0
              try clear c11
              try clear c11b0
              try clear hx369_0
              try clear p2
              try clear p369
              try clear q369
              obtain ⟨kq, x9_8, rfl, HA, HJ8, HO_7, HB⟩ := hcut
              cases kq with
              | zero => exact absurd HA.out (by simp [stowagelaw03_some.j1])
              | succ kj8 =>
                have H := HA.out
                clear HA
                simp only [stowagelaw03_some.j1] at H
                have H' := Aside0.mk H
                clear H
                go_wp2
                go_loopg [9, 10] kj8 (fun kq v9 v10 w' => ∃ (x7_3 : List Bool) (x9_3 : Int) (x10_3 : Int), v9 = .int .i64 x9_3 ∧ v10 = .int .i64 x10_3 ∧ Aside0 (stowagelaw03_some.l1 kq a0 a1 l2 x7_3 x8_1 x9_3 x10_3 = some r) ∧ Aside0 (kq ≤ kj8) ∧ Aside0 (Kd.R Kd.bool 4 w' w.heap.size (fun _ => True) v367 x7_3) ∧ Aside0 (Below w.heap.size w w'))
                case atStart => exact ⟨(x7_1), (x9_8), (0), (by first | rfl | (simp; done) | (simp [*]; done)), (by first | rfl | (simp; done) | (simp [*]; done)), H', ⟨Nat.le_refl _⟩, ⟨by (with_reducible repeat (first | apply Kd.R_alloc | apply Kd.R_drewN | apply Kd.R_drew)); exact HO_7.out⟩, ⟨by repeat (first | (with_reducible first | exact HB.out | apply below_alloc | apply pw_below_drewN | apply below_drew1) | exact HB.out)⟩⟩
                case round =>
                  clear H'
                  try clear c1
                  try clear c2
                  try clear p2
                  try clear c3
                  try clear p3
                  try clear q3
                  try clear hx3
                  try clear c4
                  try clear c4b0
                  try clear c4b1
                  try clear c5
                  try clear c5b0
                  try clear c5b1
                  try clear p6
                  try clear c8
                  try clear c8b0
                  try clear c10
                  try clear c10b0
                  try clear c11
                  try clear c11b0
                  try clear hx369_0
                  try clear p2
                  try clear p3
                  try clear p369
                  try clear p6
                  try clear q3
                  try clear q369
                  obtain ⟨x7_3, x9_3, x10_3, rfl, rfl, HA, HK3, HO_7, HB⟩ := hrel
                  cases gk with
                  | zero => exact absurd HA.out (by simp [stowagelaw03_some.l1])
                  | succ k3 =>
                    have H := HA.out
                    clear HA
                    simp only [stowagelaw03_some.l1] at H
                    by_cases c13 : x10_3 < a1
                    · rw [if_pos c13] at H
                      have c13b0 : decide (x10_3 < a1) = true := decide_eq_true c13
                      clear c13
                      by_cases c14 : 0 ≤ x10_3
                      · rw [if_pos c14] at H
                        have c14b0 : decide (0 ≤ x10_3) = true := decide_eq_true c14
                        clear c14
                        by_cases c15 : x10_3 < (x7_3.length : Int)
                        · rw [if_pos c15] at H
                          have c15b0 : decide (x10_3 < (x7_3.length : Int)) = true := decide_eq_true c15
                          clear c15
                          obtain ⟨bq16, hbq16⟩ : ∃ b_ : Bool, b_ = (rdOf false x7_3 x10_3) := ⟨_, rfl⟩
                          replace H : (if bq16 = true then (stowagelaw03_some.l1 k3 a0 a1 l2 x7_3 x8_1 x9_3 (wrap64 (x10_3 + 1))) else (if x9_3 = 0 then (stowagelaw03_some.l0 k3 a0 a1 l2 (x7_3.set (x10_3 : Int).toNat true) (wrap64 (x8_1 + 1))) else (stowagelaw03_some.l1 k3 a0 a1 l2 x7_3 x8_1 (wrap64 (x9_3 - 1)) (wrap64 (x10_3 + 1))))) = some r := by rw [← hbq16] at H; exact H
                          have Nbq16 := Aside0.mk hbq16
                          clear hbq16
                          by_cases c17 : bq16 = true
                          · subst c17
                            have H1 : (stowagelaw03_some.l1 k3 a0 a1 l2 x7_3 x8_1 x9_3 (wrap64 (x10_3 + 1))) = some r := by rw [if_pos rfl] at H; exact H
                            clear H
                            have H := H1
                            clear H1
                            have H' := Aside0.mk H
                            clear H
                            obtain ⟨Ao18, co18, eo18⟩ := Kd.R_slice HO_7.out
                            subst eo18
                            have p371 : 0 ≤ (x10_3 : Int) := of_decide_eq_true (by first | (with_reducible assumption) | assumption)
                            have q371 : x10_3 < (x7_3.length : Int) := of_decide_eq_true (by first | (with_reducible assumption) | assumption)
                            obtain ⟨ad371, e371, hx371_0⟩ := Kd.at_bool (Kd.R_reads' HO_7.out).2.2 x10_3 p371 q371
                            (try rw [← Nbq16.out] at hx371_0)
                            cases e371
                            replace p371 := eq_true p371
                            replace q371 := eq_true q371
                            go_wp2
                            go_roundg k3
                            case measure => have := HK1.out; have := HJ8.out; have := HK3.out; omega
                            case rel => exact ⟨(x7_3), (x9_3), (wrap64 (x10_3 + 1)), (by first | rfl | (simp; done) | (simp [*]; done)), (by first | rfl | (simp; done) | (simp [*]; done)), H', ⟨by have := HK1.out; have := HJ8.out; have := HK3.out; omega⟩, ⟨by (with_reducible repeat (first | apply Kd.R_alloc | apply Kd.R_drewN | apply Kd.R_drew)); exact HO_7.out⟩, ⟨by repeat (first | (with_reducible first | exact HB.out | apply below_alloc | apply pw_below_drewN | apply below_drew1) | exact HB.out)⟩⟩
                          · replace c17 := Bool.eq_false_iff.mpr c17
                            subst c17
                            have H1 : (if x9_3 = 0 then (stowagelaw03_some.l0 k3 a0 a1 l2 (x7_3.set (x10_3 : Int).toNat true) (wrap64 (x8_1 + 1))) else (stowagelaw03_some.l1 k3 a0 a1 l2 x7_3 x8_1 (wrap64 (x9_3 - 1)) (wrap64 (x10_3 + 1)))) = some r := by rw [if_neg (show ¬ (false = true) by decide)] at H; exact H
                            clear H
                            have H := H1
                            clear H1
                            by_cases c19 : x9_3 = 0
                            · rw [if_pos c19] at H
                              have c19b0 : (x9_3 == 0) = true := beq_iff_eq.mpr c19
                              have c19b1 : (x9_3 != 0) = false := bne_eq_false_iff_eq.mpr c19
                              clear c19
                              obtain ⟨y372, hy372⟩ : ∃ y_ : List Bool, y_ = (x7_3.set (x10_3 : Int).toNat true) := ⟨_, rfl⟩
                              replace H : (stowagelaw03_some.l0 k3 a0 a1 l2 y372 (wrap64 (x8_1 + 1))) = some r := by first | (rw [hy372]; with_reducible exact H) | (have H2_ := (Option.bind_some _ _).symm.trans H; rw [hy372]; with_reducible exact H2_) | (have H2_ := (Option.bind_some _ _).symm.trans H; with_reducible exact H2_) | with_reducible exact H | (rw [hy372]; exact H) | exact H
                              have Ny372 := Aside0.mk hy372
                              clear hy372
                              have H' := Aside0.mk H
                              clear H
                              obtain ⟨Ao21, co21, eo21⟩ := Kd.R_slice HO_7.out
                              subst eo21
                              have p371 : 0 ≤ (x10_3 : Int) := of_decide_eq_true (by first | (with_reducible assumption) | assumption)
                              have q371 : x10_3 < (x7_3.length : Int) := of_decide_eq_true (by first | (with_reducible assumption) | assumption)
                              obtain ⟨ad371, e371, hx371_0⟩ := Kd.at_bool (Kd.R_reads' HO_7.out).2.2 x10_3 p371 q371
                              (try rw [← Nbq16.out] at hx371_0)
                              cases e371
                              replace p371 := eq_true p371
                              replace q371 := eq_true q371
                              have p20 : 0 ≤ (x10_3 : Int) := of_decide_eq_true (by first | (with_reducible assumption) | assumption)
                              have q20 : (x10_3 : Int) < ((x7_3.length : Int) : Int) := of_decide_eq_true (by first | (with_reducible assumption) | assumption)
                              obtain ⟨go20, co20, eo20, gb20, gl20, cl20, HG20⟩ := Kd.R_form HO_7.out (by omega)
                              (first | cases eo20 | (injection eo20 with ea_ en_ ec_; (first | subst ea_ | (injection ea_ with ea_; subst ea_)); subst ec_; clear en_))
                              have GB20 := Aside0.mk gb20
                              have GG20 := Aside0.mk HG20
                              clear gb20 gl20 HG20
                              (first | simp only [add_plain] at hx371_0 | skip)
                              obtain ⟨hx20_0, hf20_0⟩ := Kd.R_celln false HO_7.out (x10_3 : Int) p20 q20
                              replace p20 := eq_true p20
                              replace q20 := eq_true q20
                              have HP22 := Kd.R_putg HO_7.out (x10_3 : Int) true
                              go_wp2_with (first | ((with_reducible refine gate_store (t := 4) (p := 43) rfl ?_); refine store_event (t := 4) (p := 43) (v := ?vo_w23) (w1 := (wr.setCell ⟨go20, (x10_3 : Int).toNat, none⟩ (.bool true))) ?hg ?ho ?hn ?hr ?_; (case ho => rfl); (case hg => rfl); (case hn => rfl); (case hr => first | (go_simp; done) | (go_simp; rfl)); intro w23 hw; have hg : wr.grownBy w23 (some go20) := (by rw [hw]; exact HP22.2); have hp_ : Kd.R Kd.bool 4 w23 w.heap.size (fun _ => True) (.slice (some ⟨go20, 0, none⟩) x7_3.length co21) y372 := (by rw [hw, Ny372.out]; exact HP22.1); clear HP22; have n0_ := Aside0.mk (hp_); have n1_ := Aside0.mk ((by rw [hw]; exact below_set (HB.out) GB20.out : Below w.heap.size w w23)); clear HO_7; clear HB; have HO_7 := n0_; have HB := n1_; clear n0_ n1_; clear hg hw hp_))
                              go_roundg k3
                              case measure => have := HK1.out; have := HJ8.out; have := HK3.out; omega
                              case rel => exact ⟨(y372), (wrap64 (x8_1 + 1)), (by first | rfl | (simp; done) | (simp [*]; done)), H', ⟨by have := HK1.out; have := HJ8.out; have := HK3.out; omega⟩, ⟨by (with_reducible repeat (first | apply Kd.R_alloc | apply Kd.R_drewN | apply Kd.R_drew)); exact HO_7.out⟩, ⟨by repeat (first | (with_reducible first | exact HB.out | apply below_alloc | apply pw_below_drewN | apply below_drew1) | exact HB.out)⟩⟩
                            · rw [if_neg c19] at H
                              have c19b0 : (x9_3 == 0) = false := beq_eq_false_iff_ne.mpr c19
                              have c19b1 : (x9_3 != 0) = true := bne_iff_ne.mpr c19
                              have H' := Aside0.mk H
                              clear H
                              obtain ⟨Ao24, co24, eo24⟩ := Kd.R_slice HO_7.out
                              subst eo24
                              have p371 : 0 ≤ (x10_3 : Int) := of_decide_eq_true (by first | (with_reducible assumption) | assumption)
                              have q371 : x10_3 < (x7_3.length : Int) := of_decide_eq_true (by first | (with_reducible assumption) | assumption)
                              obtain ⟨ad371, e371, hx371_0⟩ := Kd.at_bool (Kd.R_reads' HO_7.out).2.2 x10_3 p371 q371
                              (try rw [← Nbq16.out] at hx371_0)
                              cases e371
                              replace p371 := eq_true p371
                              replace q371 := eq_true q371
                              go_wp2
                              go_roundg k3
                              case measure => have := HK1.out; have := HJ8.out; have := HK3.out; omega
                              case rel => exact ⟨(x7_3), (wrap64 (x9_3 - 1)), (wrap64 (x10_3 + 1)), (by first | rfl | (simp; done) | (simp [*]; done)), (by first | rfl | (simp; done) | (simp [*]; done)), H', ⟨by have := HK1.out; have := HJ8.out; have := HK3.out; omega⟩, ⟨by (with_reducible repeat (first | apply Kd.R_alloc | apply Kd.R_drewN | apply Kd.R_drew)); exact HO_7.out⟩, ⟨by repeat (first | (with_reducible first | exact HB.out | apply below_alloc | apply pw_below_drewN | apply below_drew1) | exact HB.out)⟩⟩
                        · rw [if_neg c15] at H
                          exact absurd H (by simp)
                      · rw [if_neg c14] at H
                        exact absurd H (by simp)
                    · rw [if_neg c13] at H
                      have c13b0 : decide (x10_3 < a1) = false := decide_eq_false c13
                      clear c13
                      have H' := Aside0.mk H
                      clear H
                      go_wp2
                      go_roundg k3
                      case measure => have := HK1.out; have := HJ8.out; have := HK3.out; omega
                      case rel => exact ⟨(x7_3), (wrap64 (x8_1 + 1)), (by first | rfl | (simp; done) | (simp [*]; done)), H', ⟨by have := HK1.out; have := HJ8.out; have := HK3.out; omega⟩, ⟨by (with_reducible repeat (first | apply Kd.R_alloc | apply Kd.R_drewN | apply Kd.R_drew)); exact HO_7.out⟩, ⟨by repeat (first | (with_reducible first | exact HB.out | apply below_alloc | apply pw_below_drewN | apply below_drew1) | exact HB.out)⟩⟩
          · rw [if_neg c8] at H
            have c8b0 : decide (x8_1 < a0) = false := decide_eq_false c8
            clear c8
            obtain rfl := Option.some.inj H
            go_wp2
            go_ret
            exact ⟨_, by first | rfl | (simp [errW_none, errW_some] <;> rfl) | (simp [*, errW_none, errW_some] <;> rfl), by (with_reducible repeat (first | apply Kd.R_alloc | apply Kd.R_drewN | apply Kd.R_drew)); exact HO_7.out, by repeat (first | (with_reducible first | exact HB.out | apply below_alloc | apply pw_below_drewN | apply below_drew1) | exact HB.out)⟩
    · rw [if_neg c5] at H
      exact absurd H (by simp)
  · rw [if_neg c4] at H
    exact absurd H (by simp)

end Go.Proofs.Ythmlimkmcofkfaa.B
