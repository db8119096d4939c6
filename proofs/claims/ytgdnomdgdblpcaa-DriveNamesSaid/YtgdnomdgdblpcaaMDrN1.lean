/- DriveNames: which texts may be files' names is told as the document says, for every text. (Part 2 of 2.) -/
import Derived.WalkSpells
import Derived.Lib.SliceRun
import Derived.Lib.Hide
import Derived.Deep.RegionHeld3
import Derived.Lib.SlBytesConst
import Derived.Test.YtgdnomdgdblpcaaProg
import Derived.Below
import Derived.Deep.Draws
import Derived.Deep.AppendLies
import Derived.Maps.AppendAt
import Derived.OwnWalk
import Derived.Laws.BytesArg
import Derived.Laws.MakeOwn
import Derived.Laws.OwnMore
import Derived.Deep.OwnRows
import Derived.Tactics
import Derived.Lib.ConvBytes
import Derived.Laws.Slices
import Derived.WalkKit
import Derived.KernelRfl
import Derived.RowKit3
import Derived.Deep.LoopGhost
import Derived.Deep.QuietTactic
import Derived.BigQuiet
import Derived.WideLaws
import Derived.Deep.DeepCutAuto
import Derived.Deep.CutBlock
import Derived.Laws.Rows
import Derived.Lib.AppendStr
import Derived.ArgAppend
import Derived.Laws.IdiomCopy
import Derived.OrdersHeld
import Derived.Laws.BitsLemmas
import Derived.RowKit
import Derived.Test.YtgdnomdgdblpcaaWWords
import Derived.Test.YtgdnomdgdblpcaaWLast
import Derived.Test.YtgdnomdgdblpcaaWTab
import Derived.Test.YtgdnomdgdblpcaaWFour
import Derived.Test.YtgdnomdgdblpcaaWQPut
import Derived.Test.YtgdnomdgdblpcaaWApart
import Derived.Test.YtgdnomdgdblpcaaWArr
import Derived.Test.YtgdnomdgdblpcaaWZeros
import Derived.Test.YtgdnomdgdblpcaaWFoot
import Derived.Test.YtgdnomdgdblpcaaWKept
import Derived.Test.YtgdnomdgdblpcaaWShare
import Derived.Test.YtgdnomdgdblpcaaWN
import Derived.Test.YtgdnomdgdblpcaaWFootNe
import Derived.Test.YtgdnomdgdblpcaaWAt
import Derived.Test.YtgdnomdgdblpcaaWEqStruct
import Derived.Test.YtgdnomdgdblpcaaWRepsOne
import Derived.Test.YtgdnomdgdblpcaaWInv
import Derived.Test.YtgdnomdgdblpcaaWInvWords
import Derived.Test.YtgdnomdgdblpcaaWGuard
import Derived.Test.YtgdnomdgdblpcaaWNEv
import Derived.Test.YtgdnomdgdblpcaaWMore
import Derived.Test.YtgdnomdgdblpcaaRows
import Derived.ProofKit
import Derived.OpenShut
import Derived.ShutString
import Derived.ChangeOld
import Derived.SizedLaws
import Derived.Test.YtgdnomdgdblpcaaMDrN0
/- Contracts, by hand: slices.Clone of bytes. -/
namespace Go.Proofs.Ytgdnomdgdblpcaa.D
open Go.RowKit Go.Proofs.YtgdnomdgdblpcaaW.PrintWords Go.Proofs.YtgdnomdgdblpcaaW.PrintLast Go.Proofs.YtgdnomdgdblpcaaW.PrintMore Go.Proofs.Ytgdnomdgdblpcaa.B
set_option linter.unusedVariables false
set_option linter.unusedSimpArgs false

def slices_Clone_byte_byte.f (l0 : List Int) : Option (List Int) := if l0.length < 140737488355328 then some l0 else none

theorem eqnil41 (w : World) (a : Option Addr) (n c : Nat) : (binOp .eql 22 (.slice a n c) (.slice none 0 0)).run Try.prog w = .ok (.bool a.isNone) w :=
  Lib.run_eql_slice_nil w 22 5 a n c 0 0 Try.underlying22

set_option maxHeartbeats 800000 in
set_option maxRecDepth 100000 in
theorem slices_Clone_byte_byte.calls (A0 : Option Addr) (c0 : Nat) (l0 : List Int) (r : List Int) (w : World) (hr0 : Kd.C (Kd.int .u8) w A0 l0.length l0) (hc0 : l0.length ≤ c0) (h : slices_Clone_byte_byte.f l0 = some r) :
    Calls Try.prog 129 #[.slice A0 l0.length c0] w fun e w' => ∃ v0_ : Value, e = .returned (v0_) ∧ Kd.R (Kd.int .u8) 5 w' w.heap.size (fun _ => True) v0_ r ∧ Below w.heap.size w w' := by
  have HR0 := Aside0.mk hr0
  have HC0 := Aside0.mk hc0
  clear hc0
  have HB := Aside0.mk (Below.refl w.heap.size w)
  unfold slices_Clone_byte_byte.f at h
  have q41 := eqnil41
  by_cases c2 : l0.length < 140737488355328
  · rw [if_pos c2] at h
    obtain rfl := Option.some.inj h
    have LMc2 := Aside0.mk c2
    clear c2 h
    cases A0 with
    | none =>
      have hl : l0.length = 0 := by
        rcases Nat.eq_zero_or_pos l0.length with h0 | h0
        · exact h0
        · obtain ⟨ad, h1, _⟩ := hr0.2.2 h0
          cases h1
      obtain rfl := List.eq_nil_of_length_eq_zero hl
      clear hr0 HR0 hl
      go_enter Try.func129, Try.ntmps129
      go_wp2
      go_ret
      exact ⟨_, rfl, Kd.R_nil _ _ _ _ _, HB.out⟩
    | some ad =>
      clear hr0
      obtain ⟨y184, hy184⟩ : ∃ y_ : List Int, y_ = ([] : List Int) := ⟨_, rfl⟩
      have Ny184 := Aside0.mk hy184
      clear hy184
      go_enter Try.func129, Try.ntmps129
      go_wp2_with (first | ((with_reducible refine gate_dst (N := 5) rfl ?_); refine Kd.R_lit (Kd.int .u8) _ 5 ?hg (N := 5) ?hd (xs := ([] : List Int)) (inner := []) (ok := fun _ => True) (okp := fun _ => True) ?hr ?hp (fun _ hk => hk) trivial (Below.refl _ _) (Nat.le_refl _) (by simp) ?_; (case hd => rfl); (case hg => rfl); (case hr => first | (go_simp; done) | (go_simp; rfl)); (case hp => exact (Reps.none _ _)); intro v185 w3 ho4 hb hg_ hnew_; clear hg_ hnew_; rw [← Ny184.out] at ho4; have n0_ := Aside0.mk (Kd.R_lower ho4 (below_size (by repeat (first | (with_reducible first | exact HB.out | apply below_alloc | apply pw_below_drewN | apply below_drew1) | exact HB.out)))); have n1_ := Aside0.mk (below_step (by repeat (first | (with_reducible first | exact HB.out | apply below_alloc | apply pw_below_drewN | apply below_drew1) | exact HB.out)) hb); clear HB; have HO186 := n0_; have HB := n1_; clear n0_ n1_; clear hb ho4) | ((with_reducible refine gate_builtin (b := .append) (xs := #[.tmp 5, .tmp 6]) rfl ?_); at_builtin; (refine Kd.R_append_rows (Kd.int .u8) (w0 := w) w.heap.size rfl (.tmp 5) (.tmp 6) 22 5 (.int .u8 0) 1 rfl Try.underlying22 info5 rfl (by decide) (by omega) v185 y184 l0 _ _ _ (fun _ => True) (fun _ => False) rfl rfl ?aO ?aR (fun _ _ h => h) (fun _ h => h.elim) ?aF ?aB ?aS ?aL ?_); (case aR => repeat (first | exact (Kd.C_below HR0.out HB.out) | (with_reducible refine Kd.C_alloc ?_ _) | (with_reducible refine Kd.C_drewN ?_ _) | (with_reducible refine Kd.C_drew ?_))); (case aB => exact (by repeat (first | (with_reducible first | exact HB.out | apply below_alloc | apply pw_below_drewN | apply below_drew1) | exact HB.out))); (case aF => exact (fun _ _ => trivial)); (case aO => exact (by (with_reducible repeat (first | apply Kd.R_alloc | apply Kd.R_drewN | apply Kd.R_drew)); exact HO186.out)); (case aS => exact (below_size (by repeat (first | (with_reducible first | exact HB.out | apply below_alloc | apply pw_below_drewN | apply below_drew1) | exact HB.out)))); (case aL => have h1_ := LMc2.out; have h2_ : y184.length = 0 := (congrArg List.length Ny184.out); omega); intro v188 w5 ho hb hg hat; have n0_ := Aside0.mk (hb); have n1_ := Aside0.mk (ho); clear HB; clear HO186; have HB := n0_; have HO189 := n1_; clear n0_ n1_; clear ho hb hg hat))
      go_ret
      exact ⟨_, rfl, by have h := HO189.out; rw [Ny184.out, List.nil_append] at h; exact h, HB.out⟩
  · rw [if_neg c2] at h
    exact absurd h (by simp)
end Go.Proofs.Ytgdnomdgdblpcaa.D

/- A map of at most one file: looked up, written. -/
namespace Go.Proofs.Ytgdnomdgdblpcaa.D
open Go.RowKit Go.Proofs.YtgdnomdgdblpcaaW.PrintWords Go.Proofs.YtgdnomdgdblpcaaW.PrintLast Go.Proofs.YtgdnomdgdblpcaaW.PrintMore Go.Proofs.Ytgdnomdgdblpcaa.B
set_option linter.unusedVariables false
set_option linter.unusedSimpArgs false

def putM (w : World) (b : Nat) (o : Obj) : World := { w with heap := w.heap.setIfInBounds b o }
theorem putM_at (w : World) (b : Nat) (o : Obj) (h : b < w.heap.size) : (putM w b o).heap[b]? = some o := by unfold putM; simp [h]
theorem putM_other (w : World) (b k : Nat) (o : Obj) (h : k ≠ b) : (putM w b o).heap[k]? = w.heap[k]? := by unfold putM; simp [Array.getElem?_setIfInBounds, Ne.symm h]
theorem putM_size (w : World) (b : Nat) (o : Obj) : (putM w b o).heap.size = w.heap.size := by unfold putM; simp
theorem putM_grown (w : World) (b : Nat) (o : Obj) : w.grownBy (putM w b o) (some b) := ⟨rfl, rfl, rfl, Nat.le_of_eq (putM_size w b o).symm, fun k _ hne => putM_other w b k o (fun e => hne (by rw [e]))⟩

theorem u9 : Try.prog.underlying 9 = some .string := Try.underlying9
theorem run_set (P : Program) (w : World) (bm : Nat) (es es' : Array MapEntry) (c c' : Nat) (hb : w.heap[bm]? = some (.map es c)) : (setObj bm (.map es' c')).run P w = .ok () (putM w bm (.map es' c')) := by
  simp only [setObj, Sem.run, hb]
  rfl
theorem key_ok (e : Bool) (s : ByteArray) (w : World) : (Instr.checkKey e 10000 9 (.string s)).run Try.prog w = .ok () w := MapKept.run_checkKey (k := .string s) u9 trivial e 9999
theorem key_stays (s : ByteArray) (w : World) : (Instr.keyThatStays (.string s) (.string s)).run Try.prog w = .ok (.string s) w := MapKept.run_keyThatStays (d := .string) (k := .string s) trivial
theorem find_nil (s : ByteArray) (w : World) : (Instr.findKey 9 (.string s) []).run Try.prog w = .ok none w := MapKept.run_findKey u9 rfl
theorem find_hit (s : ByteArray) (v : Value) (w : World) : (Instr.findKey 9 (.string s) [⟨.string s, v, 0⟩]).run Try.prog w = .ok (some (0, v)) w := MapKept.run_findKey u9 (by simp [Instr.findNow, Instr.sameNow, (MapKept.bytes_beq s s).2 rfl])
theorem find_miss (s t : ByteArray) (v : Value) (h : (t == s) = false) (w : World) : (Instr.findKey 9 (.string t) [⟨.string s, v, 0⟩]).run Try.prog w = .ok none w := MapKept.run_findKey u9 (by simp [Instr.findNow, Instr.sameNow, h])
theorem upd_first (w : World) (bm : Nat) (s : ByteArray) (v : Value) (hb : w.heap[bm]? = some (.map #[] 0)) :
    (Instr.mapUpdate 159 (.map (some bm)) (.string s) v).run Try.prog w = .ok () (putM w bm (.map #[⟨.string s, v, 0⟩] 1)) := by
  have hr := run_set Try.prog w bm #[] #[⟨.string s, v, 0⟩] 0 1 hb
  simp only [Instr.mapUpdate, Sem.run_bind, run_underlying Try.underlying159, MapKept.run_getObj_map hb, key_ok, find_nil, Result.andThen]
  exact hr
theorem upd_same (w : World) (bm : Nat) (s : ByteArray) (v v0 : Value) (hb : w.heap[bm]? = some (.map #[⟨.string s, v0, 0⟩] 1)) :
    (Instr.mapUpdate 159 (.map (some bm)) (.string s) v).run Try.prog w = .ok () (putM w bm (.map #[⟨.string s, v, 0⟩] 1)) := by
  have hr := run_set Try.prog w bm #[⟨.string s, v0, 0⟩] #[⟨.string s, v, 0⟩] 1 1 hb
  simp only [Instr.mapUpdate, Sem.run_bind, run_underlying Try.underlying159, MapKept.run_getObj_map hb, key_ok, find_hit, Result.andThen]
  simp [key_stays, hr]
theorem look_hit (w : World) (bm : Nat) (s : ByteArray) (v : Value) (hb : w.heap[bm]? = some (.map #[⟨.string s, v, 0⟩] 1)) :
    (Instr.lookup 159 (.map (some bm)) (.string s) false).run Try.prog w = .ok v w := by
  simp only [Instr.lookup, Sem.run_bind, run_underlying Try.underlying159, MapKept.run_getObj_map hb, key_ok, find_hit, Result.andThen, Sem.run_pure]
  rfl
theorem look_hit_ok (w : World) (bm : Nat) (s : ByteArray) (v : Value) (hb : w.heap[bm]? = some (.map #[⟨.string s, v, 0⟩] 1)) :
    (Instr.lookup 159 (.map (some bm)) (.string s) true).run Try.prog w = .ok (.tuple #[v, .bool true]) w := by
  simp only [Instr.lookup, Sem.run_bind, run_underlying Try.underlying159, MapKept.run_getObj_map hb, key_ok, find_hit, Result.andThen, Sem.run_pure]
  rfl
theorem zero166 (w : World) : (zeroValue 166).run Try.prog w = .ok (.agg #[.slice none 0 0, .bool false]) w := by kernel_rfl
theorem look_empty (w : World) (bm : Nat) (s : ByteArray) (hb : w.heap[bm]? = some (.map #[] 0)) :
    (Instr.lookup 159 (.map (some bm)) (.string s) false).run Try.prog w = .ok (.agg #[.slice none 0 0, .bool false]) w := by
  simp only [Instr.lookup, Sem.run_bind, run_underlying Try.underlying159, MapKept.run_getObj_map hb, key_ok, find_nil, Result.andThen, Sem.run_pure, zero166]
  rfl
theorem look_miss (w : World) (bm : Nat) (s t : ByteArray) (v : Value) (hne : (t == s) = false) (hb : w.heap[bm]? = some (.map #[⟨.string s, v, 0⟩] 1)) :
    (Instr.lookup 159 (.map (some bm)) (.string t) false).run Try.prog w = .ok (.agg #[.slice none 0 0, .bool false]) w := by
  simp only [Instr.lookup, Sem.run_bind, run_underlying Try.underlying159, MapKept.run_getObj_map hb, key_ok, find_miss s t v hne, Result.andThen, Sem.run_pure, zero166]
  rfl
end Go.Proofs.Ytgdnomdgdblpcaa.D

/- What Write and Sync do, if they may: the closures; change. -/
namespace Go.Proofs.Ytgdnomdgdblpcaa.D
open Go.RowKit Go.Proofs.YtgdnomdgdblpcaaW.PrintWords Go.Proofs.YtgdnomdgdblpcaaW.PrintLast Go.Proofs.YtgdnomdgdblpcaaW.PrintMore Go.Proofs.Ytgdnomdgdblpcaa.B
set_option linter.unusedVariables false
set_option linter.unusedSimpArgs false

/-- The map of block bm is of one file of four bytes. -/
def One (w : World) (bm : Nat) (s : ByteArray) (b : Bool) : Prop := ∃ A c, w.heap[bm]? = some (.map #[⟨.string s, .agg #[.slice A 4 c, .bool b], 0⟩] 1)
theorem field0 (x y : Value) (w : World) : (Instr.field 166 (.agg #[x, y]) 0).run Try.prog w = .ok x w := by kernel_rfl
theorem cell_putM {w : World} {b : Nat} {o : Obj} {es : Array MapEntry} {c : Nat} {a : Addr} {v : Value} (hb : w.heap[b]? = some (.map es c)) (hc : w.cell? a = some v) : (putM w b o).cell? a = some v := by
  by_cases h : a.block = b
  · subst h
    simp [World.cell?, hb] at hc
  · rw [← hc]; simp [World.cell?, putM_other _ _ _ _ h]
theorem clone4 (A : Option Addr) (c : Nat) (bs : List Int) (w : World) (hC : Kd.C (Kd.int .u8) w A 4 bs) (hl : bs.length = 4) (hc : 4 ≤ c) :
    Calls Try.prog 129 #[.slice A 4 c] w fun e w' => ∃ A1 c1, e = .returned (.slice A1 4 c1) ∧ Below w.heap.size w w' := by
  have h := slices_Clone_byte_byte.calls A c bs bs w (by rw [hl]; exact hC) (by omega) (by unfold slices_Clone_byte_byte.f; rw [if_pos (by omega)])
  rw [hl] at h
  refine h.mono ?_
  rintro e w' ⟨v, rfl, hr, hb⟩
  obtain ⟨A1, c1, rfl⟩ := Kd.R_slice hr
  rw [hl]
  exact ⟨A1, c1, rfl, hb⟩
theorem below_grown {w w1 w2 : World} {b : Nat} {o : Obj} (h1 : Below w.heap.size w w1) (hw : w2 = putM w1 b o) : w.grownBy w2 (some b) := by
  subst hw
  exact World.grownBy.trans (grown_of_below h1 _) (putM_grown w1 b o)
set_option maxHeartbeats 1000000 in
set_option maxRecDepth 100000 in
theorem write1_calls (bd bm : Nat) (ops : Int) (pb pd pn : Addr) (A : Option Addr) (c : Nat) (bs : List Int) (s : ByteArray) (w : World) (h : Dv w bd bm ops) (hb : w.heap[bm]? = some (.map #[] 0)) (h1 : w.cell? pb = some (.slice A 4 c)) (h2 : w.cell? pd = some (.pointer (some ⟨bd, 0, none⟩))) (h3 : w.cell? pn = some (.string s)) (hC : Kd.C (Kd.int .u8) w A 4 bs) (hl : bs.length = 4) (hc : 4 ≤ c) :
    Calls Try.prog 128 #[.pointer (some pb), .pointer (some pd), .pointer (some pn)] w fun e w' => e = .returned (.tuple #[]) ∧ One w' bm s false ∧ w.grownBy w' (some bm) := by
  obtain ⟨_, g1, _⟩ := h.cell
  have H := Lib.hid h
  have HB := Lib.hid hb
  have HC := Aside0.mk hC
  have HL := Lib.hid hl
  clear h hC hb hl
  go_enter Try.func128, Try.ntmps128
  go_wp2
  go_region_held3 (fun w' => w'.cell? pb = some (.slice A 4 c) ∧ w'.cell? pd = some (.pointer (some ⟨bd, 0, none⟩)) ∧ w'.cell? pn = some (.string s) ∧ w'.cell? ⟨bd, 1, none⟩ = some (.map (some bm))) (first | go_keep | exact ⟨cell_putM hmm k1, cell_putM hmm k2, cell_putM hmm k3, cell_putM hmm k4⟩)
    ((go_at_call 129; refine (clone4 A c bs _ ?s1 HL.out hc).mono ?_; (case s1 => repeat (first | exact HC.out | (with_reducible refine Kd.C_drewN ?_ _) | (with_reducible refine Kd.C_drew ?_))); rintro e w1 ⟨A1, c1, rfl, hbl⟩; have hmm := (hbl.block bm (lt_of_heap HB.out)).trans HB.out; have hup := upd_first w1 bm s (.agg #[.slice A1 4 c1, .bool false]) hmm; have k1 := pw_cell_below hbl h1; have k2 := pw_cell_below hbl h2; have k3 := pw_cell_below hbl h3; have k4 := pw_cell_below hbl g1; have HBL := Lib.hid hbl; clear hbl))
  go_end0
  have hb2 := HBL.out
  have hb1 : Below w.heap.size w w1 := ⟨hb2.os, hb2.tape, hb2.output, hb2.size, hb2.block⟩
  exact ⟨rfl, ⟨A1, c1, putM_at _ _ _ (lt_of_heap hmm)⟩, below_grown hb1 rfl⟩
set_option maxHeartbeats 1000000 in
set_option maxRecDepth 100000 in
theorem sync1_calls (bd bm : Nat) (ops : Int) (pd pn : Addr) (s : ByteArray) (w : World) (h : Dv w bd bm ops) (hb : One w bm s false) (h2 : w.cell? pd = some (.pointer (some ⟨bd, 0, none⟩))) (h3 : w.cell? pn = some (.string s)) :
    Calls Try.prog 133 #[.pointer (some pd), .pointer (some pn)] w fun e w' => e = .returned (.tuple #[]) ∧ One w' bm s true ∧ w.grownBy w' (some bm) := by
  obtain ⟨_, g1, _⟩ := h.cell
  obtain ⟨A, c, hm⟩ := hb
  have H := Lib.hid h
  have HM := Lib.hid hm
  have hmm : w.drew.heap[bm]? = some (.map #[⟨.string s, .agg #[.slice A 4 c, .bool false], 0⟩] 1) := hm
  have HMM := Aside0.mk hmm
  clear hmm
  have hlk := look_hit w.drew bm s _ hm
  have hup := upd_same w.drew bm s (.agg #[.slice A 4 c, .bool true]) _ hm
  have hf0 := field0
  clear h hm
  go_enter Try.func133, Try.ntmps133
  go_wp2
  go_region_held3 (fun w' => w'.cell? pd = some (.pointer (some ⟨bd, 0, none⟩)) ∧ w'.cell? pn = some (.string s) ∧ w'.cell? ⟨bd, 1, none⟩ = some (.map (some bm))) (first | go_keep | exact ⟨cell_putM HMM.out h2, cell_putM HMM.out h3, cell_putM HMM.out g1⟩) (fail)
  go_end0
  exact ⟨rfl, ⟨A, c, putM_at _ _ _ (lt_of_heap HMM.out)⟩, below_grown (below_drew (Below.refl _ _)) rfl⟩
end Go.Proofs.Ytgdnomdgdblpcaa.D

/- change: what may be done is done, and counted. -/
namespace Go.Proofs.Ytgdnomdgdblpcaa.D
open Go.RowKit Go.Proofs.YtgdnomdgdblpcaaW.PrintWords Go.Proofs.YtgdnomdgdblpcaaW.PrintLast Go.Proofs.YtgdnomdgdblpcaaW.PrintMore Go.Proofs.Ytgdnomdgdblpcaa.B
set_option linter.unusedVariables false
set_option linter.unusedSimpArgs false

/-- All stands but the blocks bd and bm. -/
structure Kp (bd bm : Nat) (w w' : World) : Prop where
  os : w'.os = w.os
  tape : w'.tape = w.tape
  output : w'.output = w.output
  size : w.heap.size ≤ w'.heap.size
  block : ∀ k, k < w.heap.size → k ≠ bd → k ≠ bm → w'.heap[k]? = w.heap[k]?
theorem Kp.refl (bd bm : Nat) (w : World) : Kp bd bm w w := ⟨rfl, rfl, rfl, Nat.le_refl _, fun _ _ _ _ => rfl⟩
theorem Kp.trans {bd bm : Nat} {w w1 w2 : World} (h : Kp bd bm w w1) (k : Kp bd bm w1 w2) : Kp bd bm w w2 :=
  ⟨k.os.trans h.os, k.tape.trans h.tape, k.output.trans h.output, Nat.le_trans h.size k.size, fun i hi a b => (k.block i (Nat.lt_of_lt_of_le hi h.size) a b).trans (h.block i hi a b)⟩
theorem Kp.of_below {bd bm : Nat} {w w1 : World} (h : Below w.heap.size w w1) : Kp bd bm w w1 := ⟨h.os, h.tape, h.output, h.size, fun k hk _ _ => h.block k hk⟩
theorem Kp.of_grown {bd bm : Nat} {w w1 : World} (h : w.grownBy w1 (some bm)) : Kp bd bm w w1 := ⟨h.os, h.tape, h.output, h.size, fun k hk _ hb => h.block k hk (fun e => hb (Option.some.inj e))⟩
theorem Kp.of_set {bd bm : Nat} (w : World) (i : Nat) (v : Value) : Kp bd bm w (w.setCell ⟨bd, i, none⟩ v) := ⟨rfl, rfl, rfl, by simp, fun k _ hd _ => Below.heap_setCell w _ v k hd⟩
theorem Dv.grown {w w1 : World} {bd bm : Nat} {ops : Int} (h : Dv w bd bm ops) (hg : w.grownBy w1 (some bm)) (hne : bd ≠ bm) : Dv w1 bd bm ops := by
  unfold Dv at h ⊢
  rw [hg.block bd (lt_of_heap h) (fun e => hne (Option.some.inj e))]; exact h
theorem Dv.set {w : World} {bd bm : Nat} {ops : Int} (h : Dv w bd bm ops) (n : Int) : Dv (w.setCell ⟨bd, 6, none⟩ (.int .i64 n)) bd bm n := by
  unfold Dv at h ⊢
  rw [heap_setCell_same w bd 6 _ _ _ h]
  rfl
theorem One.set {w : World} {bd bm : Nat} {s : ByteArray} {b : Bool} (h : One w bm s b) (hne : bd ≠ bm) (i : Nat) (v : Value) : One (w.setCell ⟨bd, i, none⟩ v) bm s b := by
  obtain ⟨A, c, h⟩ := h
  exact ⟨A, c, (Below.heap_setCell w _ v bm (fun e => hne e.symm)).trans h⟩
set_option maxHeartbeats 1000000 in
set_option maxRecDepth 100000 in
theorem change1_calls (bd bm : Nat) (hne : bd ≠ bm) (ops : Int) (h0 : 0 ≤ ops) (h1 : ops ≤ 1000) (cap : Array Value) (s : ByteArray) (b : Bool) (w : World) (h : Dv w bd bm ops)
    (hdo : Calls Try.prog 128 cap w fun e w' => e = .returned (.tuple #[]) ∧ One w' bm s b ∧ w.grownBy w' (some bm)) :
    Calls Try.prog 127 #[.pointer (some ⟨bd, 0, none⟩), .func (.func 128) #[] cap] w fun e w' => e = .returned (.int .i64 0) ∧ Dv w' bd bm (ops + 1) ∧ One w' bm s b ∧ Kp bd bm w w' := by
  obtain ⟨g0, g1, g2, g3, g4, g5, g6⟩ := h.cell
  have H := Lib.hid h
  have HD := Aside0.mk hdo
  clear h hdo
  go_enter Try.func127, Try.ntmps127
  go_wp2_with (go_at_call 128; refine (HD.out).mono ?_; rintro e w1 ⟨rfl, ho, hg⟩; have hd1 := H.out.grown hg hne; obtain ⟨k0, k1, k2, k3, k4, k5, k6⟩ := hd1.cell; have kf := free_of_blk hd1 6; have HD1 := Lib.hid hd1; have HO := Lib.hid ho; have HG := Aside0.mk hg; clear hd1 ho hg)
  go_ret
  exact ⟨rfl, HD1.out.set _, HO.out.set hne _ _, (Kp.of_grown HG.out).trans (Kp.of_set _ _ _)⟩
set_option maxHeartbeats 1000000 in
set_option maxRecDepth 100000 in
theorem change2_calls (bd bm : Nat) (hne : bd ≠ bm) (ops : Int) (h0 : 0 ≤ ops) (h1 : ops ≤ 1000) (cap : Array Value) (s : ByteArray) (b : Bool) (w : World) (h : Dv w bd bm ops)
    (hdo : Calls Try.prog 133 cap w fun e w' => e = .returned (.tuple #[]) ∧ One w' bm s b ∧ w.grownBy w' (some bm)) :
    Calls Try.prog 127 #[.pointer (some ⟨bd, 0, none⟩), .func (.func 133) #[] cap] w fun e w' => e = .returned (.int .i64 0) ∧ Dv w' bd bm (ops + 1) ∧ One w' bm s b ∧ Kp bd bm w w' := by
  obtain ⟨g0, g1, g2, g3, g4, g5, g6⟩ := h.cell
  have H := Lib.hid h
  have HD := Aside0.mk hdo
  clear h hdo
  go_enter Try.func127, Try.ntmps127
  go_wp2_with (go_at_call 133; refine (HD.out).mono ?_; rintro e w1 ⟨rfl, ho, hg⟩; have hd1 := H.out.grown hg hne; obtain ⟨k0, k1, k2, k3, k4, k5, k6⟩ := hd1.cell; have kf := free_of_blk hd1 6; have HD1 := Lib.hid hd1; have HO := Lib.hid ho; have HG := Aside0.mk hg; clear hd1 ho hg)
  go_ret
  exact ⟨rfl, HD1.out.set _, HO.out.set hne _ _, (Kp.of_grown HG.out).trans (Kp.of_set _ _ _)⟩
end Go.Proofs.Ytgdnomdgdblpcaa.D

/- Write, of an empty drive and of one that is too full. -/
namespace Go.Proofs.Ytgdnomdgdblpcaa.D
open Go.RowKit Go.Proofs.YtgdnomdgdblpcaaW.PrintWords Go.Proofs.YtgdnomdgdblpcaaW.PrintLast Go.Proofs.YtgdnomdgdblpcaaW.PrintMore Go.Proofs.Ytgdnomdgdblpcaa.B
set_option linter.unusedVariables false
set_option linter.unusedSimpArgs false

theorem Dv.below {w w1 : World} {bd bm : Nat} {ops : Int} (h : Dv w bd bm ops) (hb : Below w.heap.size w w1) : Dv w1 bd bm ops := by
  unfold Dv at h ⊢
  rw [hb.block bd (lt_of_heap h)]; exact h
theorem four (w : World) (o0 o1 o2 o3 : Obj) : ((((w.alloc o0).alloc o1).alloc o2).alloc o3).heap[w.heap.size]? = some o0 ∧ ((((w.alloc o0).alloc o1).alloc o2).alloc o3).heap[w.heap.size + 1]? = some o1 ∧ ((((w.alloc o0).alloc o1).alloc o2).alloc o3).heap[w.heap.size + 1 + 1]? = some o2 ∧ ((((w.alloc o0).alloc o1).alloc o2).alloc o3).heap[w.heap.size + 1 + 1 + 1]? = some o3 := by
  have s1 : (w.alloc o0).heap.size = w.heap.size + 1 := World.size_alloc ..
  have s2 : ((w.alloc o0).alloc o1).heap.size = w.heap.size + 1 + 1 := by rw [World.size_alloc, s1]
  have s3 : (((w.alloc o0).alloc o1).alloc o2).heap.size = w.heap.size + 1 + 1 + 1 := by rw [World.size_alloc, s2]
  refine ⟨?_, ?_, ?_, ?_⟩
  · rw [heap_alloc_old _ _ (by omega), heap_alloc_old _ _ (by omega), heap_alloc_old _ _ (by omega), heap_alloc_new]
  · rw [heap_alloc_old _ _ (by omega), heap_alloc_old _ _ (by omega), ← s1, heap_alloc_new]
  · rw [heap_alloc_old _ _ (by omega), ← s2, heap_alloc_new]
  · rw [← s3, heap_alloc_new]
set_option maxHeartbeats 2000000 in
set_option maxRecDepth 100000 in
theorem write_first (bd bm : Nat) (hne : bd ≠ bm) (A : Option Addr) (c : Nat) (bs : List Int) (s : ByteArray) (k : Nat) (w : World) (h : Dv w bd bm 0) (hb : w.heap[bm]? = some (.map #[] 0)) (hs : drive_Name.f k s = some true) (hC : Kd.C (Kd.int .u8) w A 4 bs) (hl : bs.length = 4) (hc : 4 ≤ c) :
    Calls Try.prog 82 #[.pointer (some ⟨bd, 0, none⟩), .string s, .slice A 4 c] w fun e w' => e = .returned (.int .i64 0) ∧ Dv w' bd bm 1 ∧ One w' bm s false ∧ Kp bd bm w w' := by
  have H := Lib.hid h
  have HB := Lib.hid hb
  have HS := Lib.hid hs
  have HC := Aside0.mk hC
  have HL := Lib.hid hl
  clear h hb hs hC hl
  go_enter Try.func82, Try.ntmps82
  go_wp2_with (go_at_call 125; refine (ask_calls bd bm 0 _ _ s k _ ?s1 ?s2 HS.out).mono ?_; (case s1 => exact H.out.below (by repeat (first | exact Below.refl _ _ | apply below_alloc))); (case s2 => first | (go_simp; done) | (simp; done)); rintro e w1 ⟨rfl, nd, rfl⟩)
  generalize hW : World.drewN _ nd = W
  have hbW : Below w.heap.size w W := by rw [← hW]; repeat (first | exact Below.refl _ _ | apply below_alloc | apply pw_below_drewN)
  have f0 : W.cell? ⟨w.heap.size, 0, none⟩ = some (.pointer (some ⟨bd, 0, none⟩)) := by rw [← hW]; exact cell_of_blk (four w _ _ _ _).1 0
  have f1 : W.cell? ⟨w.heap.size + 1, 0, none⟩ = some (.string s) := by rw [← hW]; exact cell_of_blk (four w _ _ _ _).2.1 0
  have f2 : W.cell? ⟨w.heap.size + 1 + 1, 0, none⟩ = some (.slice A 4 c) := by rw [← hW]; exact cell_of_blk (four w _ _ _ _).2.2.1 0
  clear hW
  have hd := H.out.below hbW
  obtain ⟨g0, g1, g2, g3, g4, g5, g6⟩ := hd.cell
  have HM := Lib.hid ((hbW.block bm (lt_of_heap HB.out)).trans HB.out)
  have HD := Lib.hid hd
  have HW := Lib.hid hbW
  clear hd hbW
  have hlk := look_empty W.drew bm s HM.out
  have hf0 := field0
  go_region_held3 (fun w' => w'.cell? ⟨w.heap.size, 0, none⟩ = some (.pointer (some ⟨bd, 0, none⟩)) ∧ w'.cell? ⟨w.heap.size + 1, 0, none⟩ = some (.string s) ∧ w'.cell? ⟨w.heap.size + 1 + 1, 0, none⟩ = some (.slice A 4 c) ∧ w'.cell? ⟨bd, 0, none⟩ = some (.int .i64 10) ∧ w'.cell? ⟨bd, 1, none⟩ = some (.map (some bm)) ∧ w'.cell? ⟨bd, 3, none⟩ = some (.bool false) ∧ (Instr.lookup 159 (.map (some bm)) (.string s) false).run Try.prog w' = .ok (.agg #[.slice none 0 0, .bool false]) w') (go_keep)
    ((go_at_call 126; refine (used_empty bd bm 0 _ ?u1 ?u2).mono ?_; (case u1 => exact HD.out); (case u2 => exact HM.out); rintro e w1 ⟨rfl, hb1⟩; have m1 := pw_cell_below hb1 f0; have m2 := pw_cell_below hb1 f1; have m3 := pw_cell_below hb1 f2; have m4 := pw_cell_below hb1 g0; have m5 := pw_cell_below hb1 g1; have m6 := pw_cell_below hb1 g3; have m7 := look_empty w1 bm s ((hb1.block bm (lt_of_heap HM.out)).trans HM.out); have HB1 := Lib.hid hb1; clear hb1))
  all_goals
    have hb2 := HB1.out
    have hbw : Below w.heap.size w w1 := below_then HW.out HW.out.size ⟨hb2.os, hb2.tape, hb2.output, hb2.size, hb2.block⟩
    have hd1 := H.out.below hbw
    have hm1 := (hbw.block bm (lt_of_heap HB.out)).trans HB.out
    have hC1 := Kd.C_below HC.out hbw
    have HX := Aside0.mk (write1_calls bd bm 0 _ _ _ A c bs s w1 hd1 hm1 m3 m1 m2 hC1 HL.out hc)
    have HD1 := Lib.hid hd1
    have HBW := Lib.hid hbw
    clear hb2 hbw hd1 hm1 hC1
    go_wp2_with (go_at_call 127; refine (change1_calls bd bm hne 0 (by omega) (by omega) _ s false _ HD1.out HX.out).mono ?_; rintro e w2 ⟨rfl, hd2, ho2, hk2⟩; have HD2 := Lib.hid hd2; have HO2 := Lib.hid ho2; have HK2 := Lib.hid hk2; clear hd2 ho2 hk2)
    go_ret
    exact ⟨rfl, HD2.out, HO2.out, (Kp.of_below HBW.out).trans HK2.out⟩
set_option maxHeartbeats 2000000 in
set_option maxRecDepth 100000 in
theorem write_full (bd bm : Nat) (hne : bd ≠ bm) (A : Option Addr) (c : Nat) (s s0 : ByteArray) (k : Nat) (w : World) (h : Dv w bd bm 2) (hb : One w bm s0 true) (hs : drive_Name.f k s = some true) (hss : (s == s0) = false) :
    Calls Try.prog 82 #[.pointer (some ⟨bd, 0, none⟩), .string s, .slice A 7 c] w fun e w' => e = .returned (.int .i64 8) ∧ Below w.heap.size w w' := by
  have H := Lib.hid h
  obtain ⟨A0, c0, hb⟩ := hb
  have HB := Lib.hid hb
  have HS := Lib.hid hs
  have HSS := Lib.hid hss
  clear h hb hs hss
  go_enter Try.func82, Try.ntmps82
  go_wp2_with (go_at_call 125; refine (ask_calls bd bm 2 _ _ s k _ ?s1 ?s2 HS.out).mono ?_; (case s1 => exact H.out.below (by repeat (first | exact Below.refl _ _ | apply below_alloc))); (case s2 => first | (go_simp; done) | (simp; done)); rintro e w1 ⟨rfl, nd, rfl⟩)
  generalize hW : World.drewN _ nd = W
  have hbW : Below w.heap.size w W := by rw [← hW]; repeat (first | exact Below.refl _ _ | apply below_alloc | apply pw_below_drewN)
  have f0 : W.cell? ⟨w.heap.size, 0, none⟩ = some (.pointer (some ⟨bd, 0, none⟩)) := by rw [← hW]; exact cell_of_blk (four w _ _ _ _).1 0
  have f1 : W.cell? ⟨w.heap.size + 1, 0, none⟩ = some (.string s) := by rw [← hW]; exact cell_of_blk (four w _ _ _ _).2.1 0
  have f2 : W.cell? ⟨w.heap.size + 1 + 1, 0, none⟩ = some (.slice A 7 c) := by rw [← hW]; exact cell_of_blk (four w _ _ _ _).2.2.1 0
  clear hW
  have hd := H.out.below hbW
  obtain ⟨g0, g1, g2, g3, g4, g5, g6⟩ := hd.cell
  have HM := Lib.hid ((hbW.block bm (lt_of_heap HB.out)).trans HB.out)
  have HD := Lib.hid hd
  have HW := Lib.hid hbW
  clear hd hbW
  have hlk := look_miss W.drew bm s0 s _ HSS.out HM.out
  have hf0 := field0
  go_region_held3 (fun w' => w'.cell? ⟨w.heap.size, 0, none⟩ = some (.pointer (some ⟨bd, 0, none⟩)) ∧ w'.cell? ⟨w.heap.size + 1, 0, none⟩ = some (.string s) ∧ w'.cell? ⟨w.heap.size + 1 + 1, 0, none⟩ = some (.slice A 7 c) ∧ w'.cell? ⟨bd, 0, none⟩ = some (.int .i64 10) ∧ w'.cell? ⟨bd, 1, none⟩ = some (.map (some bm)) ∧ w'.cell? ⟨bd, 3, none⟩ = some (.bool false) ∧ (Instr.lookup 159 (.map (some bm)) (.string s) false).run Try.prog w' = .ok (.agg #[.slice none 0 0, .bool false]) w') (go_keep)
    ((go_at_call 126; refine (used_one bd bm 2 (.string s0) A0 c0 true _ ?u1 ?u2).mono ?_; (case u1 => exact HD.out); (case u2 => exact HM.out); rintro e w1 ⟨rfl, hb1⟩; have m1 := pw_cell_below hb1 f0; have m2 := pw_cell_below hb1 f1; have m3 := pw_cell_below hb1 f2; have m4 := pw_cell_below hb1 g0; have m5 := pw_cell_below hb1 g1; have m6 := pw_cell_below hb1 g3; have m7 := look_miss w1 bm s0 s _ HSS.out ((hb1.block bm (lt_of_heap HM.out)).trans HM.out); have HB1 := Lib.hid hb1; clear hb1))
  all_goals
    have hb2 := HB1.out
    have hbw : Below w.heap.size w w1 := below_then HW.out HW.out.size ⟨hb2.os, hb2.tape, hb2.output, hb2.size, hb2.block⟩
    have hd1 := H.out.below hbw
    have HBW := Lib.hid hbw
    clear hb2 hbw hd1
    go_wp2
    go_ret
    exact ⟨rfl, HBW.out⟩
end Go.Proofs.Ytgdnomdgdblpcaa.D

/- Sync, and what it asks. -/
namespace Go.Proofs.Ytgdnomdgdblpcaa.D
open Go.RowKit Go.Proofs.YtgdnomdgdblpcaaW.PrintWords Go.Proofs.YtgdnomdgdblpcaaW.PrintLast Go.Proofs.YtgdnomdgdblpcaaW.PrintMore Go.Proofs.Ytgdnomdgdblpcaa.B
set_option linter.unusedVariables false
set_option linter.unusedSimpArgs false

theorem info9 : (Try.prog.info? 9).map (fun i => (i.zero, i.size, i.bytes)) = some (some (.string ByteArray.empty), 1, 16) := by kernel_rfl
set_option maxHeartbeats 2000000 in
set_option maxRecDepth 100000 in
theorem there_calls (bd bm : Nat) (ops : Int) (s : ByteArray) (b : Bool) (k : Nat) (w : World) (h : Dv w bd bm ops) (hb : One w bm s b) (hs : drive_Name.f k s = some true) :
    Calls Try.prog 132 #[.pointer (some ⟨bd, 0, none⟩), .string s, .slice none 0 0] w fun e w' => e = .returned (.int .i64 0) ∧ Below w.heap.size w w' := by
  obtain ⟨A0, c0, hb⟩ := hb
  have H := Lib.hid h
  have HO := Lib.hid hb
  have HS := Lib.hid hs
  clear h hb hs
  go_enter Try.func132, Try.ntmps132
  go_wp2_with (first
    | (at_builtin; refine print_append (w0 := w) w.heap.size rfl (.tmp 11) (.tmp 13) 120 9 (.string ByteArray.empty) 16 rfl Try.underlying120 info9 rfl (by decide) (.slice none 0 0) [] (.string s) rfl rfl rfl (own_nil _ _ _ _) (Below.refl _ _) (Nat.le_refl _) (by simp) ?_; intro v1 w1 hown hb1 hg hat; obtain ⟨g, cap, rfl, _, _⟩ := hown.form (by simp); have hcell := hown.cells (g := g) rfl 0 (.string s) rfl; have HB1 := Lib.hid hb1; have HC1 := Lib.hid hcell; clear hown hb1 hg hat hcell)
    | (go_at_call 125; refine (ask_calls bd bm ops _ _ s k _ ?s1 ?s2 HS.out).mono ?_; (case s1 => exact H.out.below HB1.out); (case s2 => exact HC1.out); rintro e w2 ⟨rfl, hw2⟩; have hb2 : Below w.heap.size w w2 := (by obtain ⟨nd, rfl⟩ := hw2; exact pw_below_drewN HB1.out _); clear hw2; have hd := H.out.below hb2; obtain ⟨k0, k1, k2, k3, k4, k5, k6⟩ := hd.cell; have hlk := look_hit_ok w2 bm s _ ((hb2.block bm (lt_of_heap HO.out)).trans HO.out); have HB2 := Lib.hid hb2; clear hd hb2))
  go_ret
  exact ⟨rfl, below_alloc HB2.out _⟩
theorem One.below {w w1 : World} {bm : Nat} {s : ByteArray} {b : Bool} (h : One w bm s b) (hb : Below w.heap.size w w1) : One w1 bm s b := by
  obtain ⟨A, c, h⟩ := h
  exact ⟨A, c, (hb.block bm (lt_of_heap h)).trans h⟩
theorem two (w : World) (o0 o1 : Obj) : ((w.alloc o0).alloc o1).heap[w.heap.size]? = some o0 ∧ ((w.alloc o0).alloc o1).heap[w.heap.size + 1]? = some o1 := by
  have s1 : (w.alloc o0).heap.size = w.heap.size + 1 := World.size_alloc ..
  refine ⟨?_, ?_⟩
  · rw [heap_alloc_old _ _ (by omega), heap_alloc_new]
  · rw [← s1, heap_alloc_new]
set_option maxHeartbeats 2000000 in
set_option maxRecDepth 100000 in
theorem sync_calls (bd bm : Nat) (hne : bd ≠ bm) (s : ByteArray) (k : Nat) (w : World) (h : Dv w bd bm 1) (hb : One w bm s false) (hs : drive_Name.f k s = some true) :
    Calls Try.prog 85 #[.pointer (some ⟨bd, 0, none⟩), .string s] w fun e w' => e = .returned (.int .i64 0) ∧ Dv w' bd bm 2 ∧ One w' bm s true ∧ Kp bd bm w w' := by
  have H := Lib.hid h
  have HO := Lib.hid hb
  have HS := Lib.hid hs
  clear h hb hs
  go_enter Try.func85, Try.ntmps85
  go_wp2_with (first
    | (go_at_call 132; refine (there_calls bd bm 1 s false k _ ?s1 ?s2 HS.out).mono ?_; (case s1 => exact H.out.below (by repeat (first | exact Below.refl _ _ | apply below_alloc))); (case s2 => exact HO.out.below (by repeat (first | exact Below.refl _ _ | apply below_alloc))); rintro e w1 ⟨rfl, hb1⟩; have hbw : Below w.heap.size w w1 := (below_then (by repeat (first | exact Below.refl _ _ | apply below_alloc)) (by simp; omega) hb1); have p0 := pw_cell_below hb1 (cell_of_blk (two w _ _).1 0); have p1 := pw_cell_below hb1 (cell_of_blk (two w _ _).2 0); have HX := Aside0.mk (sync1_calls bd bm 1 _ _ s w1 (H.out.below hbw) (HO.out.below hbw) p0 p1); have HBW := Lib.hid hbw; clear hb1 hbw)
    | (go_at_call 127; refine (change2_calls bd bm hne 1 (by omega) (by omega) _ s true _ (H.out.below HBW.out) HX.out).mono ?_; rintro e w2 ⟨rfl, hd2, ho2, hk2⟩; have HD2 := Lib.hid hd2; have HO2 := Lib.hid ho2; have HK2 := Lib.hid hk2; clear hd2 ho2 hk2))
  go_ret
  exact ⟨rfl, HD2.out, HO2.out, (Kp.of_below HBW.out).trans HK2.out⟩
end Go.Proofs.Ytgdnomdgdblpcaa.D

/- The sort of one text. -/
namespace Go.Proofs.Ytgdnomdgdblpcaa.D
open Go.RowKit Go.Proofs.YtgdnomdgdblpcaaW.PrintWords Go.Proofs.YtgdnomdgdblpcaaW.PrintLast Go.Proofs.YtgdnomdgdblpcaaW.PrintMore Go.Proofs.Ytgdnomdgdblpcaa.B
set_option linter.unusedVariables false
set_option linter.unusedSimpArgs false

set_option maxHeartbeats 1000000 in
set_option maxRecDepth 100000 in
theorem len64_calls (w : World) : Calls Try.prog 174 #[.int .u64 1] w fun e w' => e = .returned (.int .i64 1) ∧ w = w' := by
  go_enter Try.func174, Try.ntmps174
  go_wp2
  go_ret
  exact ⟨by kernel_rfl, rfl⟩
set_option maxRecDepth 100000 in
theorem len_calls (w : World) : Calls Try.prog 154 #[.int .u64 1] w fun e w' => e = .returned (.int .i64 1) ∧ w = w' := by
  go_enter Try.func154, Try.ntmps154
  go_wp2_with (go_at_call 174; refine (len64_calls _).mono ?_; rintro e w' ⟨rfl, rfl⟩)
  go_ret
  exact ⟨rfl, rfl⟩
set_option maxHeartbeats 1000000 in
set_option maxRecDepth 100000 in
theorem insert_calls (A : Option Addr) (c : Nat) (w : World) : Calls Try.prog 164 #[.slice A 1 c, .int .i64 0, .int .i64 1] w fun e w' => e = .returned (.tuple #[]) ∧ w = w' := by
  go_enter Try.func164, Try.ntmps164
  go_wp2
  refine wp_loop_rounds 1 ?_
  rw [rounds_succ]
  go_wp2
  go_end0
  exact ⟨rfl, rfl⟩
set_option maxHeartbeats 1000000 in
set_option maxRecDepth 100000 in
theorem pdq_calls (A : Option Addr) (c : Nat) (w : World) : Calls Try.prog 153 #[.slice A 1 c, .int .i64 0, .int .i64 1, .int .i64 1] w fun e w' => e = .returned (.tuple #[]) ∧ w = w' := by
  go_enter Try.func153, Try.ntmps153
  go_wp2
  refine wp_loop_rounds 1 ?_
  rw [rounds_succ]
  go_wp2_with (go_at_call 164; refine (insert_calls _ _ _).mono ?_; rintro e w' ⟨rfl, rfl⟩)
  exact bodyPost_ret (v := .tuple #[]) (by simp [results, Try.results153, go_sem]) rfl ⟨rfl, rfl⟩
set_option maxRecDepth 100000 in
theorem sort1_calls (A : Option Addr) (c : Nat) (w : World) : Calls Try.prog 131 #[.slice A 1 c] w fun e w' => e = .returned (.tuple #[]) ∧ w = w' := by
  go_enter Try.func131, Try.ntmps131
  go_wp2_with (first | (go_at_call 154; refine (len_calls _).mono ?_; rintro e w' ⟨rfl, rfl⟩) | (go_at_call 153; refine (pdq_calls _ _ _).mono ?_; rintro e w' ⟨rfl, rfl⟩))
  go_end0
  exact ⟨rfl, rfl⟩
end Go.Proofs.Ytgdnomdgdblpcaa.D

/- Loose: the names of loose files, where there is one. -/
namespace Go.Proofs.Ytgdnomdgdblpcaa.D
open Go.RowKit Go.Proofs.YtgdnomdgdblpcaaW.PrintWords Go.Proofs.YtgdnomdgdblpcaaW.PrintLast Go.Proofs.YtgdnomdgdblpcaaW.PrintMore Go.Proofs.Ytgdnomdgdblpcaa.B
set_option linter.unusedVariables false
set_option linter.unusedSimpArgs false

theorem next_over {P : Program} (W : World) (it : Nat) (ty : TypeId) (bm : Nat) (k v : Value) (hi : W.heap[it]? = some (.mapIter (some bm) 1 #[0] 1)) (hb : W.heap[bm]? = some (.map #[⟨k, v, 0⟩] 1)) :
    (Instr.next (.pointer (some ⟨it, 0, none⟩)) false ty).run P W = .ok (.tuple #[.bool false]) W := by
  simp only [Instr.next, getObj, Sem.run_bind, Sem.run, hi, hb, Result.andThen]
  simp [choose, Question.forced, Sem.run, Result.andThen]
set_option maxHeartbeats 2000000 in
set_option maxRecDepth 100000 in
theorem loose_one (bd bm : Nat) (ops : Int) (s : ByteArray) (w : World) (h : Dv w bd bm ops) (hb : One w bm s false) :
    Calls Try.prog 84 #[.pointer (some ⟨bd, 0, none⟩)] w fun e w' => ∃ ad c, e = .returned (.slice (some ad) 1 c) ∧ 1 ≤ c ∧ w'.cell? ad = some (.string s) ∧ Below w.heap.size w w' := by
  obtain ⟨A0, c0, hb⟩ := hb
  obtain ⟨h0, h1, h2, h3, h4, h5, h6⟩ := h.cell
  have H := Lib.hid h
  have HO := Lib.hid hb
  have hr := run_range_map (P := Try.prog) w 159 _ _ bm _ _ Try.underlying159 hb
  have hn := fun ty => next_first (P := Try.prog) w ty bm _ _ hb
  have he := entry_first (P := Try.prog) w bm _ _ hb
  clear h hb
  go_enter Try.func84, Try.ntmps84
  go_wp2_with (go_at_call 130; refine (none_calls bd bm ops _ H.out).mono ?_; rintro e w' ⟨rfl, rfl⟩)
  refine wp_loop_rounds 2 ?_
  rw [rounds_succ]
  go_wp2_with (at_builtin; go_loud (refine print_append (w0 := w) w.heap.size rfl (.tmp 21) (.tmp 23) 120 9 (.string ByteArray.empty) 16 rfl Try.underlying120 info9 rfl (by decide) (.slice none 0 0) [] (.string s) rfl ?hx rfl (own_nil _ _ _ _) ?b1 ?b2 (by simp) ?_; (case hx => show Value.slice (some ⟨w.heap.size + 1 + 1, 0, none⟩) 1 1 = _; simp); (case b1 => exact below_alloc (below_alloc (Below.refl _ _) _) _); (case b2 => simp; omega); intro v1 w1 hown hb1 hg hat; obtain ⟨g, cap, rfl, _, hcc⟩ := hown.form (by simp); have hcell := hown.cells (g := g) rfl 0 (.string s) rfl; have hcap := hown; have HB1 := Lib.hid hb1; have HC1 := Lib.hid hcell; have hit : w1.heap[w.heap.size]? = some (.mapIter (some bm) 1 #[0] 1) := (hg.block w.heap.size (by simp; omega) (fun e => by cases e)).trans (by rw [heap_alloc_old _ _ (by simp), heap_alloc_new]); have hnx := fun ty => next_over (P := Try.prog) w1 w.heap.size ty bm _ _ hit ((hb1.block bm (lt_of_heap HO.out)).trans HO.out); clear hb1 hg hat hcell hit; have HCAP := Lib.hid hcap; clear hcap hown))
  rw [rounds_succ]
  go_wp2_with (go_at_call 131; refine (sort1_calls _ _ _).mono ?_; rintro e w' ⟨rfl, rfl⟩)
  go_ret
  exact ⟨_, _, rfl, by
    rcases HCAP.out.2 with ⟨h, _⟩ | ⟨g', cap', cur, h, _, _, hn, _⟩
    · cases h
    · injection h with _ _ e; subst e; simpa using hn, HC1.out, HB1.out⟩
set_option maxHeartbeats 1000000 in
set_option maxRecDepth 100000 in
theorem new_calls (w : World) : Calls Try.prog 81 #[.int .i64 10] w fun e w' => ∃ bd bm, e = .returned (.tuple #[.pointer (some ⟨bd, 0, none⟩), .int .i64 0]) ∧ bd ≠ bm ∧ w.heap.size ≤ bd ∧ w.heap.size ≤ bm ∧ Dv w' bd bm 0 ∧ w'.heap[bm]? = some (.map #[] 0) ∧ Below w.heap.size w w' := by
  have hmm := @run_makeMap Try.prog
  go_enter Try.func81, Try.ntmps81
  go_wp2
  go_ret2
  have ht := two w (.map #[] 0) (.cells #[.int .i64 10, .map (some w.heap.size), .bool false, .bool false, .bool false, .pointer none, .int .i64 0] 162)
  exact ⟨w.heap.size + 1, w.heap.size, rfl, by omega, by omega, Nat.le_refl _, ht.2, ht.1, below_alloc (below_alloc (Below.refl _ _) _) _⟩
end Go.Proofs.Ytgdnomdgdblpcaa.D

/- The chapter's examples of drives: they are answered as it says. -/
namespace Go.Proofs.Ytgdnomdgdblpcaa.D
open Go.RowKit Go.Proofs.YtgdnomdgdblpcaaW.PrintWords Go.Proofs.YtgdnomdgdblpcaaW.PrintLast Go.Proofs.YtgdnomdgdblpcaaW.PrintMore Go.Proofs.Ytgdnomdgdblpcaa.B
set_option linter.unusedVariables false
set_option linter.unusedSimpArgs false

def stowagelaw06_awake.f : Option Bool := some true
theorem nameA : drive_Name.f 9 ⟨#[97]⟩ = some true := by decide +kernel
theorem nameB : drive_Name.f 9 ⟨#[98]⟩ = some true := by decide +kernel
theorem name0 : drive_Name.f 9 ⟨#[]⟩ = some false := by decide +kernel
theorem texts1 : stowagekit_SameTexts.f 9 [⟨#[97]⟩] [⟨#[97]⟩] = some true := by decide +kernel
theorem C_of_cells {w : World} {g off n : Nat} {xs : List Int} (hl : xs.length = n) (hn : n ≤ 9223372036854775807) (h : ∀ j, j < n → w.cell? ⟨g, off + j, none⟩ = some (.int .u8 (xs.getD j 0))) : Kd.C (Kd.int .u8) w (some ⟨g, off, none⟩) n xs := by
  refine ⟨hl, hn, fun _ => ⟨_, rfl, fun j p hj => ⟨[.int .u8 p], rfl, rfl, fun i u hu => ?_⟩⟩⟩
  rcases i with _ | i
  · have hlt : j < n := by rw [← hl]; exact (List.getElem?_eq_some_iff.1 hj).1
    have := h j hlt
    rw [List.getD_eq_getElem?_getD, hj] at this
    simp at hu
    subst hu
    have e : (⟨g, off, none⟩ : Addr).add (j * 1 + 0) = ⟨g, off + j, none⟩ := by unfold Addr.add; split <;> simp_all
    have e1 : (Kd.int .u8).sz = 1 := rfl
    rw [e1, e]; exact this
  · simp at hu

theorem lit4 (w : World) (a b c d : Int) (fr : Nat × Nat) : Kd.C (Kd.int .u8) (w.alloc (.cells #[.int .u8 a, .int .u8 b, .int .u8 c, .int .u8 d] 5 fr)) (some ⟨w.heap.size, 0, none⟩) 4 [a, b, c, d] := by
  refine C_of_cells (g := w.heap.size) (off := 0) rfl (by decide) (fun j hj => ?_)
  have hh := heap_alloc_new w (.cells #[.int .u8 a, .int .u8 b, .int .u8 c, .int .u8 d] 5 fr)
  rw [cell_of_row _ _ _ _ _ _ hh]
  rcases j with _ | _ | _ | _ | j
  · rfl
  · rfl
  · rfl
  · rfl
  · omega
theorem strC {w : World} {ad : Addr} {x : ByteArray} (h : w.cell? ad = some (.string x)) : Kd.C Kd.string w (some ad) 1 [x] := by
  refine ⟨rfl, by omega, fun _ => ⟨ad, rfl, fun j p hp => ?_⟩⟩
  rcases j with _ | j
  · simp only [List.getElem?_cons_zero, Option.some.injEq] at hp
    subst hp
    refine ⟨[.string x], rfl, rfl, fun i u hu => ?_⟩
    rcases i with _ | i
    · simp only [List.getElem?_cons_zero, Option.some.injEq] at hu
      subst hu
      simpa [Addr.add] using h
    · simp at hu
  · simp at hp
theorem below_kp {bd bm : Nat} {w W W1 : World} (h : Below w.heap.size w W) (h1 : w.heap.size ≤ bd) (h2 : w.heap.size ≤ bm) (k : Kp bd bm W W1) : Below w.heap.size w W1 :=
  ⟨k.os.trans h.os, k.tape.trans h.tape, k.output.trans h.output, Nat.le_trans h.size k.size, fun i hi => (k.block i (Nat.lt_of_lt_of_le hi h.size) (by omega) (by omega)).trans (h.block i hi)⟩
set_option maxHeartbeats 4000000 in
set_option maxRecDepth 100000 in
theorem awake_calls (w : World) : Calls Try.prog 42 #[] w fun e w' => e = .returned (.bool true) ∧ Below w.heap.size w w' := by
  have hcv := fun (w : World) (C : Array Value) (n c : Nat) => Lib.run_convert_bytes_const (P := Try.prog) w 22 5 C n c Try.underlying22 Try.underlying5
  go_enter Try.func42, Try.ntmps42
  go_wp2_with (first
    | (go_at_call 81; refine (new_calls _).mono ?_; rintro e w1 ⟨bd, bm, rfl, hne, hbd, hbm, hd1, hm1, hb1⟩; have HNE := Lib.hid hne; have HBD := Aside0.mk hbd; have HBM := Aside0.mk hbm; have HD1 := Lib.hid hd1; have HM1 := Lib.hid hm1; have HB1 := Lib.hid hb1; clear hne hbd hbm hd1 hm1 hb1)
    | (go_at_call 82; refine (write_first bd bm HNE.out _ _ [97, 98, 99, 100] ⟨#[97]⟩ 9 _ ?a1 ?a2 nameA ?a3 rfl (Nat.le_refl _)).mono ?_; (case a1 => exact HD1.out.below (below_alloc (Below.refl _ _) _)); (case a2 => rw [heap_alloc_old _ _ (lt_of_heap HM1.out)]; exact HM1.out); (case a3 => exact lit4 _ _ _ _ _ _); rintro e w2 ⟨rfl, hd2, ho2, hk2⟩; have HD2 := Lib.hid hd2; have HO2 := Lib.hid ho2; have HK2 := Lib.hid ((Kp.of_below (below_alloc (Below.refl _ _) _)).trans hk2); clear hd2 ho2 hk2))
  refine (loose_one bd bm 1 _ _ HD2.out HO2.out).mono ?_
  rintro e w3 ⟨ad, c3, rfl, hc3, hcell3, hb3⟩
  have HD3 := Lib.hid (HD2.out.below hb3)
  have HO3 := Lib.hid (HO2.out.below hb3)
  have HB3 := Lib.hid hb3
  have HC3 := Lib.hid hcell3
  have HCC := Aside0.mk hc3
  clear hc3 hcell3 hb3
  go_wp2_with fail
  refine (stowagekit_SameTexts.calls 9 (some ad) c3 [⟨#[97]⟩] (some ⟨w3.heap.size, 0, none⟩) 1 [⟨#[97]⟩] true _ ?t1 HCC.out ?t2 (Nat.le_refl _) texts1).mono ?_
  case t1 => exact strC (pw_cell_below (below_alloc (Below.refl _ _) _) HC3.out)
  case t2 => exact strC (cell_of_blk (heap_alloc_new _ _) 0)
  rintro e w4 ⟨rfl, hw4⟩
  have hb4 : Below w3.heap.size w3 w4 := by obtain ⟨nd, rfl⟩ := hw4; exact pw_below_drewN (below_alloc (Below.refl _ _) _) _
  have HD4 := Lib.hid (HD3.out.below hb4)
  have HO4 := Lib.hid (HO3.out.below hb4)
  have HB4 := Lib.hid hb4
  clear hb4 hw4
  go_wp2_with fail
  refine (sync_calls bd bm HNE.out _ 9 _ HD4.out HO4.out nameA).mono ?_
  rintro e w5 ⟨rfl, hd5, ho5, hk5⟩
  have HD5 := Lib.hid hd5
  have HO5 := Lib.hid ho5
  have HK5 := Lib.hid hk5
  clear hd5 ho5 hk5
  go_wp2_with fail
  refine (write_full bd bm HNE.out _ _ ⟨#[98]⟩ ⟨#[97]⟩ 9 _ ?f1 ?f2 nameB (by decide)).mono ?_
  case f1 => exact HD5.out.below (below_alloc (Below.refl _ _) _)
  case f2 => exact HO5.out.below (below_alloc (Below.refl _ _) _)
  rintro e w6 ⟨rfl, hb6⟩
  have hb6' : Below w5.heap.size w5 w6 := below_then (below_alloc (Below.refl _ _) _) (by simp) hb6
  have HD6 := Lib.hid (HD5.out.below hb6')
  have HB6 := Lib.hid hb6'
  clear hb6 hb6'
  go_wp2_with fail
  refine (up_calls bd bm 2 _ HD6.out).mono ?_
  rintro e w' ⟨rfl, rfl⟩
  go_wp2_with fail
  refine (drive_Name.calls 9 _ false _ name0).mono ?_
  rintro e w7 ⟨rfl, hw7⟩
  have HB7 := Lib.hid (show Below w6.heap.size w6 w7 by obtain ⟨nd, rfl⟩ := hw7; exact pw_below_drewN (Below.refl _ _) _)
  clear hw7
  go_wp2_with fail
  refine (drive_Name.calls 9 _ true _ nameA).mono ?_
  rintro e w8 ⟨rfl, hw8⟩
  have HB8 := Lib.hid (show Below w7.heap.size w7 w8 by obtain ⟨nd, rfl⟩ := hw8; exact pw_below_drewN (Below.refl _ _) _)
  clear hw8
  go_wp2
  go_ret
  exact ⟨rfl, below_step (below_step (below_step (below_kp (below_step (below_step (below_kp HB1.out HBD.out HBM.out HK2.out) HB3.out) HB4.out) HBD.out HBM.out HK5.out) HB6.out) HB7.out) HB8.out⟩
theorem stowagelaw06_awake.calls (r : Bool) (w : World) (h : stowagelaw06_awake.f = some r) : Calls Try.prog 42 #[] w fun e w' => e = .returned (.bool r) ∧ Below w.heap.size w w' := by
  obtain rfl := Option.some.inj h
  exact awake_calls w
end Go.Proofs.Ytgdnomdgdblpcaa.D

/- Contracts of functions of the program, written by a program of this session. -/
namespace Go.Proofs.Ytgdnomdgdblpcaa.N
open Go.RowKit Go.Proofs.YtgdnomdgdblpcaaW.PrintWords Go.Proofs.YtgdnomdgdblpcaaW.PrintLast Go.Proofs.YtgdnomdgdblpcaaW.PrintMore
attribute [local go_sem] max2_int min2_int max_two min_two max_three min_three max_four min_four   -- for this text's walks alone
open Go.Proofs.Ytgdnomdgdblpcaa.B Go.Proofs.Ytgdnomdgdblpcaa.D
set_option linter.unusedVariables false
set_option linter.unusedSimpArgs false



def errW : Option Int → Value
  | none => .nilIface
  | some c => .iface 0 (.int .i64 c)
theorem errW_none : errW none = .nilIface := rfl
theorem errW_some (c : Int) : errW (some c) = .iface 0 (.int .i64 c) := rfl

-- the values' own types

end Go.Proofs.Ytgdnomdgdblpcaa.N

/- Contracts of functions of the program, written by a program of this session. -/
namespace Go.Proofs.Ytgdnomdgdblpcaa.N
open Go.RowKit Go.Proofs.YtgdnomdgdblpcaaW.PrintWords Go.Proofs.YtgdnomdgdblpcaaW.PrintLast Go.Proofs.YtgdnomdgdblpcaaW.PrintMore
attribute [local go_sem] max2_int min2_int max_two min_two max_three min_three max_four min_four   -- for this text's walks alone
open Go.Proofs.Ytgdnomdgdblpcaa.B Go.Proofs.Ytgdnomdgdblpcaa.D
set_option linter.unusedVariables false
set_option linter.unusedSimpArgs false

/-! ### stowagelaw06_DriveNames: function 6 -/
def stowagelaw06_DriveNames.f (k : Nat) (a0 : ByteArray) : Option (Bool) := (drive_Name.f k a0).bind fun t223 => ((stowageref06_Name.f k a0).bind fun t224 => (if (t223 == t224) = true then ((stowagelaw06_awake.f).bind fun t225 => (some t225)) else (some false)))
theorem stowagelaw06_DriveNames.mono : ∀ a0 k, LeO (stowagelaw06_DriveNames.f k a0) (stowagelaw06_DriveNames.f (k + 1) a0) := by
  intro a0 k
  unfold stowagelaw06_DriveNames.f
  repeat' first
      | (with_reducible exact drive_Name.mono _ _)
      | (with_reducible exact stowageref06_Name.mono _ _)
      | (with_reducible exact LeO.refl _)
      | (with_reducible exact LeO.none _)
      | (with_reducible refine LeO.ite ?_ ?_)
      | (with_reducible refine LeO.bind ?_ (fun _ => ?_))
      | exact drive_Name.mono _ _
      | exact stowageref06_Name.mono _ _
      | exact LeO.none _
      | refine LeO.ite ?_ ?_
      | refine LeO.bind ?_ (fun _ => ?_)
set_option maxHeartbeats 8000000 in
set_option maxRecDepth 100000 in
theorem stowagelaw06_DriveNames.calls (k : Nat) (a0 : ByteArray) (r : Bool) (w : World) (h : stowagelaw06_DriveNames.f k a0 = some r) :
    Calls Try.prog 6 #[.string a0] w fun e w' => e = .returned (.bool r) ∧ Below w.heap.size w w' := by
  have HB := Aside0.mk (Below.refl w.heap.size w)
  have H : ((drive_Name.f k a0).bind fun t223 => ((stowageref06_Name.f k a0).bind fun t224 => (if (t223 == t224) = true then ((stowagelaw06_awake.f).bind fun t225 => (some t225)) else (some false)))) = some r := h
  clear h
  replace H := Option.bind_eq_some_iff.mp H
  obtain ⟨t223, A20, H⟩ := H
  replace H : ((stowageref06_Name.f k a0).bind fun t224 => (if (t223 == t224) = true then ((stowagelaw06_awake.f).bind fun t225 => (some t225)) else (some false))) = some r := H
  have A2 := Aside0.mk A20
  clear A20
  replace H := Option.bind_eq_some_iff.mp H
  obtain ⟨t224, A30, H⟩ := H
  replace H : (if (t223 == t224) = true then ((stowagelaw06_awake.f).bind fun t225 => (some t225)) else (some false)) = some r := H
  have A3 := Aside0.mk A30
  clear A30
  by_cases c4 : (t223 == t224) = true
  · rw [if_pos c4] at H
    have c4b0 : (t223 == t224) = true := c4
    (try (have c4b1 : decide (t223 = t224) = true := by simpa using c4))
    (try (have c4b2 : (t223 == t224) = true := by simpa using c4))
    clear c4
    replace H := Option.bind_eq_some_iff.mp H
    obtain ⟨t225, A50, H⟩ := H
    replace H : (some t225) = some r := H
    have A5 := Aside0.mk A50
    clear A50
    obtain rfl := Option.some.inj H
    go_enter Try.func6, Try.ntmps6
    go_wp2_with (first | ((with_reducible refine gate_callee (f := 40) rfl ?_); refine goesL_ (some 4) rfl rfl Try.func40 (by kernel_rfl) rfl #[.string a0] rfl (by (try simp only [List.map_toArray, List.map_cons, List.map_nil]); first | done | rfl | (simp only [List.length_drop, List.length_take]; rfl)) ?_; (with_reducible refine (drive_Name.calls k a0 t223 _ A2.out).mono ?_); rintro e w' ⟨rfl, ⟨nd, rfl⟩⟩; refine ⟨_, rfl, ?_⟩) | ((with_reducible refine gate_callee (f := 41) rfl ?_); refine goesL_ (some 6) rfl rfl Try.func41 (by kernel_rfl) rfl #[.string a0] rfl (by (try simp only [List.map_toArray, List.map_cons, List.map_nil]); first | done | rfl | (simp only [List.length_drop, List.length_take]; rfl)) ?_; (with_reducible refine (stowageref06_Name.calls k a0 t224 _ A3.out).mono ?_); rintro e w' ⟨rfl, ⟨nd, rfl⟩⟩; refine ⟨_, rfl, ?_⟩) | (go_at_call 42; (with_reducible refine (stowagelaw06_awake.calls  t225 _ A5.out).mono ?_); rintro e w6 ⟨rfl, hb⟩; have n0_ := Aside0.mk (below_step (by repeat (first | (with_reducible first | exact HB.out | apply below_alloc | apply pw_below_drewN | apply below_drew1) | exact HB.out)) hb); clear HB; have HB := n0_; clear n0_; (try clear hb); (try clear hb2); (try clear hk); (try clear hi)))
    go_ret
    exact ⟨by first | rfl | (simp [errW_none, errW_some] <;> rfl) | (simp [*, errW_none, errW_some] <;> rfl), by repeat (first | (with_reducible first | exact HB.out | apply below_alloc | apply pw_below_drewN | apply below_drew1) | exact HB.out)⟩
  · rw [if_neg c4] at H
    have c4b0 : (t223 == t224) = false := by simpa using c4
    (try (have c4b1 : decide (t223 = t224) = false := by simpa using c4))
    (try (have c4b2 : (t223 == t224) = false := by simpa using c4))
    (try (have c4b3 : ¬ (t223 = t224) := by simpa using c4))
    clear c4
    obtain rfl := Option.some.inj H
    go_enter Try.func6, Try.ntmps6
    go_wp2_with (first | ((with_reducible refine gate_callee (f := 40) rfl ?_); refine goesL_ (some 4) rfl rfl Try.func40 (by kernel_rfl) rfl #[.string a0] rfl (by (try simp only [List.map_toArray, List.map_cons, List.map_nil]); first | done | rfl | (simp only [List.length_drop, List.length_take]; rfl)) ?_; (with_reducible refine (drive_Name.calls k a0 t223 _ A2.out).mono ?_); rintro e w' ⟨rfl, ⟨nd, rfl⟩⟩; refine ⟨_, rfl, ?_⟩) | ((with_reducible refine gate_callee (f := 41) rfl ?_); refine goesL_ (some 6) rfl rfl Try.func41 (by kernel_rfl) rfl #[.string a0] rfl (by (try simp only [List.map_toArray, List.map_cons, List.map_nil]); first | done | rfl | (simp only [List.length_drop, List.length_take]; rfl)) ?_; (with_reducible refine (stowageref06_Name.calls k a0 t224 _ A3.out).mono ?_); rintro e w' ⟨rfl, ⟨nd, rfl⟩⟩; refine ⟨_, rfl, ?_⟩))
    go_ret
    exact ⟨by first | rfl | (simp [errW_none, errW_some] <;> rfl) | (simp [*, errW_none, errW_some] <;> rfl), by repeat (first | (with_reducible first | exact HB.out | apply below_alloc | apply pw_below_drewN | apply below_drew1) | exact HB.out)⟩

/-- THE ONE PURE STATEMENT of stowagelaw06_DriveNames: yours. -/
def stowagelaw06_DriveNames.Pure : Prop := ∀ (a0 : ByteArray), a0.size ≤ 140737488351232 → ∃ k, stowagelaw06_DriveNames.f k a0 = some true
theorem stowagelaw06_DriveNames.walk (P : stowagelaw06_DriveNames.Pure) (a0 : ByteArray) (w : World) (w0 : a0.size ≤ 140737488351232) :
    Calls Try.prog 6 #[.string a0] w fun e w' => e = .returned (.bool true) ∧ Below w.heap.size w w' := by
  obtain ⟨k, h⟩ := P a0 w0
  refine (stowagelaw06_DriveNames.calls k a0 true w h).mono ?_
  rintro e w' ⟨rfl, hd⟩
  exact ⟨rfl, hd⟩

end Go.Proofs.Ytgdnomdgdblpcaa.N

/- DriveNames: which texts may be files' names is told as the document says, for every text. -/
namespace Go.Proofs.Ytgdnomdgdblpcaa.Pure
open Go.RowKit Go.Proofs.Ytgdnomdgdblpcaa.N Go.Proofs.Ytgdnomdgdblpcaa.B Go.Proofs.Ytgdnomdgdblpcaa.D Go.Proofs.YtgdnomdgdblpcaaW.PrintWords Go.Proofs.YtgdnomdgdblpcaaW.PrintLast
set_option linter.unusedVariables false

theorem wrap_next {i n : Int} (h0 : 0 ≤ i) (h : i < n) (hn : n ≤ 140737488351232) : wrap64 (i + 1) = i + 1 := by unfold wrap64; omega
theorem names (s : ByteArray) (hs : s.size ≤ 140737488351232) : ∀ (d : Nat) (i : Int), 0 ≤ i → (s.size : Int) = i + d → ∃ b, Ev (fun k => drive_Name.l0 k s (s.size : Int) i) b ∧ Ev (fun k => stowageref06_Name.l0 k s i) b := by
  intro d
  induction d with
  | zero =>
    intro i h0 hi
    refine ⟨if (s.size : Int) ≥ 1 then decide ((s.size : Int) ≤ 512) else false, Ev.step (f := fun _ => some _) (fun k => ?_) (Ev.now _), Ev.step (f := fun _ => some _) (fun k => ?_) (Ev.now _)⟩
    · simp only [drive_Name.l0]; rw [if_neg (by omega)]; split <;> rfl
    · simp only [stowageref06_Name.l0]; rw [if_neg (by omega)]; split <;> rfl
  | succ d ih =>
    intro i h0 hi
    have hlt : i < (s.size : Int) := by omega
    by_cases c1 : bt s i < 33
    · refine ⟨false, Ev.step (f := fun _ => some _) (fun k => ?_) (Ev.now _), Ev.step (f := fun _ => some _) (fun k => ?_) (Ev.now _)⟩
      · simp only [drive_Name.l0]; rw [if_pos hlt, if_pos h0, if_pos hlt, if_pos c1]
      · simp only [stowageref06_Name.l0]; rw [if_pos hlt, if_pos h0, if_pos c1]
    · by_cases c2 : bt s i > 126
      · refine ⟨false, Ev.step (f := fun _ => some _) (fun k => ?_) (Ev.now _), Ev.step (f := fun _ => some _) (fun k => ?_) (Ev.now _)⟩
        · simp only [drive_Name.l0]; rw [if_pos hlt, if_pos h0, if_pos hlt, if_neg c1, if_pos c2]
        · simp only [stowageref06_Name.l0]; rw [if_pos hlt, if_pos h0, if_neg c1, if_pos c2]
      · obtain ⟨b, h1, h2⟩ := ih (i + 1) (by omega) (by omega)
        refine ⟨b, Ev.step (fun k => ?_) h1, Ev.step (fun k => ?_) h2⟩
        · simp only [drive_Name.l0]; rw [if_pos hlt, if_pos h0, if_pos hlt, if_neg c1, if_neg c2, wrap_next h0 hlt (by omega)]
        · simp only [stowageref06_Name.l0]; rw [if_pos hlt, if_pos h0, if_neg c1, if_neg c2, wrap_next h0 hlt (by omega)]
theorem DriveNames : stowagelaw06_DriveNames.Pure := by
  intro s hs
  obtain ⟨b, h1, h2⟩ := names s hs s.size 0 (by omega) (by omega)
  refine Ev.rounds (g := fun k => stowagelaw06_DriveNames.f k s) ?_
  unfold stowagelaw06_DriveNames.f
  refine Ev.bind h1 ?_
  refine Ev.bind h2 ?_
  exact Ev.congr (fun k => if_pos (by simp)) ⟨0, fun _ _ => rfl⟩
end Go.Proofs.Ytgdnomdgdblpcaa.Pure

/- Contracts of functions of the program, written by a program of this session. -/
namespace Go.Proofs.Ytgdnomdgdblpcaa.driveNames
open Go.ChangeShapes Go.WideShapes Go.ChangeAt Go.RowKit
open Go.ChangeMaps (open_string shut_string)
set_option linter.unusedVariables false
theorem own : ownKnob Try.prog.godebug = none := by kernel_rfl
set_option maxRecDepth 100000 in
theorem lifted (os : Os) (started : os.Started) (H : Type) (enc : TypeId × Value → H) :
    ReturnsInHanded {} Try.checked os 6 .any (Rows.driveNamesSpec.pre6 enc Try.prog Try.f6 Rows.driveNamesRow.domain false) (Rows.driveNamesSpec.post enc Try.prog Try.f6 false true false false) := by
  refine returnsInHanded_of_change_sized (C := Try.checked) own started (by kernel_rfl) Try.func6
    (ChangeSpec.witness6 (enc := enc) (C := Try.checked) false ⟨#[], #[.string ByteArray.empty], []⟩ 8 (by kernel_rfl) (by kernel_rfl) (by kernel_rfl) (by kernel_rfl)) ?_
  intro W base args ds gs before hval0 hW hcnd hsz0 _
  have hsz : (DataW.weightsEach Try.prog (Try.f6.params.toList ++ Rows.driveNamesSpec.plain.varTypes Try.prog) (ds ++ gs)).all (· ≤ reachBytes) = true := hsz0
  have hval : ∀ (j : Nat) t v, Try.f6.params[j]? = some t → args[j]? = some v → Value.okWide Try.prog W .any base t v := hval0
  have hW' := hW
  obtain ⟨p, q, hA0, hV, rfl, hfz, hnd⟩ := hW
  have hA : DataW.TrodAll enc Try.prog W 0 (fun _ => true) true Try.f6.params.toList args.toList ds p := hA0
  rw [Try.params6] at hA hval hsz
  obtain ⟨v0, vs0, d0, ds0, p0, q0, hargs, rfl, rfl, h0, r0⟩ := trodAll_cons hA
  obtain ⟨rfl, rfl, rfl⟩ := trodAll_nil r0
  obtain rfl : args = #[v0] := by cases args; simp_all
  obtain ⟨rfl, rfl⟩ := trodVars_none hV
  obtain ⟨a0, rfl, rfl, rfl, y0⟩ := open_string Try.underlying9 (hval 0 9 v0 rfl rfl) h0
  have w0 : a0.size ≤ 140737488351232 := by
    have z := sized_string hsz (j := 0) (t := 9) rfl rfl
    rw [Array.length_toList] at z
    exact z
  clear hA0 hval0 hsz0 hsz
  refine (N.stowagelaw06_DriveNames.walk Pure.DriveNames a0 W w0).mono fun e W' ⟨he, bel⟩ => ?_
  subst he
  exact ⟨_, rfl, _, _, _, [], _, [], hW', trodAll_mk1 (shut_bool Try.underlying4 _), (trodAll_cons_mk (shut_string Try.underlying9 y0) trodAll_mk0), rfl, bel.frame _, fun h => by cases h⟩
theorem over : Rows.driveNamesRow.holds Try.pinned (OpenSpec.ofChange Rows.driveNamesSpec) :=
  OpenClaim.holds_of_wide 6 Try.f6 rfl rfl rfl rfl rfl rfl rfl ⟨rfl, rfl, rfl, rfl, rfl⟩ rfl rfl rfl rfl rfl (by kernel_rfl) Try.func6 (by kernel_rfl)
    (of_decide_eq_true (by kernel_rfl)) (by unfold Func.isWrapper; first | (rw [if_pos (by decide +kernel)]; kernel_rfl) | (rw [if_neg (by decide +kernel)]; exact ⟨rfl, rfl⟩))
    (fun os started H enc _ => lifted os started H enc)
theorem proved : Rows.DriveNamesSaid := over
#print axioms proved
end Go.Proofs.Ytgdnomdgdblpcaa.driveNames
namespace Go.Proofs.Ytgdnomdgdblpcaa
/-- The row, under a short name, for the claim. -/
theorem driveNames_holds : Rows.DriveNamesSaid := driveNames.proved
end Go.Proofs.Ytgdnomdgdblpcaa
