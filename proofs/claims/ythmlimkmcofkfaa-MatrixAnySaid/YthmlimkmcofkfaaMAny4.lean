/- Proof that any k unlike rows of the code have an inverse, merged from this session's texts. (Part 5 of 5.) -/
import Derived.Test.YthmlimkmcofkfaaRows
import Derived.WalkKit
import Derived.ProofKit
import Derived.OpenShut
import Derived.ShutString
import Derived.ChangeOld
import Derived.Below
import Derived.SizedLaws
import Derived.Test.YthmlimkmcofkfaaWSized
import Derived.Test.YthmlimkmcofkfaaMAny1
import Derived.Test.YthmlimkmcofkfaaMAny3
/- MatrixTurns, told of lists: what an inverse and its matrix make is the one, on either side. -/
namespace Go.Proofs.Ythmlimkmcofkfaa.L
open Go.RowKit Go.Proofs.YthmlimkmcofkfaaW.PrintWords Go.Proofs.Ythmlimkmcofkfaa.E Go.Proofs.Ythmlimkmcofkfaa.B
set_option linter.unusedVariables false

theorem check_of {l : List (List Int)} {m : Nat} (h1 : 0 < l.length) (h2 : l.length ≤ 32) (h3 : 0 < m) (h4 : m ≤ 32) (hr : Rect m l) : check l = 0 := by
  have r0 := hr 0 h1
  have hmem : ∀ x ∈ l, x.length = m := by
    intro x hx
    obtain ⟨i, hi, rfl⟩ := List.getElem_of_mem hx
    have := hr i hi
    rw [rdL_nat] at this
    simpa [hi] using this
  unfold check
  rw [if_neg, if_neg]
  · rintro (h | h)
    · omega
    · obtain ⟨x, hx, hp⟩ := List.any_eq_true.1 h
      have := hmem x hx
      have r0' : (rd_L1 l 0).length = m := r0
      simp [P2, r0', this] at hp
      omega
  · rintro (h | h)
    · omega
    · obtain ⟨x, hx, hp⟩ := List.any_eq_true.1 h
      have := hmem x hx
      simp [P1, this] at hp
      omega
theorem okB_of {l : List (List Int)} {m : Nat} (hr : Rect m l) (hb : Bytes l.length m (entry l)) : okB l = true := by
  unfold okB
  rw [List.all_eq_true]
  intro x hx
  obtain ⟨i, hi, rfl⟩ := List.getElem_of_mem hx
  have hl := hr i hi
  have e : rd_L1 l i = l[i] := by rw [rdL_nat]; simp [hi]
  rw [e] at hl
  rw [List.all_eq_true]
  intro y hy
  obtain ⟨j, hj, rfl⟩ := List.getElem_of_mem hy
  have := hb i j hi (by omega)
  unfold entry at this
  rw [e, rd_nat] at this
  simp [hj] at this
  simpa [Byte] using this
theorem rightL_len (S : Nat → Nat → Int) (n : Nat) : (rightL S n).length = n := by simp [rightL]
theorem rightL_row {S : Nat → Nat → Int} {n i : Nat} (h : i < n) : rd_L1 (rightL S n) i = rightRow S n i := by rw [rdL_nat]; simp [rightL, h]
theorem rightL_rect (S : Nat → Nat → Int) (n : Nat) : Rect n (rightL S n) := fun i hi => by rw [rightL_len] at hi; rw [rightL_row hi, rightRow_len]
theorem rightL_entry {S : Nat → Nat → Int} {n i j : Nat} (hi : i < n) (hj : j < n) : entry (rightL S n) i j = S i (n + j) := by unfold entry; rw [rightL_row hi, rd_nat]; simp [rightRow, hj]
theorem idRow_tab {n i : Nat} : idRow n i = tab n (one i) := by
  apply List.ext_getElem
  · simp [idRow, tab]
  · intro j h1 h2
    simp [tab] at h2
    by_cases e : i = j
    · subst e; simp [idRow, tab, one]
    · simp [idRow, tab, one, e]
theorem mulL_id {A Bm : List (List Int)} {n : Nat} (hA : A.length = n) (hB : Bm.length = n) (hr : Rect n Bm) (h0 : 0 < n) (h : ∀ i j, i < n → j < n → gsum n (fun t => gmul (entry A i t) (entry Bm t j)) = one i j) : mulL A Bm = idL n := by
  unfold mulL idL
  rw [hA, ← List.range_eq_range']
  refine List.map_congr_left (fun i hi => ?_)
  have hi' : i < n := List.mem_range.1 hi
  rw [idRow_tab]
  unfold mulRow
  have e0 : (rd_L1 Bm 0).length = n := hr 0 (by omega)
  rw [e0, hB]
  exact tab_congr (fun j hj => h i j hi' hj)
theorem aug_Aug {l : List (List Int)} {n : Nat} : Aug n (entry l) (augM l n) := fun i hi => ⟨fun j hj => by unfold augM; rw [if_pos hj], fun j hj => by
  unfold augM one
  rw [if_neg (by omega), show n + j - n = j by omega]
  by_cases e : j = i
  · rw [if_pos e, if_pos e.symm]
  · rw [if_neg e, if_neg (fun h => e h.symm)]⟩

theorem turns_j1 {l : List (List Int)} {n : Nat} (hn : l.length = n) (hr : Rect n l) (h0 : 0 < n) (h32 : n ≤ 32) (ok : okB l = true) :
    Ev (fun k => P.stowagelaw02_MatrixTurns.j1 k l true (invertV l).1 (invertV l).2 (((invertV l).2 == 0) != (((rankV l).1) == (l.length : Int)))) true := by
  have hc : check l = 0 := check_of (by omega) (by omega) h0 h32 (by rw [← hn] at hr ⊢; exact hr)
  have hr0 : (rd_L1 l 0).length = n := hr 0 (by omega)
  have hbe : Bytes n n (entry l) := by have := okB_entry ok hr; rwa [hn] at this
  have hag := (sweep_agree (n := n) (q := n) (M := entry l) (M' := augM l n) (fun i j hi hj => by unfold augM; rw [if_pos hj]) n (Nat.le_refl _)).1
  have hrk : rankV l = ((((sweepM n n (0, augM l n)).1 : Nat) : Int), (0 : Int)) := by
    unfold rankV
    rw [if_neg (by simp [hc]), hr0, hn, hag]
  have hiv : invertV l = if (sweepM n n (0, augM l n)).1 < n then ([], 120) else (rightL (sweepM n n (0, augM l n)).2 n, 0) := by
    unfold invertV invS
    rw [if_neg (by simp [hc]), if_neg (by omega), hn]
  have hle := rank_le (n := n) (augM l n) n
  rw [hrk, hiv]
  by_cases e : (sweepM n n (0, augM l n)).1 < n
  · rw [if_pos e]
    refine Ev.step (f := fun _ => some true) (fun k => ?_) (Ev.now _)
    have h1 : (((sweepM n n (0, augM l n)).1 : Int) == (l.length : Int)) = false := by simp; omega
    simp only [P.stowagelaw02_MatrixTurns.j1]
    rw [h1]
    rfl
  · rw [if_neg e]
    have e' : (sweepM n n (0, augM l n)).1 = n := by omega
    obtain ⟨i1, i2, i3⟩ := inverse (aug_Aug (l := l)) hbe e'
    have h1 : (((sweepM n n (0, augM l n)).1 : Int) == (l.length : Int)) = true := by simp; omega
    rw [h1]
    generalize (sweepM n n (0, augM l n)).2 = S at *
    have rB := rightL_rect S n
    have lB := rightL_len S n
    have cB : check (rightL S n) = 0 := check_of (by omega) (by omega) h0 h32 rB
    have bB : Bytes (rightL S n).length n (entry (rightL S n)) := fun i j hi hj => by rw [lB] at hi; rw [rightL_entry hi hj]; exact i1 i j hi hj
    have oB := okB_of rB bB
    have m1 : mulL l (rightL S n) = idL n := mulL_id hn lB rB h0 (fun i j hi hj => by
      rw [gsum_congr (fun t ht => by rw [rightL_entry ht hj])]; exact i3 i j hi hj)
    have m2 : mulL (rightL S n) l = idL n := mulL_id lB hn hr h0 (fun i j hi hj => by
      rw [gsum_congr (fun t ht => by rw [rightL_entry hi ht])]; exact i2 i j hi hj)
    have v1 := Mul_ok hc cB (by omega) ok oB
    have v2 := Mul_ok cB hc (by have := rB 0 (by omega); rw [hn]; exact this.symm) oB ok
    rw [m1] at v1
    rw [m2] at v2
    have vone := one_ev n h0 h32
    rw [← hn] at vone
    have vmk := makes_self (idL n) (by rw [idL_len]; omega)
    rw [hn] at vone
    refine Ev.step (f := fun k => (matrix_One.f k (l.length : Int)).bind fun bt303 => ((P.matrix_Mul.f k l (rightL S n)).bind fun bt307 => ((P.matrix_Mul.f k (rightL S n) l).bind fun bt311 => (if true = true then (if bt303.2 = 0 then ((stowagelaw02_makes.f k bt307.1 bt307.2 bt303.1).bind fun t315 => (if t315 = true then ((stowagelaw02_makes.f k bt311.1 bt311.2 bt303.1).bind fun t316 => (some t316)) else (some false))) else (some false)) else (some false))))) (fun k => ?_) ?_
    · simp only [P.stowagelaw02_MatrixTurns.j1]
      rfl
    · rw [hn]
      refine Ev.bind vone ?_
      refine Ev.bind v1 ?_
      refine Ev.bind v2 ?_
      refine Ev.congr (fun k => if_pos rfl) ?_
      refine Ev.congr (fun k => if_pos rfl) ?_
      refine Ev.bind vmk ?_
      refine Ev.congr (fun k => if_pos rfl) ?_
      exact Ev.bind vmk (Ev.now _)
theorem turns_j0 {l : List (List Int)} (ok : okB l = true) (b : Bool) (h : b = false → check l = 0 ∧ (rd_L1 l 0).length = l.length) : Ev (fun k => P.stowagelaw02_MatrixTurns.j0 k l true b) true := by
  cases b with
  | true => exact Ev.step (f := fun _ => some true) (fun k => by simp only [P.stowagelaw02_MatrixTurns.j0]; rfl) (Ev.now _)
  | false =>
    obtain ⟨hc, hsq⟩ := h rfl
    obtain ⟨g1, g2, g3, g4, g5⟩ := check_ok hc
    have hj := turns_j1 (l := l) rfl (by rw [← hsq]; exact g5) g1 g2 ok
    have hrk : 0 ≤ (rankV l).1 ∧ (rankV l).1 ≤ l.length ∧ (rankV l).2 = 0 := by
      have h1 := rank_le (n := l.length) (entry l) (rd_L1 l 0).length
      unfold rankV
      rw [if_neg (by simp [hc])]
      exact ⟨by simp, by simp; exact h1, rfl⟩
    refine Ev.step (f := fun k => P.stowagelaw02_MatrixTurns.j1 k l true (invertV l).1 (invertV l).2 (((invertV l).2 == 0) != (((rankV l).1) == (l.length : Int)))) (fun k => ?_) hj
    simp only [P.stowagelaw02_MatrixTurns.j0, matrix_Rank.f, matrix_Invert.f]
    rw [if_neg (by decide), if_pos ok, if_pos ok]
    simp only [Option.bind_some]
    rw [if_pos hrk.2.2, if_neg (by omega), if_neg (by omega)]
theorem turns_pure (l : List (List Int)) (ok : okB l = true) : ∃ k, P.stowagelaw02_MatrixTurns.f k l = some true := by
  refine Ev.rounds (g := fun k => P.stowagelaw02_MatrixTurns.f k l) ?_
  unfold P.stowagelaw02_MatrixTurns.f
  refine Ev.bind known_ev ?_
  obtain ⟨b, hb⟩ := large_ev l
  refine Ev.bind hb ?_
  cases b with
  | true =>
    refine Ev.congr (fun k => if_pos rfl) ?_
    exact turns_j0 ok true (fun h => by cases h)
  | false =>
    refine Ev.congr (fun k => if_neg (by decide)) ?_
    refine Ev.bind (a := check l) (evc rfl) ?_
    by_cases hc : check l = 0
    · obtain ⟨g1, _⟩ := check_ok hc
      refine Ev.congr (fun k => if_pos hc) ?_
      refine Ev.congr (fun k => if_pos (by omega)) ?_
      refine turns_j0 ok _ (fun h => ⟨hc, ?_⟩)
      rw [rdP] at h
      simp at h
      omega
    · refine Ev.congr (fun k => if_neg hc) ?_
      exact turns_j0 ok true (fun h => by cases h)
end Go.Proofs.Ythmlimkmcofkfaa.L

/- A matrix of inverses of sums (all unlike) has no kernel. -/
namespace Go.Proofs.Ythmlimkmcofkfaa.L
open Go.Proofs.Ythmlimkmcofkfaa.E
set_option linter.unusedVariables false

def lsum (f : Nat → Int) : List Nat → Int
  | [] => 0
  | j :: l => gadd (f j) (lsum f l)
theorem lsum_byte {f : Nat → Int} : ∀ {l : List Nat}, (∀ j ∈ l, Byte (f j)) → Byte (lsum f l)
  | [], _ => byte_zero
  | j :: l, h => gadd_byte (h j (by simp)) (lsum_byte (fun i hi => h i (by simp [hi])))
theorem lsum_congr {f g : Nat → Int} : ∀ {l : List Nat}, (∀ j ∈ l, f j = g j) → lsum f l = lsum g l
  | [], _ => rfl
  | j :: l, h => by simp only [lsum]; rw [h j (by simp), lsum_congr (fun i hi => h i (by simp [hi]))]
theorem lsum_gadd (f g : Nat → Int) : ∀ l : List Nat, lsum (fun j => gadd (f j) (g j)) l = gadd (lsum f l) (lsum g l)
  | [] => by simp [lsum, gadd]
  | j :: l => by simp only [lsum]; rw [lsum_gadd f g l, gadd4]
theorem gmul_lsum (a : Int) (f : Nat → Int) : ∀ l : List Nat, gmul a (lsum f l) = lsum (fun j => gmul a (f j)) l
  | [] => gmul_zero a
  | j :: l => by simp only [lsum]; rw [gmul_gadd, gmul_lsum a f l]
theorem lsum_filter {f : Nat → Int} (u : Nat → Bool) : ∀ {l : List Nat}, (∀ j ∈ l, Byte (f j)) → (∀ j ∈ l, u j = false → f j = 0) → lsum f l = lsum f (l.filter u)
  | [], _, _ => rfl
  | j :: l, hb, h => by
    have ih := lsum_filter u (fun i hi => hb i (List.mem_cons_of_mem _ hi)) (fun i hi => h i (List.mem_cons_of_mem _ hi))
    by_cases e : u j = true
    · rw [List.filter_cons_of_pos e]; simp only [lsum]; rw [ih]
    · rw [List.filter_cons_of_neg e]; simp only [lsum]
      rw [h j (by simp) (by simpa using e), ih, zero_gadd (lsum_byte (fun i hi => hb i (List.mem_cons_of_mem _ (List.mem_filter.1 hi).1)))]
theorem lsum_append (f : Nat → Int) : ∀ (l l' : List Nat), (∀ j ∈ l', Byte (f j)) → lsum f (l ++ l') = gadd (lsum f l) (lsum f l')
  | [], l', h => by simp only [List.nil_append, lsum]; rw [zero_gadd (lsum_byte h)]
  | j :: l, l', h => by simp only [List.cons_append, lsum]; rw [lsum_append f l l' h, gadd_assoc]
theorem gsum_lsum (f : Nat → Int) : ∀ n : Nat, (∀ j, j < n → Byte (f j)) → gsum n f = lsum f (List.range n)
  | 0, _ => rfl
  | n + 1, h => by
    rw [List.range_succ, lsum_append f _ _ (fun j hj => h j (by simp at hj; omega)), ← gsum_lsum f n (fun j hj => h j (by omega))]
    simp only [gsum, lsum]
    rw [gadd_zero (h n (by omega))]

theorem sub_mul {a b c d : Int} (ha : Byte a) (hb : Byte b) (hc : Byte c) (h : gadd a b = 0) : a = b := by
  have h1 : gadd (gadd a b) b = b := by rw [h, zero_gadd hb]
  rwa [gadd_assoc, gadd_self, gadd_zero ha] at h1

/-- 1 / (p + c) -/
def qq (p c : Nat) : Int := ginv (gadd p c)
def Small (n : Nat) : Prop := n < 256
theorem small_byte {n : Nat} (h : Small n) : Byte (n : Int) := by unfold Small at h; unfold Byte; omega
theorem gadd_ne {p c : Nat} (hp : Small p) (hc : Small c) (h : p ≠ c) : gadd (p : Int) (c : Int) ≠ 0 := by
  intro e
  have h1 : gadd (gadd (p : Int) c) c = c := by rw [e, zero_gadd (small_byte hc)]
  rw [gadd_assoc, gadd_self, gadd_zero (small_byte hp)] at h1
  omega
theorem qq_byte {p c : Nat} (hp : Small p) (hc : Small c) : Byte (qq p c) := ginv_byte (gadd_byte (small_byte hp) (small_byte hc))
theorem qq_inv {p c : Nat} (hp : Small p) (hc : Small c) (h : p ≠ c) : gmul (gadd (p : Int) c) (qq p c) = 1 := gmul_ginv (gadd_byte (small_byte hp) (small_byte hc)) (gadd_ne hp hc h)
theorem qq_ne {p c : Nat} (hp : Small p) (hc : Small c) (h : p ≠ c) : qq p c ≠ 0 := by
  intro e
  have := qq_inv hp hc h
  rw [e, gmul_zero] at this
  cases this
/-- (p + s) / (p + c) = 1 + (s + c) / (p + c) -/
theorem qq_part {p s c : Nat} (hp : Small p) (hs : Small s) (hc : Small c) (h : p ≠ c) : gmul (gadd (p : Int) s) (qq p c) = gadd 1 (gmul (gadd (s : Int) c) (qq p c)) := by
  have e : gadd (p : Int) s = gadd (gadd (p : Int) c) (gadd (s : Int) c) := by
    rw [gadd4, gadd_self, gadd_zero (gadd_byte (small_byte hp) (small_byte hs))]
  rw [e, gadd_gmul _ (gadd_byte (small_byte hp) (small_byte hc)) (gadd_byte (small_byte hs) (small_byte hc)), qq_inv hp hc h]
/-- 1 / (p + c) + 1 / (s + c) = (p + s) / ((p + c) (s + c)) -/
theorem qq_two {p s c : Nat} (hp : Small p) (hs : Small s) (hc : Small c) (h1 : p ≠ c) (h2 : s ≠ c) : gadd (qq p c) (qq s c) = gmul (gadd (p : Int) s) (gmul (qq p c) (qq s c)) := by
  have bp := qq_byte hp hc
  have bs := qq_byte hs hc
  rw [← gmul_assoc (gadd_byte (small_byte hp) (small_byte hs)) bp bs, qq_part hp hs hc h1, gadd_gmul _ byte_one (gmul_byte (gadd_byte (small_byte hs) (small_byte hc))), one_gmul bs]
  rw [gmul_left_comm (gadd_byte (small_byte hs) (small_byte hc)) bp bs, qq_inv hs hc h2, one_gmul bp, gadd_comm]

theorem cauchy : ∀ (C P : List Nat) (x : Nat → Int), C.length ≤ P.length → C.Nodup → P.Nodup → (∀ c ∈ C, Small c) → (∀ p ∈ P, Small p) → (∀ p ∈ P, ∀ c ∈ C, p ≠ c) → (∀ c ∈ C, Byte (x c)) →
    (∀ p ∈ P, lsum (fun c => gmul (x c) (qq p c)) C = 0) → ∀ c ∈ C, x c = 0
  | [], _, _, _, _, _, _, _, _, _, _ => fun c hc => by cases hc
  | s :: C, [], _, hl, _, _, _, _, _, _, _ => by simp at hl
  | s :: C, p :: P, x, hl, hC, hP, sC, sP, hne, hx, h => by
    rw [List.nodup_cons] at hC hP
    have ss : Small s := sC s (by simp)
    have sp : Small p := sP p (by simp)
    have sC' : ∀ c ∈ C, Small c := fun c hc => sC c (List.mem_cons_of_mem _ hc)
    have sP' : ∀ r ∈ P, Small r := fun r hr => sP r (List.mem_cons_of_mem _ hr)
    have hx' : ∀ c ∈ C, Byte (x c) := fun c hc => hx c (List.mem_cons_of_mem _ hc)
    have hps : p ≠ s := hne p (by simp) s (by simp)
    -- each equation, times (r + s)
    have eqn : ∀ r, r ∈ p :: P → gadd (x s) (gadd (lsum x C) (lsum (fun c => gmul (gmul (x c) (gadd (s : Int) c)) (qq r c)) C)) = 0 := by
      intro r hr
      have sr := sP r hr
      have h1 := h r hr
      have h2 : gmul (gadd (r : Int) s) (lsum (fun c => gmul (x c) (qq r c)) (s :: C)) = 0 := by rw [h1, gmul_zero]
      rw [gmul_lsum] at h2
      simp only [lsum] at h2
      have brs := gadd_byte (small_byte sr) (small_byte ss)
      have e1 : gmul (gadd (r : Int) s) (gmul (x s) (qq r s)) = x s := by
        rw [← gmul_assoc brs (hx s (by simp)) (qq_byte sr ss), gmul_left_comm brs (hx s (by simp)) (qq_byte sr ss), qq_inv sr ss (hne r hr s (by simp)), one_gmul (hx s (by simp))]
      have e2 : lsum (fun c => gmul (gadd (r : Int) s) (gmul (x c) (qq r c))) C = gadd (lsum x C) (lsum (fun c => gmul (gmul (x c) (gadd (s : Int) c)) (qq r c)) C) := by
        rw [← lsum_gadd]
        refine lsum_congr (fun c hc => ?_)
        have bc := hx' c hc
        have bq := qq_byte sr (sC' c hc)
        have bsc := gadd_byte (small_byte ss) (small_byte (sC' c hc))
        rw [← gmul_assoc brs bc bq, gmul_left_comm brs bc bq, qq_part sr ss (sC' c hc) (hne r hr c (List.mem_cons_of_mem _ hc)), gadd_gmul _ byte_one (gmul_byte bsc), one_gmul bc]
        rw [gmul_left_comm bsc bq bc, gmul_comm bsc bc]
      rw [e1, e2] at h2
      exact h2
    have low : ∀ c ∈ C, gmul (gmul (x c) (gadd (s : Int) c)) (qq p c) = 0 := by
      refine cauchy C P (fun c => gmul (gmul (x c) (gadd (s : Int) c)) (qq p c)) (by simp at hl; exact hl) hC.2 hP.2 sC' sP' (fun r hr c hc => hne r (List.mem_cons_of_mem _ hr) c (List.mem_cons_of_mem _ hc)) (fun c hc => gmul_byte (gmul_byte (hx' c hc))) (fun r hr => ?_)
      have sr := sP' r hr
      have hrp : r ≠ p := fun e => hP.1 (e ▸ hr)
      have a1 := eqn r (List.mem_cons_of_mem _ hr)
      have a2 := eqn p (by simp)
      have bY : ∀ q, Small q → Byte (lsum (fun c => gmul (gmul (x c) (gadd (s : Int) c)) (qq q c)) C) := fun q hq => lsum_byte (fun c hc => gmul_byte (gmul_byte (hx' c hc)))
      have diff : gadd (lsum (fun c => gmul (gmul (x c) (gadd (s : Int) c)) (qq r c)) C) (lsum (fun c => gmul (gmul (x c) (gadd (s : Int) c)) (qq p c)) C) = 0 := by
        have bx := lsum_byte (f := x) hx'
        have k1 := gadd4 (x s) (gadd (lsum x C) (lsum (fun c => gmul (gmul (x c) (gadd (s : Int) c)) (qq r c)) C)) (x s) (gadd (lsum x C) (lsum (fun c => gmul (gmul (x c) (gadd (s : Int) c)) (qq p c)) C))
        rw [a1, a2, gadd_self, gadd4 (lsum x C), gadd_self, gadd_self, zero_gadd (gadd_byte (bY r sr) (bY p sp)), zero_gadd (gadd_byte (bY r sr) (bY p sp))] at k1
        exact k1.symm
      rw [← lsum_gadd] at diff
      have e3 : lsum (fun c => gadd (gmul (gmul (x c) (gadd (s : Int) c)) (qq r c)) (gmul (gmul (x c) (gadd (s : Int) c)) (qq p c))) C = gmul (gadd (r : Int) p) (lsum (fun c => gmul (gmul (gmul (x c) (gadd (s : Int) c)) (qq p c)) (qq r c)) C) := by
        rw [gmul_lsum]
        refine lsum_congr (fun c hc => ?_)
        have bz := gmul_byte (b := gadd (s : Int) c) (hx' c hc)
        have sc := sC' c hc
        have brp := gadd_byte (small_byte sr) (small_byte sp)
        have bqr := qq_byte sr sc
        have bqp := qq_byte sp sc
        rw [← gmul_gadd, qq_two sr sp sc (hne r (List.mem_cons_of_mem _ hr) c (List.mem_cons_of_mem _ hc)) (hne p (by simp) c (List.mem_cons_of_mem _ hc))]
        rw [← gmul_assoc bz brp (gmul_byte bqr), gmul_comm bz brp, gmul_assoc brp bz (gmul_byte bqr), gmul_comm bqr bqp, gmul_assoc bz bqp bqr]
      rw [e3] at diff
      rcases gmul_eq_zero (gadd_byte (small_byte sr) (small_byte sp)) (lsum_byte (fun c hc => gmul_byte (gmul_byte (gmul_byte (hx' c hc))))) diff with e | e
      · exact absurd e (gadd_ne sr sp hrp)
      · exact e
    have lowx : ∀ c ∈ C, x c = 0 := by
      intro c hc
      have sc := sC' c hc
      rcases gmul_eq_zero (gmul_byte (hx' c hc)) (qq_byte sp sc) (low c hc) with e | e
      · rcases gmul_eq_zero (hx' c hc) (gadd_byte (small_byte ss) (small_byte sc)) e with e | e
        · exact e
        · exact absurd e (gadd_ne ss sc (fun e2 => hC.1 (e2 ▸ hc)))
      · exact absurd e (qq_ne sp sc (hne p (by simp) c (List.mem_cons_of_mem _ hc)))
    intro c hc
    rcases List.mem_cons.1 hc with e | hc
    · subst e
      have h1 := h p (by simp)
      simp only [lsum] at h1
      rw [lsum_congr (g := fun _ => 0) (fun d hd => by rw [lowx d hd, zero_gmul])] at h1
      have z : ∀ l : List Nat, lsum (fun _ => 0) l = 0 := by
        intro l
        induction l with
        | nil => rfl
        | cons a l ih => simp only [lsum]; rw [ih]; rfl
      rw [z, gadd_zero (gmul_byte (hx c (by simp)))] at h1
      rcases gmul_eq_zero (hx c (by simp)) (qq_byte sp ss) h1 with e | e
      · exact e
      · exact absurd e (qq_ne sp ss hps)
    · exact lowx c hc
end Go.Proofs.Ythmlimkmcofkfaa.L

/- The code of k and m, told of lists; any k of its rows have no kernel. -/
namespace Go.Proofs.Ythmlimkmcofkfaa.L
open Go.RowKit Go.Proofs.YthmlimkmcofkfaaW.PrintWords Go.Proofs.Ythmlimkmcofkfaa.E Go.Proofs.Ythmlimkmcofkfaa.B
set_option linter.unusedVariables false

theorem ofInt_i64 (a : Nat) (ha : a < 9223372036854775808) : (BitVec.ofInt 64 (a : Int)).toNat = a := by
  rw [BitVec.ofInt_natCast, BitVec.toNat_ofNat]; exact Nat.mod_eq_of_lt (by omega)
theorem i64_xor_nat (a b : Nat) (ha : a < 9223372036854775808) (hb : b < 9223372036854775808) : Go.bits .xor .i64 (a : Int) (b : Int) = ((a ^^^ b : Nat) : Int) := by
  have hx : a ^^^ b < 2 ^ 63 := Nat.xor_lt_two_pow (by omega) (by omega)
  show IntKind.i64.wrap ((BitVec.ofInt 64 (a : Int) ^^^ BitVec.ofInt 64 (b : Int)).toNat : Int) = _
  rw [BitVec.toNat_xor, ofInt_i64 a ha, ofInt_i64 b hb, IntKind.wrap_i64]
  omega
theorem inv_ev {a : Int} (ha : Byte a) (h0 : a ≠ 0) : Ev (fun k => gf_Inv.f k a) (ginv a, 0) := by
  refine Ev.of (fun k => gf_Inv.mono a k) (k := 18) ?_
  have h1 := byte_nat ha
  have h := inv_f a.toNat h1.2 (by omega)
  rw [h1.1] at h
  exact h
theorem code_arg {k i j : Nat} (hk : k + i < 16) (hj : j < k) : (Go.bits .xor .i64 (wrap64 ((k : Int) + (i : Int))) (j : Int)) % 256 = gadd ((k + i : Nat) : Int) (j : Int) := by
  have e : wrap64 ((k : Int) + (i : Int)) = ((k + i : Nat) : Int) := by unfold wrap64; omega
  have hx : (k + i) ^^^ j < 16 := Nat.xor_lt_two_pow (n := 4) (by omega) (by omega)
  rw [e, i64_xor_nat _ _ (by omega) (by omega)]
  unfold gadd
  simp only [Int.toNat_natCast]
  omega
def parRow (k i : Nat) : List Int := tab k (fun j => qq (k + i) j)
def codeL (k m : Nat) : List (List Int) := idL k ++ (List.range' 0 m).map (parRow k)

section
variable {k m : Nat} (hk : 0 < k) (hm : 0 < m) (hkm : k + m ≤ 16)
include hk hm hkm
theorem Code_l1 {i : Nat} (hi : i < m) (acc : List (List Int)) (ha : acc.length ≤ 1000) {r : List (List Int) × Int}
    (h : Ev (fun q => matrix_Code.l0 q (k : Int) (acc ++ [parRow k i]) (m : Int) ((i + 1 : Nat) : Int)) r) :
    ∀ (d j : Nat), k = j + d → Ev (fun q => matrix_Code.l1 q (k : Int) acc i (tab k (fun s => if s < j then qq (k + i) s else 0)) (m : Int) i (k : Int) j) r
  | 0, j, hj => by
    refine Ev.step (f := fun q => matrix_Code.l0 q (k : Int) (acc ++ [parRow k i]) (m : Int) ((i + 1 : Nat) : Int)) (fun q => ?_) h
    simp only [matrix_Code.l1]
    rw [if_neg (by omega), if_pos (by omega), wrap_succ hi (by omega)]
    congr 3
    exact tab_congr (fun s hs => by simp [show s < j by omega])
  | d + 1, j, hj => by
    have ih := Code_l1 hi acc ha h d (j + 1) (by omega)
    have sa : Small (k + i) := by unfold Small; omega
    have sj : Small j := by unfold Small; omega
    have hne : k + i ≠ j := by omega
    have hinv := inv_ev (gadd_byte (small_byte sa) (small_byte sj)) (gadd_ne sa sj hne)
    refine Ev.step (f := fun q => (gf_Inv.f q (gadd ((k + i : Nat) : Int) (j : Int))).bind fun bt158 => matrix_Code.l1 q (k : Int) acc i ((tab k (fun s => if s < j then qq (k + i) s else 0)).set j bt158.1) (m : Int) i (k : Int) ((j + 1 : Nat) : Int)) (fun q => ?_) ?_
    · simp only [matrix_Code.l1]
      rw [if_pos (by omega), code_arg (by omega) (by omega)]
      congr 1
      funext bt
      rw [if_pos (by omega), if_pos (by rw [tab_len]; omega), wrap_succ (show j < k by omega) (by omega)]
      rfl
    · refine Ev.bind hinv ?_
      have e : (tab k (fun s => if s < j then qq (k + i) s else 0)).set j (ginv (gadd ((k + i : Nat) : Int) (j : Int))) = tab k (fun s => if s < j + 1 then qq (k + i) s else 0) := by
        refine tab_set _ (fun s hs => ?_)
        by_cases e2 : s = j
        · subst e2; simp [qq]
        · rw [if_neg e2]; simp only [show (s < j + 1) = (s < j) from propext ⟨fun h => by omega, fun h => by omega⟩]
      simp only [e]
      exact ih
theorem Code_l0 : ∀ (d i : Nat) (acc : List (List Int)), m = i + d → acc = idL k ++ (List.range' 0 i).map (parRow k) → Ev (fun q => matrix_Code.l0 q (k : Int) acc (m : Int) i) (codeL k m, 0)
  | 0, i, acc, hi, he => by
    refine Ev.step (f := fun q => some (codeL k m, 0)) (fun q => ?_) (Ev.now _)
    simp only [matrix_Code.l0]
    rw [if_neg (by omega), he, show i = m by omega]; rfl
  | d + 1, i, acc, hi, he => by
    have ih := Code_l0 d (i + 1) (acc ++ [parRow k i]) (by omega) (by rw [he, List.range'_concat]; simp)
    have h1 := Code_l1 hk hm hkm (show i < m by omega) acc (by rw [he]; simp [idL_len]; omega) ih k 0 (by omega)
    refine Ev.step (f := fun q => matrix_Code.l1 q (k : Int) acc i (tab k (fun s => if s < 0 then qq (k + i) s else 0)) (m : Int) i (k : Int) ((0 : Nat) : Int)) (fun q => ?_) h1
    simp only [matrix_Code.l0]
    rw [if_pos (by omega), if_pos (by omega), if_pos (by omega)]
    simp only [Option.bind_some, Int.toNat_natCast, List.length_replicate]
    have e : (List.replicate k (0 : Int)) = tab k (fun s => if s < 0 then qq (k + i) s else 0) := by
      apply List.ext_getElem
      · simp [tab]
      · intro s h1 h2; simp [tab]
    rw [e]; rfl
theorem code_ev : Ev (fun q => matrix_Code.f q (k : Int) (m : Int)) (codeL k m, 0) := by
  have e : wrap64 (16 - (k : Int)) = ((16 - k : Nat) : Int) := by unfold wrap64; omega
  refine Ev.congr (f := fun q => matrix_Code.j0 q (k : Int) (m : Int) false) (fun q => ?_) ?_
  · unfold matrix_Code.f
    rw [if_neg (by omega), if_neg (by omega), if_neg (by omega), e]
    have : decide ((m : Int) > ((16 - k : Nat) : Int)) = false := by simp; omega
    rw [this]
  · refine Ev.step (f := fun q => (matrix_one.f q (k : Int)).bind fun t152 => (matrix_Code.l0 q (k : Int) t152 (m : Int) ((0 : Nat) : Int))) (fun q => by simp only [matrix_Code.j0]; rfl) ?_
    exact Ev.bind (Ev.of (fun q => matrix_one.mono _ q) (one_f k (by omega))) (Code_l0 hk hm hkm m 0 _ (by omega) (by simp [idL]))
omit hk hm hkm in
theorem code_len (k m : Nat) : (codeL k m).length = k + m := by simp [codeL, idL_len]
omit hk hm hkm in
theorem code_row {k m r : Nat} (h : r < k + m) : rd_L1 (codeL k m) r = if r < k then idRow k r else parRow k (r - k) := by
  rw [rdL_nat]
  unfold codeL
  by_cases e : r < k
  · rw [if_pos e, List.getD_eq_getElem?_getD, List.getElem?_append_left (by rw [idL_len]; exact e)]
    simp [idL, e]
  · rw [if_neg e, List.getD_eq_getElem?_getD, List.getElem?_append_right (by rw [idL_len]; omega), idL_len]
    simp [show r - k < m by omega]
omit hk hm hkm in
theorem code_row_len {k m r : Nat} (h : r < k + m) : (rd_L1 (codeL k m) r).length = k := by
  rw [code_row h]; split
  · exact idRow_len k r
  · unfold parRow; rw [tab_len]
omit hk hm hkm in
theorem code_entry {k m r j : Nat} (h : r < k + m) (hj : j < k) : entry (codeL k m) r j = if r < k then one r j else qq r j := by
  unfold entry
  rw [code_row h]
  by_cases e : r < k
  · rw [if_pos e, if_pos e, idRow_tab, tab_rd hj]
  · rw [if_neg e, if_neg e]; unfold parRow; rw [tab_rd hj, show k + (r - k) = r by omega]
omit hk hm in
theorem code_bytes : Bytes (k + m) k (entry (codeL k m)) := by
  intro r j hr hj
  rw [code_entry hr hj]
  split
  · exact one_byte r j
  · exact qq_byte (by unfold Small; omega) (by unfold Small; omega)
theorem code_check : check (codeL k m) = 0 := check_of (m := k) (by rw [code_len]; omega) (by rw [code_len]; omega) hk (by omega) (fun i hi => by rw [code_len] at hi; exact code_row_len hi)
omit hk hm in
theorem code_ok : okB (codeL k m) = true := okB_of (m := k) (fun i hi => by rw [code_len] at hi; exact code_row_len hi) (by rw [code_len]; exact code_bytes hkm)
end

/-! ### Any k rows, all unlike -/
theorem nodup_sub : ∀ {l l' : List Nat}, l.Nodup → (∀ x ∈ l, x ∈ l') → l.length ≤ l'.length
  | [], _, _, _ => Nat.zero_le _
  | a :: l, l', hn, h => by
    rw [List.nodup_cons] at hn
    have ha := h a (by simp)
    have := nodup_sub (l' := l'.erase a) hn.2 (fun x hx => (List.mem_erase_of_ne (fun e => hn.1 (by rw [← e]; exact hx))).2 (h x (List.mem_cons_of_mem _ hx)))
    rw [List.length_erase_of_mem ha] at this
    have hpos : 0 < l'.length := List.length_pos_of_mem ha
    simp only [List.length_cons]; omega
def pickL (k m : Nat) (R : List Nat) : List (List Int) := R.map fun (r : Nat) => rd_L1 (codeL k m) (r : Int)
theorem filter_parts (u : Nat → Bool) : ∀ l : List Nat, l.length = (l.filter u).length + (l.filter (fun x => !u x)).length
  | [] => rfl
  | a :: l => by
    have ih := filter_parts u l
    by_cases e : u a = true
    · rw [List.filter_cons_of_pos e, List.filter_cons_of_neg (by simp [e])]; simp only [List.length_cons]; omega
    · rw [List.filter_cons_of_neg e, List.filter_cons_of_pos (by simpa using e)]; simp only [List.length_cons]; omega
/-- No kernel. -/
theorem pick_kernel {k m : Nat} (hkm : k + m ≤ 16) {R : List Nat} (hR : R.Nodup) (hr : ∀ r ∈ R, r < k + m) (hl : R.length = k) (x : Nat → Int) (hx : ∀ j, j < k → Byte (x j))
    (h : ∀ i, i < k → gsum k (fun j => gmul (entry (pickL k m R) i j) (x j)) = 0) : ∀ j, j < k → x j = 0 := by
  have hrow : ∀ r ∈ R, gsum k (fun j => gmul (if r < k then one r j else qq r j) (x j)) = 0 := by
    intro r hrm
    obtain ⟨i, hi, rfl⟩ := List.getElem_of_mem hrm
    have h1 := h i (by omega)
    rw [← h1]
    refine gsum_congr (fun j hj => ?_)
    have e : entry (pickL k m R) i j = entry (codeL k m) R[i] j := by
      unfold entry
      congr 1
      rw [rdL_nat]; simp [pickL, hi]
    rw [e, code_entry (hr _ hrm) hj]
  have hD : ∀ r ∈ R, r < k → x r = 0 := by
    intro r hrm hk
    have h1 := hrow r hrm
    rw [gsum_congr (g := fun j => gmul (one r j) (x j)) (fun j hj => by rw [if_pos hk]), one_prod (f := x) hk (hx r hk)] at h1
    exact h1
  let u : Nat → Bool := fun j => !(R.contains j)
  let U := (List.range k).filter u
  let Pq := R.filter (fun r => !decide (r < k))
  have hUk : ∀ c ∈ U, c < k ∧ c ∉ R := by
    intro c hc
    obtain ⟨h1, h2⟩ := List.mem_filter.1 hc
    exact ⟨List.mem_range.1 h1, by simpa [u] using h2⟩
  have hPk : ∀ p ∈ Pq, p ∈ R ∧ k ≤ p := by
    intro p hp
    obtain ⟨h1, h2⟩ := List.mem_filter.1 hp
    exact ⟨h1, by simpa using h2⟩
  have hlen : U.length ≤ Pq.length := by
    have a1 := filter_parts u (List.range k)
    have a2 := filter_parts (fun r => decide (r < k)) R
    have a3 : (R.filter (fun r => decide (r < k))).length ≤ ((List.range k).filter (fun x => !u x)).length := by
      refine nodup_sub (List.Nodup.sublist List.filter_sublist hR) (fun r hrm => ?_)
      obtain ⟨h1, h2⟩ := List.mem_filter.1 hrm
      refine List.mem_filter.2 ⟨List.mem_range.2 (by simpa using h2), ?_⟩
      simp [u, h1]
    rw [List.length_range] at a1
    show ((List.range k).filter u).length ≤ (R.filter (fun r => !decide (r < k))).length
    omega
  have hz := cauchy U Pq x hlen (List.Nodup.sublist List.filter_sublist List.nodup_range) (List.Nodup.sublist List.filter_sublist hR)
    (fun c hc => by have := (hUk c hc).1; unfold Small; omega) (fun p hp => by have := hr p (hPk p hp).1; unfold Small; omega)
    (fun p hp c hc => by have h1 := (hPk p hp).2; have h2 := (hUk c hc).1; omega) (fun c hc => hx c (hUk c hc).1) (fun p hp => by
      obtain ⟨h1, h2⟩ := hPk p hp
      have h3 := hrow p h1
      have sp : Small p := by have := hr p h1; unfold Small; omega
      rw [gsum_congr (g := fun j => gmul (x j) (qq p j)) (fun j hj => by rw [if_neg (by omega), gmul_comm (qq_byte sp (by unfold Small; omega)) (hx j hj)]), gsum_lsum _ _ (fun j hj => gmul_byte (hx j hj)),
        lsum_filter u (fun j hj => gmul_byte (hx j (List.mem_range.1 hj))) (fun j hj hu => by
          have hjR : j ∈ R := by simpa [u] using hu
          rw [hD j hjR (List.mem_range.1 hj), zero_gmul])] at h3
      exact h3)
  intro j hj
  by_cases e : j ∈ R
  · exact hD j e hj
  · exact hz j (List.mem_filter.2 ⟨List.mem_range.2 hj, by simp [u, e]⟩)
end Go.Proofs.Ythmlimkmcofkfaa.L

/- MatrixAny, told of lists: any k unlike rows of the code of k and m have an inverse. -/
namespace Go.Proofs.Ythmlimkmcofkfaa.L
open Go.RowKit Go.Proofs.YthmlimkmcofkfaaW.PrintWords Go.Proofs.Ythmlimkmcofkfaa.E Go.Proofs.Ythmlimkmcofkfaa.B
set_option linter.unusedVariables false

theorem kpick (x : Int) (n : Nat) (h : 0 < n) (hn : n ≤ 1000) : ∃ t : Nat, t < n ∧ stowagekit_Pick.f x (n : Int) = some (t : Int) := by
  have h1 : Int.tmod x n < n := Int.tmod_lt_of_pos x (by omega)
  have h2 : -(n : Int) < Int.tmod x n := by
    have h3 := Int.tmod_lt_of_pos (-x) (show (0 : Int) < n by omega)
    rw [Int.neg_tmod] at h3; omega
  unfold stowagekit_Pick.f
  rw [if_neg (by omega), if_neg (by omega)]
  by_cases e : Int.tmod x n < 0
  · rw [if_pos e]
    refine ⟨(Int.tmod x n + n).toNat, by omega, ?_⟩
    congr 1
    unfold wrap64; omega
  · rw [if_neg e]
    exact ⟨(Int.tmod x n).toNat, by omega, by congr 1; omega⟩
def castL (L : List Nat) : List Int := L.map fun (n : Nat) => (n : Int)
theorem castL_len (L : List Nat) : (castL L).length = L.length := by simp [castL]
theorem castL_rd {L : List Nat} {t : Nat} (h : t < L.length) : rd (castL L) (t : Int) = (L[t] : Nat) := by rw [rd_nat]; simp [castL, h]

/-- The rows that are picked, as the program picks them. -/
theorem Pick_l0 {k m : Nat} (hkm : k + m ≤ 16) (R : List Nat) (hr : ∀ r ∈ R, r < k + m) (hl : R.length ≤ 32) : ∀ (d i : Nat) (acc : List (List Int)), R.length = i + d → acc = pickL k m (R.take i) →
    Ev (fun q => P.matrix_Pick.l0 q (codeL k m) acc (castL R) (R.length : Int) i) (pickL k m R, 0)
  | 0, i, acc, hi, he => by
    refine Ev.step (f := fun q => some (pickL k m R, 0)) (fun q => ?_) (Ev.now _)
    simp only [P.matrix_Pick.l0]
    rw [if_neg (by omega), he, List.take_of_length_le (by omega)]
  | d + 1, i, acc, hi, he => by
    have hlt : i < R.length := by omega
    have hrr := hr R[i] (List.getElem_mem hlt)
    have ih := Pick_l0 hkm R hr hl d (i + 1) (acc ++ [rd_L1 (codeL k m) (R[i] : Nat)]) (by omega) (by rw [he, List.take_succ_eq_append_getElem hlt]; unfold pickL; rw [List.map_append]; rfl)
    refine Ev.step (f := fun q => P.matrix_Pick.l0 q (codeL k m) (acc ++ [rd_L1 (codeL k m) (R[i] : Nat)]) (castL R) (R.length : Int) ((i + 1 : Nat) : Int)) (fun q => ?_) ih
    have hle := code_row_len hrr
    have ha : acc.length ≤ 32 := by rw [he]; simp [pickL]; omega
    simp only [P.matrix_Pick.l0]
    rw [rdP, castL_len, castL_rd hlt, code_len, if_pos (by omega), if_pos (by omega), if_pos (by omega), if_neg (by omega), if_neg (by omega), if_pos (by omega), if_pos (by omega)]
    unfold slices_Clone_byte_byte.f
    rw [if_pos (by omega)]
    simp only [Option.bind_some]
    rw [if_pos (by omega), wrap_succ hlt (by omega)]
theorem erase_perm : ∀ (L : List Nat) (t : Nat) (h : t < L.length), List.Perm (L[t] :: L.eraseIdx t) L
  | a :: L, 0, h => by simp
  | a :: L, t + 1, h => by
    simp only [List.getElem_cons_succ, List.eraseIdx_cons_succ]
    exact (List.Perm.swap _ _ _).trans (List.Perm.cons a (erase_perm L t (by simpa using h)))
theorem Pick_ev {k m : Nat} (hk : 0 < k) (hm : 0 < m) (hkm : k + m ≤ 16) (R : List Nat) (hr : ∀ r ∈ R, r < k + m) (hl : R.length = k) : Ev (fun q => P.matrix_Pick.f q (codeL k m) (castL R)) (pickL k m R, 0) := by
  refine Ev.congr (f := fun q => P.matrix_Pick.l0 q (codeL k m) [] (castL R) (R.length : Int) ((0 : Nat) : Int)) (fun q => ?_) (Pick_l0 hkm R hr (by omega) R.length 0 [] (by omega) (by simp [pickL]))
  simp only [P.matrix_Pick.f, matrix_Check.f, Option.bind_some]
  rw [if_pos (code_check hk hm hkm), castL_len, if_neg (by omega), if_neg (by omega)]
  rfl
theorem pick_len (k m : Nat) (R : List Nat) : (pickL k m R).length = R.length := by simp [pickL]
theorem pick_row {k m : Nat} {R : List Nat} {i : Nat} (h : i < R.length) : rd_L1 (pickL k m R) i = rd_L1 (codeL k m) (R[i] : Nat) := by rw [rdL_nat]; simp [pickL, h]
theorem pick_invert {k m : Nat} (hk : 0 < k) (hm : 0 < m) (hkm : k + m ≤ 16) (R : List Nat) (hR : R.Nodup) (hr : ∀ r ∈ R, r < k + m) (hl : R.length = k) : ∃ X, matrix_Invert.f (pickL k m R) = some (X, 0) := by
  have rct : Rect k (pickL k m R) := fun i hi => by
    rw [pick_len] at hi
    rw [pick_row hi]; exact code_row_len (hr _ (List.getElem_mem hi))
  have byt : Bytes k k (entry (pickL k m R)) := by
    intro i j hi hj
    have hi' : i < R.length := by omega
    have := code_bytes hkm R[i] j (hr _ (List.getElem_mem hi')) hj
    unfold entry at this ⊢
    rw [pick_row hi']; exact this
  have hln : (pickL k m R).length = k := by rw [pick_len, hl]
  have ok : okB (pickL k m R) = true := okB_of rct (by rw [hln]; exact byt)
  have hc : check (pickL k m R) = 0 := check_of (by omega) (by omega) hk (by omega) rct
  have hr0 : (rd_L1 (pickL k m R) 0).length = k := rct 0 (by omega)
  unfold matrix_Invert.f
  rw [if_pos ok]
  unfold invertV invS
  rw [if_neg (by simp [hc]), hr0, hln, if_neg (by simp)]
  rcases kernel (aug_Aug (l := pickL k m R) (n := k)) byt k (Nat.le_refl _) with e | ⟨x, h1, ⟨c, hck, h2⟩, h3⟩
  · rw [if_neg (by omega)]; exact ⟨_, rfl⟩
  · exact absurd (pick_kernel hkm hR hr hl x h1 h3 c hck) h2

section
variable {k m : Nat} (hk : 0 < k) (hm : 0 < m) (hkm : k + m ≤ 16)
include hk hm hkm
theorem any_end {L R : List Nat} (hp : List.Perm (R ++ L) (List.range (k + m))) (hl : R.length = k) (l2 : List Int) : Ev (fun q => P.stowagelaw02_MatrixAny.l1 q (k : Int) l2 true (codeL k m) (castL L) (castL R) (k : Int)) true := by
  have hnd : (R ++ L).Nodup := (hp.nodup_iff).2 List.nodup_range
  have hR : R.Nodup := (List.nodup_append.1 hnd).1
  have hr : ∀ r ∈ R, r < k + m := fun r hrm => List.mem_range.1 (hp.subset (List.mem_append_left L hrm))
  obtain ⟨X, hX⟩ := pick_invert hk hm hkm R hR hr hl
  refine Ev.step (f := fun q => (P.matrix_Pick.f q (codeL k m) (castL R)).bind fun bt390 => ((matrix_Invert.f bt390.1).bind fun bt394 => (if true = true then (if bt390.2 = 0 then (some (bt394.2 == 0)) else (some false)) else (some false)))) (fun q => ?_) ?_
  · simp only [P.stowagelaw02_MatrixAny.l1]
    rw [if_neg (by omega)]
  · refine Ev.bind (Pick_ev hk hm hkm R hr hl) ?_
    refine Ev.bind (evc hX) ?_
    refine Ev.congr (fun q => if_pos rfl) ?_
    refine Ev.congr (fun q => if_pos rfl) ?_
    exact Ev.now _
theorem any_l1 (l2 : List Int) (h2 : l2.length ≤ 100) : ∀ (d i : Nat) (L R : List Nat), k = i + d → List.Perm (R ++ L) (List.range (k + m)) → R.length = i →
    Ev (fun q => P.stowagelaw02_MatrixAny.l1 q (k : Int) l2 true (codeL k m) (castL L) (castL R) i) true
  | 0, i, L, R, hi, hp, hl => by
    obtain rfl : i = k := by omega
    exact any_end hk hm hkm hp hl l2
  | d + 1, i, L, R, hi, hp, hl => by
    have hlen : L.length = k + m - i := by
      have := hp.length_eq
      rw [List.length_append, List.length_range] at this; omega
    -- one is taken
    have next : ∀ t, (ht : t < L.length) → Ev (fun q => P.stowagelaw02_MatrixAny.l1 q (k : Int) l2 true (codeL k m) (((castL L).take t) ++ (castL L).drop (t + 1)) (castL R ++ [((L[t] : Nat) : Int)]) ((i + 1 : Nat) : Int)) true := by
      intro t ht
      have ih := any_l1 l2 h2 d (i + 1) (L.eraseIdx t) (R ++ [L[t]]) (by omega) (List.Perm.trans (by
        rw [List.append_assoc]
        exact List.Perm.append_left R (by simpa using erase_perm L t ht)) hp) (by simp [hl])
      have e1 : castL (L.eraseIdx t) = (castL L).take t ++ (castL L).drop (t + 1) := by
        rw [List.eraseIdx_eq_take_drop_succ]; simp [castL, List.map_take, List.map_drop]
      have e2 : castL (R ++ [L[t]]) = castL R ++ [((L[t] : Nat) : Int)] := by simp [castL]
      rw [e1, e2] at ih
      exact ih
    by_cases hc : i < l2.length
    · obtain ⟨t, ht, hpk⟩ := kpick (rd l2 i) L.length (by omega) (by omega)
      refine Ev.step (fun q => ?_) (next t ht)
      simp only [P.stowagelaw02_MatrixAny.l1]
      rw [castL_len, castL_len, hpk, if_pos (by omega), if_pos (by omega), if_pos (by omega)]
      simp only [Option.bind_some, List.nil_append, List.length_nil, Int.toNat_natCast]
      have lt1 : ((castL L).take t).length ≤ 16 := by rw [List.length_take, castL_len]; omega
      have lt2 : ((castL L).drop (t + 1)).length ≤ 16 := by rw [List.length_drop, castL_len]; omega
      rw [wrap_succ ht (by omega), if_pos (by omega), if_pos (by omega), if_pos (by omega), if_pos (by omega), if_pos (by omega), if_pos (by omega), if_pos (by omega), wrap_succ (show i < k by omega) (by omega), castL_rd ht]
      simp only [Int.toNat_natCast]
      rw [if_pos (by omega)]
    · have ht : 0 < L.length := by omega
      have hn := next 0 ht
      refine Ev.step (fun q => ?_) hn
      simp only [P.stowagelaw02_MatrixAny.l1]
      rw [castL_len, castL_len, if_pos (by omega), if_neg (by omega), if_pos (by omega), if_pos (by omega)]
      simp only [Option.bind_some, List.nil_append, List.length_nil]
      have lt1 : ((castL L).take 0).length ≤ 16 := by simp
      have lt2 : ((castL L).drop 1).length ≤ 16 := by rw [List.length_drop, castL_len]; omega
      have e0 : rd (castL L) 0 = ((L[0] : Nat) : Int) := castL_rd (t := 0) ht
      rw [if_pos (by omega), if_pos (by omega), if_pos (by omega), if_pos (by omega), wrap_succ (show i < k by omega) (by omega), e0]
theorem any_l0 (l2 : List Int) (h2 : l2.length ≤ 100) : ∀ (d i : Nat), k + m = i + d → Ev (fun q => P.stowagelaw02_MatrixAny.l0 q (k : Int) (m : Int) l2 true (codeL k m) (castL (List.range i)) i) true
  | 0, i, hi => by
    have e : wrap64 ((k : Int) + (m : Int)) = ((k + m : Nat) : Int) := by unfold wrap64; omega
    refine Ev.step (f := fun q => P.stowagelaw02_MatrixAny.l1 q (k : Int) l2 true (codeL k m) (castL (List.range i)) (castL []) ((0 : Nat) : Int)) (fun q => ?_) (any_l1 hk hm hkm l2 h2 k 0 (List.range i) [] (by omega) (by rw [List.nil_append, show i = k + m by omega]) rfl)
    simp only [P.stowagelaw02_MatrixAny.l0]
    rw [e, if_neg (by omega)]; rfl
  | d + 1, i, hi => by
    have e : wrap64 ((k : Int) + (m : Int)) = ((k + m : Nat) : Int) := by unfold wrap64; omega
    have ih := any_l0 l2 h2 d (i + 1) (by omega)
    refine Ev.step (fun q => ?_) ih
    simp only [P.stowagelaw02_MatrixAny.l0]
    rw [e, castL_len, List.length_range, if_pos (by omega), if_pos (by omega), wrap_succ (show i < 16 by omega) (by omega)]
    congr 1
    rw [List.range_succ]; simp [castL]
end
theorem any_pure (a0 a1 : Int) (l2 : List Int) (w0 : (Lit.int .i64 a0).wf = true) (w1 : (Lit.int .i64 a1).wf = true) : ∃ q, P.stowagelaw02_MatrixAny.f q a0 a1 l2 = some true := by
  refine Ev.rounds (g := fun q => P.stowagelaw02_MatrixAny.f q a0 a1 l2) ?_
  unfold P.stowagelaw02_MatrixAny.f
  refine Ev.bind known_ev ?_
  have jt : ∀ X, Ev (fun q => P.stowagelaw02_MatrixAny.j0 q a0 a1 l2 true X true) true := fun X => Ev.step (f := fun _ => some true) (fun q => by simp only [P.stowagelaw02_MatrixAny.j0]; rfl) (Ev.now _)
  have bad : ∀ (g : Nat → Option (List (List Int) × Int)), (∀ q, g q = matrix_Code.f q a0 a1) → Ev g ([], 5) → Ev (fun q => (matrix_Code.f q a0 a1).bind fun bt339 => (if bt339.2 = 0 then (P.stowagelaw02_MatrixAny.j0 q a0 a1 l2 true bt339.1 (decide ((l2.length : Int) > 100))) else (P.stowagelaw02_MatrixAny.j0 q a0 a1 l2 true bt339.1 true))) true := by
    intro g hg hev
    have hev' : Ev (fun q => matrix_Code.f q a0 a1) ([], 5) := Ev.congr (fun q => (hg q).symm) hev
    refine Ev.bind hev' ?_
    exact Ev.congr (fun q => if_neg (by decide)) (jt _)
  have j5 : Ev (fun q => matrix_Code.j0 q a0 a1 true) ([], 5) := Ev.step (f := fun _ => some ([], 5)) (fun q => by simp only [matrix_Code.j0]; rfl) (Ev.now _)
  by_cases c1 : a0 < 1
  · exact bad (fun q => matrix_Code.j0 q a0 a1 true) (fun q => by unfold matrix_Code.f; rw [if_pos c1]) j5
  · by_cases c2 : a1 < 1
    · exact bad (fun q => matrix_Code.j0 q a0 a1 true) (fun q => by unfold matrix_Code.f; rw [if_neg c1, if_pos c2]) j5
    · by_cases c3 : a0 > 16
      · exact bad (fun q => matrix_Code.j0 q a0 a1 true) (fun q => by unfold matrix_Code.f; rw [if_neg c1, if_neg c2, if_pos c3]) j5
      · have e16 : wrap64 (16 - a0) = 16 - a0 := by unfold wrap64; omega
        by_cases c4 : a1 > 16 - a0
        · exact bad (fun q => matrix_Code.j0 q a0 a1 true) (fun q => by
            unfold matrix_Code.f; rw [if_neg c1, if_neg c2, if_neg c3, e16]
            have : decide (a1 > 16 - a0) = true := by simpa using c4
            rw [this]) j5
        · obtain ⟨k, rfl⟩ := Int.eq_ofNat_of_zero_le (show 0 ≤ a0 by omega)
          obtain ⟨m, rfl⟩ := Int.eq_ofNat_of_zero_le (show 0 ≤ a1 by omega)
          have hk : 0 < k := by omega
          have hm : 0 < m := by omega
          have hkm : k + m ≤ 16 := by omega
          have e : wrap64 ((k : Int) + (m : Int)) = ((k + m : Nat) : Int) := by unfold wrap64; omega
          refine Ev.bind (code_ev hk hm hkm) ?_
          refine Ev.congr (fun q => if_pos rfl) ?_
          by_cases c5 : l2.length > 100
          · have : decide ((l2.length : Int) > 100) = true := by simp; omega
            rw [this]; exact jt _
          · have : decide ((l2.length : Int) > 100) = false := by simp; omega
            rw [this]
            refine Ev.step (f := fun q => P.stowagelaw02_MatrixAny.j1 q (k : Int) (m : Int) l2 true (codeL k m) false) (fun q => ?_) ?_
            · simp only [P.stowagelaw02_MatrixAny.j0]
              have hb : (((codeL k m).length : Int) != ((k + m : Nat) : Int)) = false := by rw [code_len]; simp
              rw [e, hb, if_neg (by decide), if_neg c1, if_neg c2, if_neg (by omega)]
            · refine Ev.step (f := fun q => P.stowagelaw02_MatrixAny.l0 q (k : Int) (m : Int) l2 true (codeL k m) (castL (List.range 0)) ((0 : Nat) : Int)) (fun q => ?_) (any_l0 hk hm hkm l2 (by omega) (k + m) 0 (by omega))
              simp only [P.stowagelaw02_MatrixAny.j1]; rfl
end Go.Proofs.Ythmlimkmcofkfaa.L

/- The plain law of MatrixAny, in the form that the row asks for. -/
namespace Go.Proofs.Ythmlimkmcofkfaa.Pure
theorem MatrixAny : P.stowagelaw02_MatrixAny.Pure := fun a0 a1 l2 w0 w1 _ _ _ => L.any_pure a0 a1 l2 w0 w1
end Go.Proofs.Ythmlimkmcofkfaa.Pure

/- Contracts of functions of the program, written by a program of this session. -/
namespace Go.Proofs.Ythmlimkmcofkfaa.matrixAny
open Go.ChangeShapes Go.WideShapes Go.ChangeAt Go.RowKit
open Go.ChangeMaps (open_string shut_string)
set_option linter.unusedVariables false
theorem own : ownKnob Try.prog.godebug = none := by kernel_rfl
theorem laidOut : laidOutB Try.prog = true := by kernel_rfl
def IsRow (k : IntKind) (w : World) (a : Option Addr) (len cap : Nat) (zs : List Int) : Prop :=
  (a = none ∧ len = 0 ∧ cap = 0 ∧ zs = []) ∨
  ∃ x, a = some x ∧ len ≤ cap ∧ cap ≤ maxLen ∧ zs.length = cap ∧ (∀ i, i < zs.length → w.cell? (x.add i) = some (.int k (zs.getD i 0))) ∧ ∀ n ∈ zs, (Lit.int k n).wf = true
set_option maxRecDepth 100000 in
theorem lifted (os : Os) (started : os.Started) (H : Type) (enc : TypeId × Value → H) :
    ReturnsInHanded {} Try.checked os 7 .any (Rows.matrixAnySpec.pre6 enc Try.prog Try.f7 Rows.matrixAnyRow.domain false) (Rows.matrixAnySpec.post enc Try.prog Try.f7 false true false false) := by
  refine returnsInHanded_of_change_sized (C := Try.checked) own started (by kernel_rfl) Try.func7
    (ChangeSpec.witness6 (enc := enc) (C := Try.checked) false ⟨#[], #[.int .i64 0, .int .i64 0, .slice none 0 0], []⟩ 8 (by kernel_rfl) (by kernel_rfl) (by kernel_rfl) (by kernel_rfl)) ?_
  intro W base args ds gs before hval0 hW hcnd hsz0 _
  have hsz : (DataW.weightsEach Try.prog (Try.f7.params.toList ++ Rows.matrixAnySpec.plain.varTypes Try.prog) (ds ++ gs)).all (· ≤ reachBytes) = true := hsz0
  have hval : ∀ (j : Nat) t v, Try.f7.params[j]? = some t → args[j]? = some v → Value.okWide Try.prog W .any base t v := hval0
  have hW' := hW
  obtain ⟨p, q, hA0, hV, rfl, hfz, hnd⟩ := hW
  have hA : DataW.TrodAll enc Try.prog W 0 (fun _ => true) true Try.f7.params.toList args.toList ds p := hA0
  rw [Try.params7] at hA hval hsz
  obtain ⟨v0, vs0, d0, ds0, p0, q0, hargs, rfl, rfl, h0, r0⟩ := trodAll_cons hA
  obtain ⟨v1, vs1, d1, ds1, p1, q1, rfl, rfl, rfl, h1, r1⟩ := trodAll_cons r0
  obtain ⟨v2, vs2, d2, ds2, p2, q2, rfl, rfl, rfl, h2, r2⟩ := trodAll_cons r1
  obtain ⟨rfl, rfl, rfl⟩ := trodAll_nil r2
  obtain rfl : args = #[v0, v1, v2] := by cases args; simp_all
  obtain ⟨rfl, rfl⟩ := trodVars_none hV
  obtain ⟨a0, rfl, rfl, rfl, w0⟩ := open_int Try.underlying3 (hval 0 3 v0 rfl rfl) h0
  obtain ⟨a1, rfl, rfl, rfl, w1⟩ := open_int Try.underlying3 (hval 1 3 v1 rfl rfl) h1
  obtain ⟨a2, len2, cap2, rfl⟩ := okWide_slice Try.underlying23 (hval 2 23 v2 rfl rfl)
  have k2 := h2
  have lt2 : ∀ x ∈ p2, x.block < W.heap.size := by obtain ⟨m, hm⟩ := k2; exact DataW.trod_lt m _ _ _ hm
  obtain ⟨z2, w2⟩ : ∃ zs, IsRow .i64 W a2 len2 cap2 zs := by
    obtain ⟨fuel, hf⟩ := h2
    rcases open_ints Try.underlying23 Try.underlying3 (by kernel_rfl) hf with ⟨hcs, _⟩ | ⟨x, l, c, zs, hcs, _, hl, hm, hz, _, hcell, hwz⟩
    · simp [Value.cells] at hcs
      obtain ⟨rfl, rfl, rfl⟩ := hcs
      exact ⟨[], .inl ⟨rfl, rfl, rfl, rfl⟩⟩
    · simp [Value.cells] at hcs
      obtain ⟨rfl, rfl, rfl⟩ := hcs
      exact ⟨zs, .inr ⟨_, rfl, hl, hm, by simpa using hz, hcell, hwz⟩⟩
  have y2 : len2 * 8 ≤ 140737488351232 := Go.Proofs.YthmlimkmcofkfaaW.PrintWords.sized_ints hsz (j := 2) (t := 23) rfl rfl Try.underlying23 Try.underlying3 (by kernel_rfl) (by kernel_rfl) h2
  clear hA0 hval0 hsz0 hsz
  refine (P.stowagelaw02_MatrixAny.walk Pure.MatrixAny a0 a1 a2 len2 cap2 z2 W w0 w1 w2 y2).mono fun e W' ⟨he, bel⟩ => ?_
  subst he
  exact ⟨_, rfl, _, _, _, [], _, [], hW', trodAll_mk1 (shut_bool Try.underlying4 _), (trodAll_cons_mk (shut_int Try.underlying3 w0) (trodAll_cons_mk (shut_int Try.underlying3 w1) (trodAll_cons_mk (Below.trod laidOut (by kernel_rfl) (of_decide_eq_true (by kernel_rfl)) k2 bel lt2) trodAll_mk0))), rfl, bel.frame _, fun h => by cases h⟩
theorem over : Rows.matrixAnyRow.holds Try.pinned (OpenSpec.ofChange Rows.matrixAnySpec) :=
  OpenClaim.holds_of_wide 7 Try.f7 rfl rfl rfl rfl rfl rfl rfl ⟨rfl, rfl, rfl, rfl, rfl⟩ rfl rfl rfl rfl rfl (by kernel_rfl) Try.func7 (by kernel_rfl)
    (of_decide_eq_true (by kernel_rfl)) (by unfold Func.isWrapper; first | (rw [if_pos (by decide +kernel)]; kernel_rfl) | (rw [if_neg (by decide +kernel)]; exact ⟨rfl, rfl⟩))
    (fun os started H enc _ => lifted os started H enc)
theorem proved : Rows.MatrixAnySaid := over
#print axioms proved
end Go.Proofs.Ythmlimkmcofkfaa.matrixAny
namespace Go.Proofs.Ythmlimkmcofkfaa
/-- The row, under a short name, for the claim. -/
theorem matrixAny_holds : Rows.MatrixAnySaid := matrixAny.proved
end Go.Proofs.Ythmlimkmcofkfaa
