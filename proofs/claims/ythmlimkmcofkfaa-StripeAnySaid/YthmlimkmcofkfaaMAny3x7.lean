/- StripeAny: any k shards tell the bytes and all other shards, of any bytes of at most 1,000, any k and m that may be, any choice of k, or of more, shards. (Part 8 of 8.) -/
import Derived.Lib.Bytes
import Derived.Test.YthmlimkmcofkfaaRows
import Derived.WalkKit
import Derived.ProofKit
import Derived.OpenShut
import Derived.ShutString
import Derived.ChangeOld
import Derived.Below
import Derived.SizedLaws
import Derived.Test.YthmlimkmcofkfaaWSized
import Derived.Test.YthmlimkmcofkfaaMAny3x1
import Derived.Test.YthmlimkmcofkfaaMAny3x2
import Derived.Test.YthmlimkmcofkfaaMAny3x3
import Derived.Test.YthmlimkmcofkfaaMAny3x4
import Derived.Test.YthmlimkmcofkfaaMAny3x5
import Derived.Test.YthmlimkmcofkfaaMAny3x6
/- A matrix of inverses of sums (all unlike) has no kernel. -/
namespace Go.Proofs.Ythmlimkmcofkfaa.L
open Go.Proofs.Ythmlimkmcofkfaa.E
set_option linter.unusedVariables false

def lsum (f : Nat → Int) : List Nat → Int
  | [] => 0
  | j :: l => gadd (f j) (lsum f l)
theorem lsum_byte {f : Nat → Int} : ∀ {l : List Nat}, (∀ j ∈ l, Byte (f j)) → Byte (lsum f l)
  | [], _ => byte_zero
  | j :: l, h => gadd_byte (h j (by simp)) (lsum_byte (fun i hi => h i (by simp [hi])))
theorem lsum_congr {f g : Nat → Int} : ∀ {l : List Nat}, (∀ j ∈ l, f j = g j) → lsum f l = lsum g l
  | [], _ => rfl
  | j :: l, h => by simp only [lsum]; rw [h j (by simp), lsum_congr (fun i hi => h i (by simp [hi]))]
theorem lsum_gadd (f g : Nat → Int) : ∀ l : List Nat, lsum (fun j => gadd (f j) (g j)) l = gadd (lsum f l) (lsum g l)
  | [] => by simp [lsum, gadd]
  | j :: l => by simp only [lsum]; rw [lsum_gadd f g l, gadd4]
theorem gmul_lsum (a : Int) (f : Nat → Int) : ∀ l : List Nat, gmul a (lsum f l) = lsum (fun j => gmul a (f j)) l
  | [] => gmul_zero a
  | j :: l => by simp only [lsum]; rw [gmul_gadd, gmul_lsum a f l]
theorem lsum_filter {f : Nat → Int} (u : Nat → Bool) : ∀ {l : List Nat}, (∀ j ∈ l, Byte (f j)) → (∀ j ∈ l, u j = false → f j = 0) → lsum f l = lsum f (l.filter u)
  | [], _, _ => rfl
  | j :: l, hb, h => by
    have ih := lsum_filter u (fun i hi => hb i (List.mem_cons_of_mem _ hi)) (fun i hi => h i (List.mem_cons_of_mem _ hi))
    by_cases e : u j = true
    · rw [List.filter_cons_of_pos e]; simp only [lsum]; rw [ih]
    · rw [List.filter_cons_of_neg e]; simp only [lsum]
      rw [h j (by simp) (by simpa using e), ih, zero_gadd (lsum_byte (fun i hi => hb i (List.mem_cons_of_mem _ (List.mem_filter.1 hi).1)))]
theorem lsum_append (f : Nat → Int) : ∀ (l l' : List Nat), (∀ j ∈ l', Byte (f j)) → lsum f (l ++ l') = gadd (lsum f l) (lsum f l')
  | [], l', h => by simp only [List.nil_append, lsum]; rw [zero_gadd (lsum_byte h)]
  | j :: l, l', h => by simp only [List.cons_append, lsum]; rw [lsum_append f l l' h, gadd_assoc]
theorem gsum_lsum (f : Nat → Int) : ∀ n : Nat, (∀ j, j < n → Byte (f j)) → gsum n f = lsum f (List.range n)
  | 0, _ => rfl
  | n + 1, h => by
    rw [List.range_succ, lsum_append f _ _ (fun j hj => h j (by simp at hj; omega)), ← gsum_lsum f n (fun j hj => h j (by omega))]
    simp only [gsum, lsum]
    rw [gadd_zero (h n (by omega))]

theorem sub_mul {a b c d : Int} (ha : Byte a) (hb : Byte b) (hc : Byte c) (h : gadd a b = 0) : a = b := by
  have h1 : gadd (gadd a b) b = b := by rw [h, zero_gadd hb]
  rwa [gadd_assoc, gadd_self, gadd_zero ha] at h1

/-- 1 / (p + c) -/
def qq (p c : Nat) : Int := ginv (gadd p c)
def Small (n : Nat) : Prop := n < 256
theorem small_byte {n : Nat} (h : Small n) : Byte (n : Int) := by unfold Small at h; unfold Byte; omega
theorem gadd_ne {p c : Nat} (hp : Small p) (hc : Small c) (h : p ≠ c) : gadd (p : Int) (c : Int) ≠ 0 := by
  intro e
  have h1 : gadd (gadd (p : Int) c) c = c := by rw [e, zero_gadd (small_byte hc)]
  rw [gadd_assoc, gadd_self, gadd_zero (small_byte hp)] at h1
  omega
theorem qq_byte {p c : Nat} (hp : Small p) (hc : Small c) : Byte (qq p c) := ginv_byte (gadd_byte (small_byte hp) (small_byte hc))
theorem qq_inv {p c : Nat} (hp : Small p) (hc : Small c) (h : p ≠ c) : gmul (gadd (p : Int) c) (qq p c) = 1 := gmul_ginv (gadd_byte (small_byte hp) (small_byte hc)) (gadd_ne hp hc h)
theorem qq_ne {p c : Nat} (hp : Small p) (hc : Small c) (h : p ≠ c) : qq p c ≠ 0 := by
  intro e
  have := qq_inv hp hc h
  rw [e, gmul_zero] at this
  cases this
/-- (p + s) / (p + c) = 1 + (s + c) / (p + c) -/
theorem qq_part {p s c : Nat} (hp : Small p) (hs : Small s) (hc : Small c) (h : p ≠ c) : gmul (gadd (p : Int) s) (qq p c) = gadd 1 (gmul (gadd (s : Int) c) (qq p c)) := by
  have e : gadd (p : Int) s = gadd (gadd (p : Int) c) (gadd (s : Int) c) := by
    rw [gadd4, gadd_self, gadd_zero (gadd_byte (small_byte hp) (small_byte hs))]
  rw [e, gadd_gmul _ (gadd_byte (small_byte hp) (small_byte hc)) (gadd_byte (small_byte hs) (small_byte hc)), qq_inv hp hc h]
/-- 1 / (p + c) + 1 / (s + c) = (p + s) / ((p + c) (s + c)) -/
theorem qq_two {p s c : Nat} (hp : Small p) (hs : Small s) (hc : Small c) (h1 : p ≠ c) (h2 : s ≠ c) : gadd (qq p c) (qq s c) = gmul (gadd (p : Int) s) (gmul (qq p c) (qq s c)) := by
  have bp := qq_byte hp hc
  have bs := qq_byte hs hc
  rw [← gmul_assoc (gadd_byte (small_byte hp) (small_byte hs)) bp bs, qq_part hp hs hc h1, gadd_gmul _ byte_one (gmul_byte (gadd_byte (small_byte hs) (small_byte hc))), one_gmul bs]
  rw [gmul_left_comm (gadd_byte (small_byte hs) (small_byte hc)) bp bs, qq_inv hs hc h2, one_gmul bp, gadd_comm]

theorem cauchy : ∀ (C P : List Nat) (x : Nat → Int), C.length ≤ P.length → C.Nodup → P.Nodup → (∀ c ∈ C, Small c) → (∀ p ∈ P, Small p) → (∀ p ∈ P, ∀ c ∈ C, p ≠ c) → (∀ c ∈ C, Byte (x c)) →
    (∀ p ∈ P, lsum (fun c => gmul (x c) (qq p c)) C = 0) → ∀ c ∈ C, x c = 0
  | [], _, _, _, _, _, _, _, _, _, _ => fun c hc => by cases hc
  | s :: C, [], _, hl, _, _, _, _, _, _, _ => by simp at hl
  | s :: C, p :: P, x, hl, hC, hP, sC, sP, hne, hx, h => by
    rw [List.nodup_cons] at hC hP
    have ss : Small s := sC s (by simp)
    have sp : Small p := sP p (by simp)
    have sC' : ∀ c ∈ C, Small c := fun c hc => sC c (List.mem_cons_of_mem _ hc)
    have sP' : ∀ r ∈ P, Small r := fun r hr => sP r (List.mem_cons_of_mem _ hr)
    have hx' : ∀ c ∈ C, Byte (x c) := fun c hc => hx c (List.mem_cons_of_mem _ hc)
    have hps : p ≠ s := hne p (by simp) s (by simp)
    -- each equation, times (r + s)
    have eqn : ∀ r, r ∈ p :: P → gadd (x s) (gadd (lsum x C) (lsum (fun c => gmul (gmul (x c) (gadd (s : Int) c)) (qq r c)) C)) = 0 := by
      intro r hr
      have sr := sP r hr
      have h1 := h r hr
      have h2 : gmul (gadd (r : Int) s) (lsum (fun c => gmul (x c) (qq r c)) (s :: C)) = 0 := by rw [h1, gmul_zero]
      rw [gmul_lsum] at h2
      simp only [lsum] at h2
      have brs := gadd_byte (small_byte sr) (small_byte ss)
      have e1 : gmul (gadd (r : Int) s) (gmul (x s) (qq r s)) = x s := by
        rw [← gmul_assoc brs (hx s (by simp)) (qq_byte sr ss), gmul_left_comm brs (hx s (by simp)) (qq_byte sr ss), qq_inv sr ss (hne r hr s (by simp)), one_gmul (hx s (by simp))]
      have e2 : lsum (fun c => gmul (gadd (r : Int) s) (gmul (x c) (qq r c))) C = gadd (lsum x C) (lsum (fun c => gmul (gmul (x c) (gadd (s : Int) c)) (qq r c)) C) := by
        rw [← lsum_gadd]
        refine lsum_congr (fun c hc => ?_)
        have bc := hx' c hc
        have bq := qq_byte sr (sC' c hc)
        have bsc := gadd_byte (small_byte ss) (small_byte (sC' c hc))
        rw [← gmul_assoc brs bc bq, gmul_left_comm brs bc bq, qq_part sr ss (sC' c hc) (hne r hr c (List.mem_cons_of_mem _ hc)), gadd_gmul _ byte_one (gmul_byte bsc), one_gmul bc]
        rw [gmul_left_comm bsc bq bc, gmul_comm bsc bc]
      rw [e1, e2] at h2
      exact h2
    have low : ∀ c ∈ C, gmul (gmul (x c) (gadd (s : Int) c)) (qq p c) = 0 := by
      refine cauchy C P (fun c => gmul (gmul (x c) (gadd (s : Int) c)) (qq p c)) (by simp at hl; exact hl) hC.2 hP.2 sC' sP' (fun r hr c hc => hne r (List.mem_cons_of_mem _ hr) c (List.mem_cons_of_mem _ hc)) (fun c hc => gmul_byte (gmul_byte (hx' c hc))) (fun r hr => ?_)
      have sr := sP' r hr
      have hrp : r ≠ p := fun e => hP.1 (e ▸ hr)
      have a1 := eqn r (List.mem_cons_of_mem _ hr)
      have a2 := eqn p (by simp)
      have bY : ∀ q, Small q → Byte (lsum (fun c => gmul (gmul (x c) (gadd (s : Int) c)) (qq q c)) C) := fun q hq => lsum_byte (fun c hc => gmul_byte (gmul_byte (hx' c hc)))
      have diff : gadd (lsum (fun c => gmul (gmul (x c) (gadd (s : Int) c)) (qq r c)) C) (lsum (fun c => gmul (gmul (x c) (gadd (s : Int) c)) (qq p c)) C) = 0 := by
        have bx := lsum_byte (f := x) hx'
        have k1 := gadd4 (x s) (gadd (lsum x C) (lsum (fun c => gmul (gmul (x c) (gadd (s : Int) c)) (qq r c)) C)) (x s) (gadd (lsum x C) (lsum (fun c => gmul (gmul (x c) (gadd (s : Int) c)) (qq p c)) C))
        rw [a1, a2, gadd_self, gadd4 (lsum x C), gadd_self, gadd_self, zero_gadd (gadd_byte (bY r sr) (bY p sp)), zero_gadd (gadd_byte (bY r sr) (bY p sp))] at k1
        exact k1.symm
      rw [← lsum_gadd] at diff
      have e3 : lsum (fun c => gadd (gmul (gmul (x c) (gadd (s : Int) c)) (qq r c)) (gmul (gmul (x c) (gadd (s : Int) c)) (qq p c))) C = gmul (gadd (r : Int) p) (lsum (fun c => gmul (gmul (gmul (x c) (gadd (s : Int) c)) (qq p c)) (qq r c)) C) := by
        rw [gmul_lsum]
        refine lsum_congr (fun c hc => ?_)
        have bz := gmul_byte (b := gadd (s : Int) c) (hx' c hc)
        have sc := sC' c hc
        have brp := gadd_byte (small_byte sr) (small_byte sp)
        have bqr := qq_byte sr sc
        have bqp := qq_byte sp sc
        rw [← gmul_gadd, qq_two sr sp sc (hne r (List.mem_cons_of_mem _ hr) c (List.mem_cons_of_mem _ hc)) (hne p (by simp) c (List.mem_cons_of_mem _ hc))]
        rw [← gmul_assoc bz brp (gmul_byte bqr), gmul_comm bz brp, gmul_assoc brp bz (gmul_byte bqr), gmul_comm bqr bqp, gmul_assoc bz bqp bqr]
      rw [e3] at diff
      rcases gmul_eq_zero (gadd_byte (small_byte sr) (small_byte sp)) (lsum_byte (fun c hc => gmul_byte (gmul_byte (gmul_byte (hx' c hc))))) diff with e | e
      · exact absurd e (gadd_ne sr sp hrp)
      · exact e
    have lowx : ∀ c ∈ C, x c = 0 := by
      intro c hc
      have sc := sC' c hc
      rcases gmul_eq_zero (gmul_byte (hx' c hc)) (qq_byte sp sc) (low c hc) with e | e
      · rcases gmul_eq_zero (hx' c hc) (gadd_byte (small_byte ss) (small_byte sc)) e with e | e
        · exact e
        · exact absurd e (gadd_ne ss sc (fun e2 => hC.1 (e2 ▸ hc)))
      · exact absurd e (qq_ne sp sc (hne p (by simp) c (List.mem_cons_of_mem _ hc)))
    intro c hc
    rcases List.mem_cons.1 hc with e | hc
    · subst e
      have h1 := h p (by simp)
      simp only [lsum] at h1
      rw [lsum_congr (g := fun _ => 0) (fun d hd => by rw [lowx d hd, zero_gmul])] at h1
      have z : ∀ l : List Nat, lsum (fun _ => 0) l = 0 := by
        intro l
        induction l with
        | nil => rfl
        | cons a l ih => simp only [lsum]; rw [ih]; rfl
      rw [z, gadd_zero (gmul_byte (hx c (by simp)))] at h1
      rcases gmul_eq_zero (hx c (by simp)) (qq_byte sp ss) h1 with e | e
      · exact e
      · exact absurd e (qq_ne sp ss hps)
    · exact lowx c hc
end Go.Proofs.Ythmlimkmcofkfaa.L

/- The code of k and m, told of lists; any k of its rows have no kernel. -/
namespace Go.Proofs.Ythmlimkmcofkfaa.L
open Go.RowKit Go.Proofs.YthmlimkmcofkfaaW.PrintWords Go.Proofs.Ythmlimkmcofkfaa.E Go.Proofs.Ythmlimkmcofkfaa.B
set_option linter.unusedVariables false

theorem ofInt_i64 (a : Nat) (ha : a < 9223372036854775808) : (BitVec.ofInt 64 (a : Int)).toNat = a := by
  rw [BitVec.ofInt_natCast, BitVec.toNat_ofNat]; exact Nat.mod_eq_of_lt (by omega)
theorem i64_xor_nat (a b : Nat) (ha : a < 9223372036854775808) (hb : b < 9223372036854775808) : Go.bits .xor .i64 (a : Int) (b : Int) = ((a ^^^ b : Nat) : Int) := by
  have hx : a ^^^ b < 2 ^ 63 := Nat.xor_lt_two_pow (by omega) (by omega)
  show IntKind.i64.wrap ((BitVec.ofInt 64 (a : Int) ^^^ BitVec.ofInt 64 (b : Int)).toNat : Int) = _
  rw [BitVec.toNat_xor, ofInt_i64 a ha, ofInt_i64 b hb, IntKind.wrap_i64]
  omega
theorem inv_ev {a : Int} (ha : Byte a) (h0 : a ≠ 0) : Ev (fun k => gf_Inv.f k a) (ginv a, 0) := by
  refine Ev.of (fun k => gf_Inv.mono a k) (k := 18) ?_
  have h1 := byte_nat ha
  have h := inv_f a.toNat h1.2 (by omega)
  rw [h1.1] at h
  exact h
theorem code_arg {k i j : Nat} (hk : k + i < 16) (hj : j < k) : (Go.bits .xor .i64 (wrap64 ((k : Int) + (i : Int))) (j : Int)) % 256 = gadd ((k + i : Nat) : Int) (j : Int) := by
  have e : wrap64 ((k : Int) + (i : Int)) = ((k + i : Nat) : Int) := by unfold wrap64; omega
  have hx : (k + i) ^^^ j < 16 := Nat.xor_lt_two_pow (n := 4) (by omega) (by omega)
  rw [e, i64_xor_nat _ _ (by omega) (by omega)]
  unfold gadd
  simp only [Int.toNat_natCast]
  omega
def parRow (k i : Nat) : List Int := tab k (fun j => qq (k + i) j)
def codeL (k m : Nat) : List (List Int) := idL k ++ (List.range' 0 m).map (parRow k)

section
variable {k m : Nat} (hk : 0 < k) (hm : 0 < m) (hkm : k + m ≤ 16)
include hk hm hkm
theorem Code_l1 {i : Nat} (hi : i < m) (acc : List (List Int)) (ha : acc.length ≤ 1000) {r : List (List Int) × Int}
    (h : Ev (fun q => matrix_Code.l0 q (k : Int) (acc ++ [parRow k i]) (m : Int) ((i + 1 : Nat) : Int)) r) :
    ∀ (d j : Nat), k = j + d → Ev (fun q => matrix_Code.l1 q (k : Int) acc i (tab k (fun s => if s < j then qq (k + i) s else 0)) (m : Int) i (k : Int) j) r
  | 0, j, hj => by
    refine Ev.step (f := fun q => matrix_Code.l0 q (k : Int) (acc ++ [parRow k i]) (m : Int) ((i + 1 : Nat) : Int)) (fun q => ?_) h
    simp only [matrix_Code.l1]
    rw [if_neg (by omega), if_pos (by omega), wrap_succ hi (by omega)]
    congr 3
    exact tab_congr (fun s hs => by simp [show s < j by omega])
  | d + 1, j, hj => by
    have ih := Code_l1 hi acc ha h d (j + 1) (by omega)
    have sa : Small (k + i) := by unfold Small; omega
    have sj : Small j := by unfold Small; omega
    have hne : k + i ≠ j := by omega
    have hinv := inv_ev (gadd_byte (small_byte sa) (small_byte sj)) (gadd_ne sa sj hne)
    refine Ev.step (f := fun q => (gf_Inv.f q (gadd ((k + i : Nat) : Int) (j : Int))).bind fun bt158 => matrix_Code.l1 q (k : Int) acc i ((tab k (fun s => if s < j then qq (k + i) s else 0)).set j bt158.1) (m : Int) i (k : Int) ((j + 1 : Nat) : Int)) (fun q => ?_) ?_
    · simp only [matrix_Code.l1]
      rw [if_pos (by omega), code_arg (by omega) (by omega)]
      congr 1
      funext bt
      rw [if_pos (by omega), if_pos (by rw [tab_len]; omega), wrap_succ (show j < k by omega) (by omega)]
      rfl
    · refine Ev.bind hinv ?_
      have e : (tab k (fun s => if s < j then qq (k + i) s else 0)).set j (ginv (gadd ((k + i : Nat) : Int) (j : Int))) = tab k (fun s => if s < j + 1 then qq (k + i) s else 0) := by
        refine tab_set _ (fun s hs => ?_)
        by_cases e2 : s = j
        · subst e2; simp [qq]
        · rw [if_neg e2]; simp only [show (s < j + 1) = (s < j) from propext ⟨fun h => by omega, fun h => by omega⟩]
      simp only [e]
      exact ih
theorem Code_l0 : ∀ (d i : Nat) (acc : List (List Int)), m = i + d → acc = idL k ++ (List.range' 0 i).map (parRow k) → Ev (fun q => matrix_Code.l0 q (k : Int) acc (m : Int) i) (codeL k m, 0)
  | 0, i, acc, hi, he => by
    refine Ev.step (f := fun q => some (codeL k m, 0)) (fun q => ?_) (Ev.now _)
    simp only [matrix_Code.l0]
    rw [if_neg (by omega), he, show i = m by omega]; rfl
  | d + 1, i, acc, hi, he => by
    have ih := Code_l0 d (i + 1) (acc ++ [parRow k i]) (by omega) (by rw [he, List.range'_concat]; simp)
    have h1 := Code_l1 hk hm hkm (show i < m by omega) acc (by rw [he]; simp [idL_len]; omega) ih k 0 (by omega)
    refine Ev.step (f := fun q => matrix_Code.l1 q (k : Int) acc i (tab k (fun s => if s < 0 then qq (k + i) s else 0)) (m : Int) i (k : Int) ((0 : Nat) : Int)) (fun q => ?_) h1
    simp only [matrix_Code.l0]
    rw [if_pos (by omega), if_pos (by omega), if_pos (by omega)]
    simp only [Option.bind_some, Int.toNat_natCast, List.length_replicate]
    have e : (List.replicate k (0 : Int)) = tab k (fun s => if s < 0 then qq (k + i) s else 0) := by
      apply List.ext_getElem
      · simp [tab]
      · intro s h1 h2; simp [tab]
    rw [e]; rfl
theorem code_ev : Ev (fun q => matrix_Code.f q (k : Int) (m : Int)) (codeL k m, 0) := by
  have e : wrap64 (16 - (k : Int)) = ((16 - k : Nat) : Int) := by unfold wrap64; omega
  refine Ev.congr (f := fun q => matrix_Code.j0 q (k : Int) (m : Int) false) (fun q => ?_) ?_
  · unfold matrix_Code.f
    rw [if_neg (by omega), if_neg (by omega), if_neg (by omega), e]
    have : decide ((m : Int) > ((16 - k : Nat) : Int)) = false := by simp; omega
    rw [this]
  · refine Ev.step (f := fun q => (matrix_one.f q (k : Int)).bind fun t152 => (matrix_Code.l0 q (k : Int) t152 (m : Int) ((0 : Nat) : Int))) (fun q => by simp only [matrix_Code.j0]; rfl) ?_
    exact Ev.bind (Ev.of (fun q => matrix_one.mono _ q) (one_f k (by omega))) (Code_l0 hk hm hkm m 0 _ (by omega) (by simp [idL]))
omit hk hm hkm in
theorem code_len (k m : Nat) : (codeL k m).length = k + m := by simp [codeL, idL_len]
omit hk hm hkm in
theorem code_row {k m r : Nat} (h : r < k + m) : rd_L1 (codeL k m) r = if r < k then idRow k r else parRow k (r - k) := by
  rw [rdL_nat]
  unfold codeL
  by_cases e : r < k
  · rw [if_pos e, List.getD_eq_getElem?_getD, List.getElem?_append_left (by rw [idL_len]; exact e)]
    simp [idL, e]
  · rw [if_neg e, List.getD_eq_getElem?_getD, List.getElem?_append_right (by rw [idL_len]; omega), idL_len]
    simp [show r - k < m by omega]
omit hk hm hkm in
theorem code_row_len {k m r : Nat} (h : r < k + m) : (rd_L1 (codeL k m) r).length = k := by
  rw [code_row h]; split
  · exact idRow_len k r
  · unfold parRow; rw [tab_len]
omit hk hm hkm in
theorem code_entry {k m r j : Nat} (h : r < k + m) (hj : j < k) : entry (codeL k m) r j = if r < k then one r j else qq r j := by
  unfold entry
  rw [code_row h]
  by_cases e : r < k
  · rw [if_pos e, if_pos e, idRow_tab, tab_rd hj]
  · rw [if_neg e, if_neg e]; unfold parRow; rw [tab_rd hj, show k + (r - k) = r by omega]
omit hk hm in
theorem code_bytes : Bytes (k + m) k (entry (codeL k m)) := by
  intro r j hr hj
  rw [code_entry hr hj]
  split
  · exact one_byte r j
  · exact qq_byte (by unfold Small; omega) (by unfold Small; omega)
theorem code_check : check (codeL k m) = 0 := check_of (m := k) (by rw [code_len]; omega) (by rw [code_len]; omega) hk (by omega) (fun i hi => by rw [code_len] at hi; exact code_row_len hi)
omit hk hm in
theorem code_ok : okB (codeL k m) = true := okB_of (m := k) (fun i hi => by rw [code_len] at hi; exact code_row_len hi) (by rw [code_len]; exact code_bytes hkm)
end

/-! ### Any k rows, all unlike -/
theorem nodup_sub : ∀ {l l' : List Nat}, l.Nodup → (∀ x ∈ l, x ∈ l') → l.length ≤ l'.length
  | [], _, _, _ => Nat.zero_le _
  | a :: l, l', hn, h => by
    rw [List.nodup_cons] at hn
    have ha := h a (by simp)
    have := nodup_sub (l' := l'.erase a) hn.2 (fun x hx => (List.mem_erase_of_ne (fun e => hn.1 (by rw [← e]; exact hx))).2 (h x (List.mem_cons_of_mem _ hx)))
    rw [List.length_erase_of_mem ha] at this
    have hpos : 0 < l'.length := List.length_pos_of_mem ha
    simp only [List.length_cons]; omega
def pickL (k m : Nat) (R : List Nat) : List (List Int) := R.map fun (r : Nat) => rd_L1 (codeL k m) (r : Int)
theorem filter_parts (u : Nat → Bool) : ∀ l : List Nat, l.length = (l.filter u).length + (l.filter (fun x => !u x)).length
  | [] => rfl
  | a :: l => by
    have ih := filter_parts u l
    by_cases e : u a = true
    · rw [List.filter_cons_of_pos e, List.filter_cons_of_neg (by simp [e])]; simp only [List.length_cons]; omega
    · rw [List.filter_cons_of_neg e, List.filter_cons_of_pos (by simpa using e)]; simp only [List.length_cons]; omega
/-- No kernel. -/
theorem pick_kernel {k m : Nat} (hkm : k + m ≤ 16) {R : List Nat} (hR : R.Nodup) (hr : ∀ r ∈ R, r < k + m) (hl : R.length = k) (x : Nat → Int) (hx : ∀ j, j < k → Byte (x j))
    (h : ∀ i, i < k → gsum k (fun j => gmul (entry (pickL k m R) i j) (x j)) = 0) : ∀ j, j < k → x j = 0 := by
  have hrow : ∀ r ∈ R, gsum k (fun j => gmul (if r < k then one r j else qq r j) (x j)) = 0 := by
    intro r hrm
    obtain ⟨i, hi, rfl⟩ := List.getElem_of_mem hrm
    have h1 := h i (by omega)
    rw [← h1]
    refine gsum_congr (fun j hj => ?_)
    have e : entry (pickL k m R) i j = entry (codeL k m) R[i] j := by
      unfold entry
      congr 1
      rw [rdL_nat]; simp [pickL, hi]
    rw [e, code_entry (hr _ hrm) hj]
  have hD : ∀ r ∈ R, r < k → x r = 0 := by
    intro r hrm hk
    have h1 := hrow r hrm
    rw [gsum_congr (g := fun j => gmul (one r j) (x j)) (fun j hj => by rw [if_pos hk]), one_prod (f := x) hk (hx r hk)] at h1
    exact h1
  let u : Nat → Bool := fun j => !(R.contains j)
  let U := (List.range k).filter u
  let Pq := R.filter (fun r => !decide (r < k))
  have hUk : ∀ c ∈ U, c < k ∧ c ∉ R := by
    intro c hc
    obtain ⟨h1, h2⟩ := List.mem_filter.1 hc
    exact ⟨List.mem_range.1 h1, by simpa [u] using h2⟩
  have hPk : ∀ p ∈ Pq, p ∈ R ∧ k ≤ p := by
    intro p hp
    obtain ⟨h1, h2⟩ := List.mem_filter.1 hp
    exact ⟨h1, by simpa using h2⟩
  have hlen : U.length ≤ Pq.length := by
    have a1 := filter_parts u (List.range k)
    have a2 := filter_parts (fun r => decide (r < k)) R
    have a3 : (R.filter (fun r => decide (r < k))).length ≤ ((List.range k).filter (fun x => !u x)).length := by
      refine nodup_sub (List.Nodup.sublist List.filter_sublist hR) (fun r hrm => ?_)
      obtain ⟨h1, h2⟩ := List.mem_filter.1 hrm
      refine List.mem_filter.2 ⟨List.mem_range.2 (by simpa using h2), ?_⟩
      simp [u, h1]
    rw [List.length_range] at a1
    show ((List.range k).filter u).length ≤ (R.filter (fun r => !decide (r < k))).length
    omega
  have hz := cauchy U Pq x hlen (List.Nodup.sublist List.filter_sublist List.nodup_range) (List.Nodup.sublist List.filter_sublist hR)
    (fun c hc => by have := (hUk c hc).1; unfold Small; omega) (fun p hp => by have := hr p (hPk p hp).1; unfold Small; omega)
    (fun p hp c hc => by have h1 := (hPk p hp).2; have h2 := (hUk c hc).1; omega) (fun c hc => hx c (hUk c hc).1) (fun p hp => by
      obtain ⟨h1, h2⟩ := hPk p hp
      have h3 := hrow p h1
      have sp : Small p := by have := hr p h1; unfold Small; omega
      rw [gsum_congr (g := fun j => gmul (x j) (qq p j)) (fun j hj => by rw [if_neg (by omega), gmul_comm (qq_byte sp (by unfold Small; omega)) (hx j hj)]), gsum_lsum _ _ (fun j hj => gmul_byte (hx j hj)),
        lsum_filter u (fun j hj => gmul_byte (hx j (List.mem_range.1 hj))) (fun j hj hu => by
          have hjR : j ∈ R := by simpa [u] using hu
          rw [hD j hjR (List.mem_range.1 hj), zero_gmul])] at h3
      exact h3)
  intro j hj
  by_cases e : j ∈ R
  · exact hD j e hj
  · exact hz j (List.mem_filter.2 ⟨List.mem_range.2 hj, by simp [u, e]⟩)
end Go.Proofs.Ythmlimkmcofkfaa.L

/- Any k unlike rows of the code of k and m have an inverse. -/
namespace Go.Proofs.Ythmlimkmcofkfaa.L
open Go.RowKit Go.Proofs.YthmlimkmcofkfaaW.PrintWords Go.Proofs.Ythmlimkmcofkfaa.E Go.Proofs.Ythmlimkmcofkfaa.B
set_option linter.unusedVariables false

theorem kpick (x : Int) (n : Nat) (h : 0 < n) (hn : n ≤ 1000) : ∃ t : Nat, t < n ∧ stowagekit_Pick.f x (n : Int) = some (t : Int) := by
  have h1 : Int.tmod x n < n := Int.tmod_lt_of_pos x (by omega)
  have h2 : -(n : Int) < Int.tmod x n := by
    have h3 := Int.tmod_lt_of_pos (-x) (show (0 : Int) < n by omega)
    rw [Int.neg_tmod] at h3; omega
  unfold stowagekit_Pick.f
  rw [if_neg (by omega), if_neg (by omega)]
  by_cases e : Int.tmod x n < 0
  · rw [if_pos e]
    refine ⟨(Int.tmod x n + n).toNat, by omega, ?_⟩
    congr 1
    unfold wrap64; omega
  · rw [if_neg e]
    exact ⟨(Int.tmod x n).toNat, by omega, by congr 1; omega⟩
def castL (L : List Nat) : List Int := L.map fun (n : Nat) => (n : Int)
theorem castL_len (L : List Nat) : (castL L).length = L.length := by simp [castL]
theorem castL_rd {L : List Nat} {t : Nat} (h : t < L.length) : rd (castL L) (t : Int) = (L[t] : Nat) := by rw [rd_nat]; simp [castL, h]

/-- The rows that are picked, as the program picks them. -/
theorem Pick_l0 {k m : Nat} (hkm : k + m ≤ 16) (R : List Nat) (hr : ∀ r ∈ R, r < k + m) (hl : R.length ≤ 32) : ∀ (d i : Nat) (acc : List (List Int)), R.length = i + d → acc = pickL k m (R.take i) →
    Ev (fun q => P.matrix_Pick.l0 q (codeL k m) acc (castL R) (R.length : Int) i) (pickL k m R, 0)
  | 0, i, acc, hi, he => by
    refine Ev.step (f := fun q => some (pickL k m R, 0)) (fun q => ?_) (Ev.now _)
    simp only [P.matrix_Pick.l0]
    rw [if_neg (by omega), he, List.take_of_length_le (by omega)]
  | d + 1, i, acc, hi, he => by
    have hlt : i < R.length := by omega
    have hrr := hr R[i] (List.getElem_mem hlt)
    have ih := Pick_l0 hkm R hr hl d (i + 1) (acc ++ [rd_L1 (codeL k m) (R[i] : Nat)]) (by omega) (by rw [he, List.take_succ_eq_append_getElem hlt]; unfold pickL; rw [List.map_append]; rfl)
    refine Ev.step (f := fun q => P.matrix_Pick.l0 q (codeL k m) (acc ++ [rd_L1 (codeL k m) (R[i] : Nat)]) (castL R) (R.length : Int) ((i + 1 : Nat) : Int)) (fun q => ?_) ih
    have hle := code_row_len hrr
    have ha : acc.length ≤ 32 := by rw [he]; simp [pickL]; omega
    simp only [P.matrix_Pick.l0]
    rw [rdP, castL_len, castL_rd hlt, code_len, if_pos (by omega), if_pos (by omega), if_pos (by omega), if_neg (by omega), if_neg (by omega), if_pos (by omega), if_pos (by omega)]
    unfold slices_Clone_byte_byte.f
    rw [if_pos (by omega)]
    simp only [Option.bind_some]
    rw [if_pos (by omega), wrap_succ hlt (by omega)]
theorem erase_perm : ∀ (L : List Nat) (t : Nat) (h : t < L.length), List.Perm (L[t] :: L.eraseIdx t) L
  | a :: L, 0, h => by simp
  | a :: L, t + 1, h => by
    simp only [List.getElem_cons_succ, List.eraseIdx_cons_succ]
    exact (List.Perm.swap _ _ _).trans (List.Perm.cons a (erase_perm L t (by simpa using h)))
theorem Pick_ev {k m : Nat} (hk : 0 < k) (hm : 0 < m) (hkm : k + m ≤ 16) (R : List Nat) (hr : ∀ r ∈ R, r < k + m) (hl : R.length = k) : Ev (fun q => P.matrix_Pick.f q (codeL k m) (castL R)) (pickL k m R, 0) := by
  refine Ev.congr (f := fun q => P.matrix_Pick.l0 q (codeL k m) [] (castL R) (R.length : Int) ((0 : Nat) : Int)) (fun q => ?_) (Pick_l0 hkm R hr (by omega) R.length 0 [] (by omega) (by simp [pickL]))
  simp only [P.matrix_Pick.f, matrix_Check.f, Option.bind_some]
  rw [if_pos (code_check hk hm hkm), castL_len, if_neg (by omega), if_neg (by omega)]
  rfl
theorem pick_len (k m : Nat) (R : List Nat) : (pickL k m R).length = R.length := by simp [pickL]
theorem pick_row {k m : Nat} {R : List Nat} {i : Nat} (h : i < R.length) : rd_L1 (pickL k m R) i = rd_L1 (codeL k m) (R[i] : Nat) := by rw [rdL_nat]; simp [pickL, h]
theorem pick_invert {k m : Nat} (hk : 0 < k) (hm : 0 < m) (hkm : k + m ≤ 16) (R : List Nat) (hR : R.Nodup) (hr : ∀ r ∈ R, r < k + m) (hl : R.length = k) : ∃ X, matrix_Invert.f (pickL k m R) = some (X, 0) := by
  have rct : Rect k (pickL k m R) := fun i hi => by
    rw [pick_len] at hi
    rw [pick_row hi]; exact code_row_len (hr _ (List.getElem_mem hi))
  have byt : Bytes k k (entry (pickL k m R)) := by
    intro i j hi hj
    have hi' : i < R.length := by omega
    have := code_bytes hkm R[i] j (hr _ (List.getElem_mem hi')) hj
    unfold entry at this ⊢
    rw [pick_row hi']; exact this
  have hln : (pickL k m R).length = k := by rw [pick_len, hl]
  have ok : okB (pickL k m R) = true := okB_of rct (by rw [hln]; exact byt)
  have hc : check (pickL k m R) = 0 := check_of (by omega) (by omega) hk (by omega) rct
  have hr0 : (rd_L1 (pickL k m R) 0).length = k := rct 0 (by omega)
  unfold matrix_Invert.f
  rw [if_pos ok]
  unfold invertV invS
  rw [if_neg (by simp [hc]), hr0, hln, if_neg (by simp)]
  rcases kernel (aug_Aug (l := pickL k m R) (n := k)) byt k (Nat.le_refl _) with e | ⟨x, h1, ⟨c, hck, h2⟩, h3⟩
  · rw [if_neg (by omega)]; exact ⟨_, rfl⟩
  · exact absurd (pick_kernel hkm hR hr hl x h1 h3 c hck) h2

end Go.Proofs.Ythmlimkmcofkfaa.L

/- Shards, told of lists: which shards stripe.Split makes of bytes. -/
namespace Go.Proofs.Ythmlimkmcofkfaa.L
open Go.RowKit Go.Proofs.YthmlimkmcofkfaaW.PrintWords Go.Proofs.Ythmlimkmcofkfaa.E Go.Proofs.Ythmlimkmcofkfaa.B
set_option linter.unusedVariables false
set_option linter.unusedSectionVars false

theorem xsum_gsum (f : Nat → Int) : ∀ n : Nat, xsum f n = gsum n f
  | 0 => rfl
  | n + 1 => by simp only [xsum, gsum]; rw [xsum_gsum f n]
/-- Data shards: k of them, each of n bytes. -/
structure Data (k n : Nat) (D : List (List Int)) : Prop where
  len : D.length = k
  row : ∀ i, i < k → (rd_L1 D (i : Int)).length = n
  byte : ∀ i p, i < k → p < n → Byte (rd (rd_L1 D (i : Int)) (p : Int))
theorem Data.ok {k n : Nat} {D : List (List Int)} (h : Data k n D) : okB D = true := okB_of (m := n) (fun i hi => h.row i (by rw [← h.len]; exact hi)) (fun i j hi hj => by rw [h.len] at hi; exact h.byte i j hi hj)
theorem Data.all {k n : Nat} {D : List (List Int)} (h : Data k n D) : D.all (fun s => decide ((n : Int) ≤ s.length)) = true := by
  refine List.all_eq_true.2 fun s hs => ?_
  obtain ⟨i, hi, rfl⟩ := List.getElem_of_mem hs
  have := h.row i (by rw [← h.len]; exact hi)
  rw [rdL_nat] at this
  simp [hi] at this
  simp; omega
/-- What a row makes of shards. -/
def appL (row : List Int) (D : List (List Int)) (k n : Nat) : List Int := tab n (fun p => gsum k (fun i => gmul (rd row (i : Int)) (rd (rd_L1 D (i : Int)) (p : Int))))
theorem appL_len (row : List Int) (D : List (List Int)) (k n : Nat) : (appL row D k n).length = n := tab_len _ _
theorem apply_ok {row : List Int} {D : List (List Int)} {k n : Nat} (hD : Data k n D) (hk : k ≤ 16) (hn : n ≤ 65536) (hr : row.length = k) (hb : ∀ i, i < k → Byte (rd row (i : Int))) : stripe_apply.f row D (n : Int) = some (appL row D k n) := by
  unfold stripe_apply.f
  rw [if_pos]
  · congr 1
    unfold applyL appL tab
    rw [Int.toNat_natCast]
    refine List.map_congr_left fun p _ => ?_
    unfold applyAt
    rw [xsum_gsum, hr]
  · refine ⟨by omega, by rw [hr, hD.len], by rw [hD.len]; exact hk, ?_, hD.ok, hD.all⟩
    refine List.all_eq_true.2 fun x hx => ?_
    obtain ⟨i, hi, rfl⟩ := List.getElem_of_mem hx
    have := hb i (by omega)
    rw [rd_nat] at this
    simpa [hi, Byte] using this
theorem appL_byte {row : List Int} {D : List (List Int)} {k n : Nat} (hD : Data k n D) (hb : ∀ i, i < k → Byte (rd row (i : Int))) {p : Nat} (hp : p < n) : Byte (rd (appL row D k n) (p : Int)) := by
  unfold appL; rw [tab_rd hp]; exact gsum_byte fun i hi => gmul_byte (hb i hi)

theorem parRow_len (k i : Nat) : (parRow k i).length = k := tab_len _ _
theorem drop_code {k m : Nat} : (codeL k m).drop k = (List.range' 0 m).map (parRow k) := by
  unfold codeL; rw [List.drop_append_of_le_length (by rw [idL_len]; exact Nat.le_refl _), List.drop_of_length_le (by rw [idL_len]; exact Nat.le_refl _), List.nil_append]
theorem drop_row {k m j : Nat} (h : j < m) : rd_L1 ((codeL k m).drop k) (j : Int) = parRow k j := by
  rw [drop_code, rdL_nat]; simp [h]
theorem parRow_byte {k m j : Nat} (hkm : k + m ≤ 16) (h : j < m) : ∀ i, i < k → Byte (rd (parRow k j) (i : Int)) := fun i hi => by
  have := code_bytes hkm (k + j) i (by omega) hi
  unfold entry at this
  rw [code_row (by omega), if_neg (by omega), Nat.add_sub_cancel_left] at this
  exact this
/-- All shards of data shards. -/
def allL (D : List (List Int)) (k m n : Nat) : List (List Int) := D ++ (List.range m).map fun j => appL (parRow k j) D k n
def parts (D : List (List Int)) (k n j : Nat) : List (List Int) := D ++ (List.range j).map fun j => appL (parRow k j) D k n
theorem parts_len {D : List (List Int)} {k n j : Nat} (h : D.length = k) : (parts D k n j).length = k + j := by simp [parts, h]
theorem parts_take {D : List (List Int)} {k n j : Nat} (h : D.length = k) : (parts D k n j).take k = D := by unfold parts; rw [List.take_append_of_le_length (by omega), List.take_of_length_le (by omega)]
theorem parts_succ (D : List (List Int)) (k n j : Nat) : parts D k n (j + 1) = parts D k n j ++ [appL (parRow k j) D k n] := by unfold parts; rw [List.range_succ, List.map_append, List.append_assoc]; rfl

section
variable {k m n : Nat} (hk : 0 < k) (hm : 0 < m) (hkm : k + m ≤ 16) (hn : n ≤ 65536) {D : List (List Int)} (hD : Data k n D)
include hk hm hkm hn hD
theorem drop_len : ((codeL k m).drop k).length = m := by rw [List.length_drop, code_len]; omega
theorem Split_l1 : ∀ (d j : Nat), m = j + d → Ev (fun q => stripe_Split.l1 q (k : Int) (n : Int) (parts D k n j) ((codeL k m).drop k) (((codeL k m).drop k).length : Int) (j : Int)) (allL D k m n, 0)
  | 0, j, hj => by
    obtain rfl : m = j := by omega
    refine Ev.step (f := fun _ => some (allL D k m n, 0)) (fun q => ?_) (Ev.now _)
    have hl := drop_len hk hm hkm hn hD
    simp only [stripe_Split.l1]
    rw [if_neg (by omega)]; rfl
  | d + 1, j, hj => by
    have ih := Split_l1 d (j + 1) (by omega)
    refine Ev.step (f := fun q => stripe_Split.l1 q (k : Int) (n : Int) (parts D k n (j + 1)) ((codeL k m).drop k) (((codeL k m).drop k).length : Int) ((j + 1 : Nat) : Int)) (fun q => ?_) ih
    have hl := drop_len hk hm hkm hn hD
    have hp : (parts D k n j).length = k + j := parts_len hD.len
    simp only [stripe_Split.l1]
    rw [hl, if_pos (by omega), if_pos (by omega), if_pos (by omega), if_pos (by omega), if_pos (by omega), Int.toNat_natCast, parts_take hD.len, drop_row (by omega),
      apply_ok hD (by omega) hn (parRow_len k j) (parRow_byte hkm (by omega))]
    simp only [Option.bind_some]
    rw [if_pos (by omega), parts_succ, wrap_succ (show j < m by omega) (by omega)]
end

theorem may_ok {k m : Nat} (hk : 0 < k) (hm : 0 < m) (hkm : k + m ≤ 16) : stripe_may.f (k : Int) (m : Int) = some true := by
  unfold stripe_may.f
  rw [if_pos (by omega), if_pos (by omega), if_pos (by omega)]
  have : (m : Int) ≤ wrap64 (16 - (k : Int)) := by unfold wrap64; omega
  simp [this]
/-- k and m may be, or may tells no. -/
theorem may_cases (a b : Int) (wa : (Lit.int .i64 a).wf = true) (wb : (Lit.int .i64 b).wf = true) : (∃ k m : Nat, a = k ∧ b = m ∧ 0 < k ∧ 0 < m ∧ k + m ≤ 16) ∨ stripe_may.f a b = some false := by
  by_cases h : 1 ≤ a ∧ 1 ≤ b ∧ a ≤ 16 ∧ b ≤ 16 - a
  · left
    refine ⟨a.toNat, b.toNat, by omega, by omega, by omega, by omega, by omega⟩
  · right
    unfold stripe_may.f
    by_cases h1 : a ≥ 1
    · rw [if_pos h1]
      by_cases h2 : b ≥ 1
      · rw [if_pos h2]
        by_cases h3 : a ≤ 16
        · rw [if_pos h3]
          have : ¬ b ≤ wrap64 (16 - a) := by unfold wrap64; omega
          simp [this]
        · rw [if_neg h3]
      · rw [if_neg h2]
    · rw [if_neg h1]
def lenS (L k : Nat) : Nat := (L + k - 1) / k
theorem Length_ok {L k : Nat} (hL : L ≤ 65536) (hk : 0 < k) (hk15 : k ≤ 15) : stripe_Length.f (L : Int) (k : Int) = some ((lenS L k : Int), 0) := by
  unfold stripe_Length.f
  rw [if_neg (by omega), if_neg (by omega), if_neg (by omega), if_neg (by omega), if_neg (by omega)]
  have e1 : wrap64 ((L : Int) + (k : Int)) = ((L + k : Nat) : Int) := by unfold wrap64; omega
  have e2 : wrap64 (((L + k : Nat) : Int) - 1) = ((L + k - 1 : Nat) : Int) := by unfold wrap64; omega
  have e3 : Int.tdiv ((L + k - 1 : Nat) : Int) (k : Int) = ((lenS L k : Nat) : Int) := by unfold lenS; rfl
  have e4 : lenS L k ≤ L + k - 1 := Nat.div_le_self _ _
  rw [e1, e2, e3]
  have e5 : wrap64 ((lenS L k : Nat) : Int) = ((lenS L k : Nat) : Int) := by unfold wrap64; omega
  rw [e5]
/-- The data shards of bytes. -/
def dsh (x : List Int) (n i : Nat) : List Int := tab n (fun p => rd x ((i * n + p : Nat) : Int))
def dataL (x : List Int) (n i : Nat) : List (List Int) := (List.range i).map (dsh x n)
theorem dataL_len (x : List Int) (n i : Nat) : (dataL x n i).length = i := by simp [dataL]
theorem dataL_row {x : List Int} {n k i : Nat} (h : i < k) : rd_L1 (dataL x n k) (i : Int) = dsh x n i := by rw [rdL_nat]; simp [dataL, h]
theorem rd_byte {x : List Int} (hx : ∀ y ∈ x, Byte y) (i : Nat) : Byte (rd x (i : Int)) := by
  rw [rd_nat, List.getD_eq_getElem?_getD]
  by_cases h : i < x.length
  · rw [List.getElem?_eq_getElem h]; exact hx _ (List.getElem_mem h)
  · rw [List.getElem?_eq_none (by omega)]; exact byte_zero
theorem dataL_Data {x : List Int} (hx : ∀ y ∈ x, Byte y) (n k : Nat) : Data k n (dataL x n k) :=
  ⟨dataL_len x n k, fun i hi => by rw [dataL_row hi]; exact tab_len _ _, fun i p hi hp => by rw [dataL_row hi]; unfold dsh; rw [tab_rd hp]; exact rd_byte hx _⟩
theorem dsh_copy {x : List Int} {n i : Nat} (h : i * n < x.length) : copyL (List.replicate n 0) (x.drop (i * n)) = dsh x n i := by
  apply List.ext_getElem?
  intro p
  unfold copyL dsh tab
  rw [List.length_replicate, List.length_drop, List.drop_replicate, List.getElem?_map]
  by_cases hp : p < n
  · rw [List.getElem?_range hp]
    by_cases hq : i * n + p < x.length
    · rw [List.getElem?_append_left (by rw [List.length_take, List.length_drop]; omega), List.getElem?_take, if_pos hp, List.getElem?_drop, List.getElem?_eq_getElem hq]
      simp only [Option.map_some]
      rw [rd_nat, List.getD_eq_getElem?_getD, List.getElem?_eq_getElem hq]; rfl
    · rw [List.getElem?_append_right (by rw [List.length_take, List.length_drop]; omega), List.length_take, List.length_drop, List.getElem?_replicate, if_pos (by omega)]
      simp only [Option.map_some]
      rw [rd_nat, List.getD_eq_getElem?_getD, List.getElem?_eq_none (by omega)]; rfl
  · rw [List.getElem?_eq_none (by rw [List.length_append, List.length_take, List.length_drop, List.length_replicate]; omega), List.getElem?_eq_none (by rw [List.length_range]; omega)]; rfl
theorem dsh_none {x : List Int} {n i : Nat} (h : ¬ i * n < x.length) : List.replicate n 0 = dsh x n i := by
  apply List.ext_getElem?
  intro p
  unfold dsh tab
  rw [List.getElem?_map]
  by_cases hp : p < n
  · rw [List.getElem?_range hp, List.getElem?_replicate, if_pos hp]
    simp only [Option.map_some]
    rw [rd_nat, List.getD_eq_getElem?_getD, List.getElem?_eq_none (by omega)]; rfl
  · rw [List.getElem?_replicate, if_neg hp, List.getElem?_eq_none (by rw [List.length_range]; omega)]; rfl
theorem dataL_succ (x : List Int) (n i : Nat) : dataL x n (i + 1) = dataL x n i ++ [dsh x n i] := by unfold dataL; rw [List.range_succ, List.map_append]; rfl

section
variable {k m : Nat} (hk : 0 < k) (hm : 0 < m) (hkm : k + m ≤ 16) {x : List Int} (hL : x.length ≤ 65536) (hx : ∀ y ∈ x, Byte y)
include hk hm hkm hL hx
theorem lenS_le : lenS x.length k ≤ 65536 := by
  have h : lenS x.length k ≤ x.length := by
    unfold lenS
    rw [Nat.div_le_iff_le_mul_add_pred hk]
    have : x.length ≤ k * x.length := Nat.le_mul_of_pos_left _ hk
    omega
  omega
theorem Split_round {n i : Nat} (hn : n ≤ 65536) (hpos : 0 < x.length → 0 < n) (hi : i < k) (q : Nat) : stripe_Split.l0 (q + 1) x (k : Int) (m : Int) (n : Int) (dataL x n i) (k : Int) (i : Int) = stripe_Split.l0 q x (k : Int) (m : Int) (n : Int) (dataL x n (i + 1)) (k : Int) ((i + 1 : Nat) : Int) := by
  have hin : i * n ≤ 16 * 65536 := Nat.mul_le_mul (by omega) hn
  have ew : Aside0 (wrap64 ((i : Int) * (n : Int)) = ((i * n : Nat) : Int)) := ⟨by rw [← Int.natCast_mul]; unfold wrap64; omega⟩
  have hdl := dataL_len x n i
  have es := dataL_succ x n i
  have ec := @dsh_copy x n i
  have en := @dsh_none x n i
  rw [es]
  generalize dsh x n i = dd at ec en
  generalize i * n = t at hin ew ec en
  rw [stripe_Split.l0.eq_2, if_pos (by omega), if_pos (by omega), Int.toNat_natCast, if_pos (by omega), Option.bind_some]
  rw [ew.out, wrap_succ (show i < k by omega) (by omega), List.length_replicate, Int.toNat_natCast]
  by_cases hc : t < x.length
  · have hp := hpos (by omega)
    rw [if_pos (by omega), if_pos (by omega), if_pos (by omega), if_pos (by omega), if_pos (by omega), ec hc]
  · rw [if_neg (by omega), if_pos (by omega), en hc]
theorem Split_end {n : Nat} (hn : n ≤ 65536) : Ev (fun q => stripe_Split.l0 q x (k : Int) (m : Int) (n : Int) (dataL x n k) (k : Int) (k : Int)) (allL (dataL x n k) k m n, 0) := by
  have hD := dataL_Data hx n k
  refine Ev.step (f := fun q => (matrix_Code.f q (k : Int) (m : Int)).bind fun bt139 => (if (0 : Int) ≤ (k : Int) then (if (k : Int) ≤ (bt139.1.length : Int) then ((some (bt139.1.drop (k : Int).toNat : List (List Int))).bind fun y143 => (stripe_Split.l1 q (k : Int) (n : Int) (dataL x n k) y143 (y143.length : Int) 0)) else (none)) else (none))) (fun q => ?_) ?_
  · simp only [stripe_Split.l0]
    rw [if_neg (by omega)]
  · refine Ev.bind (code_ev hk hm hkm) ?_
    refine Ev.congr (fun q => if_pos (by omega)) ?_
    refine Ev.congr (fun q => if_pos (by rw [code_len]; omega)) ?_
    simp only [Option.bind_some, Int.toNat_natCast]
    have h := Split_l1 hk hm hkm hn hD m 0 (by omega)
    have e : parts (dataL x n k) k n 0 = dataL x n k := by simp [parts]
    rw [e] at h
    exact h
theorem Split_l0 {n : Nat} (hn : n ≤ 65536) (hpos : 0 < x.length → 0 < n) : ∀ (d i : Nat), k = i + d → Ev (fun q => stripe_Split.l0 q x (k : Int) (m : Int) (n : Int) (dataL x n i) (k : Int) (i : Int)) (allL (dataL x n k) k m n, 0) := by
  intro d
  induction d with
  | zero => intro i hi; obtain rfl : k = i := by omega
            exact Split_end hk hm hkm hL hx hn
  | succ d ih => intro i hi; exact Ev.step (fun q => Split_round hk hm hkm hL hx hn hpos (by omega) q) (ih (i + 1) (by omega))
theorem Split_ev : Ev (fun q => stripe_Split.f q x (k : Int) (m : Int)) (allL (dataL x (lenS x.length k) k) k m (lenS x.length k), 0) := by
  have h := Split_l0 hk hm hkm hL hx (lenS_le hk hm hkm hL hx) (fun h0 => by unfold lenS; exact Nat.div_pos (by omega) hk) k 0 (by omega)
  refine Ev.congr (fun q => ?_) h
  unfold stripe_Split.f
  rw [may_ok hk hm hkm]
  simp only [Option.bind_some, if_true]
  rw [if_neg (by omega), Length_ok hL hk (by omega)]
  rfl
end
end Go.Proofs.Ythmlimkmcofkfaa.L

/- Shards, told of lists: any k of them tell the data shards; fewer tell nothing. -/
namespace Go.Proofs.Ythmlimkmcofkfaa.L
open Go.RowKit Go.Proofs.YthmlimkmcofkfaaW.PrintWords Go.Proofs.Ythmlimkmcofkfaa.E Go.Proofs.Ythmlimkmcofkfaa.B
set_option linter.unusedVariables false
set_option linter.unusedSectionVars false

/-- The inverse of k picked rows. -/
theorem pick_inverse {k m : Nat} (hk : 0 < k) (hm : 0 < m) (hkm : k + m ≤ 16) (R : List Nat) (hR : R.Nodup) (hr : ∀ r ∈ R, r < k + m) (hl : R.length = k) :
    ∃ X, matrix_Invert.f (pickL k m R) = some (X, 0) ∧ X.length = k ∧ (∀ i : Nat, i < k → (rd_L1 X (i : Int)).length = k) ∧ Bytes k k (entry X) ∧ (∀ i j, i < k → j < k → prod k (entry X) (entry (pickL k m R)) i j = one i j) ∧ Bytes k k (entry (pickL k m R)) := by
  have rct : Rect k (pickL k m R) := fun i hi => by
    rw [pick_len] at hi
    rw [pick_row hi]; exact code_row_len (hr _ (List.getElem_mem hi))
  have byt : Bytes k k (entry (pickL k m R)) := by
    intro i j hi hj
    have hi' : i < R.length := by omega
    have := code_bytes hkm R[i] j (hr _ (List.getElem_mem hi')) hj
    unfold entry at this ⊢
    rw [pick_row hi']; exact this
  have hln : (pickL k m R).length = k := by rw [pick_len, hl]
  have ok : okB (pickL k m R) = true := okB_of rct (by rw [hln]; exact byt)
  have hc : check (pickL k m R) = 0 := check_of (by omega) (by omega) hk (by omega) rct
  have hr0 : (rd_L1 (pickL k m R) 0).length = k := rct 0 (by omega)
  unfold matrix_Invert.f
  rw [if_pos ok]
  unfold invertV invS
  rw [if_neg (by simp [hc]), hr0, hln, if_neg (by simp)]
  rcases kernel (aug_Aug (l := pickL k m R) (n := k)) byt k (Nat.le_refl _) with e | ⟨x, h1, ⟨c, hck, h2⟩, h3⟩
  · rw [if_neg (by omega)]
    obtain ⟨i1, i2, i3⟩ := inverse (aug_Aug (l := pickL k m R)) byt e
    generalize (sweepM k k (0, augM (pickL k m R) k)).2 = S at *
    refine ⟨_, rfl, rightL_len _ _, fun i hi => rightL_rect S k i (by rw [rightL_len]; exact hi), fun i j hi hj => by rw [rightL_entry hi hj]; exact i1 i j hi hj, fun i j hi hj => ?_, byt⟩
    rw [← i2 i j hi hj]
    exact gsum_congr (fun t ht => by rw [rightL_entry hi ht])
  · exact absurd (pick_kernel hkm hR hr hl x h1 h3 c hck) h2

/-- All shards, byte by byte. -/
theorem allL_len {D : List (List Int)} {k m n : Nat} (h : D.length = k) : (allL D k m n).length = k + m := by simp [allL, h]
theorem one_gsum {k r : Nat} {f : Nat → Int} (hr : r < k) (hf : ∀ i, i < k → Byte (f i)) : gsum k (fun i => gmul (one r i) (f i)) = f r := by
  rw [gsum_at hr (gmul_byte (one_byte r r)) (fun i hi e => by unfold one; rw [if_neg (fun h => e h.symm), zero_gmul])]
  unfold one; rw [if_pos rfl, one_gmul (hf r hr)]
theorem allL_row {D : List (List Int)} {k m n r : Nat} (hkm : k + m ≤ 16) (hD : Data k n D) (hr : r < k + m) :
    (rd_L1 (allL D k m n) (r : Int)).length = n ∧ ∀ p, p < n → rd (rd_L1 (allL D k m n) (r : Int)) (p : Int) = gsum k (fun i => gmul (entry (codeL k m) r i) (rd (rd_L1 D (i : Int)) (p : Int))) := by
  by_cases h : r < k
  · have e : rd_L1 (allL D k m n) (r : Int) = rd_L1 D (r : Int) := by
      rw [rdL_nat, rdL_nat]; unfold allL
      rw [List.getD_eq_getElem?_getD, List.getD_eq_getElem?_getD, List.getElem?_append_left (by rw [hD.len]; exact h)]
    rw [e]
    refine ⟨hD.row r h, fun p hp => ?_⟩
    rw [gsum_congr (g := fun i => gmul (one r i) (rd (rd_L1 D (i : Int)) (p : Int))) (fun i hi => by rw [code_entry hr hi, if_pos h]), one_gsum h (fun i hi => hD.byte i p hi hp)]
  · have e : rd_L1 (allL D k m n) (r : Int) = appL (parRow k (r - k)) D k n := by
      rw [rdL_nat]; unfold allL
      rw [List.getD_eq_getElem?_getD, List.getElem?_append_right (by rw [hD.len]; omega), hD.len, List.getElem?_map, List.getElem?_range (by omega)]; rfl
    rw [e]
    refine ⟨appL_len _ _ _ _, fun p hp => ?_⟩
    unfold appL
    rw [tab_rd hp]
    refine gsum_congr fun i hi => ?_
    rw [code_entry hr hi, if_neg h]
    unfold parRow
    rw [tab_rd hi, show k + (r - k) = r by omega]
theorem allL_byte {D : List (List Int)} {k m n r p : Nat} (hkm : k + m ≤ 16) (hD : Data k n D) (hr : r < k + m) (hp : p < n) : Byte (rd (rd_L1 (allL D k m n) (r : Int)) (p : Int)) := by
  rw [(allL_row hkm hD hr).2 p hp]
  exact gsum_byte fun i hi => gmul_byte (code_bytes hkm r i hr hi)
theorem row_tab {x : List Int} {n : Nat} (h : x.length = n) : x = tab n (fun p => rd x (p : Int)) := by
  subst h
  apply List.ext_getElem?
  intro i
  unfold tab
  rw [List.getElem?_map]
  by_cases hi : i < x.length
  · rw [List.getElem?_range hi, List.getElem?_eq_getElem hi]; simp [rd_nat, hi]
  · rw [List.getElem?_eq_none (by omega), List.getElem?_eq_none (by rw [List.length_range]; omega)]; rfl
theorem rows_map {X : List (List Int)} {k : Nat} (h : X.length = k) : X = (List.range k).map (fun i => rd_L1 X ((i : Nat) : Int)) := by
  subst h
  apply List.ext_getElem?
  intro i
  rw [List.getElem?_map]
  by_cases hi : i < X.length
  · rw [List.getElem?_range hi, List.getElem?_eq_getElem hi]; simp [rdL_nat, hi]
  · rw [List.getElem?_eq_none (by omega), List.getElem?_eq_none (by rw [List.length_range]; omega)]; rfl

/-- Which are there, of the first i. -/
def trues (hv : List Bool) (i : Nat) : List Nat := (List.range i).filter (fun t => rdOf false hv ((t : Nat) : Int))
theorem trues_succ (hv : List Bool) (i : Nat) : trues hv (i + 1) = if rdOf false hv (i : Int) = true then trues hv i ++ [i] else trues hv i := by
  unfold trues
  rw [List.range_succ, List.filter_append]
  by_cases h : rdOf false hv (i : Int) = true
  · rw [if_pos h]; simp [h]
  · rw [if_neg h]; simp [h]
theorem trues_nodup (hv : List Bool) (i : Nat) : (trues hv i).Nodup := List.Pairwise.filter _ List.nodup_range
theorem trues_lt {hv : List Bool} {i r : Nat} (h : r ∈ trues hv i) : r < i := List.mem_range.1 (List.mem_filter.1 h).1
theorem trues_true {hv : List Bool} {i r : Nat} (h : r ∈ trues hv i) : rdOf false hv (r : Int) = true := (List.mem_filter.1 h).2
theorem trues_le {hv : List Bool} : ∀ {i j : Nat}, i ≤ j → (trues hv i).length ≤ (trues hv j).length
  | i, j, h => by
    obtain ⟨d, rfl⟩ := Nat.exists_eq_add_of_le h
    induction d with
    | zero => exact Nat.le_refl _
    | succ d ih =>
      refine Nat.le_trans (ih (by omega)) ?_
      rw [← Nat.add_assoc, trues_succ]
      split
      · simp
      · exact Nat.le_refl _
def ofL (sh : List (List Int)) (R : List Nat) : List (List Int) := R.map fun r => rd_L1 sh ((r : Nat) : Int)
section
variable {k m N : Nat} {n : Int} {sh : List (List Int)} {hv : List Bool} (hsh : sh.length = N) (hhv : hv.length = N) (hN : N ≤ 1000)
include hsh hhv hN
theorem data_l0 {r : List (List Int) × Bool} (h : ∀ i, i ≤ N → (trues hv i).length ≤ k → ((trues hv i).length = k ∨ i = N) → Ev (fun q => stripe_data.j1 q (k : Int) (m : Int) n (castL (trues hv i)) (ofL sh (trues hv i))) r) :
    ∀ (d i : Nat), N = i + d → (trues hv i).length ≤ k → Ev (fun q => stripe_data.l0 q sh (k : Int) (m : Int) n (castL (trues hv i)) (ofL sh (trues hv i)) hv (hv.length : Int) (i : Int)) r
  | 0, i, hi, hl => by
    refine Ev.step (fun q => ?_) (h i (by omega) hl (.inr (by omega)))
    simp only [stripe_data.l0]
    rw [if_neg (by omega)]
  | d + 1, i, hi, hl => by
    have htl : (trues hv i).length ≤ i := by
      have := List.length_filter_le (fun t : Nat => rdOf false hv ((t : Nat) : Int)) (List.range i)
      rw [List.length_range] at this; exact this
    by_cases e : (trues hv i).length = k
    · refine Ev.step (fun q => ?_) (h i (by omega) hl (.inl e))
      simp only [stripe_data.l0]
      rw [if_pos (by omega), if_pos (by omega), if_pos (by omega), castL_len, if_pos (by omega)]
    · have ih := data_l0 h d (i + 1) (by omega) (by rw [trues_succ]; split <;> (first | omega | (simp; omega)))
      refine Ev.step (fun q => ?_) ih
      simp only [stripe_data.l0]
      rw [if_pos (by omega), if_pos (by omega), if_pos (by omega), castL_len, if_neg (by omega), trues_succ, wrap_succ (show i < N by omega) (by omega)]
      have hol : (ofL sh (trues hv i)).length = (trues hv i).length := by simp [ofL]
      by_cases c : rdOf false hv (i : Int) = true
      · rw [if_pos c, if_pos c, if_pos (by omega), if_pos (by omega), if_pos (by omega)]
        have e1 : castL (trues hv i ++ [i]) = castL (trues hv i) ++ [(i : Int)] := by simp [castL]
        have e2 : ofL sh (trues hv i ++ [i]) = ofL sh (trues hv i) ++ [rd_L1 sh (i : Int)] := by simp [ofL]
        rw [e1, e2]
      · rw [if_neg c, if_neg c]
theorem data_few (hf : (trues hv N).length < k) : Ev (fun q => stripe_data.f q sh hv (k : Int) (m : Int) n) (([] : List (List Int)), false) := by
  have h := data_l0 (k := k) (m := m) (n := n) hsh hhv hN (r := (([] : List (List Int)), false)) (fun i hi hl he => by
    have hle := trues_le (hv := hv) hi
    refine Ev.step (f := fun _ => some (([] : List (List Int)), false)) (fun q => ?_) (Ev.now _)
    simp only [stripe_data.j1]
    rw [castL_len, if_pos (by omega)]) N 0 (by omega) (by simp [trues])
  exact h
end
section
variable {k m n : Nat} (hk : 0 < k) (hm : 0 < m) (hkm : k + m ≤ 16) (hn : n ≤ 65536) {D : List (List Int)} (hD : Data k n D) {sh : List (List Int)} {hv : List Bool}
include hk hm hkm hn hD
theorem data_l1 {X O : List (List Int)} (hO : Data k n O) (hX : X.length = k) (rX : ∀ i : Nat, i < k → (rd_L1 X (i : Int)).length = k) (bX : Bytes k k (entry X)) :
    ∀ (d i : Nat), k = i + d → Ev (fun q => stripe_data.l1 q (n : Int) O ((List.range i).map fun i => appL (rd_L1 X ((i : Nat) : Int)) O k n) X (X.length : Int) (i : Int)) ((List.range k).map (fun i => appL (rd_L1 X ((i : Nat) : Int)) O k n), true)
  | 0, i, hi => by
    obtain rfl : k = i := by omega
    refine Ev.step (f := fun _ => some ((List.range k).map (fun i => appL (rd_L1 X ((i : Nat) : Int)) O k n), true)) (fun q => ?_) (Ev.now _)
    simp only [stripe_data.l1]
    rw [if_neg (by omega)]
  | d + 1, i, hi => by
    have ih := data_l1 hO hX rX bX d (i + 1) (by omega)
    refine Ev.step (fun q => ?_) ih
    simp only [stripe_data.l1]
    rw [if_pos (by omega), if_pos (by omega), if_pos (by omega), apply_ok hO (by omega) hn (rX i (by omega)) (fun j hj => bX i j (by omega) hj)]
    simp only [Option.bind_some]
    rw [if_pos (by rw [List.length_map, List.length_range]; omega), List.range_succ, List.map_append, wrap_succ (show i < k by omega) (by omega)]
    rfl
theorem data_ok (hsh : sh.length = k + m) (hhv : hv.length = k + m) (hc : k ≤ (trues hv (k + m)).length) (he : ∀ r, r < k + m → rdOf false hv (r : Int) = true → rd_L1 sh (r : Int) = rd_L1 (allL D k m n) (r : Int)) :
    Ev (fun q => stripe_data.f q sh hv (k : Int) (m : Int) (n : Int)) (D, true) := by
  refine data_l0 (k := k) (m := m) hsh hhv (by omega) (r := (D, true)) (fun i hi hl hend => ?_) (k + m) 0 (by omega) (by simp [trues])
  have hlen : (trues hv i).length = k := by
    rcases hend with h | h
    · exact h
    · subst h; omega
  have hlt : ∀ r ∈ trues hv i, r < k + m := fun r hr => by have := trues_lt hr; omega
  obtain ⟨X, hX, lX, rX, bX, pX, bP⟩ := pick_inverse hk hm hkm (trues hv i) (trues_nodup hv i) hlt hlen
  have hO : Data k n (ofL sh (trues hv i)) := by
    have hrow : ∀ t (ht : t < (trues hv i).length), rd_L1 (ofL sh (trues hv i)) (t : Int) = rd_L1 (allL D k m n) ((trues hv i)[t] : Nat) := fun t ht => by
      have hmem := List.getElem_mem ht
      rw [← he _ (hlt _ hmem) (trues_true hmem), rdL_nat]; simp [ofL, ht]
    refine ⟨by simp [ofL, hlen], fun t ht => ?_, fun t p ht hp => ?_⟩
    · have ht' : t < (trues hv i).length := by omega
      rw [hrow t ht']; exact (allL_row hkm hD (hlt _ (List.getElem_mem ht'))).1
    · have ht' : t < (trues hv i).length := by omega
      rw [hrow t ht']; exact allL_byte hkm hD (hlt _ (List.getElem_mem ht')) hp
  have hOv : ∀ t p, t < k → p < n → rd (rd_L1 (ofL sh (trues hv i)) (t : Int)) (p : Int) = prod k (entry (pickL k m (trues hv i))) (fun i p => rd (rd_L1 D (i : Int)) (p : Int)) t p := by
    intro t p ht hp
    have ht' : t < (trues hv i).length := by omega
    have hmem := List.getElem_mem ht'
    have e1 : rd_L1 (ofL sh (trues hv i)) (t : Int) = rd_L1 (allL D k m n) ((trues hv i)[t] : Nat) := by
      rw [← he _ (hlt _ hmem) (trues_true hmem), rdL_nat]; simp [ofL, ht']
    rw [e1, (allL_row hkm hD (hlt _ hmem)).2 p hp]
    refine gsum_congr fun j hj => ?_
    unfold entry
    rw [pick_row ht']
  have hfin : ((List.range k).map fun i_1 => appL (rd_L1 X ((i_1 : Nat) : Int)) (ofL sh (trues hv i)) k n) = D := by
    conv => rhs; rw [rows_map hD.len]
    refine List.map_congr_left fun a ha => ?_
    have ha' : a < k := List.mem_range.1 ha
    rw [row_tab (hD.row a ha')]
    refine tab_congr fun p hp => ?_
    rw [gsum_congr (g := fun t => gmul (entry X a t) (prod k (entry (pickL k m (trues hv i))) (fun i p => rd (rd_L1 D (i : Int)) (p : Int)) t p)) (fun t ht => by rw [hOv t p ht hp]; rfl)]
    show prod k (entry X) (prod k (entry (pickL k m (trues hv i))) (fun i p => rd (rd_L1 D (i : Int)) (p : Int))) a p = _
    rw [← prod_assoc (p := k) (n := k) (m := k) (q := n) bX bP (fun i p hi hp => hD.byte i p hi hp) ha' hp]
    unfold prod
    rw [gsum_congr (g := fun t => gmul (one a t) (rd (rd_L1 D (t : Int)) (p : Int))) (fun t ht => by rw [← pX a t ha' ht]; rfl), one_gsum ha' (fun t ht => hD.byte t p ht hp)]
  have h1 := data_l1 hk hm hkm hn hD hO lX rX bX k 0 (by omega)
  rw [hfin] at h1
  refine Ev.step (f := fun q => (matrix_Code.f q (k : Int) (m : Int)).bind fun bt149 => ((P.matrix_Pick.f q bt149.1 (castL (trues hv i))).bind fun bt153 => ((matrix_Invert.f bt153.1).bind fun bt157 => (stripe_data.l1 q (n : Int) (ofL sh (trues hv i)) ([] : List (List Int)) bt157.1 (bt157.1.length : Int) 0)))) (fun q => ?_) ?_
  · simp only [stripe_data.j1]
    rw [castL_len, if_neg (by omega)]
  · refine Ev.bind (code_ev hk hm hkm) ?_
    refine Ev.bind (Pick_ev hk hm hkm (trues hv i) hlt hlen) ?_
    refine Ev.bind (evc hX) ?_
    exact h1
end
end Go.Proofs.Ythmlimkmcofkfaa.L

/- Shards, told of lists: look, Mend, Join, Sound. -/
namespace Go.Proofs.Ythmlimkmcofkfaa.L
open Go.RowKit Go.Proofs.YthmlimkmcofkfaaW.PrintWords Go.Proofs.Ythmlimkmcofkfaa.E Go.Proofs.Ythmlimkmcofkfaa.B
open Go.Proofs.Ythmlimkmcofkfaa.Q (stripe_Mend.f stripe_Mend.l0 stripe_Mend.l0.eq_2 stripe_Join.f stripe_Join.l0 stripe_Join.l0.eq_2)
set_option linter.unusedVariables false
set_option linter.unusedSectionVars false

theorem rdQ : Q.rd_L1 = B.rd_L1 := rfl
section
variable {N n : Nat} {sh : List (List Int)} {hv : List Bool} (hsh : sh.length = N) (hhv : hv.length = N) (hN : N ≤ 1000) (hn : n ≤ 65536) (hrow : ∀ i : Nat, i < N → rdOf false hv (i : Int) = true → (rd_L1 sh (i : Int)).length = n)
include hsh hhv hN hn hrow
theorem look_l1 : ∀ (d i : Nat) (w : Int) (s : Bool), N = i + d → (s = true → w = n) → ∃ v, Ev (fun q => stripe_look.l1 q hv w s sh (sh.length : Int) (i : Int)) (v, 0) ∧ ((s = true ∨ ∃ j, i ≤ j ∧ j < N ∧ rdOf false hv (j : Int) = true) → v = n) := by
  intro d
  induction d with
  | zero =>
    intro i w s hi hs
    refine ⟨w, Ev.step (f := fun _ => some (w, 0)) (fun q => ?_) (Ev.now _), fun h => ?_⟩
    · simp only [stripe_look.l1]; rw [if_neg (by omega)]
    · rcases h with h | ⟨j, h1, h2, _⟩
      · exact hs h
      · omega
  | succ d ih =>
    intro i w s hi hs
    by_cases c : rdOf false hv (i : Int) = true
    · have hr := hrow i (by omega) c
      cases s with
      | true =>
        have hw := hs rfl
        obtain ⟨v, hv1, hv2⟩ := ih (i + 1) w true (by omega) hs
        refine ⟨v, Ev.step (fun q => ?_) hv1, fun _ => hv2 (.inl rfl)⟩
        simp only [stripe_look.l1]
        rw [if_pos (by omega), if_pos (by omega), if_pos (by omega), if_pos (by omega), if_pos c, if_true, if_pos (by omega), wrap_succ (show i < N by omega) (by omega)]
      | false =>
        obtain ⟨v, hv1, hv2⟩ := ih (i + 1) (n : Int) true (by omega) (fun _ => rfl)
        refine ⟨v, Ev.step (fun q => ?_) hv1, fun _ => hv2 (.inl rfl)⟩
        simp only [stripe_look.l1]
        rw [if_pos (by omega), if_pos (by omega), if_pos (by omega), if_pos (by omega), if_pos c, if_neg (by simp), hr, wrap_succ (show i < N by omega) (by omega)]
    · obtain ⟨v, hv1, hv2⟩ := ih (i + 1) w s (by omega) hs
      refine ⟨v, Ev.step (fun q => ?_) hv1, fun h => hv2 ?_⟩
      · simp only [stripe_look.l1]
        rw [if_pos (by omega), if_pos (by omega), if_pos (by omega), if_pos (by omega), if_neg c, wrap_succ (show i < N by omega) (by omega)]
      · rcases h with h | ⟨j, h1, h2, h3⟩
        · exact .inl h
        · refine .inr ⟨j, ?_, h2, h3⟩
          rcases Nat.lt_or_ge i j with g | g
          · omega
          · obtain rfl : i = j := by omega
            exact absurd h3 c
theorem look_l0 {r : Int × Int} {w : Int} (h : Ev (fun q => stripe_look.l1 q hv w (decide (w ≥ 0)) sh (sh.length : Int) 0) r) : ∀ (d i : Nat), N = i + d → Ev (fun q => stripe_look.l0 q sh hv w sh (sh.length : Int) (i : Int)) r := by
  intro d
  induction d with
  | zero =>
    intro i hi
    refine Ev.step (fun q => ?_) h
    simp only [stripe_look.l0]; rw [if_neg (by omega)]
  | succ d ih =>
    intro i hi
    refine Ev.step (fun q => ?_) (ih (i + 1) (by omega))
    simp only [stripe_look.l0]
    rw [if_pos (by omega), if_pos (by omega), if_pos (by omega), if_pos (by omega), wrap_succ (show i < N by omega) (by omega)]
    by_cases c : rdOf false hv (i : Int) = true
    · have hr := hrow i (by omega) c
      rw [if_pos c, if_neg (by omega)]
    · rw [if_neg c]
theorem look_ev {k m : Nat} (hkm : k + m = N) (w : Int) (hw : 0 ≤ w → w = n) : ∃ v, Ev (fun q => stripe_look.f q sh hv (k : Int) (m : Int) w) (v, 0) ∧ ((0 ≤ w ∨ ∃ j : Nat, j < N ∧ rdOf false hv (j : Int) = true) → v = n) := by
  obtain ⟨v, h1, h2⟩ := look_l1 hsh hhv hN hn hrow N 0 w (decide (w ≥ 0)) (by omega) (fun h => hw (by simpa using h))
  refine ⟨v, ?_, fun h => h2 ?_⟩
  · have e : wrap64 ((k : Int) + (m : Int)) = (N : Int) := by unfold wrap64; omega
    unfold stripe_look.f
    rw [e]
    refine Ev.congr (fun q => if_pos (by omega)) ?_
    have e2 : ((hv.length : Int) != (N : Int)) = false := by simp; omega
    rw [e2]
    refine Ev.step (fun q => ?_) (look_l0 hsh hhv hN hn hrow h1 N 0 (by omega))
    simp only [stripe_look.j0]
    rw [if_neg (by simp)]; rfl
  · rcases h with h | ⟨j, hj, h⟩
    · left; simpa using h
    · exact .inr ⟨j, Nat.zero_le _, hj, h⟩
end

section
variable {k m n : Nat} (hk : 0 < k) (hm : 0 < m) (hkm : k + m ≤ 16) (hn : n ≤ 65536) {D : List (List Int)} (hD : Data k n D) {sh : List (List Int)} {hv : List Bool}
include hk hm hkm hn hD
theorem Mend_l0 : ∀ (d j : Nat), m = j + d → Ev (fun q => stripe_Mend.l0 q (k : Int) (n : Int) (parts D k n j) ((codeL k m).drop k) (((codeL k m).drop k).length : Int) (j : Int)) (allL D k m n, 0)
  | 0, j, hj => by
    obtain rfl : m = j := by omega
    refine Ev.step (f := fun _ => some (allL D k m n, 0)) (fun q => ?_) (Ev.now _)
    have hl := drop_len hk hm hkm hn hD
    simp only [stripe_Mend.l0]
    rw [if_neg (by omega)]; rfl
  | d + 1, j, hj => by
    have ih := Mend_l0 d (j + 1) (by omega)
    refine Ev.step (f := fun q => stripe_Mend.l0 q (k : Int) (n : Int) (parts D k n (j + 1)) ((codeL k m).drop k) (((codeL k m).drop k).length : Int) ((j + 1 : Nat) : Int)) (fun q => ?_) ih
    have hl := drop_len hk hm hkm hn hD
    have hp : (parts D k n j).length = k + j := parts_len hD.len
    simp only [stripe_Mend.l0]
    rw [rdQ, hl, if_pos (by omega), if_pos (by omega), if_pos (by omega), if_pos (by omega), if_pos (by omega), Int.toNat_natCast, parts_take hD.len, drop_row (by omega),
      apply_ok hD (by omega) hn (parRow_len k j) (parRow_byte hkm (by omega))]
    simp only [Option.bind_some]
    rw [if_pos (by omega), parts_succ, wrap_succ (show j < m by omega) (by omega)]
theorem Mend_ev (hsh : sh.length = k + m) (hhv : hv.length = k + m) (hc : k ≤ (trues hv (k + m)).length) (he : ∀ r, r < k + m → rdOf false hv (r : Int) = true → rd_L1 sh (r : Int) = rd_L1 (allL D k m n) (r : Int)) :
    Ev (fun q => stripe_Mend.f q sh hv (k : Int) (m : Int)) (allL D k m n, 0) := by
  obtain ⟨v, hv1, hv2⟩ := look_ev (n := n) hsh hhv (by omega) hn (fun i hi ht => by rw [he i hi ht]; exact (allL_row hkm hD hi).1) rfl (-1) (fun h => absurd h (by decide))
  have hvn : v = n := hv2 (.inr (by
    obtain ⟨a, ha⟩ : ∃ a, a ∈ trues hv (k + m) := List.exists_mem_of_length_pos (by omega)
    exact ⟨a, trues_lt ha, trues_true ha⟩))
  subst hvn
  have hd := data_ok hk hm hkm hn hD hsh hhv hc he
  unfold stripe_Mend.f
  refine Ev.bind (evc (may_ok hk hm hkm)) ?_
  refine Ev.congr (fun q => if_pos rfl) ?_
  refine Ev.bind hv1 ?_
  refine Ev.congr (fun q => if_pos rfl) ?_
  refine Ev.bind hd ?_
  refine Ev.congr (fun q => if_pos rfl) ?_
  refine Ev.bind (code_ev hk hm hkm) ?_
  refine Ev.congr (fun q => if_pos (by omega)) ?_
  refine Ev.congr (fun q => if_pos (by rw [code_len]; omega)) ?_
  simp only [Option.bind_some, Int.toNat_natCast]
  have h := Mend_l0 hk hm hkm hn hD m 0 (by omega)
  have e : parts D k n 0 = D := by simp [parts]
  rw [e] at h
  exact h
end
theorem Mend_few {k m n : Nat} (hk : 0 < k) (hm : 0 < m) (hkm : k + m ≤ 16) (hn : n ≤ 65536) {sh : List (List Int)} {hv : List Bool} (hsh : sh.length = k + m) (hhv : hv.length = k + m) (hc : (trues hv (k + m)).length < k)
    (hrow : ∀ i : Nat, i < k + m → rdOf false hv (i : Int) = true → (rd_L1 sh (i : Int)).length = n) : Ev (fun q => stripe_Mend.f q sh hv (k : Int) (m : Int)) (([] : List (List Int)), 10) := by
  obtain ⟨v, hv1, hv2⟩ := look_ev (n := n) hsh hhv (by omega) hn hrow rfl (-1) (fun h => absurd h (by decide))
  unfold stripe_Mend.f
  refine Ev.bind (evc (may_ok hk hm hkm)) ?_
  refine Ev.congr (fun q => if_pos rfl) ?_
  refine Ev.bind hv1 ?_
  refine Ev.congr (fun q => if_pos rfl) ?_
  refine Ev.bind (data_few (k := k) (m := m) (n := v) hsh hhv (by omega) hc) ?_
  exact Ev.congr (fun q => if_neg (by simp)) (Ev.now _)
theorem Join_few {k m L : Nat} (hk : 0 < k) (hm : 0 < m) (hkm : k + m ≤ 16) (hL : L ≤ 1000) (hl : lenS L k ≤ 65536) {sh : List (List Int)} {hv : List Bool} (hsh : sh.length = k + m) (hhv : hv.length = k + m) (hc : (trues hv (k + m)).length < k)
    (hrow : ∀ i : Nat, i < k + m → rdOf false hv (i : Int) = true → (rd_L1 sh (i : Int)).length = lenS L k) : Ev (fun q => stripe_Join.f q sh hv (k : Int) (m : Int) (L : Int)) (([] : List Int), 10) := by
  obtain ⟨v, hv1, hv2⟩ := look_ev (n := lenS L k) hsh hhv (by omega) hl hrow rfl (lenS L k : Int) (fun _ => rfl)
  have hlen := Length_ok (L := L) (k := k) (by omega) hk (by omega)
  unfold stripe_Join.f
  refine Ev.bind (evc (may_ok hk hm hkm)) ?_
  refine Ev.congr (fun q => if_pos rfl) ?_
  refine Ev.bind (evc hlen) ?_
  refine Ev.congr (fun q => if_pos rfl) ?_
  refine Ev.bind hv1 ?_
  refine Ev.congr (fun q => if_pos rfl) ?_
  refine Ev.bind (data_few (k := k) (m := m) (n := v) hsh hhv (by omega) hc) ?_
  exact Ev.congr (fun q => if_neg (by simp)) (Ev.now _)
theorem dsh_take {x : List Int} {n i : Nat} : (dsh x n i).take (min n (x.length - i * n)) = (x.drop (i * n)).take n := by
  apply List.ext_getElem?
  intro p
  unfold dsh tab
  rw [List.getElem?_take, List.getElem?_take, List.getElem?_map, List.getElem?_drop]
  by_cases h1 : p < n
  · by_cases h2 : i * n + p < x.length
    · rw [if_pos (by omega), if_pos h1, List.getElem?_range h1, List.getElem?_eq_getElem h2]
      simp only [Option.map_some]
      rw [rd_nat, List.getD_eq_getElem?_getD, List.getElem?_eq_getElem h2]; rfl
    · rw [if_neg (by omega), if_pos h1, List.getElem?_eq_none (by omega)]
  · rw [if_neg (by omega), if_neg h1]
theorem Join_round {x : List Int} {n k i : Nat} (hx : x.length ≤ 1000) (hn : n ≤ 65536) (hi : i < k) (hk : k ≤ 16) (q : Nat) :
    stripe_Join.l0 (q + 1) (x.length : Int) (x.take (i * n)) (dataL x n k) (k : Int) (i : Int) = stripe_Join.l0 q (x.length : Int) (x.take ((i + 1) * n)) (dataL x n k) (k : Int) ((i + 1 : Nat) : Int) := by
  have hr : rd_L1 (dataL x n k) (i : Int) = dsh x n i := dataL_row hi
  have hl : (dsh x n i).length = n := tab_len _ _
  have ht : x.take ((i + 1) * n) = x.take (i * n) ++ (dsh x n i).take (min n (x.length - i * n)) := by
    rw [dsh_take, Nat.add_mul, Nat.one_mul, List.take_add]
  have htl : (x.take (i * n)).length = min (i * n) x.length := by simp
  have htk : ((dsh x n i).take (min n (x.length - i * n))).length ≤ n := by rw [List.length_take]; omega
  rw [ht]
  generalize dsh x n i = dd at hr hl htk
  generalize x.take (i * n) = tt at htl
  generalize i * n = t at htl htk
  have hdl := dataL_len x n k
  have e1 : mn (n : Int) ((x.length : Int) - (tt.length : Int)) = ((min n (x.length - t) : Nat) : Int) := by unfold mn; split <;> omega
  have e2 : Aside0 (wrap64 ((x.length : Int) - (tt.length : Int)) = (x.length : Int) - (tt.length : Int)) := ⟨by unfold wrap64; omega⟩
  rw [stripe_Join.l0.eq_2, rdQ, hr, hl, e2.out, e1, if_pos (by omega), if_pos (by omega), if_pos (by omega), if_pos (by omega), if_pos (by omega), Option.bind_some, Int.toNat_natCast, if_pos (by omega), wrap_succ hi (by omega)]
theorem Join_l0 {x : List Int} {n k : Nat} (hx : x.length ≤ 1000) (hn : n ≤ 65536) (hk : k ≤ 16) (hcov : x.length ≤ k * n) : ∀ (d i : Nat), k = i + d → Ev (fun q => stripe_Join.l0 q (x.length : Int) (x.take (i * n)) (dataL x n k) (k : Int) (i : Int)) (x, 0) := by
  intro d
  induction d with
  | zero =>
    intro i hi
    obtain rfl : k = i := by omega
    refine Ev.step (f := fun _ => some (x, 0)) (fun q => ?_) (Ev.now _)
    rw [stripe_Join.l0.eq_2, if_neg (by omega), List.take_of_length_le hcov]
  | succ d ih => intro i hi; exact Ev.step (fun q => Join_round hx hn (by omega) hk q) (ih (i + 1) (by omega))
theorem lenS_cover (L k : Nat) (hk : 0 < k) : L ≤ k * lenS L k := by
  unfold lenS
  have h := Nat.div_add_mod (L + k - 1) k
  have h2 := Nat.mod_lt (L + k - 1) hk
  generalize (L + k - 1) / k = a at *
  generalize k * a = b at *
  omega
theorem Join_ev {k m : Nat} (hk : 0 < k) (hm : 0 < m) (hkm : k + m ≤ 16) {x : List Int} (hx : x.length ≤ 1000) (bx : ∀ y ∈ x, Byte y) {sh : List (List Int)} {hv : List Bool} (hsh : sh.length = k + m) (hhv : hv.length = k + m) (hc : k ≤ (trues hv (k + m)).length)
    (he : ∀ r, r < k + m → rdOf false hv (r : Int) = true → rd_L1 sh (r : Int) = rd_L1 (allL (dataL x (lenS x.length k) k) k m (lenS x.length k)) (r : Int)) :
    Ev (fun q => stripe_Join.f q sh hv (k : Int) (m : Int) (x.length : Int)) (x, 0) := by
  have hl := lenS_le hk hm hkm (by omega) bx
  have hcov := lenS_cover x.length k hk
  have hlen := Length_ok (L := x.length) (k := k) (by omega) hk (by omega)
  generalize lenS x.length k = n at *
  have hD := dataL_Data bx n k
  obtain ⟨v, hv1, hv2⟩ := look_ev (n := n) hsh hhv (by omega) hl (fun i hi ht => by rw [he i hi ht]; exact (allL_row hkm hD hi).1) rfl (n : Int) (fun _ => rfl)
  have hvn := hv2 (.inl (by omega))
  subst hvn
  have hd := data_ok hk hm hkm hl hD hsh hhv hc he
  unfold stripe_Join.f
  refine Ev.bind (evc (may_ok hk hm hkm)) ?_
  refine Ev.congr (fun q => if_pos rfl) ?_
  refine Ev.bind (evc hlen) ?_
  refine Ev.congr (fun q => if_pos rfl) ?_
  refine Ev.bind hv1 ?_
  refine Ev.congr (fun q => if_pos rfl) ?_
  refine Ev.bind hd ?_
  refine Ev.congr (fun q => if_pos rfl) ?_
  refine Ev.congr (fun q => if_pos (by omega)) ?_
  refine Ev.congr (fun q => if_pos (by omega)) ?_
  have h := Join_l0 hx hl (by omega) hcov k 0 (by omega)
  rw [dataL_len]
  simpa using h
end Go.Proofs.Ythmlimkmcofkfaa.L

/- The chapter's examples of shards; what the laws of shards share. -/
namespace Go.Proofs.Ythmlimkmcofkfaa.L
open Go.RowKit Go.Proofs.YthmlimkmcofkfaaW.PrintWords Go.Proofs.Ythmlimkmcofkfaa.E Go.Proofs.Ythmlimkmcofkfaa.B
set_option linter.unusedVariables false
set_option linter.unusedSectionVars false

theorem known3 : Q.stowagelaw03_StripeKnown.f 60 = some true := by decide +kernel
theorem known3_ev : Ev (fun q => Q.stowagelaw03_StripeKnown.f q) true := Ev.of (fun k => Q.stowagelaw03_StripeKnown.mono k) known3
theorem byte_of_wf {x : Int} (h : (Lit.int .u8 x).wf = true) : Byte x := by
  simp only [Lit.wf, Bool.and_eq_true, decide_eq_true_eq] at h
  unfold Byte
  have h1 : (IntKind.u8.min : Int) = 0 := rfl
  have h2 : (IntKind.u8.max : Int) = 255 := rfl
  omega
theorem lenS_le_len (L k : Nat) (hk : 0 < k) : lenS L k ≤ L := by
  unfold lenS
  rw [Nat.div_le_iff_le_mul_add_pred hk]
  have : L ≤ k * L := Nat.le_mul_of_pos_left _ hk
  omega
theorem split_no {a b : Int} (h : stripe_may.f a b = some false) (x : List Int) : Ev (fun q => stripe_Split.f q x a b) ([], 5) := by
  unfold stripe_Split.f
  refine Ev.bind (evc h) ?_
  exact Ev.congr (fun q => if_neg (by simp)) (Ev.now _)
theorem wrap_add {a b : Nat} (h : a + b ≤ 100000) : wrap64 ((a : Int) + (b : Int)) = ((a + b : Nat) : Int) := by unfold wrap64; omega

end Go.Proofs.Ythmlimkmcofkfaa.L

/- Shards, told of lists: Sound. -/
namespace Go.Proofs.Ythmlimkmcofkfaa.L
open Go.RowKit Go.Proofs.YthmlimkmcofkfaaW.PrintWords Go.Proofs.Ythmlimkmcofkfaa.E Go.Proofs.Ythmlimkmcofkfaa.B
open Go.Proofs.Ythmlimkmcofkfaa.Q (stripe_Sound.f stripe_Sound.l0 stripe_Sound.l1)
set_option linter.unusedVariables false
set_option linter.unusedSectionVars false

theorem u8_inj {a b : Int} (ha : Byte a) (hb : Byte b) (h : UInt8.ofNat a.toNat = UInt8.ofNat b.toNat) : a = b := by
  unfold Byte at ha hb
  have h2 := congrArg UInt8.toNat h
  simp at h2
  omega
theorem str_inj : ∀ {a b : List Int}, (∀ x ∈ a, Byte x) → (∀ x ∈ b, Byte x) → (strOfNums a).toList = (strOfNums b).toList → a = b := by
  intro a b ha hb h
  rw [Lib.strOfNums_toList, Lib.strOfNums_toList] at h
  unfold Lib.bytesOf at h
  induction a generalizing b with
  | nil => cases b with
    | nil => rfl
    | cons y b => simp at h
  | cons x a ih => cases b with
    | nil => simp at h
    | cons y b =>
      simp only [List.map_cons, List.cons.injEq] at h
      rw [u8_inj (ha x (by simp)) (hb y (by simp)) h.1, ih (fun z hz => ha z (by simp [hz])) (fun z hz => hb z (by simp [hz])) h.2]
theorem mem_byte {x : List Int} {n : Nat} (hl : x.length = n) (h : ∀ p, p < n → Byte (rd x ((p : Nat) : Int))) : ∀ y ∈ x, Byte y := by
  intro y hy
  obtain ⟨i, hi, rfl⟩ := List.getElem_of_mem hy
  have := h i (by omega)
  rw [rd_nat] at this
  simpa [hi] using this

/-- Shards that are all there. -/
structure Whole (k m n : Nat) (sh : List (List Int)) : Prop where
  len : sh.length = k + m
  row : ∀ i, i < k + m → (rd_L1 sh ((i : Nat) : Int)).length = n
  byte : ∀ i p, i < k + m → p < n → Byte (rd (rd_L1 sh ((i : Nat) : Int)) ((p : Nat) : Int))
theorem Whole.data {k m n : Nat} {sh : List (List Int)} (h : Whole k m n sh) : Data k n (sh.take k) := by
  have e : ∀ i, i < k → rd_L1 (sh.take k) ((i : Nat) : Int) = rd_L1 sh ((i : Nat) : Int) := fun i hi => by
    rw [rdL_nat, rdL_nat, List.getD_eq_getElem?_getD, List.getD_eq_getElem?_getD, List.getElem?_take, if_pos hi]
  exact ⟨by rw [List.length_take, h.len]; omega, fun i hi => by rw [e i hi]; exact h.row i (by omega), fun i p hi hp => by rw [e i hi]; exact h.byte i p (by omega) hp⟩
theorem rdOf_rep {N i : Nat} (h : i < N) : rdOf false (List.replicate N true) ((i : Nat) : Int) = true := by
  unfold rdOf; simp [h]
section
variable {k m n : Nat} (hk : 0 < k) (hm : 0 < m) (hkm : k + m ≤ 16) (hn : n ≤ 65536) {sh : List (List Int)} (hw : Whole k m n sh)
include hk hm hkm hn hw
theorem Sound_l1 (b : Bool) : ∀ (d j : Nat), m = j + d → (b = true → ∀ i, j ≤ i → i < m → appL (parRow k i) (sh.take k) k n = rd_L1 sh ((k + i : Nat) : Int)) → (b = false → ∃ i, j ≤ i ∧ i < m ∧ appL (parRow k i) (sh.take k) k n ≠ rd_L1 sh ((k + i : Nat) : Int)) →
    Ev (fun q => stripe_Sound.l1 q sh (k : Int) (n : Int) ((codeL k m).drop k) (((codeL k m).drop k).length : Int) (j : Int)) (b, 0) := by
  have hD := hw.data
  have hl := drop_len hk hm hkm hn hD
  intro d
  induction d with
  | zero =>
    intro j hj h1 h2
    obtain rfl : b = true := by
      cases b with
      | true => rfl
      | false => obtain ⟨i, a, c, _⟩ := h2 rfl; omega
    refine Ev.step (f := fun _ => some (true, 0)) (fun q => ?_) (Ev.now _)
    simp only [stripe_Sound.l1]
    rw [if_neg (by omega)]
  | succ d ih =>
    intro j hj h1 h2
    have hlen := hw.len
    have hj2 : wrap64 ((k : Int) + (j : Int)) = ((k + j : Nat) : Int) := by unfold wrap64; omega
    have head : ∀ q, stripe_Sound.l1 (q + 1) sh (k : Int) (n : Int) ((codeL k m).drop k) (((codeL k m).drop k).length : Int) (j : Int) = if (strOfNums (appL (parRow k j) (sh.take k) k n)).toList = (strOfNums (rd_L1 sh ((k + j : Nat) : Int))).toList then stripe_Sound.l1 q sh (k : Int) (n : Int) ((codeL k m).drop k) (((codeL k m).drop k).length : Int) ((j + 1 : Nat) : Int) else some (false, 0) := by
      intro q
      simp only [stripe_Sound.l1]
      rw [rdQ, hl, hj2, if_pos (by omega), if_pos (by omega), if_pos (by omega), if_pos (by omega), if_pos (by omega), Int.toNat_natCast, drop_row (by omega),
        apply_ok hD (by omega) hn (parRow_len k j) (parRow_byte hkm (by omega)), Option.bind_some, if_pos (by omega), if_pos (by omega), wrap_succ (show j < m by omega) (by omega)]
    by_cases e : appL (parRow k j) (sh.take k) k n = rd_L1 sh ((k + j : Nat) : Int)
    · refine Ev.step (fun q => ?_) (ih (j + 1) (by omega) (fun hb i hi him => h1 hb i (by omega) him) (fun hb => ?_))
      · rw [head q, if_pos (by rw [e])]
      · obtain ⟨i, a, c, hne⟩ := h2 hb
        refine ⟨i, ?_, c, hne⟩
        rcases Nat.lt_or_ge j i with g | g
        · omega
        · obtain rfl : i = j := by omega
          exact absurd e hne
    · obtain rfl : b = false := by
        cases b with
        | false => rfl
        | true => exact absurd (h1 rfl j (Nat.le_refl _) (by omega)) e
      refine Ev.step (f := fun _ => some (false, 0)) (fun q => ?_) (Ev.now _)
      rw [head q, if_neg]
      intro h
      refine e (str_inj ?_ ?_ h)
      · exact mem_byte (appL_len _ _ _ _) (fun p hp => appL_byte hD (parRow_byte hkm (by omega)) hp)
      · exact mem_byte (hw.row _ (by omega)) (fun p hp => hw.byte _ p (by omega) hp)
theorem Sound_l0 {r : Bool × Int} (h : Ev (fun q => (stripe_look.f q sh (List.replicate (k + m) true) (k : Int) (m : Int) (-1)).bind fun bt295 => (if bt295.2 = 0 then ((matrix_Code.f q (k : Int) (m : Int)).bind fun bt297 => (if (0 : Int) ≤ (k : Int) then (if (k : Int) ≤ (bt297.1.length : Int) then ((some (bt297.1.drop (k : Int).toNat : List (List Int))).bind fun y301 => (stripe_Sound.l1 q sh (k : Int) bt295.1 y301 (y301.length : Int) 0)) else (none)) else (none))) else (some (false, bt295.2)))) r) :
    ∀ (d i : Nat), k + m = i + d → Ev (fun q => stripe_Sound.l0 q sh (k : Int) (m : Int) (List.replicate i true ++ List.replicate d false) ((k + m : Nat) : Int) (i : Int)) r := by
  intro d
  induction d with
  | zero =>
    intro i hi
    obtain rfl : i = k + m := by omega
    refine Ev.step (fun q => ?_) h
    simp only [stripe_Sound.l0]
    rw [if_neg (by omega), List.replicate_zero, List.append_nil]
  | succ d ih =>
    intro i hi
    refine Ev.step (fun q => ?_) (ih (i + 1) (by omega))
    have hs : (List.replicate i true ++ List.replicate (d + 1) false).set i true = List.replicate (i + 1) true ++ List.replicate d false := by
      rw [List.set_append_right _ _ (by simp), List.length_replicate, Nat.sub_self, List.replicate_succ, List.set_cons_zero, List.replicate_succ', List.append_assoc]; rfl
    have hl : (List.replicate i true ++ List.replicate (d + 1) false).length = k + m := by simp; omega
    simp only [stripe_Sound.l0]
    rw [if_pos (by omega), if_pos (by omega), if_pos (by omega), Int.toNat_natCast, hs, wrap_succ (show i < k + m by omega) (by omega)]
theorem Sound_ev (b : Bool) (h1 : b = true → ∀ i, i < m → appL (parRow k i) (sh.take k) k n = rd_L1 sh ((k + i : Nat) : Int)) (h2 : b = false → ∃ i, i < m ∧ appL (parRow k i) (sh.take k) k n ≠ rd_L1 sh ((k + i : Nat) : Int)) :
    Ev (fun q => stripe_Sound.f q sh (k : Int) (m : Int)) (b, 0) := by
  have hlen := hw.len
  obtain ⟨v, hv1, hv2⟩ := look_ev (n := n) (sh := sh) (hv := List.replicate (k + m) true) hlen (by simp) (by omega) hn (fun i hi ht => hw.row i hi) rfl (-1) (fun h => absurd h (by decide))
  have hvn : v = n := hv2 (.inr ⟨0, by omega, rdOf_rep (by omega)⟩)
  subst hvn
  have hs := Sound_l1 hk hm hkm hn hw b m 0 (by omega) (fun hb i _ him => h1 hb i him) (fun hb => by obtain ⟨i, a, c⟩ := h2 hb; exact ⟨i, Nat.zero_le _, a, c⟩)
  have h0 := Sound_l0 hk hm hkm hn hw (r := (b, 0)) (by
    refine Ev.bind hv1 ?_
    refine Ev.congr (fun q => if_pos rfl) ?_
    refine Ev.bind (code_ev hk hm hkm) ?_
    refine Ev.congr (fun q => if_pos (by omega)) ?_
    refine Ev.congr (fun q => if_pos (by rw [code_len]; omega)) ?_
    simp only [Option.bind_some, Int.toNat_natCast]
    exact hs) (k + m) 0 (by omega)
  unfold stripe_Sound.f
  refine Ev.bind (evc (may_ok hk hm hkm)) ?_
  refine Ev.congr (fun q => if_pos rfl) ?_
  refine Ev.congr (fun q => if_pos (by omega)) ?_
  refine Ev.congr (fun q => if_pos (by omega)) ?_
  refine Ev.congr (fun q => ?_) h0
  rw [hlen, Option.bind_some, Int.toNat_natCast, List.length_replicate]
  rfl
end

end Go.Proofs.Ythmlimkmcofkfaa.L

/- Which shards are chosen. -/
namespace Go.Proofs.Ythmlimkmcofkfaa.L
open Go.RowKit Go.Proofs.YthmlimkmcofkfaaW.PrintWords Go.Proofs.Ythmlimkmcofkfaa.E Go.Proofs.Ythmlimkmcofkfaa.B
set_option linter.unusedVariables false
set_option linter.unusedSectionVars false

/-! ### Which are chosen -/
theorem trues_take {hv : List Bool} : ∀ i, i ≤ hv.length → (trues hv i).length = (hv.take i).count true := by
  intro i
  induction i with
  | zero => intro _; simp [trues]
  | succ i ih =>
    intro h
    have hi : i < hv.length := by omega
    rw [trues_succ, List.take_succ_eq_append_getElem hi, List.count_append, ← ih (by omega)]
    have e : rdOf false hv ((i : Nat) : Int) = hv[i] := by unfold rdOf; simp [hi]
    rw [e]
    cases hv[i] <;> simp
theorem trues_count {hv : List Bool} {N : Nat} (h : hv.length = N) : (trues hv N).length = hv.count true := by
  rw [trues_take N (by omega), List.take_of_length_le (by omega)]
theorem count_set {hv : List Bool} {j : Nat} (h : j < hv.length) (hf : hv[j] = false) : (hv.set j true).count true = hv.count true + 1 := by
  rw [List.count_set h]; simp [hf]
theorem count_both : ∀ hv : List Bool, hv.count true + hv.count false = hv.length
  | [] => rfl
  | b :: hv => by have := count_both hv; cases b <;> simp <;> omega
section
variable {N t : Nat} (hN : N ≤ 1000) (ht : t ≤ N) (ch : List Int) (hch : ch.length ≤ 1000)
include hN ht hch
theorem some_l1 {i : Nat} (hi : i < t) (next : ∀ hv' : List Bool, hv'.length = N → hv'.count true = i + 1 → ∃ r : List Bool, Ev (fun q => stowagelaw03_some.l0 q (t : Int) (N : Int) ch hv' ((i + 1 : Nat) : Int)) r ∧ r.length = N ∧ r.count true = t)
    (hv : List Bool) (hl : hv.length = N) (hc : hv.count true = i) : ∀ (d j a : Nat), N = j + d → a < (hv.drop j).count false → ∃ r : List Bool, Ev (fun q => stowagelaw03_some.l1 q (t : Int) (N : Int) ch hv (i : Int) (a : Int) (j : Int)) r ∧ r.length = N ∧ r.count true = t := by
  intro d
  induction d with
  | zero =>
    intro j a hj ha
    rw [List.drop_of_length_le (by omega)] at ha
    simp at ha
  | succ d ih =>
    intro j a hj ha
    have hjl : j < hv.length := by omega
    have e : rdOf false hv ((j : Nat) : Int) = hv[j] := by unfold rdOf; simp [hjl]
    rw [List.drop_eq_getElem_cons hjl] at ha
    by_cases c : hv[j] = true
    · rw [c] at ha
      obtain ⟨r, h1, h2⟩ := ih (j + 1) a (by omega) (by simpa using ha)
      refine ⟨r, Ev.step (fun q => ?_) h1, h2⟩
      simp only [stowagelaw03_some.l1]
      rw [if_pos (by omega), if_pos (by omega), if_pos (by omega), e, if_pos c, wrap_succ (show j < N by omega) (by omega)]
    · have c' : hv[j] = false := by simpa using c
      rw [c'] at ha
      rcases Nat.eq_zero_or_pos a with h0 | h0
      · subst h0
        obtain ⟨r, h1, h2⟩ := next (hv.set j true) (by simp [hl]) (by rw [count_set hjl c', hc])
        refine ⟨r, Ev.step (fun q => ?_) h1, h2⟩
        simp only [stowagelaw03_some.l1]
        rw [if_pos (by omega), if_pos (by omega), if_pos (by omega), e, if_neg c, if_pos (by rfl), Int.toNat_natCast, wrap_succ (show i < t by omega) (by omega)]
      · obtain ⟨r, h1, h2⟩ := ih (j + 1) (a - 1) (by omega) (by simp at ha; omega)
        refine ⟨r, Ev.step (fun q => ?_) h1, h2⟩
        have ea : Aside0 (wrap64 ((a : Int) - 1) = ((a - 1 : Nat) : Int)) := ⟨by
          have hcl : (hv.drop (j + 1)).count false ≤ N := by
            have := List.count_le_length (a := false) (l := hv.drop (j + 1)); rw [List.length_drop] at this; omega
          simp at ha
          unfold wrap64; omega⟩
        simp only [stowagelaw03_some.l1]
        rw [if_pos (by omega), if_pos (by omega), if_pos (by omega), e, if_neg c, if_neg (by omega), ea.out, wrap_succ (show j < N by omega) (by omega)]
theorem some_l0 : ∀ (d i : Nat), t = i + d → ∀ hv : List Bool, hv.length = N → hv.count true = i → ∃ r : List Bool, Ev (fun q => stowagelaw03_some.l0 q (t : Int) (N : Int) ch hv (i : Int)) r ∧ r.length = N ∧ r.count true = t := by
  intro d
  induction d with
  | zero =>
    intro i hi hv hl hc
    refine ⟨hv, Ev.step (f := fun _ => some hv) (fun q => ?_) (Ev.now _), hl, by omega⟩
    simp only [stowagelaw03_some.l0]
    rw [if_neg (by omega)]
  | succ d ih =>
    intro i hi hv hl hc
    have hf : hv.count false = N - i := by have := count_both hv; omega
    have go : ∀ a : Nat, a < N - i → ∃ r : List Bool, Ev (fun q => stowagelaw03_some.j1 q (t : Int) (N : Int) ch hv (i : Int) (a : Int)) r ∧ r.length = N ∧ r.count true = t := by
      intro a ha
      obtain ⟨r, h1, h2⟩ := some_l1 hN ht ch hch (by omega) (fun hv' hl' hc' => ih (i + 1) (by omega) hv' hl' hc') hv hl hc N 0 a (by omega) (by rw [List.drop_zero, hf]; exact ha)
      refine ⟨r, Ev.step (fun q => ?_) h1, h2⟩
      simp only [stowagelaw03_some.j1]; rfl
    by_cases c : i < ch.length
    · obtain ⟨a, ha, hp⟩ := kpick (rd ch (i : Int)) (N - i) (by omega) (by omega)
      obtain ⟨r, h1, h2⟩ := go a ha
      refine ⟨r, Ev.step (fun q => ?_) h1, h2⟩
      have e : Aside0 (wrap64 ((N : Int) - (i : Int)) = ((N - i : Nat) : Int)) := ⟨by unfold wrap64; omega⟩
      simp only [stowagelaw03_some.l0]
      rw [if_pos (by omega), if_pos (by omega), if_pos (by omega), e.out, hp, Option.bind_some]
    · obtain ⟨r, h1, h2⟩ := go 0 (by omega)
      refine ⟨r, Ev.step (fun q => ?_) h1, h2⟩
      simp only [stowagelaw03_some.l0]
      rw [if_pos (by omega), if_neg (by omega)]; rfl
theorem some_ev : ∃ hv : List Bool, Ev (fun q => stowagelaw03_some.f q (t : Int) (N : Int) ch) hv ∧ hv.length = N ∧ hv.count true = t := by
  obtain ⟨r, h1, h2⟩ := some_l0 hN ht ch hch t 0 (by omega) (List.replicate N false) (by simp) (by rw [List.count_replicate]; simp)
  refine ⟨r, ?_, h2⟩
  unfold stowagelaw03_some.f
  refine Ev.congr (fun q => if_pos (by omega)) ?_
  refine Ev.congr (fun q => if_pos (by omega)) ?_
  rw [Int.toNat_natCast]
  exact h1
end

end Go.Proofs.Ythmlimkmcofkfaa.L

/- What hides the others. -/
namespace Go.Proofs.Ythmlimkmcofkfaa.L
open Go.RowKit Go.Proofs.YthmlimkmcofkfaaW.PrintWords Go.Proofs.Ythmlimkmcofkfaa.E Go.Proofs.Ythmlimkmcofkfaa.B
set_option linter.unusedVariables false
set_option linter.unusedSectionVars false

/-! ### What hides the others -/
section
variable {N n : Nat} {l : List (List Int)} {hv : List Bool} (hl : l.length = N) (hh : hv.length = N) (hN : N ≤ 1000) (hn : n ≤ 65536) (hrow : ∀ i, i < N → (rd_L1 l ((i : Nat) : Int)).length = n)
include hl hh hN hn hrow
def Hid (l : List (List Int)) (hv : List Bool) (i : Nat) (r : List (List Int)) : Prop := r.length = i ∧ ∀ j, j < i → rdOf false hv ((j : Nat) : Int) = true → rd_L1 r ((j : Nat) : Int) = rd_L1 l ((j : Nat) : Int)
omit hl hh hN hn hrow in
theorem Hid.step {i : Nat} {r : List (List Int)} (h : Hid l hv i r) {y : List Int} (hy : rdOf false hv ((i : Nat) : Int) = true → y = rd_L1 l ((i : Nat) : Int)) : Hid l hv (i + 1) (r ++ [y]) := by
  refine ⟨by simp [h.1], fun j hj ht => ?_⟩
  rw [rdL_nat, List.getD_eq_getElem?_getD]
  rcases Nat.lt_or_ge j i with g | g
  · rw [List.getElem?_append_left (by rw [h.1]; exact g), ← List.getD_eq_getElem?_getD, ← rdL_nat]; exact h.2 j g ht
  · obtain rfl : j = i := by omega
    rw [List.getElem?_append_right (by rw [h.1]; exact Nat.le_refl _), h.1, Nat.sub_self]
    exact hy ht
theorem hidden_l1 {i : Nat} (hi : i < N) (acc : List (List Int)) (ha : acc.length ≤ 1000) (next : ∀ y : List Int, ∃ r, Ev (fun q => stowagelaw03_hidden.l0 q l hv (acc ++ [y]) ((i + 1 : Nat) : Int)) r ∧ Hid l hv N r) :
    ∀ (d : Nat) (x : List Int) (p : Nat), x.length = p + d → x.length ≤ 70000 → ∃ r, Ev (fun q => stowagelaw03_hidden.l1 q l hv acc (i : Int) x (p : Int)) r ∧ Hid l hv N r := by
  intro d
  induction d with
  | zero =>
    intro x p hp hx
    obtain ⟨r, h1, h2⟩ := next x
    refine ⟨r, Ev.step (fun q => ?_) h1, h2⟩
    simp only [stowagelaw03_hidden.l1]
    rw [if_neg (by omega), if_pos (by omega), wrap_succ (show i < N by omega) (by omega)]
  | succ d ih =>
    intro x p hp hx
    obtain ⟨r, h1, h2⟩ := ih (x.set p (Go.bits .xor .u8 (rd x (p : Int)) 90)) (p + 1) (by rw [List.length_set]; omega) (by rw [List.length_set]; exact hx)
    refine ⟨r, Ev.step (fun q => ?_) h1, h2⟩
    simp only [stowagelaw03_hidden.l1]
    rw [if_pos (by omega), if_pos (by omega), Int.toNat_natCast, wrap_succ (show p < 1000000 by omega) (by omega)]
theorem hidden_l0 : ∀ (d i : Nat), N = i + d → ∀ acc, Hid l hv i acc → ∃ r, Ev (fun q => stowagelaw03_hidden.l0 q l hv acc (i : Int)) r ∧ Hid l hv N r := by
  intro d
  induction d with
  | zero =>
    intro i hi acc h
    obtain rfl : N = i := by omega
    refine ⟨acc, Ev.step (f := fun _ => some acc) (fun q => ?_) (Ev.now _), h⟩
    simp only [stowagelaw03_hidden.l0]
    rw [if_neg (by omega)]
  | succ d ih =>
    intro i hi acc h
    have hlen := h.1
    have hr := hrow i (by omega)
    by_cases c : rdOf false hv ((i : Nat) : Int) = true
    · obtain ⟨r, h1, h2⟩ := ih (i + 1) (by omega) (acc ++ [rd_L1 l (i : Int)]) (h.step (fun _ => rfl))
      refine ⟨r, Ev.step (fun q => ?_) h1, h2⟩
      simp only [stowagelaw03_hidden.l0]
      rw [if_pos (by omega), Option.bind_some, if_pos (by omega), if_pos (by simp only [List.length_nil]; omega), Option.bind_some, List.nil_append, if_pos (by omega), if_pos c, if_pos (by omega), wrap_succ (show i < N by omega) (by omega)]
    · obtain ⟨r, h1, h2⟩ := hidden_l1 hl hh hN hn hrow (show i < N by omega) acc (by omega) (fun y => ih (i + 1) (by omega) (acc ++ [y]) (h.step (fun ht => absurd ht c))) (n + 1) (rd_L1 l (i : Int) ++ [7]) 0 (by simp [hr]) (by simp [hr]; omega)
      refine ⟨r, Ev.step (fun q => ?_) h1, h2⟩
      simp only [stowagelaw03_hidden.l0]
      rw [if_pos (by omega), Option.bind_some, if_pos (by omega), if_pos (by simp only [List.length_nil]; omega), Option.bind_some, List.nil_append, if_pos (by omega), if_neg c, if_pos (by omega)]
      rfl
theorem hidden_ev : ∃ r, Ev (fun q => stowagelaw03_hidden.f q l hv) r ∧ Hid l hv N r := hidden_l0 hl hh hN hn hrow N 0 (by omega) [] ⟨rfl, fun j hj => by omega⟩
end
end Go.Proofs.Ythmlimkmcofkfaa.L

/- StripeAny, told of lists. -/
namespace Go.Proofs.Ythmlimkmcofkfaa.L
open Go.RowKit Go.Proofs.YthmlimkmcofkfaaW.PrintWords Go.Proofs.Ythmlimkmcofkfaa.E Go.Proofs.Ythmlimkmcofkfaa.B
open Go.Proofs.Ythmlimkmcofkfaa.Q (stripe_Mend.f stripe_Join.f stripe_Sound.f)
set_option linter.unusedVariables false
set_option linter.unusedSectionVars false

theorem whole_all {k m n : Nat} (hkm : k + m ≤ 16) {D : List (List Int)} (hD : Data k n D) : Whole k m n (allL D k m n) :=
  ⟨allL_len hD.len, fun i hi => (allL_row hkm hD hi).1, fun i p hi hp => allL_byte hkm hD hi hp⟩
theorem all_take {k m n : Nat} {D : List (List Int)} (hD : Data k n D) : (allL D k m n).take k = D := parts_take hD.len
theorem all_par {k m n i : Nat} {D : List (List Int)} (hD : Data k n D) (hi : i < m) : rd_L1 (allL D k m n) ((k + i : Nat) : Int) = appL (parRow k i) D k n := by
  rw [rdL_nat]; unfold allL
  rw [List.getD_eq_getElem?_getD, List.getElem?_append_right (by rw [hD.len]; omega), hD.len, Nat.add_sub_cancel_left, List.getElem?_map, List.getElem?_range hi]; rfl

theorem any3_pure (x : List Int) (a1 a2 : Int) (ch : List Int) (a4 : Int) (bx : ∀ y ∈ x, Byte y) (w1 : (Lit.int .i64 a1).wf = true) (w2 : (Lit.int .i64 a2).wf = true) : ∃ q, Q.stowagelaw03_StripeAny.f q x a1 a2 ch a4 = some true := by
  refine Ev.rounds (g := fun q => Q.stowagelaw03_StripeAny.f q x a1 a2 ch a4) ?_
  unfold Q.stowagelaw03_StripeAny.f
  refine Ev.bind known3_ev ?_
  have jt : Ev (fun q => Q.stowagelaw03_StripeAny.j0 q x a1 a2 ch a4 true true) true := Ev.step (f := fun _ => some true) (fun q => by simp only [Q.stowagelaw03_StripeAny.j0]; rfl) (Ev.now _)
  by_cases c1 : (x.length : Int) > 1000
  · exact Ev.congr (fun q => if_pos c1) jt
  · refine Ev.congr (fun q => if_neg c1) ?_
    by_cases c2 : (ch.length : Int) > 100
    · rw [decide_eq_true c2]; exact jt
    · rw [decide_eq_false c2]
      refine Ev.step (f := fun q => (stripe_Split.f q x a1 a2).bind fun bt352 => (if bt352.2 = 0 then (if (bt352.1.length : Int) = (wrap64 (a1 + a2)) then ((stowagekit_Pick.f a4 (wrap64 (a2 + 1))).bind fun t356 => ((stowagelaw03_some.f q (wrap64 (a1 + t356)) (wrap64 (a1 + a2)) ch).bind fun t357 => ((stowagelaw03_hidden.f q bt352.1 t357).bind fun t360 => ((Q.stripe_Mend.f q t360 t357 a1 a2).bind fun bt363 => ((Q.stripe_Join.f q t360 t357 a1 a2 (x.length : Int)).bind fun bt367 => ((Q.stripe_Sound.f q bt363.1 a1 a2).bind fun bt371 => (if true = true then (if bt363.2 = 0 then ((stowagekit_SameLists.f q bt363.1 bt352.1).bind fun t373 => (if t373 = true then (if bt367.2 = 0 then ((stowagekit_SameBytes.f bt367.1 x).bind fun t374 => (if t374 = true then (if bt371.2 = 0 then (some bt371.1) else (some false)) else (some false))) else (some false)) else (some false))) else (some false)) else (some false)))))))) else (some false)) else (some true))) (fun q => by simp only [Q.stowagelaw03_StripeAny.j0]; rfl) ?_
      rcases may_cases a1 a2 w1 w2 with ⟨k, m, rfl, rfl, hk, hm, hkm⟩ | hno
      · have hL : x.length ≤ 65536 := by omega
        have hle := lenS_le_len x.length k hk
        have hs := Split_ev hk hm hkm hL bx
        have hD := dataL_Data bx (lenS x.length k) k
        have hlen := allL_len (m := m) (n := lenS x.length k) hD.len
        refine Ev.bind hs ?_
        refine Ev.congr (fun q => if_pos rfl) ?_
        rw [wrap_add (by omega)]
        refine Ev.congr (fun q => if_pos (by rw [hlen])) ?_
        have e1 : wrap64 ((m : Int) + 1) = ((m + 1 : Nat) : Int) := wrap_add (b := 1) (by omega)
        rw [e1]
        obtain ⟨t, ht, hp⟩ := kpick a4 (m + 1) (by omega) (by omega)
        refine Ev.bind (evc hp) ?_
        rw [wrap_add (by omega)]
        obtain ⟨hv, hv1, hv2, hv3⟩ := some_ev (N := k + m) (t := k + t) (by omega) (by omega) ch (by omega)
        refine Ev.bind hv1 ?_
        have hc : k ≤ (trues hv (k + m)).length := by rw [trues_count hv2, hv3]; omega
        obtain ⟨odd, o1, o2⟩ := hidden_ev (n := lenS x.length k) hlen hv2 (by omega) (by omega) (fun i hi => (allL_row hkm hD hi).1)
        refine Ev.bind o1 ?_
        refine Ev.bind (Mend_ev hk hm hkm (by omega) hD o2.1 hv2 hc o2.2) ?_
        refine Ev.bind (Join_ev hk hm hkm (by omega) bx o2.1 hv2 hc o2.2) ?_
        refine Ev.bind (Sound_ev hk hm hkm (by omega) (whole_all hkm hD) true (fun _ i hi => by rw [all_take hD, all_par hD hi]) (fun h => by cases h)) ?_
        refine Ev.congr (fun q => if_pos rfl) ?_
        refine Ev.congr (fun q => if_pos rfl) ?_
        refine Ev.bind (same_self _ (by rw [hlen]; omega)) ?_
        refine Ev.congr (fun q => if_pos rfl) ?_
        refine Ev.congr (fun q => if_pos rfl) ?_
        refine Ev.bind (evc (sameBytes_self x)) ?_
        exact Ev.now _
      · refine Ev.bind (split_no hno x) ?_
        exact Ev.congr (fun q => if_neg (by decide)) (Ev.now _)

end Go.Proofs.Ythmlimkmcofkfaa.L

/- The plain law of StripeAny, in the form that the row asks for: Any k shards of bytes tell the bytes and all other shards. -/
namespace Go.Proofs.Ythmlimkmcofkfaa.Pure
theorem StripeAny : Q.stowagelaw03_StripeAny.Pure := fun l0 a1 a2 l3 a4 _ _ h0 h1 h2 _ _ _ _ => L.any3_pure l0 a1 a2 l3 a4 (fun y hy => L.byte_of_wf (h0 y hy)) h1 h2
end Go.Proofs.Ythmlimkmcofkfaa.Pure

/- Contracts of functions of the program, written by a program of this session. -/
namespace Go.Proofs.Ythmlimkmcofkfaa.stripeAny
open Go.ChangeShapes Go.WideShapes Go.ChangeAt Go.RowKit
open Go.ChangeMaps (open_string shut_string)
set_option linter.unusedVariables false
theorem own : ownKnob Try.prog.godebug = none := by kernel_rfl
theorem laidOut : laidOutB Try.prog = true := by kernel_rfl
def IsRow (k : IntKind) (w : World) (a : Option Addr) (len cap : Nat) (zs : List Int) : Prop :=
  (a = none ∧ len = 0 ∧ cap = 0 ∧ zs = []) ∨
  ∃ x, a = some x ∧ len ≤ cap ∧ cap ≤ maxLen ∧ zs.length = cap ∧ (∀ i, i < zs.length → w.cell? (x.add i) = some (.int k (zs.getD i 0))) ∧ ∀ n ∈ zs, (Lit.int k n).wf = true
set_option maxRecDepth 100000 in
theorem lifted (os : Os) (started : os.Started) (H : Type) (enc : TypeId × Value → H) :
    ReturnsInHanded {} Try.checked os 12 .any (Rows.stripeAnySpec.pre6 enc Try.prog Try.f12 Rows.stripeAnyRow.domain false) (Rows.stripeAnySpec.post enc Try.prog Try.f12 false true false false) := by
  refine returnsInHanded_of_change_sized (C := Try.checked) own started (by kernel_rfl) Try.func12
    (ChangeSpec.witness6 (enc := enc) (C := Try.checked) false ⟨#[], #[.slice none 0 0, .int .i64 0, .int .i64 0, .slice none 0 0, .int .i64 0], []⟩ 8 (by kernel_rfl) (by kernel_rfl) (by kernel_rfl) (by kernel_rfl)) ?_
  intro W base args ds gs before hval0 hW hcnd hsz0 _
  have hsz : (DataW.weightsEach Try.prog (Try.f12.params.toList ++ Rows.stripeAnySpec.plain.varTypes Try.prog) (ds ++ gs)).all (· ≤ reachBytes) = true := hsz0
  have hval : ∀ (j : Nat) t v, Try.f12.params[j]? = some t → args[j]? = some v → Value.okWide Try.prog W .any base t v := hval0
  have hW' := hW
  obtain ⟨p, q, hA0, hV, rfl, hfz, hnd⟩ := hW
  have hA : DataW.TrodAll enc Try.prog W 0 (fun _ => true) true Try.f12.params.toList args.toList ds p := hA0
  rw [Try.params12] at hA hval hsz
  obtain ⟨v0, vs0, d0, ds0, p0, q0, hargs, rfl, rfl, h0, r0⟩ := trodAll_cons hA
  obtain ⟨v1, vs1, d1, ds1, p1, q1, rfl, rfl, rfl, h1, r1⟩ := trodAll_cons r0
  obtain ⟨v2, vs2, d2, ds2, p2, q2, rfl, rfl, rfl, h2, r2⟩ := trodAll_cons r1
  obtain ⟨v3, vs3, d3, ds3, p3, q3, rfl, rfl, rfl, h3, r3⟩ := trodAll_cons r2
  obtain ⟨v4, vs4, d4, ds4, p4, q4, rfl, rfl, rfl, h4, r4⟩ := trodAll_cons r3
  obtain ⟨rfl, rfl, rfl⟩ := trodAll_nil r4
  obtain rfl : args = #[v0, v1, v2, v3, v4] := by cases args; simp_all
  obtain ⟨rfl, rfl⟩ := trodVars_none hV
  obtain ⟨a0, len0, cap0, rfl⟩ := okWide_slice Try.underlying41 (hval 0 41 v0 rfl rfl)
  have k0 := h0
  have lt0 : ∀ x ∈ p0, x.block < W.heap.size := by obtain ⟨m, hm⟩ := k0; exact DataW.trod_lt m _ _ _ hm
  obtain ⟨z0, w0⟩ : ∃ zs, IsRow .u8 W a0 len0 cap0 zs := by
    obtain ⟨fuel, hf⟩ := h0
    rcases open_ints Try.underlying41 Try.underlying5 (by kernel_rfl) hf with ⟨hcs, _⟩ | ⟨x, l, c, zs, hcs, _, hl, hm, hz, _, hcell, hwz⟩
    · simp [Value.cells] at hcs
      obtain ⟨rfl, rfl, rfl⟩ := hcs
      exact ⟨[], .inl ⟨rfl, rfl, rfl, rfl⟩⟩
    · simp [Value.cells] at hcs
      obtain ⟨rfl, rfl, rfl⟩ := hcs
      exact ⟨zs, .inr ⟨_, rfl, hl, hm, by simpa using hz, hcell, hwz⟩⟩
  have y0 : len0 * 1 ≤ 140737488351232 := Go.Proofs.YthmlimkmcofkfaaW.PrintWords.sized_ints hsz (j := 0) (t := 41) rfl rfl Try.underlying41 Try.underlying5 (by kernel_rfl) (by kernel_rfl) h0
  obtain ⟨a1, rfl, rfl, rfl, w1⟩ := open_int Try.underlying3 (hval 1 3 v1 rfl rfl) h1
  obtain ⟨a2, rfl, rfl, rfl, w2⟩ := open_int Try.underlying3 (hval 2 3 v2 rfl rfl) h2
  obtain ⟨a3, len3, cap3, rfl⟩ := okWide_slice Try.underlying23 (hval 3 23 v3 rfl rfl)
  have k3 := h3
  have lt3 : ∀ x ∈ p3, x.block < W.heap.size := by obtain ⟨m, hm⟩ := k3; exact DataW.trod_lt m _ _ _ hm
  obtain ⟨z3, w3⟩ : ∃ zs, IsRow .i64 W a3 len3 cap3 zs := by
    obtain ⟨fuel, hf⟩ := h3
    rcases open_ints Try.underlying23 Try.underlying3 (by kernel_rfl) hf with ⟨hcs, _⟩ | ⟨x, l, c, zs, hcs, _, hl, hm, hz, _, hcell, hwz⟩
    · simp [Value.cells] at hcs
      obtain ⟨rfl, rfl, rfl⟩ := hcs
      exact ⟨[], .inl ⟨rfl, rfl, rfl, rfl⟩⟩
    · simp [Value.cells] at hcs
      obtain ⟨rfl, rfl, rfl⟩ := hcs
      exact ⟨zs, .inr ⟨_, rfl, hl, hm, by simpa using hz, hcell, hwz⟩⟩
  have y3 : len3 * 8 ≤ 140737488351232 := Go.Proofs.YthmlimkmcofkfaaW.PrintWords.sized_ints hsz (j := 3) (t := 23) rfl rfl Try.underlying23 Try.underlying3 (by kernel_rfl) (by kernel_rfl) h3
  obtain ⟨a4, rfl, rfl, rfl, w4⟩ := open_int Try.underlying3 (hval 4 3 v4 rfl rfl) h4
  clear hA0 hval0 hsz0 hsz
  refine (Q.stowagelaw03_StripeAny.walk Pure.StripeAny a0 len0 cap0 z0 a1 a2 a3 len3 cap3 z3 a4 W w0 y0 w1 w2 w3 y3 w4).mono fun e W' ⟨he, bel⟩ => ?_
  subst he
  exact ⟨_, rfl, _, _, _, [], _, [], hW', trodAll_mk1 (shut_bool Try.underlying4 _), (trodAll_cons_mk (Below.trod laidOut (by kernel_rfl) (of_decide_eq_true (by kernel_rfl)) k0 bel lt0) (trodAll_cons_mk (shut_int Try.underlying3 w1) (trodAll_cons_mk (shut_int Try.underlying3 w2) (trodAll_cons_mk (Below.trod laidOut (by kernel_rfl) (of_decide_eq_true (by kernel_rfl)) k3 bel lt3) (trodAll_cons_mk (shut_int Try.underlying3 w4) trodAll_mk0))))), rfl, bel.frame _, fun h => by cases h⟩
theorem over : Rows.stripeAnyRow.holds Try.pinned (OpenSpec.ofChange Rows.stripeAnySpec) :=
  OpenClaim.holds_of_wide 12 Try.f12 rfl rfl rfl rfl rfl rfl rfl ⟨rfl, rfl, rfl, rfl, rfl⟩ rfl rfl rfl rfl rfl (by kernel_rfl) Try.func12 (by kernel_rfl)
    (of_decide_eq_true (by kernel_rfl)) (by unfold Func.isWrapper; first | (rw [if_pos (by decide +kernel)]; kernel_rfl) | (rw [if_neg (by decide +kernel)]; exact ⟨rfl, rfl⟩))
    (fun os started H enc _ => lifted os started H enc)
theorem proved : Rows.StripeAnySaid := over
#print axioms proved
end Go.Proofs.Ythmlimkmcofkfaa.stripeAny
namespace Go.Proofs.Ythmlimkmcofkfaa
/-- The row, under a short name, for the claim. -/
theorem stripeAny_holds : Rows.StripeAnySaid := stripeAny.proved
end Go.Proofs.Ythmlimkmcofkfaa
