/- Many-digit decimals, in plain words: shifting right and left, trimming. -/
import Derived.Test.YtmfnkilohicapaaGreatDoorA
import GoSem.PinnedTables
import Derived.KernelRfl
import Derived.Test.YtmfnkilohicapaaGreatDoorD
namespace Go.Proofs.YtmfnkilohicapaaGreatDoor

/-- A decimal: its bytes, how many count, the point's place, was something cut off? -/
structure Dst where
  d : Nat → Nat
  nd : Nat
  dp : Int
  tr : Bool
structure Good (D : Dst) : Prop where
  n1 : 1 ≤ D.nd
  n2 : D.nd ≤ 800
  dig : ∀ i, i < D.nd → 48 ≤ D.d i ∧ D.d i ≤ 57
  hd : D.d 0 ≠ 48
def trimN (d : Nat → Nat) : Nat → Nat
  | 0 => 0
  | n + 1 => if d n = 48 then trimN d n else n + 1
theorem trimN_le (d : Nat → Nat) (n : Nat) : trimN d n ≤ n := by
  induction n with
  | zero => exact Nat.le_refl _
  | succ n ih => unfold trimN; split <;> omega
theorem trimN_pos (d : Nat → Nat) (h : d 0 ≠ 48) (n : Nat) (hn : 1 ≤ n) : 1 ≤ trimN d n := by
  induction n with
  | zero => omega
  | succ n ih =>
    unfold trimN
    by_cases e : d n = 48
    · rw [if_pos e]
      by_cases h0 : n = 0
      · rw [h0] at e; exact absurd e h
      · exact ih (by omega)
    · rw [if_neg e]; omega
theorem least_of {p : Nat → Prop} (h : ∃ n, p n) : ∃ n, p n ∧ ∀ m, m < n → ¬ p m := by
  obtain ⟨n, hn⟩ := h
  induction n using Nat.strongRecOn with
  | ind n ih =>
    by_cases hm : ∃ m, m < n ∧ p m
    · obtain ⟨m, h1, h2⟩ := hm; exact ih m h1 h2
    · exact ⟨n, hn, fun m h1 h2 => hm ⟨m, h1, h2⟩⟩
/-- The digit at a place, 0 behind the last. -/
def dg (D : Dst) (r : Nat) : Nat := if r < D.nd then D.d r - 48 else 0
theorem dg_le {D : Dst} (h : Good D) (r : Nat) : dg D r ≤ 9 := by
  unfold dg; split
  · rename_i hr; have := h.dig r hr; omega
  · omega
theorem dg_zero {D : Dst} (h : Good D) : 1 ≤ dg D 0 := by
  unfold dg
  rw [if_pos (by have := h.n1; omega)]
  have := h.dig 0 (by have := h.n1; omega)
  have := h.hd
  omega
/-- The value of the first digits. -/
def pv (D : Dst) : Nat → Nat
  | 0 => 0
  | r + 1 => pv D r * 10 + dg D r
theorem pv_ge {D : Dst} (h : Good D) (r : Nat) : 10 ^ r ≤ pv D (r + 1) := by
  induction r with
  | zero => have := dg_zero h; show 1 ≤ 0 * 10 + dg D 0; omega
  | succ r ih => unfold pv; rw [Nat.pow_succ]; omega
theorem pv_first {D : Dst} (h : Good D) (k : Nat) (hk : k ≤ 60) : ∃ R, 1 ≤ R ∧ R ≤ 20 ∧ 2 ^ k ≤ pv D R ∧ pv D R < 10 * 2 ^ k ∧ ∀ r, r < R → pv D r < 2 ^ k := by
  have hp : 2 ^ k ≤ 2 ^ 60 := Nat.pow_le_pow_right (by decide) hk
  have hx : 2 ^ k ≤ pv D 20 := by
    have : 10 ^ 19 ≤ pv D 20 := pv_ge h 19
    have e : (2 : Nat) ^ 60 ≤ 10 ^ 19 := by decide
    omega
  obtain ⟨R, h1, h2⟩ := least_of (p := fun R => 2 ^ k ≤ pv D R) ⟨20, hx⟩
  have hpos : 0 < 2 ^ k := Nat.pow_pos (by decide)
  have hR0 : R ≠ 0 := fun e => by rw [e] at h1; unfold pv at h1; omega
  refine ⟨R, by omega, ?_, h1, ?_, fun r hr => Nat.lt_of_not_le (h2 r hr)⟩
  · refine Nat.le_of_not_lt (fun hl => h2 20 hl hx)
  · obtain ⟨r, rfl⟩ := Nat.exists_eq_succ_of_ne_zero hR0
    have := h2 r (by omega)
    have := dg_le h r
    show pv D r * 10 + dg D r < _
    omega
/-- Shifting right: what is left to share out at each place. -/
def rn (D : Dst) (k R : Nat) : Nat → Nat
  | 0 => pv D R
  | j + 1 => (rn D k R j % 2 ^ k) * 10 + dg D (R + j)
theorem rn_lt {D : Dst} (h : Good D) (k R : Nat) (h0 : pv D R < 10 * 2 ^ k) (j : Nat) : rn D k R j < 10 * 2 ^ k := by
  cases j with
  | zero => exact h0
  | succ j =>
    have := Nat.mod_lt (rn D k R j) (Nat.pow_pos (n := k) (show 0 < 2 by decide))
    have := dg_le h (R + j)
    show rn D k R j % 2 ^ k * 10 + dg D (R + j) < _
    omega
theorem rn_dvd (D : Dst) (k R j a : Nat) (hj : D.nd ≤ R + j) (ha : a ≤ k) : 2 ^ a ∣ rn D k R (j + a) := by
  induction a with
  | zero => exact Nat.one_dvd _
  | succ a ih =>
    have ih := ih (by omega)
    show 2 ^ (a + 1) ∣ rn D k R (j + a) % 2 ^ k * 10 + dg D (R + (j + a))
    have e : dg D (R + (j + a)) = 0 := by unfold dg; rw [if_neg (by omega)]
    rw [e, Nat.add_zero]
    have hm : 2 ^ a ∣ rn D k R (j + a) % 2 ^ k := (Nat.dvd_mod_iff (Nat.pow_dvd_pow 2 (by omega))).2 ih
    rw [Nat.pow_succ]
    exact Nat.mul_dvd_mul hm ⟨5, by decide⟩
theorem rn_end (D : Dst) (k R : Nat) : ∃ J, (D.nd ≤ R + J ∧ rn D k R J = 0) ∧ ∀ j, j < J → ¬ (D.nd ≤ R + j ∧ rn D k R j = 0) := by
  refine least_of ⟨D.nd + k + 1, by omega, ?_⟩
  show rn D k R (D.nd + k) % 2 ^ k * 10 + dg D (R + (D.nd + k)) = 0
  have e : dg D (R + (D.nd + k)) = 0 := by unfold dg; rw [if_neg (by omega)]
  have := rn_dvd D k R D.nd k (by omega) (Nat.le_refl _)
  rw [e, Nat.mod_eq_zero_of_dvd this]
/-- The bytes after so many places are written. -/
def rmem (D : Dst) (k R j : Nat) (i : Nat) : Nat := if i < j ∧ i < 800 then rn D k R i / 2 ^ k + 48 else D.d i
def rtr (D : Dst) (k R : Nat) : Nat → Bool
  | 0 => D.tr
  | j + 1 => rtr D k R j || (decide (800 ≤ j) && decide (0 < rn D k R j / 2 ^ k))
/-- Shifted right. -/
def rsh (D : Dst) (k R J : Nat) : Dst := ⟨rmem D k R J, trimN (rmem D k R J) (min J 800), D.dp - (R - 1 : Nat), rtr D k R J⟩
theorem rmem_dig {D : Dst} (h : Good D) (k R : Nat) (h0 : pv D R < 10 * 2 ^ k) (i : Nat) : rn D k R i / 2 ^ k ≤ 9 := by
  have := rn_lt h k R h0 i
  have hp : 0 < 2 ^ k := Nat.pow_pos (by decide)
  have : rn D k R i / 2 ^ k < 10 := (Nat.div_lt_iff_lt_mul hp).2 this
  omega
theorem rsh_good {D : Dst} (h : Good D) (k R J : Nat) (h1 : 2 ^ k ≤ pv D R) (h0 : pv D R < 10 * 2 ^ k) (hJ : 1 ≤ J) : Good (rsh D k R J) := by
  have hp : 0 < 2 ^ k := Nat.pow_pos (by decide)
  have hd0 : rmem D k R J 0 ≠ 48 := by
    unfold rmem
    rw [if_pos ⟨by omega, by decide⟩]
    have : 1 ≤ rn D k R 0 / 2 ^ k := (Nat.le_div_iff_mul_le hp).2 (by show 1 * 2 ^ k ≤ pv D R; omega)
    omega
  have hle := trimN_le (rmem D k R J) (min J 800)
  refine ⟨trimN_pos _ hd0 _ (by omega), by show trimN _ _ ≤ 800; omega, fun i hi => ?_, hd0⟩
  have hi : i < trimN (rmem D k R J) (min J 800) := hi
  show 48 ≤ rmem D k R J i ∧ rmem D k R J i ≤ 57
  unfold rmem
  rw [if_pos ⟨by omega, by omega⟩]
  have := rmem_dig h k R h0 i
  generalize rn D k R i / 2 ^ k = g at *
  omega
theorem rsh_less {D : Dst} (h : Good D) (k R J : Nat) (hk : 1 ≤ k) (hR : 1 ≤ R) (h1 : 2 ^ k ≤ pv D R) (hJ : 1 ≤ J) : (rsh D k R J).dp < D.dp ∨ ((rsh D k R J).dp = D.dp ∧ (rsh D k R J).d 0 < D.d 0) := by
  by_cases e : R = 1
  · refine Or.inr ⟨by show D.dp - ((R - 1 : Nat) : Int) = D.dp; rw [e]; simp, ?_⟩
    show rmem D k R J 0 < D.d 0
    unfold rmem
    rw [if_pos ⟨by omega, by decide⟩]
    show pv D R / 2 ^ k + 48 < D.d 0
    rw [e] at h1 ⊢
    have hv : pv D 1 = D.d 0 - 48 := by
      show 0 * 10 + dg D 0 = _
      unfold dg
      rw [if_pos (by have := h.n1; omega)]; omega
    have h2 : 2 ≤ 2 ^ k := by
      have := Nat.pow_le_pow_right (show 0 < 2 by decide) hk
      simpa using this
    have : pv D 1 / 2 ^ k ≤ pv D 1 / 2 := Nat.div_le_div_left h2 (by decide)
    omega
  · refine Or.inl ?_
    show D.dp - ((R - 1 : Nat) : Int) < D.dp
    omega

/-- Shifting left: the digit so many places from the end; the value of so many last digits; what is carried over. -/
def el (D : Dst) (j : Nat) : Nat := if j < D.nd then D.d (D.nd - 1 - j) - 48 else 0
def sv (D : Dst) : Nat → Nat
  | 0 => 0
  | j + 1 => el D j * 10 ^ j + sv D j
def cf (D : Dst) (k : Nat) : Nat → Nat
  | 0 => 0
  | j + 1 => (cf D k j + el D j * 2 ^ k) / 10
theorem el_le {D : Dst} (h : Good D) (j : Nat) : el D j ≤ 9 := by
  unfold el; split
  · have := h.dig (D.nd - 1 - j) (by omega); omega
  · omega
theorem cf_eq (D : Dst) (k j : Nat) : cf D k j = sv D j * 2 ^ k / 10 ^ j := by
  induction j with
  | zero => simp [cf, sv]
  | succ j ih =>
    show (cf D k j + el D j * 2 ^ k) / 10 = (el D j * 10 ^ j + sv D j) * 2 ^ k / 10 ^ (j + 1)
    have hp : 0 < 10 ^ j := Nat.pow_pos (by decide)
    rw [ih, ← Nat.add_mul_div_right _ _ hp, Nat.div_div_eq_div_mul, Nat.pow_succ]
    congr 1
    rw [Nat.add_mul, Nat.add_comm]
    congr 1
    rw [Nat.mul_assoc, Nat.mul_comm (2 ^ k), ← Nat.mul_assoc]
theorem cf_lt {D : Dst} (h : Good D) (k j : Nat) : cf D k j < 2 ^ k := by
  have hp : 0 < 2 ^ k := Nat.pow_pos (by decide)
  induction j with
  | zero => exact hp
  | succ j ih =>
    have := el_le h j
    have : el D j * 2 ^ k ≤ 9 * 2 ^ k := Nat.mul_le_mul_right _ this
    show (cf D k j + el D j * 2 ^ k) / 10 < 2 ^ k
    omega
theorem sv_lt {D : Dst} (h : Good D) (j : Nat) : sv D j < 10 ^ j := by
  induction j with
  | zero => exact Nat.one_pos
  | succ j ih =>
    have := el_le h j
    have : el D j * 10 ^ j ≤ 9 * 10 ^ j := Nat.mul_le_mul_right _ this
    show el D j * 10 ^ j + sv D j < 10 ^ (j + 1)
    rw [Nat.pow_succ]; omega
theorem sv_behind (D : Dst) (j : Nat) : sv D (D.nd + j) = sv D D.nd := by
  induction j with
  | zero => rfl
  | succ j ih =>
    show el D (D.nd + j) * 10 ^ (D.nd + j) + sv D (D.nd + j) = _
    have : el D (D.nd + j) = 0 := by unfold el; rw [if_neg (by omega)]
    rw [this, ih]; simp
theorem sv_ge {D : Dst} (h : Good D) : (D.d 0 - 48) * 10 ^ (D.nd - 1) ≤ sv D D.nd := by
  obtain ⟨n, hn⟩ : ∃ n, D.nd = n + 1 := ⟨D.nd - 1, by have := h.n1; omega⟩
  have : el D n = D.d 0 - 48 := by
    unfold el
    rw [if_pos (by omega)]
    congr 2
    omega
  rw [hn]
  show _ ≤ el D n * 10 ^ n + sv D n
  rw [this]
  simp
/-- How many digits more there are. -/
structure Adds (D : Dst) (k δ : Nat) : Prop where
  lo : 10 ^ (D.nd + δ - 1) ≤ sv D D.nd * 2 ^ k
  hi : sv D D.nd * 2 ^ k < 10 ^ (D.nd + δ)
theorem cf_pos {D : Dst} {k δ : Nat} (h : Adds D k δ) (j : Nat) (h1 : D.nd ≤ j) (h2 : j < D.nd + δ) : 0 < cf D k j := by
  rw [cf_eq]
  obtain ⟨i, rfl⟩ : ∃ i, j = D.nd + i := ⟨j - D.nd, by omega⟩
  rw [sv_behind]
  refine Nat.div_pos ?_ (Nat.pow_pos (by decide))
  exact Nat.le_trans (Nat.pow_le_pow_right (by decide) (by omega)) h.lo
theorem cf_end {D : Dst} {k δ : Nat} (h : Adds D k δ) : cf D k (D.nd + δ) = 0 := by
  rw [cf_eq, sv_behind]
  exact Nat.div_eq_of_lt h.hi
/-- The digit written at a place, the bytes after so many places (from the end) are written. -/
def lo (D : Dst) (k δ i : Nat) : Nat := (cf D k (D.nd + δ - 1 - i) + el D (D.nd + δ - 1 - i) * 2 ^ k) % 10
def lmem (D : Dst) (k δ j : Nat) (i : Nat) : Nat := if D.nd + δ - j ≤ i ∧ i < D.nd + δ ∧ i < 800 then lo D k δ i + 48 else D.d i
def ltr (D : Dst) (k δ : Nat) : Nat → Bool
  | 0 => D.tr
  | j + 1 => ltr D k δ j || (decide (800 ≤ D.nd + δ - 1 - j) && decide (lo D k δ (D.nd + δ - 1 - j) ≠ 0))
def lsh (D : Dst) (k δ : Nat) : Dst := ⟨lmem D k δ (D.nd + δ), trimN (lmem D k δ (D.nd + δ)) (min (D.nd + δ) 800), D.dp + δ, ltr D k δ (D.nd + δ)⟩
theorem lo_head {D : Dst} (h : Good D) {k δ : Nat} (hA : Adds D k δ) : 1 ≤ lo D k δ 0 ∧ (δ = 0 → (D.d 0 - 48) * 2 ^ k ≤ lo D k δ 0) := by
  have hn := h.n1
  obtain ⟨m, hm⟩ : ∃ m, D.nd + δ = m + 1 := ⟨D.nd + δ - 1, by omega⟩
  have he := cf_end hA
  rw [hm] at he
  have he : (cf D k m + el D m * 2 ^ k) / 10 = 0 := he
  have hlo : lo D k δ 0 = cf D k m + el D m * 2 ^ k := by
    unfold lo
    rw [show D.nd + δ - 1 - 0 = m by omega]
    omega
  have hp : 0 < 2 ^ k := Nat.pow_pos (by decide)
  by_cases h0 : δ = 0
  · have hel : el D m = D.d 0 - 48 := by
      unfold el
      rw [if_pos (by omega)]
      congr 2
      omega
    have h1 := h.dig 0 (by omega)
    have h2 := h.hd
    have : 1 * 2 ^ k ≤ (D.d 0 - 48) * 2 ^ k := Nat.mul_le_mul_right _ (by omega)
    rw [hlo, hel]
    exact ⟨by omega, fun _ => by omega⟩
  · have := cf_pos hA m (by omega) (by omega)
    rw [hlo]
    exact ⟨by omega, fun e => absurd e h0⟩
theorem lsh_good {D : Dst} (h : Good D) {k δ : Nat} (hA : Adds D k δ) : Good (lsh D k δ) := by
  have hn := h.n1
  have hd0 : lmem D k δ (D.nd + δ) 0 ≠ 48 := by
    unfold lmem
    rw [if_pos ⟨by omega, by omega, by decide⟩]
    have := (lo_head h hA).1
    omega
  have hle := trimN_le (lmem D k δ (D.nd + δ)) (min (D.nd + δ) 800)
  refine ⟨trimN_pos _ hd0 _ (by omega), by show trimN _ _ ≤ 800; omega, fun i hi => ?_, hd0⟩
  have hi : i < trimN (lmem D k δ (D.nd + δ)) (min (D.nd + δ) 800) := hi
  show 48 ≤ lmem D k δ (D.nd + δ) i ∧ lmem D k δ (D.nd + δ) i ≤ 57
  unfold lmem
  rw [if_pos ⟨by omega, by omega, by omega⟩]
  unfold lo
  omega
theorem lsh_more {D : Dst} (h : Good D) {k δ : Nat} (hk : 1 ≤ k) (hA : Adds D k δ) : D.dp < (lsh D k δ).dp ∨ ((lsh D k δ).dp = D.dp ∧ D.d 0 < (lsh D k δ).d 0) := by
  by_cases e : δ = 0
  · refine Or.inr ⟨by show D.dp + (δ : Int) = D.dp; omega, ?_⟩
    have hn := h.n1
    have h1 := (lo_head h hA).2 e
    show D.d 0 < lmem D k δ (D.nd + δ) 0
    unfold lmem
    rw [if_pos ⟨by omega, by omega, by decide⟩]
    have h2 : 2 ≤ 2 ^ k := by
      have := Nat.pow_le_pow_right (show 0 < 2 by decide) hk
      simpa using this
    have h3 := h.dig 0 (by omega)
    have h4 := h.hd
    have : (D.d 0 - 48) * 2 ≤ (D.d 0 - 48) * 2 ^ k := Nat.mul_le_mul_left _ h2
    omega
  · exact Or.inl (by show D.dp < D.dp + (δ : Int); omega)
/-- The cheat sheet. -/
def pl (d : Nat → Nat) (nd : Nat) : List UInt8 → Nat → Bool
  | [], _ => false
  | c :: s, i => if nd ≤ i then true else if d i = c.toNat then pl d nd s (i + 1) else decide (d i < c.toNat)
def sval : List UInt8 → Nat
  | [] => 0
  | c :: s => (c.toNat - 48) * 10 ^ s.length + sval s
def lastPos : List UInt8 → Bool
  | [] => true
  | c :: s => (decide (48 ≤ c.toNat) && decide (c.toNat ≤ 57)) && (if s.isEmpty then decide (48 < c.toNat) else lastPos s)
theorem lastPos_dig {c : UInt8} {s : List UInt8} (h : lastPos (c :: s) = true) : 48 ≤ c.toNat ∧ c.toNat ≤ 57 ∧ lastPos s = true ∧ 0 < sval (c :: s) := by
  induction s generalizing c with
  | nil =>
    simp [lastPos] at h
    simp [lastPos, sval]
    omega
  | cons b s ih =>
    have h' := h
    unfold lastPos at h
    simp only [List.isEmpty_cons, Bool.and_eq_true, decide_eq_true_eq] at h
    have h2 := h.2
    simp only [Bool.false_eq_true, if_false] at h2
    have := ih h2
    refine ⟨h.1.1, h.1.2, h2, ?_⟩
    show 0 < (c.toNat - 48) * 10 ^ (b :: s).length + sval (b :: s)
    omega
theorem sval_lt {s : List UInt8} (h : lastPos s = true) : sval s < 10 ^ s.length := by
  induction s with
  | nil => exact Nat.one_pos
  | cons c s ih =>
    obtain ⟨h1, h2, h3, _⟩ := lastPos_dig h
    have := ih h3
    have : (c.toNat - 48) * 10 ^ s.length ≤ 9 * 10 ^ s.length := Nat.mul_le_mul_right _ (by omega)
    show (c.toNat - 48) * 10 ^ s.length + sval s < 10 ^ (s.length + 1)
    rw [Nat.pow_succ]; omega
theorem pow_split (a _b : Nat) : (10 : Nat) ^ (a + 1) = 10 * 10 ^ a := by rw [Nat.pow_succ, Nat.mul_comm]
theorem pl_law {D : Dst} (h : Good D) (s : List UInt8) (hs : lastPos s = true) (i : Nat) (hi : i ≤ D.nd) :
    (pl D.d D.nd s i = true → sv D (D.nd - i) * 10 ^ s.length < sval s * 10 ^ (D.nd - i)) ∧ (pl D.d D.nd s i = false → sval s * 10 ^ (D.nd - i) ≤ sv D (D.nd - i) * 10 ^ s.length) := by
  induction s generalizing i with
  | nil => exact ⟨(fun h => by cases h), (fun _ => by simp [sval])⟩
  | cons c s ih =>
    obtain ⟨h1, h2, h3, h4⟩ := lastPos_dig hs
    unfold pl
    by_cases hn : D.nd ≤ i
    · rw [if_pos hn]
      have : D.nd - i = 0 := by omega
      rw [this]
      exact ⟨(fun _ => by show 0 * _ < sval (c :: s) * 10 ^ 0; simpa using h4), (fun h => by cases h)⟩
    · rw [if_neg hn]
      obtain ⟨n, hj⟩ : ∃ n, D.nd - i = n + 1 := ⟨D.nd - i - 1, by omega⟩
      have hel : el D n = D.d i - 48 := by
        unfold el
        rw [if_pos (by omega)]
        congr 2
        omega
      have hd := h.dig i (by omega)
      rw [hj]
      have hsv : sv D (n + 1) = (D.d i - 48) * 10 ^ n + sv D n := by rw [← hel]; rfl
      have hsl : sval (c :: s) = (c.toNat - 48) * 10 ^ s.length + sval s := rfl
      have hlen : (c :: s).length = s.length + 1 := rfl
      rw [hsv, hsl, hlen]
      have e1 : (10 : Nat) ^ (n + 1) = 10 * 10 ^ n := by rw [Nat.pow_succ, Nat.mul_comm]
      have e2 : (10 : Nat) ^ (s.length + 1) = 10 * 10 ^ s.length := by rw [Nat.pow_succ, Nat.mul_comm]
      rw [e1, e2]
      have hA := sv_lt h n
      have hB := sval_lt h3
      have hAp : 0 < 10 ^ n := Nat.pow_pos (by decide)
      have hBp : 0 < 10 ^ s.length := Nat.pow_pos (by decide)
      generalize hAA : (10 : Nat) ^ n = A at *
      generalize hBB : (10 : Nat) ^ s.length = B at *
      by_cases hc : D.d i = c.toNat
      · rw [if_pos hc, ← hc]
        have ih := ih h3 (i + 1) (by omega)
        rw [show D.nd - (i + 1) = n by omega, hAA] at ih
        generalize D.d i - 48 = a at *
        generalize sv D n = x at *
        generalize sval s = y at *
        have e3 : (a * A + x) * (10 * B) = a * (A * B) * 10 + 10 * (x * B) := by
          rw [Nat.add_mul, Nat.mul_comm 10 B, ← Nat.mul_assoc, ← Nat.mul_assoc, Nat.mul_assoc a A B, Nat.mul_comm 10 (x * B)]
        have e4 : (a * B + y) * (10 * A) = a * (A * B) * 10 + 10 * (y * A) := by
          rw [Nat.add_mul, Nat.mul_comm 10 A, ← Nat.mul_assoc, ← Nat.mul_assoc, Nat.mul_assoc a B A, Nat.mul_comm B A, Nat.mul_comm 10 (y * A)]
        rw [e3, e4]
        exact ⟨fun h5 => by have := ih.1 h5; omega, fun h5 => by have := ih.2 h5; omega⟩
      · rw [if_neg hc]
        have key : ∀ {a b x y A B : Nat}, a < b → x < A → 0 < B → (a * A + x) * (10 * B) < (b * B + y) * (10 * A) := by
          intro a b x y A B hab hx hB
          have t1 : a * A + x < b * A := by
            have : (a + 1) * A ≤ b * A := Nat.mul_le_mul_right _ hab
            rw [Nat.add_mul] at this; omega
          have t2 : (a * A + x) * (10 * B) < b * A * (10 * B) := Nat.mul_lt_mul_of_pos_right t1 (by omega)
          have t3 : b * A * (10 * B) = b * B * (10 * A) := by
            rw [Nat.mul_assoc b A, Nat.mul_assoc b B]
            congr 1
            rw [← Nat.mul_assoc, ← Nat.mul_assoc, Nat.mul_comm A 10, Nat.mul_comm B 10, Nat.mul_assoc, Nat.mul_assoc, Nat.mul_comm A B]
          have t4 : b * B * (10 * A) ≤ (b * B + y) * (10 * A) := Nat.mul_le_mul_right _ (by omega)
          omega
        refine ⟨fun h5 => ?_, fun h5 => ?_⟩
        · rw [decide_eq_true_iff] at h5
          exact key (by omega) hA hBp
        · rw [decide_eq_false_iff_not] at h5
          exact Nat.le_of_lt (key (by omega) hB hAp)
end Go.Proofs.YtmfnkilohicapaaGreatDoor

/- The cheat sheet of the shift to the left says how many digits are added. -/
namespace Go.Proofs.YtmfnkilohicapaaGreatDoor

def cheatOk (k : Nat) : Bool := match Pinned.cheatRows[k]? with
  | none => false
  | some (δ, s) => decide (1 ≤ δ) && decide (δ ≤ 19) && decide (s.length + δ = k + 1) && decide (sval s = 5 ^ k) && decide (10 ^ (δ - 1) ≤ 2 ^ k) && decide (2 ^ k < 10 ^ δ) && lastPos s && decide (s.length ≤ 60)
theorem cheats_ok : (List.range 60).all (fun k => cheatOk (k + 1)) = true := by kernel_rfl
structure Cheat (k δ : Nat) (s : List UInt8) : Prop where
  row : Pinned.cheatRows[k]? = some (δ, s)
  d1 : 1 ≤ δ
  d2 : δ ≤ 19
  len : s.length + δ = k + 1
  val : sval s = 5 ^ k
  low : 10 ^ (δ - 1) ≤ 2 ^ k
  high : 2 ^ k < 10 ^ δ
  last : lastPos s = true
  len2 : s.length ≤ 60
theorem cheat_of (k : Nat) (h1 : 1 ≤ k) (h2 : k ≤ 60) : ∃ δ s, Cheat k δ s := by
  have h := List.all_eq_true.1 cheats_ok (k - 1) (List.mem_range.2 (by omega))
  rw [show k - 1 + 1 = k by omega] at h
  unfold cheatOk at h
  cases hr : Pinned.cheatRows[k]? with
  | none => rw [hr] at h; cases h
  | some r =>
    obtain ⟨δ, s⟩ := r
    rw [hr] at h
    simp only [Bool.and_eq_true, decide_eq_true_eq] at h
    obtain ⟨⟨⟨⟨⟨⟨⟨a, b⟩, c⟩, d⟩, e⟩, f⟩, g⟩, i⟩ := h
    exact ⟨δ, s, hr, a, b, c, d, e, f, g, i⟩
/-- How many digits the shift adds. -/
def addN (D : Dst) (δ : Nat) (s : List UInt8) : Nat := if pl D.d D.nd s 0 then δ - 1 else δ
theorem adds_of {D : Dst} (h : Good D) {k δ : Nat} {s : List UInt8} (hc : Cheat k δ s) : Adds D k (addN D δ s) := by
  have hn := h.n1
  have h1 := hc.d1
  have hlaw := pl_law h s hc.last 0 (by omega)
  rw [Nat.sub_zero, hc.val] at hlaw
  have hge : 1 * 10 ^ (D.nd - 1) ≤ sv D D.nd := by
    refine Nat.le_trans (Nat.mul_le_mul_right _ ?_) (sv_ge h)
    have h3 := h.dig 0 (by omega)
    have h4 := h.hd
    omega
  rw [Nat.one_mul] at hge
  have hlt := sv_lt h D.nd
  have hp2 : 0 < 2 ^ k := Nat.pow_pos (by decide)
  have hpl : 0 < 10 ^ s.length := Nat.pow_pos (by decide)
  have e10 : (5 : Nat) ^ k * 2 ^ k = 10 ^ k := by rw [← Nat.mul_pow]
  have ek : k = s.length + (δ - 1) := by have := hc.len; omega
  have split : 10 ^ k * 10 ^ D.nd = 10 ^ s.length * 10 ^ (D.nd + (δ - 1)) := by
    rw [← Nat.pow_add, ← Nat.pow_add]
    congr 1
    omega
  have mid : 5 ^ k * 10 ^ D.nd * 2 ^ k = 10 ^ s.length * 10 ^ (D.nd + (δ - 1)) := by
    rw [← split, ← e10, Nat.mul_assoc, Nat.mul_comm (10 ^ D.nd), ← Nat.mul_assoc]
  have mid2 : sv D D.nd * 10 ^ s.length * 2 ^ k = 10 ^ s.length * (sv D D.nd * 2 ^ k) := by
    rw [Nat.mul_comm (sv D D.nd), Nat.mul_assoc]
  unfold addN
  cases hb : pl D.d D.nd s 0
  · rw [if_neg (by decide)]
    have h5 := hlaw.2 hb
    constructor
    · have h6 : 5 ^ k * 10 ^ D.nd * 2 ^ k ≤ sv D D.nd * 10 ^ s.length * 2 ^ k := Nat.mul_le_mul_right _ h5
      rw [mid, mid2] at h6
      have h7 := Nat.le_of_mul_le_mul_left h6 hpl
      rw [show D.nd + δ - 1 = D.nd + (δ - 1) by omega]
      exact h7
    · rw [Nat.pow_add]
      exact Nat.lt_of_lt_of_le (Nat.mul_lt_mul_of_pos_right hlt hp2) (Nat.mul_le_mul_left _ (Nat.le_of_lt hc.high))
  · rw [if_pos rfl]
    have h5 := hlaw.1 hb
    constructor
    · refine Nat.le_trans ?_ (Nat.mul_le_mul hge hc.low)
      rw [← Nat.pow_add]
      exact Nat.pow_le_pow_right (by decide) (by omega)
    · have h6 : sv D D.nd * 10 ^ s.length * 2 ^ k < 5 ^ k * 10 ^ D.nd * 2 ^ k := Nat.mul_lt_mul_of_pos_right h5 hp2
      rw [mid, mid2] at h6
      exact Nat.lt_of_mul_lt_mul_left h6
end Go.Proofs.YtmfnkilohicapaaGreatDoor

/- Decimals in memory; trim. -/
namespace Go.Proofs.YtmfnkilohicapaaGreatDoor
open Go.RowKit

/-- A decimal in a block of its own. -/
structure DecAt (w : World) (b : Nat) (D : Dst) : Prop where
  dig : ∀ i, i < 800 → w.cell? ⟨b, i, none⟩ = some (.int .u8 (D.d i : Nat))
  nd : w.cell? ⟨b, 800, none⟩ = some (.int .i64 (D.nd : Nat))
  dp : w.cell? ⟨b, 801, none⟩ = some (.int .i64 D.dp)
  neg : w.cell? ⟨b, 802, none⟩ = some (.bool false)
  tr : w.cell? ⟨b, 803, none⟩ = some (.bool D.tr)
  frz : ∀ i, w.frozen? ⟨b, i, none⟩ = false
theorem addr_ne {b i j : Nat} (h : i ≠ j) : (⟨b, i, none⟩ : Addr) ≠ ⟨b, j, none⟩ := fun e => h (by injection e)
theorem cell_put {w : World} {b i j : Nat} {u v : Value} (h : w.cell? ⟨b, j, none⟩ = some u) : (w.setCell ⟨b, i, none⟩ v).cell? ⟨b, j, none⟩ = some (if j = i then v else u) := by
  by_cases e : j = i
  · rw [if_pos e, e]; rw [e] at h; exact World.cell?_setCell_same _ _ _ h
  · rw [if_neg e, World.cell?_setCell_other _ _ _ _ (addr_ne (Ne.symm e)), h]
theorem cell_off {w : World} {b i j : Nat} {u v : Value} (h : w.cell? ⟨b, j, none⟩ = some u) (e : j ≠ i) : (w.setCell ⟨b, i, none⟩ v).cell? ⟨b, j, none⟩ = some u := by
  rw [cell_put h, if_neg e]
theorem DecAt.drewN {w : World} {b : Nat} {D : Dst} (h : DecAt w b D) (n : Nat) : DecAt (w.drewN n) b D := ⟨h.dig, h.nd, h.dp, h.neg, h.tr, h.frz⟩
theorem DecAt.putDig {w : World} {b : Nat} {D : Dst} (h : DecAt w b D) (i v : Nat) (hi : i < 800) : DecAt (w.setCell ⟨b, i, none⟩ (.int .u8 (v : Nat))) b { D with d := fun j => if j = i then v else D.d j } := by
  refine ⟨fun j hj => ?_, cell_off h.nd (by omega), cell_off h.dp (by omega), cell_off h.neg (by omega), cell_off h.tr (by omega), fun j => by rw [World.frozen?_setCell]; exact h.frz j⟩
  rw [cell_put (h.dig j hj)]
  by_cases e : j = i
  · simp [e]
  · simp [e]
theorem DecAt.putNd {w : World} {b : Nat} {D : Dst} (h : DecAt w b D) (v : Nat) : DecAt (w.setCell ⟨b, 800, none⟩ (.int .i64 (v : Nat))) b { D with nd := v } :=
  ⟨fun j hj => cell_off (h.dig j hj) (by omega), by rw [cell_put h.nd, if_pos rfl], cell_off h.dp (by omega), cell_off h.neg (by omega), cell_off h.tr (by omega), fun j => by rw [World.frozen?_setCell]; exact h.frz j⟩
theorem DecAt.putDp {w : World} {b : Nat} {D : Dst} (h : DecAt w b D) (v : Int) : DecAt (w.setCell ⟨b, 801, none⟩ (.int .i64 v)) b { D with dp := v } :=
  ⟨fun j hj => cell_off (h.dig j hj) (by omega), cell_off h.nd (by omega), by rw [cell_put h.dp, if_pos rfl], cell_off h.neg (by omega), cell_off h.tr (by omega), fun j => by rw [World.frozen?_setCell]; exact h.frz j⟩
theorem DecAt.putTr {w : World} {b : Nat} {D : Dst} (h : DecAt w b D) (v : Bool) : DecAt (w.setCell ⟨b, 803, none⟩ (.bool v)) b { D with tr := v } :=
  ⟨fun j hj => cell_off (h.dig j hj) (by omega), cell_off h.nd (by omega), cell_off h.dp (by omega), cell_off h.neg (by omega), by rw [cell_put h.tr, if_pos rfl], fun j => by rw [World.frozen?_setCell]; exact h.frz j⟩
theorem below_drewN' {B : Nat} {a w : World} (h : Below B a w) (n : Nat) : Below B a (w.drewN n) := ⟨h.os, h.tape, h.output, h.size, h.block⟩
set_option maxRecDepth 100000 in
set_option maxHeartbeats 1000000 in
theorem trim_ (b : Nat) (D : Dst) (h1 : 1 ≤ D.nd) (h2 : D.nd ≤ 800) (h0 : D.d 0 ≠ 48) (w : World) (hD : DecAt w b D) :
    Calls Tryz.prog 140 #[.pointer (some ⟨b, 0, none⟩)] w fun e w' => e = .returned (.tuple #[]) ∧ DecAt w' b { D with nd := trimN D.d D.nd } ∧ Below b w w' := by
  have hpos := trimN_pos D.d h0 D.nd h1
  obtain ⟨T, hT⟩ : ∃ T, trimN D.d D.nd = T := ⟨_, rfl⟩
  rw [hT] at hpos ⊢
  have HT := Lib.hid hT
  have HD := Lib.hid hD
  clear hT hD
  go_enter Tryz.func140, Tryz.ntmps140
  go_wp2
  go_loopg [] D.nd (fun g wx => Hid (trimN D.d g = T) ∧ 1 ≤ g ∧ g ≤ 800 ∧ Hid (DecAt wx b { D with nd := g } ∧ Below b w wx))
  case atStart => exact ⟨HT, h1, h2, HD.out, Below.refl _ _⟩
  case round =>
    obtain ⟨ht, hg1, hg2, hd⟩ := hrel
    have c0 := hd.out.1.nd
    have c1 := hd.out.1.dig (gk - 1) (by omega)
    have f0 := hd.out.1.frz 800
    obtain ⟨g, rfl⟩ : ∃ g, gk = g + 1 := ⟨gk - 1, by omega⟩
    simp only [Nat.add_sub_cancel] at c0 c1
    have q1 : (0 : Int) < (((g + 1 : Nat)) : Int) := by omega
    by_cases h48 : D.d g = 48
    · have e48 : ((D.d g : Nat) : Int) = 48 := by omega
      rw [e48] at c1
      clear e48
      go_wp2
      go_quiet (fail)
      go_wp2
      go_roundg g
      case measure => omega
      case rel =>
        have ht' := ht.out
        have e : trimN D.d (g + 1) = trimN D.d g := by show (if D.d g = 48 then trimN D.d g else g + 1) = _; rw [if_pos h48]
        rw [e] at ht'
        have hg : 1 ≤ g := by
          have := trimN_le D.d g
          omega
        exact ⟨ht', hg, by omega, (hd.out.1.drewN _).putNd g, (below_drewN' hd.out.2 _).setCell (Nat.le_refl _) _⟩
    · have e48 : (((D.d g : Nat) : Int) == 48) = false := beq_eq_false_iff_ne.2 (by omega)
      go_wp2
      go_quiet (fail)
      go_wp2
      go_end0
      have ht' := ht.out
      have e : trimN D.d (g + 1) = g + 1 := by show (if D.d g = 48 then trimN D.d g else g + 1) = _; rw [if_neg h48]
      rw [e] at ht'
      rw [← ht']
      exact ⟨rfl, hd.out.1.drewN _, below_drewN' hd.out.2 _⟩
end Go.Proofs.YtmfnkilohicapaaGreatDoor
