/- atofHex: it answers, whatever the memory. -/
import Derived.Test.YtmfnkilohicapaaGreatDoorDp
namespace Go.Proofs.YtmfnkilohicapaaGreatDoor
open Go.RowKit

theorem bits_ex (op : BinOp) (a b : Int) : ∃ X : Nat, bits op .u64 a b = (X : Int) ∧ X < 18446744073709551616 := by
  have : ∃ y, bits op .u64 a b = IntKind.u64.wrap y := by
    cases op <;> exact ⟨_, rfl⟩
  obtain ⟨y, hy⟩ := this
  rw [hy]
  exact u64_nat y
theorem fold_nat (H : List UInt8) : ∀ s : Hst, (∃ M : Nat, s.m = M ∧ M < 18446744073709551616) → ∃ M : Nat, (H.foldl hstep s).m = M ∧ M < 18446744073709551616 := by
  induction H with
  | nil => intro s h; exact h
  | cons c r ih =>
    intro s h
    refine ih (hstep s c) ?_
    unfold hstep
    repeat' split
    all_goals first
      | exact h
      | exact u64_nat _
theorem hfold_nat (H : List UInt8) : ∃ M : Nat, (hfold H).m = M ∧ M < 18446744073709551616 := fold_nat H _ ⟨0, rfl, by decide⟩
/-- Shifting left until 54 bits are reached. -/
theorem up_ex (m : Nat) : ∃ J, J ≤ 54 ∧ (m = 0 ∨ 18014398509481984 ≤ m * 2 ^ J) ∧ ∀ j, j < J → m ≠ 0 ∧ m * 2 ^ j < 18014398509481984 := by
  by_cases h0 : m = 0
  · exact ⟨0, by omega, Or.inl h0, fun j hj => by omega⟩
  · obtain ⟨J, h1, h2⟩ := least_of (p := fun J => 18014398509481984 ≤ m * 2 ^ J) ⟨54, by
      have : 1 * 2 ^ 54 ≤ m * 2 ^ 54 := Nat.mul_le_mul_right _ (by omega)
      simpa using this⟩
    refine ⟨J, ?_, Or.inr h1, fun j hj => ⟨h0, Nat.lt_of_not_le (h2 j hj)⟩⟩
    refine Nat.le_of_not_lt (fun hl => h2 54 hl ?_)
    have : 1 * 2 ^ 54 ≤ m * 2 ^ 54 := Nat.mul_le_mul_right _ (by omega)
    simpa using this
/-- Halving, the lost bit kept. -/
def half (m : Nat) : Nat := (m / 2) ||| (m &&& 1)
def halves (m : Nat) : Nat → Nat
  | 0 => m
  | j + 1 => half (halves m j)
theorem half_lt {m L : Nat} (h : m < 2 ^ (L + 2)) : half m < 2 ^ (L + 1) := by
  unfold half
  refine Nat.or_lt_two_pow ?_ ?_
  · rw [Nat.pow_succ] at h; omega
  · have : m &&& 1 ≤ 1 := Nat.and_le_right
    have : 2 ≤ 2 ^ (L + 1) := by
      have := Nat.pow_le_pow_right (show 0 < 2 by decide) (show 1 ≤ L + 1 by omega)
      simpa using this
    omega
theorem down_ex (m : Nat) (h : m < 18446744073709551616) : ∃ J, J ≤ 9 ∧ halves m J < 36028797018963968 ∧ ∀ j, j < J → 36028797018963968 ≤ halves m j := by
  have hj : ∀ j, j ≤ 9 → halves m j < 2 ^ (64 - j) := by
    intro j
    induction j with
    | zero => intro _; exact h
    | succ j ih =>
      intro hj
      have h1 := ih (by omega)
      have := half_lt (L := 62 - j) (m := halves m j) (by rw [show 62 - j + 2 = 64 - j by omega]; exact h1)
      rw [show 64 - (j + 1) = 62 - j + 1 by omega]
      exact this
  obtain ⟨J, h1, h2⟩ := least_of (p := fun J => halves m J < 36028797018963968) ⟨9, hj 9 (Nat.le_refl _)⟩
  exact ⟨J, Nat.le_of_not_lt (fun hl => h2 9 hl (hj 9 (Nat.le_refl _))), h1, fun j hj => Nat.le_of_not_lt (h2 j hj)⟩
theorem bits_or_nat (a b : Nat) (ha : a < 18446744073709551616) (hb : b < 18446744073709551616) : bits .or .u64 (a : Int) (b : Int) = ((a ||| b : Nat) : Int) := by
  have hx : a ||| b < 2 ^ 64 := Nat.or_lt_two_pow (by omega) (by omega)
  have h1 : (BitVec.ofInt 64 (a : Int)).toNat = a := by
    rw [BitVec.ofInt_natCast, BitVec.toNat_ofNat]; exact Nat.mod_eq_of_lt (by omega)
  have h2 : (BitVec.ofInt 64 (b : Int)).toNat = b := by
    rw [BitVec.ofInt_natCast, BitVec.toNat_ofNat]; exact Nat.mod_eq_of_lt (by omega)
  show IntKind.u64.wrap ((BitVec.ofInt 64 (a : Int) ||| BitVec.ofInt 64 (b : Int)).toNat : Int) = _
  rw [BitVec.toNat_or, h1, h2, u64_lt (by omega) (by omega)]
theorem half_bits (m : Nat) (h : m < 18446744073709551616) : bits .or .u64 ((m : Int) / 2) (bits .and .u64 (m : Int) 1) = ((half m : Nat) : Int) := by
  have e := bits_and_u64_nat m 1 h (by decide)
  have e2 : bits .and .u64 (m : Int) 1 = ((m &&& 1 : Nat) : Int) := e
  have hle : m &&& 1 ≤ 1 := Nat.and_le_right
  rw [e2, show (m : Int) / 2 = ((m / 2 : Nat) : Int) by omega, bits_or_nat _ _ (by omega) (by omega)]
  rfl
end Go.Proofs.YtmfnkilohicapaaGreatDoor
