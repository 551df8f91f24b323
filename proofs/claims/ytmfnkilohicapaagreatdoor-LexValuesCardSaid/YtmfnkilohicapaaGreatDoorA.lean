/- Small words that all texts of this claim use: bytes of a text, digits, letters, and how long a run of bytes is. No condition. -/
import Derived.Test.YtmfnkilohicapaaGreatDoorProg
import Derived.WalkKit
import Derived.WalkSpells
import Derived.WalkLawsBesides
import Derived.KernelRfl
import Derived.Lib.Hide
import Derived.Lib.Strings
import Derived.Deep.LoopGhost
import Derived.Deep.QuietTactic
import Derived.BigQuiet
namespace Go.Proofs.YtmfnkilohicapaaGreatDoor
open Go.RowKit
theorem ret_int {k : IntKind} {a b : Int} (h : a = b) : Ending.returned (.int k a) = .returned (.int k b) := by rw [h]
theorem ret_bool {a b : Bool} (h : a = b) : Ending.returned (.bool a) = .returned (.bool b) := by rw [h]

/-- A digit. -/
def isDig (c : UInt8) : Bool := 48 ≤ c && c ≤ 57
def isHex (c : UInt8) : Bool := isDig c || (97 ≤ c && c ≤ 102) || (65 ≤ c && c ≤ 70)
def isLow (c : UInt8) : Bool := 97 ≤ c && c ≤ 122
def isLet (c : UInt8) : Bool := isLow c || (65 ≤ c && c ≤ 90) || c == 95 || c == 58
def isIdc (c : UInt8) : Bool := isLet c || isDig c

/-- How many bytes of a kind stand ahead. -/
def rl (p : UInt8 → Bool) : List UInt8 → Nat
  | [] => 0
  | c :: r => if p c then rl p r + 1 else 0

theorem rl_le (p : UInt8 → Bool) (l : List UInt8) : rl p l ≤ l.length := by
  induction l with
  | nil => simp [rl]
  | cons c r ih => simp only [rl]; split <;> simp <;> omega
theorem rl_drop_yes (p : UInt8 → Bool) (l : List UInt8) (k : Nat) (c : UInt8) (h : l[k]? = some c) (hp : p c = true) : rl p (l.drop k) = rl p (l.drop (k + 1)) + 1 := by
  obtain ⟨hk, e⟩ := List.getElem?_eq_some_iff.1 h
  rw [List.drop_eq_getElem_cons hk, e]; simp [rl, hp]
theorem rl_drop_no (p : UInt8 → Bool) (l : List UInt8) (k : Nat) (c : UInt8) (h : l[k]? = some c) (hp : p c = false) : rl p (l.drop k) = 0 := by
  obtain ⟨hk, e⟩ := List.getElem?_eq_some_iff.1 h
  rw [List.drop_eq_getElem_cons hk, e]; simp [rl, hp]
theorem rl_drop_end (p : UInt8 → Bool) (l : List UInt8) (k : Nat) (h : l.length ≤ k) : rl p (l.drop k) = 0 := by
  rw [List.drop_of_length_le h]; rfl
theorem size_len (s : ByteArray) : s.size = s.data.toList.length := Array.length_toList.symm
theorem get_list (s : ByteArray) (k : Nat) (h : k < s.size) : s.data.toList[k]? = some s[k] := by
  rw [List.getElem?_eq_getElem (by rw [← size_len]; exact h)]; rfl

theorem toInt_le (a b : UInt8) : (a ≤ b) ↔ (a.toNat : Int) ≤ (b.toNat : Int) := by rw [UInt8.le_iff_toNat_le]; omega
theorem isDig_iff (c : UInt8) : isDig c = true ↔ 48 ≤ (c.toNat : Int) ∧ (c.toNat : Int) ≤ 57 := by
  simp [isDig, toInt_le]

set_option maxHeartbeats 400000 in
theorem lex_digit (c : UInt8) (w : World) : Calls Tryz.prog 37 #[.int .u8 c.toNat] w fun e w' => e = .returned (.bool (isDig c)) ∧ w = w' := by
  cases h : isDig c
  · have h' : ¬ (48 ≤ (c.toNat : Int) ∧ (c.toNat : Int) ≤ 57) := by rw [← isDig_iff, h]; simp
    by_cases h1 : 48 ≤ (c.toNat : Int)
    · have h2 : ¬ (c.toNat : Int) ≤ 57 := fun h2 => h' ⟨h1, h2⟩
      clear h'
      go_enter Tryz.func37, Tryz.ntmps37
      go_wp2
      go_ret
      exact ⟨rfl, rfl⟩
    · clear h'
      go_enter Tryz.func37, Tryz.ntmps37
      go_wp2
      go_ret
      exact ⟨rfl, rfl⟩
  · obtain ⟨h1, h2⟩ := (isDig_iff c).1 h
    go_enter Tryz.func37, Tryz.ntmps37
    go_wp2
    go_ret
    exact ⟨rfl, rfl⟩
end Go.Proofs.YtmfnkilohicapaaGreatDoor
