/- readFloat at a hexadecimal text. -/
import Derived.Test.YtmfnkilohicapaaGreatDoorDn
namespace Go.Proofs.YtmfnkilohicapaaGreatDoor
open Go.RowKit

/-- A text '0x', hexadecimal digits, 'p0'. -/
structure HText (x : ByteArray) (H : List UInt8) : Prop where
  size : x.size ≤ 140737488355328
  b0 : x.data.toList[0]? = some 48
  b1 : ∃ b : UInt8, (b = 120 ∨ b = 88) ∧ x.data.toList[1]? = some b
  some_ : H ≠ []
  hex : ∀ c ∈ H, isHex c = true
  dat : ∀ (k : Nat) c, H[k]? = some c → x.data.toList[2 + k]? = some c
  p : x.data.toList[2 + H.length]? = some 112
  z : x.data.toList[2 + H.length + 1]? = some 48
  len : x.size = 2 + H.length + 2
theorem htext_of {x : ByteArray} (h : IsHexText x) : ∃ H, HText x H := by
  obtain ⟨b, H, hb, h1, h2, h3, h4⟩ := h
  have e1 : x.data.toList = [48, b] ++ (H ++ [112, 48]) := by rw [h4]; rfl
  have e2 : x.data.toList = ([48, b] ++ H) ++ [112, 48] := by rw [h4]; simp
  have hsz : x.size = x.data.toList.length := size_len x
  refine ⟨H, ?_, by rw [h4]; rfl, ⟨b, hb, by rw [h4]; rfl⟩, h1, h2, fun k c hk => ?_, ?_, ?_, ?_⟩
  · rw [hsz, h4]; simp; omega
  · rw [e1, get_app k (by simp)]
    obtain ⟨hk2, _⟩ := List.getElem?_eq_some_iff.1 hk
    rw [List.getElem?_append_left hk2]; exact hk
  · rw [e2, get_app 0 (by simp; omega)]; rfl
  · rw [e2, get_app 1 (by simp; omega)]; rfl
  · rw [hsz, h4]; simp; omega
/-- How the reading stands: mantissa, digits, digits in the mantissa, was one cut off? -/
structure Hst where
  m : Int
  nd : Nat
  nm : Nat
  z : Nat
  tr : Bool
/-- A letter's value. -/
def hlow (c : UInt8) : Int := bits .or .u8 (c.toNat : Nat) 32
def hstep (s : Hst) (c : UInt8) : Hst :=
  if isDig c then
    (if c = 48 ∧ s.nd = 0 then { s with z := s.z + 1 }
    else if s.nm < 16 then { s with nd := s.nd + 1, m := IntKind.u64.wrap (IntKind.u64.wrap (s.m * 16) + ((c.toNat : Int) - 48)), nm := s.nm + 1 }
    else { s with nd := s.nd + 1, tr := s.tr || (c != 48) })
  else if s.nm < 16 then { s with nd := s.nd + 1, m := IntKind.u64.wrap (IntKind.u64.wrap (s.m * 16) + (hlow c - 97 + 10)), nm := s.nm + 1 }
  else { s with nd := s.nd + 1, tr := true }
def hfold (H : List UInt8) : Hst := H.foldl hstep ⟨0, 0, 0, 0, false⟩
theorem hfold_snoc (H : List UInt8) (c : UInt8) : hfold (H ++ [c]) = hstep (hfold H) c := by
  unfold hfold; rw [List.foldl_append]; rfl
theorem hfold_inv_aux (H : List UInt8) : ∀ (s : Hst) (n : Nat), s.nm ≤ 16 → s.nm ≤ s.nd → s.nd + s.z = n → (H.foldl hstep s).nm ≤ 16 ∧ (H.foldl hstep s).nm ≤ (H.foldl hstep s).nd ∧ (H.foldl hstep s).nd + (H.foldl hstep s).z = n + H.length := by
  induction H with
  | nil => intro s n h1 h2 h3; exact ⟨h1, h2, h3⟩
  | cons c r ih =>
    intro s n h1 h2 h3
    have hs : (hstep s c).nm ≤ 16 ∧ (hstep s c).nm ≤ (hstep s c).nd ∧ (hstep s c).nd + (hstep s c).z = n + 1 := by
      unfold hstep
      repeat' split
      all_goals
        refine ⟨?_, ?_, ?_⟩ <;> simp <;> omega
    obtain ⟨a1, a2, a3⟩ := ih (hstep s c) (n + 1) hs.1 hs.2.1 hs.2.2
    refine ⟨a1, a2, ?_⟩
    show (r.foldl hstep (hstep s c)).nd + (r.foldl hstep (hstep s c)).z = n + (r.length + 1)
    omega
theorem hfold_inv (H : List UInt8) : (hfold H).nm ≤ 16 ∧ (hfold H).nm ≤ (hfold H).nd ∧ (hfold H).nd + (hfold H).z = H.length := by
  have := hfold_inv_aux H ⟨0, 0, 0, 0, false⟩ 0 (by decide) (by decide) rfl
  rw [Nat.zero_add] at this
  exact this
theorem hex_letters : (List.range 256).all (fun n => (!isHex (UInt8.ofNat n)) || isDig (UInt8.ofNat n) || (decide (97 ≤ hlow (UInt8.ofNat n)) && decide (hlow (UInt8.ofNat n) ≤ 102) && decide (57 < n) && decide (n ≠ 95) && decide (n ≠ 46))) = true := by kernel_rfl
theorem hex_letter (c : UInt8) (h : isHex c = true) (hd : isDig c = false) : ∃ lo : Nat, hlow c = lo ∧ 97 ≤ lo ∧ lo ≤ 102 ∧ 57 < (c.toNat : Int) ∧ (c.toNat : Int) ≠ 95 ∧ (c.toNat : Int) ≠ 46 := by
  have key := List.all_eq_true.1 hex_letters c.toNat (List.mem_range.2 c.toNat_lt)
  have hc : UInt8.ofNat c.toNat = c := by simp
  rw [hc, h, hd] at key
  simp only [Bool.not_true, Bool.false_or, Bool.and_eq_true, decide_eq_true_eq] at key
  obtain ⟨⟨⟨⟨a1, a2⟩, a3⟩, a4⟩, a5⟩ := key
  exact ⟨(hlow c).toNat, by omega, by omega, by omega, by omega, by omega, by omega⟩
end Go.Proofs.YtmfnkilohicapaaGreatDoor
