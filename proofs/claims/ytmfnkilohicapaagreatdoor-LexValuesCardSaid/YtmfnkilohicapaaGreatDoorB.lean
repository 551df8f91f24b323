/- The small functions of package lex on one byte, and run: each returns what its plain twin says; memory stays. -/
import Derived.Test.YtmfnkilohicapaaGreatDoorA
import Derived.Shelf.Abstract
namespace Go.Proofs.YtmfnkilohicapaaGreatDoor
open Go.RowKit

theorem isLow_iff (c : UInt8) : isLow c = true ↔ 97 ≤ (c.toNat : Int) ∧ (c.toNat : Int) ≤ 122 := by simp [isLow, toInt_le]
theorem isHex_iff (c : UInt8) : isHex c = true ↔ (48 ≤ (c.toNat : Int) ∧ (c.toNat : Int) ≤ 57) ∨ (97 ≤ (c.toNat : Int) ∧ (c.toNat : Int) ≤ 102) ∨ (65 ≤ (c.toNat : Int) ∧ (c.toNat : Int) ≤ 70) := by
  simp [isHex, isDig_iff, toInt_le, or_assoc]
theorem eq_toInt (a b : UInt8) : a = b ↔ (a.toNat : Int) = (b.toNat : Int) := by
  rw [← UInt8.toNat_inj]; omega
theorem isLet_iff (c : UInt8) : isLet c = true ↔ (97 ≤ (c.toNat : Int) ∧ (c.toNat : Int) ≤ 122) ∨ (65 ≤ (c.toNat : Int) ∧ (c.toNat : Int) ≤ 90) ∨ (c.toNat : Int) = 95 ∨ (c.toNat : Int) = 58 := by
  simp [isLet, isLow_iff, toInt_le, or_assoc, eq_toInt]

set_option maxHeartbeats 400000 in
theorem lex_letter (c : UInt8) (w : World) : Calls Tryz.prog 44 #[.int .u8 c.toNat] w fun e w' => e = .returned (.bool (isLet c)) ∧ w = w' := by
  have hi := isLet_iff c
  have Hi := Lib.hid hi
  clear hi
  go_enter Tryz.func44, Tryz.ntmps44
  go_wp2
  all_goals
    go_ret
    refine ⟨ret_bool ?_, rfl⟩
    rw [Bool.eq_iff_iff, Hi.out]
    simp
    try omega
set_option maxHeartbeats 400000 in
theorem lex_low (c : UInt8) (w : World) : Calls Tryz.prog 38 #[.int .u8 c.toNat] w fun e w' => e = .returned (.bool (isLow c)) ∧ w = w' := by
  have hi := isLow_iff c
  have Hi := Lib.hid hi
  clear hi
  go_enter Tryz.func38, Tryz.ntmps38
  go_wp2
  all_goals
    go_ret
    refine ⟨ret_bool ?_, rfl⟩
    rw [Bool.eq_iff_iff, Hi.out]
    simp
    try omega
set_option maxHeartbeats 400000 in
theorem ref_digit (c : UInt8) (w : World) : Calls Tryz.prog 40 #[.int .u8 c.toNat] w fun e w' => e = .returned (.bool (isDig c)) ∧ w = w' := by
  have hi := isDig_iff c
  have Hi := Lib.hid hi
  clear hi
  go_enter Tryz.func40, Tryz.ntmps40
  go_wp2
  all_goals
    go_ret
    refine ⟨ret_bool ?_, rfl⟩
    rw [Bool.eq_iff_iff, Hi.out]
    simp
    try omega
set_option maxHeartbeats 400000 in
theorem ref_letter (c : UInt8) (w : World) : Calls Tryz.prog 64 #[.int .u8 c.toNat] w fun e w' => e = .returned (.bool (isLet c)) ∧ w = w' := by
  have hi := isLet_iff c
  have Hi := Lib.hid hi
  clear hi
  go_enter Tryz.func64, Tryz.ntmps64
  go_wp2
  all_goals
    go_ret
    refine ⟨ret_bool ?_, rfl⟩
    rw [Bool.eq_iff_iff, Hi.out]
    simp
    try omega
set_option maxHeartbeats 400000 in
theorem lex_hex (c : UInt8) (w : World) : Calls Tryz.prog 74 #[.int .u8 c.toNat] w fun e w' => e = .returned (.bool (isHex c)) ∧ w = w' := by
  have hi := isHex_iff c
  have Hi := Lib.hid hi
  clear hi
  have hd := isDig_iff c
  have Hd := Lib.hid hd
  clear hd
  cases h : isDig c
  all_goals
    have Hc := Lib.hid h
    clear h
    go_enter Tryz.func74, Tryz.ntmps74
    go_wp2_with (go_at_call 37; refine (lex_digit _ _).mono ?_; rintro e w' ⟨rfl, rfl⟩; rw [Hc.out])
  all_goals
    go_ret
    refine ⟨ret_bool ?_, rfl⟩
    have hd := Hd.out
    rw [Hc.out] at hd
    rw [Bool.eq_iff_iff, Hi.out]
    simp at hd ⊢
    try omega
set_option maxHeartbeats 400000 in
theorem ref_hex (c : UInt8) (w : World) : Calls Tryz.prog 90 #[.int .u8 c.toNat] w fun e w' => e = .returned (.bool (isHex c)) ∧ w = w' := by
  have hi := isHex_iff c
  have Hi := Lib.hid hi
  clear hi
  have hd := isDig_iff c
  have Hd := Lib.hid hd
  clear hd
  cases h : isDig c
  all_goals
    have Hc := Lib.hid h
    clear h
    go_enter Tryz.func90, Tryz.ntmps90
    go_wp2_with (go_at_call 40; refine (ref_digit _ _).mono ?_; rintro e w' ⟨rfl, rfl⟩; rw [Hc.out])
  all_goals
    go_ret
    refine ⟨ret_bool ?_, rfl⟩
    have hd := Hd.out
    rw [Hc.out] at hd
    rw [Bool.eq_iff_iff, Hi.out]
    simp at hd ⊢
    try omega
set_option maxHeartbeats 400000 in
theorem lex_idc (c : UInt8) (w : World) : Calls Tryz.prog 45 #[.int .u8 c.toNat] w fun e w' => e = .returned (.bool (isIdc c)) ∧ w = w' := by
  cases h : isLet c <;> cases h2 : isDig c
  all_goals
    have Hc := Lib.hid h
    have Hc2 := Lib.hid h2
    clear h h2
    go_enter Tryz.func45, Tryz.ntmps45
    go_wp2_with (first | (go_at_call 37; refine (lex_digit _ _).mono ?_; rintro e w' ⟨rfl, rfl⟩; rw [Hc2.out]) | (go_at_call 44; refine (lex_letter _ _).mono ?_; rintro e w' ⟨rfl, rfl⟩; rw [Hc.out]))
    go_ret
    exact ⟨ret_bool (by simp [isIdc, Hc.out, Hc2.out]), rfl⟩

theorem enters37 : Enters Tryz.prog 37 := enters_of Tryz.func37 (by kernel_rfl) rfl
theorem enters38 : Enters Tryz.prog 38 := enters_of Tryz.func38 (by kernel_rfl) rfl
theorem enters45 : Enters Tryz.prog 45 := enters_of Tryz.func45 (by kernel_rfl) rfl
theorem enters74 : Enters Tryz.prog 74 := enters_of Tryz.func74 (by kernel_rfl) rfl

set_option maxHeartbeats 400000 in
theorem lex_run (f : FuncId) (p : UInt8 → Bool) (hp : ∀ (c : UInt8) (w : World), Calls Tryz.prog f #[.int .u8 c.toNat] w fun e w' => e = .returned (.bool (p c)) ∧ w = w')
    (he : Enters Tryz.prog f) (s : ByteArray) (a : Int) (h0 : 0 ≤ a) (w : World) (hs : s.size ≤ 9223372036854775807) (ha : a ≤ s.size) :
    Calls Tryz.prog 36 #[.string s, .int .i64 a, .func (.func f) #[] #[]] w fun e w' => e = .returned (.int .i64 (rl p (s.data.toList.drop a.toNat))) ∧ w = w' := by
  obtain ⟨at_, rfl⟩ := Int.eq_ofNat_of_zero_le h0
  rw [Int.toNat_natCast]
  have Hp := Lib.hid hp
  clear hp
  have he' : ∀ args w, (callFunc f args).run Tryz.prog w = .ok (.enter f args) w := he
  clear he
  go_enter Tryz.func36, Tryz.ntmps36
  go_wp2
  go_loop [7] (fun n => ∃ k : Nat, at_ + k ≤ s.size ∧ k + rl p (s.data.toList.drop (at_ + k)) = rl p (s.data.toList.drop at_) ∧ n = .int .i64 k) (fun n => s.size - (intOf n).toNat)
  case atStart => exact ⟨0, by omega, by simp, rfl⟩
  case round =>
    obtain ⟨k, hk, hr, rfl⟩ := hrel
    have Hr := Lib.hid hr
    clear hr
    by_cases hlt : at_ + k < s.size
    · have hlt' : (at_ : Int) + (k : Int) < (s.size : Int) := by omega
      obtain ⟨c, hx⟩ : ∃ c, s[at_ + k] = c := ⟨_, rfl⟩
      have Hl := Lib.hid (get_list s _ hlt)
      rw [hx] at Hl
      cases hc : p c
      · have Hc := Lib.hid hc
        clear hc
        go_wp2_with ((with_reducible refine (Hp.out _ _).mono ?_); rintro e w' ⟨rfl, rfl⟩; rw [Hc.out])
        go_ret
        have h0 := rl_drop_no p _ _ _ Hl.out Hc.out
        have h1 := Hr.out
        exact ⟨ret_int (by omega), rfl⟩
      · have Hc := Lib.hid hc
        clear hc
        go_wp2_with ((with_reducible refine (Hp.out _ _).mono ?_); rintro e w' ⟨rfl, rfl⟩; rw [Hc.out])
        go_round
        case rel =>
          have h0 := rl_drop_yes p _ _ _ Hl.out Hc.out
          have h1 := Hr.out
          exact ⟨k + 1, by omega, by rw [show at_ + (k + 1) = at_ + k + 1 by omega]; omega, by go_num⟩
        case measure => simp [intOf]; omega
    · have hlt' : ¬ (at_ : Int) + (k : Int) < (s.size : Int) := by omega
      go_wp2
      go_ret
      have h0 := rl_drop_end p s.data.toList (at_ + k) (by rw [← size_len]; omega)
      have h1 := Hr.out
      exact ⟨ret_int (by omega), rfl⟩
theorem run_dig (s : ByteArray) (a : Int) (h0 : 0 ≤ a) (w : World) (hs : s.size ≤ 9223372036854775807) (ha : a ≤ s.size) :
    Calls Tryz.prog 36 #[.string s, .int .i64 a, .func (.func 37) #[] #[]] w fun e w' => e = .returned (.int .i64 (rl isDig (s.data.toList.drop a.toNat))) ∧ w = w' :=
  lex_run 37 isDig lex_digit enters37 s a h0 w hs ha
theorem run_low (s : ByteArray) (a : Int) (h0 : 0 ≤ a) (w : World) (hs : s.size ≤ 9223372036854775807) (ha : a ≤ s.size) :
    Calls Tryz.prog 36 #[.string s, .int .i64 a, .func (.func 38) #[] #[]] w fun e w' => e = .returned (.int .i64 (rl isLow (s.data.toList.drop a.toNat))) ∧ w = w' :=
  lex_run 38 isLow lex_low enters38 s a h0 w hs ha
theorem run_idc (s : ByteArray) (a : Int) (h0 : 0 ≤ a) (w : World) (hs : s.size ≤ 9223372036854775807) (ha : a ≤ s.size) :
    Calls Tryz.prog 36 #[.string s, .int .i64 a, .func (.func 45) #[] #[]] w fun e w' => e = .returned (.int .i64 (rl isIdc (s.data.toList.drop a.toNat))) ∧ w = w' :=
  lex_run 45 isIdc lex_idc enters45 s a h0 w hs ha
theorem run_hex (s : ByteArray) (a : Int) (h0 : 0 ≤ a) (w : World) (hs : s.size ≤ 9223372036854775807) (ha : a ≤ s.size) :
    Calls Tryz.prog 36 #[.string s, .int .i64 a, .func (.func 74) #[] #[]] w fun e w' => e = .returned (.int .i64 (rl isHex (s.data.toList.drop a.toNat))) ∧ w = w' :=
  lex_run 74 isHex lex_hex enters74 s a h0 w hs ha
end Go.Proofs.YtmfnkilohicapaaGreatDoor
