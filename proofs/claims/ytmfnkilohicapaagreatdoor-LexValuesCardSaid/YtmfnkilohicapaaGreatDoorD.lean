/- A number that stands ahead: package lex's 'number' and the reference's: each returns the length that the plain function numLen says; memory stays. -/
import Derived.Test.YtmfnkilohicapaaGreatDoorB
import Derived.Deep.DeepCutAuto
import Derived.Lib.Slices
import Derived.Lib.Walk
import Derived.Laws.Strings3
namespace Go.Proofs.YtmfnkilohicapaaGreatDoor
open Go.RowKit

/-- Does one of two bytes stand at a place? -/
def isAt (l : List UInt8) (n : Nat) (a b : Int) : Bool := match l[n]? with
  | some c => (c.toNat : Int) == a || (c.toNat : Int) == b
  | none => false
theorem isAt_in (s : ByteArray) (n : Nat) (a b : Int) (h : n < s.size) : isAt s.data.toList n a b = ((s[n].toNat : Int) == a || (s[n].toNat : Int) == b) := by
  unfold isAt; rw [get_list s n h]
theorem isAt_out (s : ByteArray) (n : Nat) (a b : Int) (h : s.size ≤ n) : isAt s.data.toList n a b = false := by
  unfold isAt; rw [List.getElem?_eq_none (by rw [← size_len]; exact h)]

/-- Behind 0x: how many hexadecimal digits; 0: no such prefix. -/
def hexLen (l : List UInt8) : Nat := if isAt l 0 48 48 && isAt l 1 120 88 then rl isHex (l.drop 2) else 0
def fracLen (l : List UInt8) (n : Nat) : Nat := if isAt l n 46 46 then 1 + rl isDig (l.drop (n + 1)) else 0
def expAt (l : List UInt8) (n : Nat) : Nat := if isAt l (n + 1) 43 45 then n + 2 else n + 1
def expLen (l : List UInt8) (n : Nat) : Nat :=
  if isAt l n 101 69 then (if 0 < rl isDig (l.drop (expAt l n)) then expAt l n + rl isDig (l.drop (expAt l n)) else n) else n
/-- Digits, perhaps a point and digits: 0 where no digit stands there. -/
def mantLen (l : List UInt8) : Nat := if rl isDig l = 0 ∧ fracLen l (rl isDig l) ≤ 1 then 0 else rl isDig l + fracLen l (rl isDig l)
def numLen (l : List UInt8) : Nat :=
  if 0 < hexLen l then 2 + hexLen l else if mantLen l = 0 then 0 else expLen l (mantLen l)

theorem rl_drop_le (p : UInt8 → Bool) (s : ByteArray) (n : Nat) (h : n ≤ s.size) : n + rl p (s.data.toList.drop n) ≤ s.size := by
  have := rl_le p (s.data.toList.drop n)
  rw [List.length_drop, ← size_len] at this; omega
theorem isAt_lt (s : ByteArray) (n : Nat) (a b : Int) (h : isAt s.data.toList n a b = true) : n < s.size := by
  rcases Nat.lt_or_ge n s.size with hlt | hge
  · exact hlt
  · rw [isAt_out s n a b hge] at h; cases h

set_option maxHeartbeats 1000000 in
theorem stringslite_HasPrefix (s p : ByteArray) (w : World) :
    Calls Tryz.prog 62 #[.string s, .string p] w fun e w' => e = .returned (.bool (Lib.hasPrefix s.data.toList p.data.toList)) ∧ w = w' := by
  rw [← Lib.hasPrefix_of_take, ← Lib.size_eq, ← Lib.size_eq]
  go_enter Tryz.func62, Tryz.ntmps62
  go_wp2
  · rename_i h
    go_ret
    refine ⟨?_, rfl⟩
    show Ending.returned (Value.bool ((s.extract 0 p.size).toList == p.toList)) = _
    rw [Lib.extract_toList, Lib.toList_data]
    simp [h]
  · rename_i h
    go_ret
    refine ⟨?_, rfl⟩
    show Ending.returned (Value.bool false) = _
    simp [h]
set_option maxHeartbeats 1000000 in
theorem strings_HasPrefix (s p : ByteArray) (w : World) :
    Calls Tryz.prog 32 #[.string s, .string p] w fun e w' => e = .returned (.bool (Lib.hasPrefix s.data.toList p.data.toList)) ∧ w = w' := by
  go_enter Tryz.func32, Tryz.ntmps32
  go_wp2_with (go_at_call 62; refine (stringslite_HasPrefix _ _ _).mono ?_; rintro e w' ⟨rfl, rfl⟩)
  go_ret
  exact ⟨rfl, rfl⟩
end Go.Proofs.YtmfnkilohicapaaGreatDoor

/- Package lex's 'number': the length of the number that stands ahead, as numLen says; memory stays. -/
namespace Go.Proofs.YtmfnkilohicapaaGreatDoor
open Go.RowKit

theorem pre_0x (l : List UInt8) : (Lib.hasPrefix l [48, 120] || Lib.hasPrefix l [48, 88]) = (isAt l 0 48 48 && isAt l 1 120 88) := by
  rcases l with _ | ⟨a, _ | ⟨b, r⟩⟩
  · rfl
  · simp [Lib.hasPrefix, isAt, List.isPrefixOf]
  · simp only [Lib.hasPrefix, isAt, List.isPrefixOf, List.getElem?_cons_zero, List.getElem?_cons_succ, Bool.and_true]
    rw [Bool.eq_iff_iff]
    simp [eq_toInt]
    omega

/-- A walk's test 's[n] == a' behind 'n < len(s)'. -/
theorem isAt_one (s : ByteArray) (n : Nat) (a : Int) (h : n < s.size) : isAt s.data.toList n a a = ((s[n].toNat : Int) == a) := by
  rw [isAt_in s n a a h, Bool.or_self]
theorem val_bool {a b : Bool} (h : a = b) : Value.bool a = .bool b := by rw [h]
set_option maxHeartbeats 4000000 in
set_option maxRecDepth 100000 in
theorem lex_number (s : ByteArray) (w : World) (hs : s.size ≤ 140737488355328) :
    Calls Tryz.prog 46 #[.string s] w fun e w' => e = .returned (.int .i64 (numLen s.data.toList)) ∧ w = w' := by
  have hpre := pre_0x s.data.toList
  have Hpre := Lib.hid hpre
  clear hpre
  go_enter Tryz.func46, Tryz.ntmps46
  go_upto_region 1 with fail
  go_cut [14] (fun v wc => v = .bool (isAt s.data.toList 0 48 48 && isAt s.data.toList 1 120 88) ∧ w = wc)
  case first =>
    cases h1 : Lib.hasPrefix s.data.toList [48, 120] <;> cases h2 : Lib.hasPrefix s.data.toList [48, 88]
    all_goals
      have H1 := Lib.hid h1
      have H2 := Lib.hid h2
      clear h1 h2
      go_wp2_with (go_at_call 32; refine (strings_HasPrefix _ _ _).mono ?_; rintro e w' ⟨rfl, rfl⟩; first | rw [H1.out] | rw [H2.out])
      go_meet
      exact ⟨val_bool (by rw [← Hpre.out, H1.out, H2.out]; rfl), rfl⟩
  case rest =>
    obtain ⟨rfl, rfl⟩ := hcut
    have hpre := Hpre.out
    clear Hpre
    go_upto_if 14 with fail
    go_cut [3] (fun v wc => hexLen s.data.toList = 0 ∧ w = wc)
    case first =>
      cases hb : (isAt s.data.toList 0 48 48 && isAt s.data.toList 1 120 88)
      · rw [hb] at hpre
        have hz : hexLen s.data.toList = 0 := by unfold hexLen; rw [hb]; rfl
        have Hz := Lib.hid hz
        clear hz hpre
        go_wp2
        go_meet
        exact ⟨Hz.out, rfl⟩
      · have h2 : 2 ≤ s.size := by
          have := isAt_lt s 1 120 88 (by simp at hb; exact hb.2)
          omega
        have hz : hexLen s.data.toList = rl isHex (s.data.toList.drop 2) := by unfold hexLen; rw [hb]; rfl
        have Hz := Lib.hid hz
        clear hz hpre
        have hle := rl_drop_le isHex s 2 h2
        by_cases hn : 0 < rl isHex (s.data.toList.drop 2)
        · go_wp2_with (go_at_call 36; refine (run_hex _ _ (by omega) _ (by omega) (by omega)).mono ?_; rintro e w' ⟨rfl, rfl⟩)
          go_ret
          refine ⟨ret_int ?_, rfl⟩
          unfold numLen
          rw [Hz.out, if_pos hn]
          simp
        · go_wp2_with (go_at_call 36; refine (run_hex _ _ (by omega) _ (by omega) (by omega)).mono ?_; rintro e w' ⟨rfl, rfl⟩)
          go_meet
          exact ⟨by rw [Hz.out]; omega, rfl⟩
    case rest =>
      obtain ⟨hz, rfl⟩ := hcut
      have Hz := Lib.hid hz
      clear hz hpre
      obtain ⟨a, ha⟩ : ∃ a, rl isDig s.data.toList = a := ⟨_, rfl⟩
      have ha1 : a ≤ s.size := by have := rl_le isDig s.data.toList; rw [← size_len, ha] at this; exact this
      have Ha := Lib.hid ha
      clear ha
      go_upto_region 7 with (go_at_call 36; refine (run_dig _ _ (by omega) _ (by omega) (by omega)).mono ?_; rintro e w' ⟨rfl, rfl⟩; rw [Int.toNat_zero, List.drop_zero, Ha.out])
      go_cut [33] (fun v wc => v = .bool (isAt s.data.toList a 46 46) ∧ w = wc)
      case first =>
        by_cases hlt : a < s.size
        · have hlt' : (a : Int) < (s.size : Int) := by omega
          have hi := isAt_one s a 46 hlt
          have Hi := Lib.hid hi
          clear hi
          go_wp2
          go_meet
          exact ⟨val_bool Hi.out.symm, rfl⟩
        · have hlt' : ¬ (a : Int) < (s.size : Int) := by omega
          have hi := isAt_out s a 46 46 (by omega)
          have Hi := Lib.hid hi
          clear hi
          go_wp2
          go_meet
          exact ⟨val_bool Hi.out.symm, rfl⟩
      case rest =>
        obtain ⟨rfl, rfl⟩ := hcut
        go_upto_if 33 with fail
        go_cut [5, 6] (fun v5 v6 wc => (∃ n : Nat, v5 = .int .i64 n ∧ Hid (mantLen s.data.toList = n) ∧ n ≤ s.size) ∧ w = wc)
        case first =>
          cases hb : isAt s.data.toList a 46 46
          · have hm : mantLen s.data.toList = a := by
              have hf : fracLen s.data.toList a = 0 := by unfold fracLen; rw [hb]; rfl
              unfold mantLen; rw [Ha.out, hf]; split <;> omega
            have Hm := Lib.hid hm
            clear hm
            go_wp2
            go_meet
            exact ⟨⟨a, rfl, Hm, ha1⟩, rfl⟩
          · have hlt := isAt_lt s a 46 46 hb
            have hlt' : (a : Int) + 1 ≤ (s.size : Int) := by omega
            obtain ⟨b, hbb⟩ : ∃ b, rl isDig (s.data.toList.drop (a + 1)) = b := ⟨_, rfl⟩
            have hle := rl_drop_le isDig s (a + 1) (by omega)
            rw [hbb] at hle
            have hm : mantLen s.data.toList = if a = 0 ∧ b = 0 then 0 else a + 1 + b := by
              have hf : fracLen s.data.toList a = 1 + b := by unfold fracLen; rw [hb, hbb]; rfl
              unfold mantLen; rw [Ha.out, hf]; split <;> split <;> omega
            have Hm := Lib.hid hm
            have Hb := Lib.hid hbb
            clear hm hbb
            by_cases h0 : a = 0 ∧ b = 0
            · obtain ⟨ha0, hb0⟩ := h0
              have hsum : (a : Int) + (b : Int) = 0 := by omega
              have Hs := Lib.hid hsum
              have Ha0 := Lib.hid ha0
              have Hb0 := Lib.hid hb0
              clear ha0 hb0 hsum
              have hbt : (((a : Int) + (b : Int)) == 0) = true := beq_iff_eq.2 Hs.out
              go_wp2_with (go_at_call 36; refine (run_dig _ _ (by omega) _ (by omega) (by omega)).mono ?_; rintro e w' ⟨rfl, rfl⟩; rw [show ((a : Int) + 1).toNat = a + 1 by omega, Hb.out])
              go_ret
              refine ⟨ret_int ?_, rfl⟩
              have hmm := Hm.out
              rw [if_pos ⟨Ha0.out, Hb0.out⟩] at hmm
              unfold numLen
              rw [Hz.out, hmm]
              simp
            · have hbt : (((a : Int) + (b : Int)) == 0) = false := beq_eq_false_iff_ne.2 (by omega)
              have h0' : ¬ ((a : Int) + (b : Int) = 0) := by omega
              go_wp2_with (go_at_call 36; refine (run_dig _ _ (by omega) _ (by omega) (by omega)).mono ?_; rintro e w' ⟨rfl, rfl⟩; rw [show ((a : Int) + 1).toNat = a + 1 by omega, Hb.out])
              go_meet
              have hmm := Hm.out
              rw [if_neg h0] at hmm
              exact ⟨⟨a + 1 + b, by rw [show ((a : Int) + (1 + (b : Int))) = ((a + 1 + b : Nat) : Int) by omega], hmm, by omega⟩, rfl⟩
        case rest =>
          obtain ⟨⟨n, rfl, Hm, hn⟩, rfl⟩ := hcut
          clear ha1
          by_cases hn0 : n = 0
          · have hnt : ((n : Int) == 0) = true := beq_iff_eq.2 (by omega)
            have Hn0 := Lib.hid hn0
            clear hn0
            go_wp2
            go_ret
            refine ⟨ret_int ?_, rfl⟩
            unfold numLen
            rw [Hz.out, Hm.out, if_pos Hn0.out]; simp
          · have hnt : ((n : Int) == 0) = false := beq_eq_false_iff_ne.2 (by omega)
            have hfin : numLen s.data.toList = expLen s.data.toList n := by
              unfold numLen; rw [Hz.out, Hm.out, if_neg hn0]; simp
            have Hfin := Lib.hid hfin
            clear hfin
            have hn1 : 1 ≤ n := by omega
            clear hn0
            go_upto_region 14 with fail
            go_cut [63] (fun v wc => v = .bool (isAt s.data.toList n 101 69) ∧ w = wc)
            case first =>
              by_cases hlt : n < s.size
              · have hlt' : (n : Int) < (s.size : Int) := by omega
                have hi := isAt_in s n 101 69 hlt
                have Hi := Lib.hid hi
                clear hi
                go_wp2
                all_goals
                  go_meet
                  first | exact ⟨val_bool Hi.out.symm, rfl⟩ | exact ⟨val_bool (by rw [Hi.out]; simp [*]), rfl⟩
              · have hlt' : ¬ (n : Int) < (s.size : Int) := by omega
                have hi := isAt_out s n 101 69 (by omega)
                have Hi := Lib.hid hi
                clear hi
                go_wp2
                go_meet
                exact ⟨val_bool Hi.out.symm, rfl⟩
            case rest =>
              obtain ⟨rfl, rfl⟩ := hcut
              cases hb : isAt s.data.toList n 101 69
              · have he : expLen s.data.toList n = n := by unfold expLen; rw [hb]; rfl
                have He := Lib.hid he
                clear he
                go_wp2
                go_ret
                exact ⟨ret_int (by rw [Hfin.out, He.out]), rfl⟩
              · have hlt := isAt_lt s n 101 69 hb
                have hlt' : (n : Int) + 1 ≤ (s.size : Int) := by omega
                have he : expLen s.data.toList n = if 0 < rl isDig (s.data.toList.drop (expAt s.data.toList n)) then expAt s.data.toList n + rl isDig (s.data.toList.drop (expAt s.data.toList n)) else n := by unfold expLen; rw [hb]; rfl
                have He := Lib.hid he
                clear he
                go_upto_region 16 with fail
                go_cut [81] (fun v wc => v = .bool (isAt s.data.toList (n + 1) 43 45) ∧ w = wc)
                case first =>
                  by_cases hlt2 : n + 1 < s.size
                  · have hlt2' : (n : Int) + 1 < (s.size : Int) := by omega
                    have hi := isAt_in s (n + 1) 43 45 hlt2
                    have Hi := Lib.hid hi
                    clear hi
                    go_wp2
                    all_goals
                      go_meet
                      first | exact ⟨val_bool Hi.out.symm, rfl⟩ | exact ⟨val_bool (by rw [Hi.out]; simp [*]), rfl⟩
                  · have hlt2' : ¬ (n : Int) + 1 < (s.size : Int) := by omega
                    have hi := isAt_out s (n + 1) 43 45 (by omega)
                    have Hi := Lib.hid hi
                    clear hi
                    go_wp2
                    go_meet
                    exact ⟨val_bool Hi.out.symm, rfl⟩
                case rest =>
                  obtain ⟨rfl, rfl⟩ := hcut
                  go_upto_if 81 with fail
                  go_cut [7] (fun v wc => (∃ k : Nat, v = .int .i64 k ∧ Hid (expAt s.data.toList n = k) ∧ k ≤ s.size) ∧ w = wc)
                  case first =>
                    cases hc : isAt s.data.toList (n + 1) 43 45
                    · go_wp2
                      go_meet
                      exact ⟨⟨n + 1, by go_num, show _ = _ by unfold expAt; rw [hc]; rfl, by omega⟩, rfl⟩
                    · have hlt2 := isAt_lt s (n + 1) 43 45 hc
                      go_wp2
                      go_meet
                      exact ⟨⟨n + 2, by go_num, show _ = _ by unfold expAt; rw [hc]; rfl, by omega⟩, rfl⟩
                  case rest =>
                    obtain ⟨⟨k, rfl, Hk, hk⟩, rfl⟩ := hcut
                    obtain ⟨d, hd⟩ : ∃ d, rl isDig (s.data.toList.drop k) = d := ⟨_, rfl⟩
                    have hle := rl_drop_le isDig s k hk
                    rw [hd] at hle
                    have he := He.out
                    rw [Hk.out, hd] at he
                    have He2 := Lib.hid he
                    have Hd := Lib.hid hd
                    clear he hd He
                    by_cases h0 : 0 < d
                    · go_wp2_with (go_at_call 36; refine (run_dig _ _ (by omega) _ (by omega) (by omega)).mono ?_; rintro e w' ⟨rfl, rfl⟩; rw [Int.toNat_natCast, Hd.out])
                      go_ret
                      exact ⟨ret_int (by rw [Hfin.out, He2.out, if_pos h0]; omega), rfl⟩
                    · go_wp2_with (go_at_call 36; refine (run_dig _ _ (by omega) _ (by omega) (by omega)).mono ?_; rintro e w' ⟨rfl, rfl⟩; rw [Int.toNat_natCast, Hd.out])
                      go_ret
                      exact ⟨ret_int (by rw [Hfin.out, He2.out, if_neg h0]), rfl⟩
end Go.Proofs.YtmfnkilohicapaaGreatDoor
