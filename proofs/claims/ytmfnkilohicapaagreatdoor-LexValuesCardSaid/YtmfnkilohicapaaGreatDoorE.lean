/- The reference's 'run' and 'number': the place behind the digits, behind the number, as rl and numLen say; memory stays. -/
import Derived.Test.YtmfnkilohicapaaGreatDoorD
namespace Go.Proofs.YtmfnkilohicapaaGreatDoor
open Go.RowKit

theorem isAt_drop (l : List UInt8) (p n : Nat) (a b : Int) : isAt (l.drop p) n a b = isAt l (p + n) a b := by
  unfold isAt; rw [List.getElem?_drop]
theorem rl_drop_drop (q : UInt8 → Bool) (l : List UInt8) (p n : Nat) : rl q ((l.drop p).drop n) = rl q (l.drop (p + n)) := by
  rw [List.drop_drop]

set_option maxHeartbeats 1000000 in
theorem ref_run (s : ByteArray) (a : Int) (h0 : 0 ≤ a) (w : World) (hs : s.size ≤ 140737488355328) (ha : a ≤ s.size) :
    Calls Tryz.prog 18 #[.string s, .int .i64 a] w fun e w' => e = .returned (.int .i64 (a + rl isDig (s.data.toList.drop a.toNat))) ∧ w = w' := by
  obtain ⟨p, rfl⟩ := Int.eq_ofNat_of_zero_le h0
  rw [Int.toNat_natCast]
  obtain ⟨N, hN⟩ : ∃ N, p + rl isDig (s.data.toList.drop p) = N := ⟨_, rfl⟩
  rw [show ((p : Int) + (rl isDig (s.data.toList.drop p) : Int)) = (N : Int) by omega]
  have HN := Lib.hid hN
  clear hN
  go_enter Tryz.func18, Tryz.ntmps18
  go_wp2
  go_loop [1] (fun n => ∃ k : Nat, k ≤ s.size ∧ Hid (k + rl isDig (s.data.toList.drop k) = N) ∧ n = .int .i64 k) (fun n => s.size - (intOf n).toNat)
  case atStart => exact ⟨p, by omega, HN, rfl⟩
  case round =>
    clear HN
    obtain ⟨k, hk, Hr, rfl⟩ := hrel
    by_cases hlt : k < s.size
    · have hlt' : (k : Int) < (s.size : Int) := by omega
      obtain ⟨c, hx⟩ : ∃ c, s[k] = c := ⟨_, rfl⟩
      have Hl := Lib.hid (get_list s _ hlt)
      rw [hx] at Hl
      cases hc : isDig c
      · have Hc := Lib.hid hc
        clear hc
        go_wp2_with (go_at_call 40; refine (ref_digit _ _).mono ?_; rintro e w' ⟨rfl, rfl⟩; rw [Hc.out])
        go_ret
        have h0 := rl_drop_no isDig _ _ _ Hl.out Hc.out
        have h1 := Hr.out
        exact ⟨ret_int (by omega), rfl⟩
      · have Hc := Lib.hid hc
        clear hc
        go_wp2_with (go_at_call 40; refine (ref_digit _ _).mono ?_; rintro e w' ⟨rfl, rfl⟩; rw [Hc.out])
        go_round
        case rel =>
          have h0 := rl_drop_yes isDig _ _ _ Hl.out Hc.out
          have h1 := Hr.out
          exact ⟨k + 1, by omega, show _ = _ by omega, by go_num⟩
        case measure => simp [intOf]; omega
    · have hlt' : ¬ (k : Int) < (s.size : Int) := by omega
      go_wp2
      go_ret
      have h0 := rl_drop_end isDig s.data.toList k (by rw [← size_len]; omega)
      have h1 := Hr.out
      exact ⟨ret_int (by omega), rfl⟩

/-- The reference's test for 0x and a digit. -/
def hexPre (s : ByteArray) (p : Nat) : Bool := isAt s.data.toList p 48 48 && isAt s.data.toList (p + 1) 120 88 && (match s.data.toList[p + 2]? with | some c => isHex c | none => false)
theorem hexPre_len (s : ByteArray) (p : Nat) : hexPre s p = decide (0 < hexLen (s.data.toList.drop p)) := by
  unfold hexPre hexLen
  rw [isAt_drop, isAt_drop, rl_drop_drop, Nat.add_zero]
  cases h : (isAt s.data.toList p 48 48 && isAt s.data.toList (p + 1) 120 88)
  · simp
  · simp only [Bool.true_and, if_true]
    cases hc : s.data.toList[p + 2]? with
    | none => rw [rl_drop_end isHex _ _ (by simpa using hc)]; rfl
    | some c =>
      cases hx : isHex c
      · rw [rl_drop_no isHex _ _ _ hc hx]; simpa using hx
      · rw [rl_drop_yes isHex _ _ _ hc hx]; simpa using hx

set_option maxHeartbeats 8000000 in
set_option maxRecDepth 100000 in
theorem ref_number (s : ByteArray) (a : Int) (h0 : 0 ≤ a) (w : World) (hs : s.size ≤ 140737488355328) (ha : a ≤ s.size) :
    Calls Tryz.prog 66 #[.string s, .int .i64 a] w fun e w' => e = .returned (.int .i64 (a + numLen (s.data.toList.drop a.toNat))) ∧ w = w' := by
  obtain ⟨p, rfl⟩ := Int.eq_ofNat_of_zero_le h0
  rw [Int.toNat_natCast]
  have hp : p ≤ s.size := by omega
  clear ha h0
  have hpre := hexPre_len s p
  obtain ⟨b, hb⟩ : ∃ b, decide (0 < hexLen (s.data.toList.drop p)) = b := ⟨_, rfl⟩
  rw [hb] at hpre
  have Hpre := Lib.hid hpre
  have Hb := Lib.hid hb
  clear hpre hb
  go_enter Tryz.func66, Tryz.ntmps66
  go_upto_region 1 with fail
  go_cut [39] (fun v wc => v = .bool b ∧ w = wc)
  case first =>
    by_cases h2 : p + 2 < s.size
    · have hz : (p : Int) + 2 < (s.size : Int) := by omega
      have hz1 : (p : Int) + 1 < (s.size : Int) := by omega
      have hz0 : (p : Int) < (s.size : Int) := by omega
      have e0 := isAt_one s p 48 (by omega)
      have e1 := isAt_in s (p + 1) 120 88 (by omega)
      have e2 := get_list s (p + 2) h2
      have E0 := Lib.hid e0
      have E1 := Lib.hid e1
      have E2 := Lib.hid e2
      clear e0 e1 e2
      cases hx : isHex s[p + 2]
      all_goals
        have Hx := Lib.hid hx
        clear hx
        go_wp2_with (go_at_call 90; refine (ref_hex _ _).mono ?_; rintro e w' ⟨rfl, rfl⟩; rw [Hx.out])
      all_goals
        go_meet
        refine ⟨val_bool ?_, rfl⟩
        rw [← Hpre.out]
        unfold hexPre
        rw [E0.out, E1.out, E2.out]
        simp [*, Hx.out]
    · have hz : ¬ (p : Int) + 2 < (s.size : Int) := by omega
      go_wp2
      go_meet
      refine ⟨val_bool ?_, rfl⟩
      rw [← Hpre.out]
      unfold hexPre
      rw [List.getElem?_eq_none (by rw [← size_len]; omega)]
      simp
  case rest =>
    obtain ⟨rfl, rfl⟩ := hcut
    cases b
    case true =>
      have hx : 0 < hexLen (s.data.toList.drop p) := of_decide_eq_true Hb.out
      have hfin : numLen (s.data.toList.drop p) = 2 + hexLen (s.data.toList.drop p) := by unfold numLen; rw [if_pos hx]
      have hh : hexLen (s.data.toList.drop p) = rl isHex (s.data.toList.drop (p + 2)) := by
        unfold hexLen at hx ⊢
        rw [rl_drop_drop] at hx ⊢
        split
        · rfl
        · rename_i h; rw [if_neg h] at hx; omega
      have hN : p + 2 + rl isHex (s.data.toList.drop (p + 2)) = p + numLen (s.data.toList.drop p) := by omega
      have hp2 : p + 2 ≤ s.size := by
        have h3 := Hpre.out
        unfold hexPre at h3
        simp at h3
        have := isAt_lt s _ _ _ h3.1.2
        omega
      obtain ⟨N, hNN⟩ : ∃ N, p + numLen (s.data.toList.drop p) = N := ⟨_, rfl⟩
      rw [hNN] at hN
      have Hfin := Lib.hid (show ((p : Int) + (numLen (s.data.toList.drop p) : Int)) = (N : Int) by omega)
      have HN := Lib.hid hN
      clear hN hNN hh hfin hx Hpre Hb
      go_wp2
      go_loop [5] (fun n => ∃ k : Nat, k ≤ s.size ∧ Hid (k + rl isHex (s.data.toList.drop k) = N) ∧ n = .int .i64 k) (fun n => s.size - (intOf n).toNat)
      case atStart => exact ⟨p + 2, by omega, HN, by go_num⟩
      case round =>
        clear HN
        obtain ⟨k, hk, Hr, rfl⟩ := hrel
        by_cases hlt : k < s.size
        · have hlt' : (k : Int) < (s.size : Int) := by omega
          obtain ⟨c, hx⟩ : ∃ c, s[k] = c := ⟨_, rfl⟩
          have Hl := Lib.hid (get_list s _ hlt)
          rw [hx] at Hl
          cases hc : isHex c
          · have Hc := Lib.hid hc
            clear hc
            go_wp2_with (go_at_call 90; refine (ref_hex _ _).mono ?_; rintro e w' ⟨rfl, rfl⟩; rw [Hc.out])
            go_ret
            have h0 := rl_drop_no isHex _ _ _ Hl.out Hc.out
            have h1 := Hr.out
            exact ⟨ret_int (by rw [Hfin.out]; omega), rfl⟩
          · have Hc := Lib.hid hc
            clear hc
            go_wp2_with (go_at_call 90; refine (ref_hex _ _).mono ?_; rintro e w' ⟨rfl, rfl⟩; rw [Hc.out])
            go_round
            case rel =>
              have h0 := rl_drop_yes isHex _ _ _ Hl.out Hc.out
              have h1 := Hr.out
              exact ⟨k + 1, by omega, show _ = _ by omega, by go_num⟩
            case measure => simp [intOf]; omega
        · have hlt' : ¬ (k : Int) < (s.size : Int) := by omega
          go_wp2
          go_ret
          have h0 := rl_drop_end isHex s.data.toList k (by rw [← size_len]; omega)
          have h1 := Hr.out
          exact ⟨ret_int (by rw [Hfin.out]; omega), rfl⟩
    case false =>
      have hx : ¬ 0 < hexLen (s.data.toList.drop p) := of_decide_eq_false Hb.out
      clear Hpre Hb
      obtain ⟨M, hM⟩ : ∃ M, mantLen (s.data.toList.drop p) = M := ⟨_, rfl⟩
      have hfin : numLen (s.data.toList.drop p) = if M = 0 then 0 else expLen (s.data.toList.drop p) M := by
        unfold numLen; rw [if_neg hx, hM]
      have Hfin := Lib.hid hfin
      clear hfin hx
      obtain ⟨a, ha⟩ : ∃ a, rl isDig (s.data.toList.drop p) = a := ⟨_, rfl⟩
      have ha1 := rl_drop_le isDig s p hp
      rw [ha] at ha1
      have Ha := Lib.hid ha
      have HM := Lib.hid hM
      clear ha hM
      obtain ⟨q, hq⟩ : ∃ q, p + a = q := ⟨_, rfl⟩
      have hqs : q ≤ s.size := by omega
      have hqi : ((p : Int) + (a : Int)) = (q : Int) := by omega
      have hfr : fracLen (s.data.toList.drop p) a = if isAt s.data.toList q 46 46 then 1 + rl isDig (s.data.toList.drop (q + 1)) else 0 := by
        unfold fracLen; rw [isAt_drop, rl_drop_drop, hq, show p + (a + 1) = q + 1 by omega]
      have hM' : M = if a = 0 ∧ fracLen (s.data.toList.drop p) a ≤ 1 then 0 else a + fracLen (s.data.toList.drop p) a := by
        rw [← HM.out]; unfold mantLen; rw [Ha.out]
      have hdot : isAt s.data.toList q 46 46 = false → M = a := fun h => by
        rw [h] at hfr; simp only [Bool.false_eq_true, if_false] at hfr; rw [hM', hfr]; split <;> omega
      have hdot1 : isAt s.data.toList q 46 46 = true → M = if a = 0 ∧ rl isDig (s.data.toList.drop (q + 1)) = 0 then 0 else a + 1 + rl isDig (s.data.toList.drop (q + 1)) := fun h => by
        rw [h] at hfr; simp only [if_true] at hfr; rw [hM', hfr]; split <;> split <;> omega
      obtain ⟨b7, hb7⟩ : ∃ b7, decide (M ≠ a) = b7 := ⟨_, rfl⟩
      have Hqi := Lib.hid hqi
      have Hq := Lib.hid hq
      have Hdot := Lib.hid hdot
      have Hdot1 := Lib.hid hdot1
      have Hb7 := Lib.hid hb7
      clear hq hqi hfr hM' hdot hdot1 hb7
      go_upto_region 7 with (go_at_call 18; refine (ref_run _ _ (by omega) _ (by omega) (by omega)).mono ?_; rintro e w' ⟨rfl, rfl⟩; rw [Int.toNat_natCast, Ha.out, Hqi.out])
      go_cut [86] (fun v wc => v = .bool b7 ∧ w = wc)
      case first =>
        by_cases hlt : q < s.size
        · have hlt' : (q : Int) < (s.size : Int) := by omega
          have hi := isAt_one s q 46 hlt
          cases hc : ((s[q].toNat : Int) == 46)
          · have Hd := Hdot.out (by rw [hi, hc])
            have hb : b7 = false := by rw [← Hb7.out]; simp [Hd]
            clear Hd
            have HH := Lib.hid hb
            clear hi hb
            go_wp2
            go_meet
            exact ⟨val_bool HH.out.symm, rfl⟩
          · have Hd := Hdot1.out (by rw [hi, hc])
            clear hi
            by_cases ha0 : a = 0
            · have hpq : ¬ (p : Int) < (q : Int) := by have := Hq.out; omega
              by_cases hlt1 : q + 1 < s.size
              · have hlt1' : (q : Int) + 1 < (s.size : Int) := by omega
                have hg := get_list s (q + 1) hlt1
                cases hx : isDig s[q + 1]
                · have hb : b7 = false := by
                    rw [← Hb7.out, Hd, rl_drop_no isDig _ _ _ hg hx, ha0]; rfl
                  have HH := Lib.hid hb
                  have Hx := Lib.hid hx
                  clear hb Hd hx hg ha0
                  go_wp2_with (go_at_call 40; refine (ref_digit _ _).mono ?_; rintro e w' ⟨rfl, rfl⟩; rw [Hx.out])
                  go_meet
                  exact ⟨val_bool HH.out.symm, rfl⟩
                · have hb : b7 = true := by
                    rw [← Hb7.out, Hd, rl_drop_yes isDig _ _ _ hg hx, ha0]; simp
                  have HH := Lib.hid hb
                  have Hx := Lib.hid hx
                  clear hb Hd hx hg ha0
                  go_wp2_with (go_at_call 40; refine (ref_digit _ _).mono ?_; rintro e w' ⟨rfl, rfl⟩; rw [Hx.out])
                  go_meet
                  exact ⟨val_bool HH.out.symm, rfl⟩
              · have hlt1' : ¬ (q : Int) + 1 < (s.size : Int) := by omega
                have hb : b7 = false := by
                  rw [← Hb7.out, Hd, rl_drop_end isDig _ _ (by rw [← size_len]; omega), ha0]; rfl
                have HH := Lib.hid hb
                clear hb Hd ha0
                go_wp2
                go_meet
                exact ⟨val_bool HH.out.symm, rfl⟩
            · have hpq : (p : Int) < (q : Int) := by have := Hq.out; omega
              have hb : b7 = true := by
                rw [← Hb7.out, Hd, if_neg (by omega)]; simp; omega
              have HH := Lib.hid hb
              clear hb Hd ha0
              go_wp2
              go_meet
              exact ⟨val_bool HH.out.symm, rfl⟩
        · have hlt' : ¬ (q : Int) < (s.size : Int) := by omega
          have Hd := Hdot.out (isAt_out s q 46 46 (by omega))
          have hb : b7 = false := by rw [← Hb7.out]; simp [Hd]
          have HH := Lib.hid hb
          clear hb Hd
          go_wp2
          go_meet
          exact ⟨val_bool HH.out.symm, rfl⟩
      case rest =>
        obtain ⟨rfl, rfl⟩ := hcut
        obtain ⟨K, hK⟩ : ∃ K, p + M = K := ⟨_, rfl⟩
        have HK := Lib.hid hK
        clear hK
        go_upto_if 86 with fail
        go_cut [6] (fun v wc => v = .int .i64 K ∧ K ≤ s.size ∧ w = wc)
        case first =>
          cases b7
          case false =>
            have hM : M = a := by have := of_decide_eq_false Hb7.out; omega
            have hKq : K = q := by rw [← HK.out, ← Hq.out, hM]
            have HKq := Lib.hid hKq
            clear hM hKq
            go_wp2
            go_meet
            exact ⟨by rw [HKq.out], by rw [HKq.out]; exact hqs, rfl⟩
          case true =>
            have hM : M ≠ a := of_decide_eq_true Hb7.out
            have hd : isAt s.data.toList q 46 46 = true := by
              cases h : isAt s.data.toList q 46 46
              · exact absurd (Hdot.out h) hM
              · rfl
            have hlt := isAt_lt s q 46 46 hd
            have h1 := Hdot1.out hd
            have hle := rl_drop_le isDig s (q + 1) (by omega)
            obtain ⟨b, hbb⟩ : ∃ b, rl isDig (s.data.toList.drop (q + 1)) = b := ⟨_, rfl⟩
            rw [hbb] at h1 hle
            have hKq : (q : Int) + 1 + (b : Int) = (K : Int) := by
              have := HK.out; have := Hq.out
              split at h1
              · omega
              · omega
            have HKq := Lib.hid hKq
            have Hbb := Lib.hid hbb
            have hks : K ≤ s.size := by omega
            clear hM hKq h1 hd hbb
            go_wp2_with (go_at_call 18; refine (ref_run _ _ (by omega) _ (by omega) (by omega)).mono ?_; rintro e w' ⟨rfl, rfl⟩; rw [show ((q : Int) + 1).toNat = q + 1 by omega, Hbb.out, HKq.out])
            go_meet
            exact ⟨rfl, hks, rfl⟩
        case rest =>
          obtain ⟨rfl, hKs, rfl⟩ := hcut
          clear Hdot Hdot1 Hq Hqi hqs Hb7 ha1
          by_cases hM0 : M = 0
          · have hKp : K = p := by rw [← HK.out, hM0]; rfl
            have hKt : ((K : Int) == (p : Int)) = true := beq_iff_eq.2 (by omega)
            have hfin : numLen (s.data.toList.drop p) = 0 := by rw [Hfin.out, if_pos hM0]
            have H0 := Lib.hid hfin
            clear hKp hM0 hfin
            go_wp2
            go_ret
            exact ⟨ret_int (by rw [H0.out]; simp), rfl⟩
          · have hKt : ((K : Int) == (p : Int)) = false := beq_eq_false_iff_ne.2 (by have := HK.out; omega)
            have hfin : numLen (s.data.toList.drop p) = if isAt s.data.toList K 101 69 then (if 0 < rl isDig (s.data.toList.drop (expAt s.data.toList K)) then expAt s.data.toList K - p + rl isDig (s.data.toList.drop (expAt s.data.toList K)) else M) else M := by
              have e1 : expAt (s.data.toList.drop p) M = expAt s.data.toList K - p := by
                unfold expAt; rw [isAt_drop, show p + (M + 1) = K + 1 by have := HK.out; omega]; have := HK.out; split <;> omega
              have e2 : p + (expAt s.data.toList K - p) = expAt s.data.toList K := by
                have := HK.out; unfold expAt; split <;> omega
              rw [Hfin.out, if_neg hM0]
              unfold expLen
              rw [isAt_drop, HK.out, e1, rl_drop_drop, e2]
            have H0 := Lib.hid hfin
            clear hfin hM0
            go_upto_region 12 with fail
            go_cut [111] (fun v wc => v = .bool (isAt s.data.toList K 101 69) ∧ w = wc)
            case first =>
              by_cases hlt : K < s.size
              · have hlt' : (K : Int) < (s.size : Int) := by omega
                have hi := isAt_in s K 101 69 hlt
                have Hi := Lib.hid hi
                clear hi
                go_wp2
                all_goals
                  go_meet
                  first | exact ⟨val_bool Hi.out.symm, rfl⟩ | exact ⟨val_bool (by rw [Hi.out]; simp [*]), rfl⟩
              · have hlt' : ¬ (K : Int) < (s.size : Int) := by omega
                have hi := isAt_out s K 101 69 (by omega)
                have Hi := Lib.hid hi
                clear hi
                go_wp2
                go_meet
                exact ⟨val_bool Hi.out.symm, rfl⟩
            case rest =>
              obtain ⟨rfl, rfl⟩ := hcut
              cases hb : isAt s.data.toList K 101 69
              · have he := H0.out
                rw [hb] at he
                have He := Lib.hid he
                clear he
                go_wp2
                go_ret
                exact ⟨ret_int (by rw [He.out]; have := HK.out; simp; omega), rfl⟩
              · have hlt := isAt_lt s K 101 69 hb
                have he := H0.out
                rw [hb, if_pos rfl] at he
                have He := Lib.hid he
                clear he
                go_upto_region 14 with fail
                go_cut [129] (fun v wc => v = .bool (isAt s.data.toList (K + 1) 43 45) ∧ w = wc)
                case first =>
                  by_cases hlt2 : K + 1 < s.size
                  · have hlt2' : (K : Int) + 1 < (s.size : Int) := by omega
                    have hi := isAt_in s (K + 1) 43 45 hlt2
                    have Hi := Lib.hid hi
                    clear hi
                    go_wp2
                    all_goals
                      go_meet
                      first | exact ⟨val_bool Hi.out.symm, rfl⟩ | exact ⟨val_bool (by rw [Hi.out]; simp [*]), rfl⟩
                  · have hlt2' : ¬ (K : Int) + 1 < (s.size : Int) := by omega
                    have hi := isAt_out s (K + 1) 43 45 (by omega)
                    have Hi := Lib.hid hi
                    clear hi
                    go_wp2
                    go_meet
                    exact ⟨val_bool Hi.out.symm, rfl⟩
                case rest =>
                  obtain ⟨rfl, rfl⟩ := hcut
                  go_upto_if 129 with fail
                  go_cut [7] (fun v wc => (∃ k : Nat, v = .int .i64 k ∧ Hid (expAt s.data.toList K = k) ∧ k ≤ s.size ∧ K < k) ∧ w = wc)
                  case first =>
                    cases hc : isAt s.data.toList (K + 1) 43 45
                    · go_wp2
                      go_meet
                      exact ⟨⟨K + 1, by go_num, show _ = _ by unfold expAt; rw [hc]; rfl, by omega, by omega⟩, rfl⟩
                    · have hlt2 := isAt_lt s (K + 1) 43 45 hc
                      go_wp2
                      go_meet
                      exact ⟨⟨K + 2, by go_num, show _ = _ by unfold expAt; rw [hc]; rfl, by omega, by omega⟩, rfl⟩
                  case rest =>
                    obtain ⟨⟨k, rfl, Hk, hk, hKk⟩, rfl⟩ := hcut
                    obtain ⟨d, hd⟩ : ∃ d, rl isDig (s.data.toList.drop k) = d := ⟨_, rfl⟩
                    have hle := rl_drop_le isDig s k hk
                    rw [hd] at hle
                    have he := He.out
                    rw [Hk.out, hd] at he
                    have He2 := Lib.hid he
                    have Hd := Lib.hid hd
                    clear he hd He
                    by_cases h0 : 0 < d
                    · go_wp2_with (go_at_call 18; refine (ref_run _ _ (by omega) _ (by omega) (by omega)).mono ?_; rintro e w' ⟨rfl, rfl⟩; rw [Int.toNat_natCast, Hd.out])
                      go_ret
                      exact ⟨ret_int (by rw [He2.out, if_pos h0]; have := HK.out; omega), rfl⟩
                    · go_wp2_with (go_at_call 18; refine (ref_run _ _ (by omega) _ (by omega) (by omega)).mono ?_; rintro e w' ⟨rfl, rfl⟩; rw [Int.toNat_natCast, Hd.out])
                      go_ret
                      exact ⟨ret_int (by rw [He2.out, if_neg h0]; have := HK.out; omega), rfl⟩
end Go.Proofs.YtmfnkilohicapaaGreatDoor
