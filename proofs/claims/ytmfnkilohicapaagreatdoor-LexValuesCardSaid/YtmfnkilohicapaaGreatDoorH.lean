/- What a duration that stands ahead is, for both packages; the reference's 'span'. -/
import Derived.Test.YtmfnkilohicapaaGreatDoorF
namespace Go.Proofs.YtmfnkilohicapaaGreatDoor
open Go.RowKit

def ums (i : Nat) : Nat := match i with | 0 => 31536000000 | 1 => 604800000 | 2 => 86400000 | 3 => 3600000 | 4 => 60000 | 5 => 1000 | _ => 1
/-- A number of digits. -/
def val (l : List UInt8) : Nat := l.foldl (fun a c => 10 * a + (c.toNat - 48)) 0
/-- A duration that stands ahead: its length, its milliseconds. 'lx': a unit is a whole run of small letters (package lex); else what stands ahead will do (the reference). -/
def sp (lx : Bool) (fr : Nat) (l : List UInt8) : Nat × Nat :=
  if rl isDig l = 0 then (0, 0) else match uAt (l.drop (rl isDig l)) with
    | none => (0, 0)
    | some i => if _h : fr ≤ i ∧ i < 7 ∧ (lx = true → ulen i = rl isLow (l.drop (rl isDig l))) then
        (rl isDig l + ulen i + (sp lx (i + 1) (l.drop (rl isDig l + ulen i))).1, val (l.take (rl isDig l)) * ums i + (sp lx (i + 1) (l.drop (rl isDig l + ulen i))).2)
      else (0, 0)
termination_by 7 - fr
decreasing_by all_goals omega

theorem sp_zero {lx : Bool} {fr : Nat} {l : List UInt8} (h : rl isDig l = 0) : sp lx fr l = (0, 0) := by
  rw [sp, if_pos h]
theorem sp_none {lx : Bool} {fr : Nat} {l : List UInt8} (h : ∀ i, uAt (l.drop (rl isDig l)) = some i → fr ≤ i → (lx = true → ulen i = rl isLow (l.drop (rl isDig l))) → False) : sp lx fr l = (0, 0) := by
  rw [sp]
  split
  · rfl
  · split
    · rfl
    · rename_i i hi
      rw [dif_neg]
      rintro ⟨h1, _, h3⟩
      exact h i hi h1 h3
theorem sp_some {lx : Bool} {fr : Nat} {l : List UInt8} {n i : Nat} (hn : rl isDig l = n) (h0 : n ≠ 0) (hi : uAt (l.drop n) = some i) (hfr : fr ≤ i) (hx : lx = true → ulen i = rl isLow (l.drop n)) :
    sp lx fr l = (n + ulen i + (sp lx (i + 1) (l.drop (n + ulen i))).1, val (l.take n) * ums i + (sp lx (i + 1) (l.drop (n + ulen i))).2) := by
  subst hn
  rw [sp, if_neg h0]
  split
  · rename_i h; rw [hi] at h; cases h
  · rename_i j hj
    rw [hi] at hj
    injection hj with hj
    subst hj
    rw [dif_pos ⟨hfr, by have := uAt_le _ _ hi; omega, hx⟩]
theorem uAt_len (s : ByteArray) (d i : Nat) (h : uAt (s.data.toList.drop d) = some i) : d + ulen i ≤ s.size := by
  have h6 := uAt_le _ _ h
  have hcases : i = 0 ∨ i = 1 ∨ i = 2 ∨ i = 3 ∨ i = 4 ∨ i = 5 ∨ i = 6 := by omega
  rcases hcases with rfl | rfl | rfl | rfl | rfl | rfl | rfl
  · exact take_size s d 1 [121] rfl ((uAt_0 _).1 h) (by omega)
  · exact take_size s d 1 [119] rfl ((uAt_1 _).1 h) (by omega)
  · exact take_size s d 1 [100] rfl ((uAt_2 _).1 h) (by omega)
  · exact take_size s d 1 [104] rfl ((uAt_3 _).1 h) (by omega)
  · exact take_size s d 1 [109] rfl ((uAt_4 _).1 h).1 (by omega)
  · exact take_size s d 1 [115] rfl ((uAt_5 _).1 h) (by omega)
  · exact take_size s d 2 [109, 115] rfl ((uAt_6 _).1 h) (by omega)

set_option maxHeartbeats 4000000 in
set_option maxRecDepth 100000 in
theorem ref_span (s : ByteArray) (a : Int) (h0 : 0 ≤ a) (w : World) (hs : s.size ≤ 140737488355328) (ha : a ≤ s.size) :
    Calls Tryz.prog 67 #[.string s, .int .i64 a] w fun e w' => e = .returned (.int .i64 (a + (sp false 0 (s.data.toList.drop a.toNat)).1)) ∧ Below w.heap.size w w' := by
  obtain ⟨p, rfl⟩ := Int.eq_ofNat_of_zero_le h0
  rw [Int.toNat_natCast]
  have hp : p ≤ s.size := by omega
  clear ha h0
  obtain ⟨N, hN⟩ : ∃ N, p + (sp false 0 (s.data.toList.drop p)).1 = N := ⟨_, rfl⟩
  rw [show ((p : Int) + ((sp false 0 (s.data.toList.drop p)).1 : Int)) = (N : Int) by omega]
  have HN := Lib.hid hN
  clear hN
  have HB := Lib.hid (Below.refl w.heap.size w)
  go_enter Tryz.func67, Tryz.ntmps67
  go_wp2
  go_loopw [5, 6] (fun v5 v6 wr => ∃ k fr : Nat, k ≤ s.size ∧ fr ≤ 7 ∧ v5 = .int .i64 k ∧ v6 = .int .i64 fr ∧ Hid (k + (sp false fr (s.data.toList.drop k)).1 = N) ∧ Hid (Below w.heap.size w wr)) (fun _ v6 _ => 7 - (intOf v6).toNat)
  case atStart => exact ⟨p, 0, hp, by omega, rfl, rfl, HN, HB⟩
  case round =>
    clear HN HB
    obtain ⟨k, fr, hk, hfr, rfl, rfl, HN, HB⟩ := hrel
    obtain ⟨n, hn⟩ : ∃ n, rl isDig (s.data.toList.drop k) = n := ⟨_, rfl⟩
    have hkn := rl_drop_le isDig s k hk
    rw [hn] at hkn
    have Hn := Lib.hid hn
    clear hn
    by_cases hz : n = 0
    · have hzi : (((k : Int) + (n : Int)) == (k : Int)) = true := beq_iff_eq.2 (by omega)
      have Hz := Lib.hid hz
      clear hz
      go_wp2_with (go_at_call 18; refine (ref_run _ _ (by omega) _ (by omega) (by omega)).mono ?_; rintro e w' ⟨rfl, rfl⟩; rw [Int.toNat_natCast, Hn.out])
      go_ret
      have h1 := HN.out
      rw [sp_zero (Hn.out.trans Hz.out)] at h1
      exact ⟨ret_int (by rw [← h1]; simp), HB.out⟩
    · have hzi : (((k : Int) + (n : Int)) == (k : Int)) = false := beq_eq_false_iff_ne.2 (by omega)
      obtain ⟨d, hd⟩ : ∃ d, k + n = d := ⟨_, rfl⟩
      have hdi : ((k : Int) + (n : Int)) = (d : Int) := by omega
      rw [hdi] at hzi
      have hds : d ≤ s.size := by omega
      have Hd := Lib.hid hd
      have Hdi := Lib.hid hdi
      have Hz := Lib.hid hz
      clear hd hdi hz hkn
      obtain ⟨U, hU⟩ : ∃ U, unitIx (s.data.toList.drop d) fr = U := ⟨_, rfl⟩
      have HU := Lib.hid hU
      clear hU
      by_cases hneg : U < 0
      · go_wp2_with (first
          | (go_at_call 18; refine (ref_run _ _ (by omega) _ (by omega) (by omega)).mono ?_; rintro e w' ⟨rfl, rfl⟩; rw [Int.toNat_natCast, Hn.out, Hdi.out])
          | (go_at_call 19; refine (ref_unit _ _ _ (by omega) (by omega) _ (by omega) (by omega) (by omega)).mono ?_; rintro e w1 ⟨rfl, hb1⟩; rw [Int.toNat_natCast, Int.toNat_natCast, HU.out]; have HB1 := Lib.hid (HB.out.trans (hb1.mono HB.out.size)); clear hb1))
        go_ret
        have h1 := HN.out
        rw [sp_none (fun i hi hfi _ => by
          rw [List.drop_drop, Hn.out, Hd.out] at hi
          have := unitIx_some hi hfi
          rw [HU.out] at this
          omega)] at h1
        exact ⟨ret_int (by rw [← h1]; simp), HB1.out⟩
      · obtain ⟨i, hi, hfi, rfl⟩ : ∃ i : Nat, uAt (s.data.toList.drop d) = some i ∧ fr ≤ i ∧ U = (i : Int) := by
          have h := HU.out
          unfold unitIx at h
          split at h
          · rename_i i hi
            split at h
            · exact ⟨i, hi, ‹_›, h.symm⟩
            · omega
          · omega
        have h6 := uAt_le _ _ hi
        have hlen := uAt_len s d i hi
        have h1 := HN.out
        rw [sp_some Hn.out Hz.out (by rw [List.drop_drop, Hd.out]; exact hi) hfi (fun h => by cases h)] at h1
        rw [List.drop_drop, show k + (n + ulen i) = d + ulen i by have := Hd.out; omega] at h1
        have hN2 : d + ulen i + (sp false (i + 1) (s.data.toList.drop (d + ulen i))).1 = N := by
          have := Hd.out
          simp only [] at h1
          omega
        have HN2 := Lib.hid hN2
        have Hi := Lib.hid hi
        clear h1 hN2 hi hneg HN
        have hcases : i = 0 ∨ i = 1 ∨ i = 2 ∨ i = 3 ∨ i = 4 ∨ i = 5 ∨ i = 6 := by omega
        rcases hcases with rfl | rfl | rfl | rfl | rfl | rfl | rfl
        · go_wp2_with (first
              | (go_at_call 18; refine (ref_run _ _ (by omega) _ (by omega) (by omega)).mono ?_; rintro e w' ⟨rfl, rfl⟩; rw [Int.toNat_natCast, Hn.out, Hdi.out])
              | (go_at_call 19; refine (ref_unit _ _ _ (by omega) (by omega) _ (by omega) (by omega) (by omega)).mono ?_; rintro e w1 ⟨rfl, hb1⟩; rw [Int.toNat_natCast, Int.toNat_natCast, HU.out]; have HB1 := Lib.hid (HB.out.trans (hb1.mono HB.out.size)); clear hb1)
              | (go_at_call 20; refine (ref_units _).mono ?_; rintro e w2 ⟨rfl, rfl⟩; unfold unitsObj unitCells))
          go_roundw
          case rel => exact ⟨d + 1, 1, hlen, by omega, by go_num, by go_num, HN2.out, show Below _ _ _ from HB1.out.trans ((Below.refl _ _).alloc HB1.out.size _)⟩
          case measure => (simp [intOf] <;> omega)
        · go_wp2_with (first
              | (go_at_call 18; refine (ref_run _ _ (by omega) _ (by omega) (by omega)).mono ?_; rintro e w' ⟨rfl, rfl⟩; rw [Int.toNat_natCast, Hn.out, Hdi.out])
              | (go_at_call 19; refine (ref_unit _ _ _ (by omega) (by omega) _ (by omega) (by omega) (by omega)).mono ?_; rintro e w1 ⟨rfl, hb1⟩; rw [Int.toNat_natCast, Int.toNat_natCast, HU.out]; have HB1 := Lib.hid (HB.out.trans (hb1.mono HB.out.size)); clear hb1)
              | (go_at_call 20; refine (ref_units _).mono ?_; rintro e w2 ⟨rfl, rfl⟩; unfold unitsObj unitCells))
          go_roundw
          case rel => exact ⟨d + 1, 2, hlen, by omega, by go_num, by go_num, HN2.out, show Below _ _ _ from HB1.out.trans ((Below.refl _ _).alloc HB1.out.size _)⟩
          case measure => (simp [intOf] <;> omega)
        · go_wp2_with (first
              | (go_at_call 18; refine (ref_run _ _ (by omega) _ (by omega) (by omega)).mono ?_; rintro e w' ⟨rfl, rfl⟩; rw [Int.toNat_natCast, Hn.out, Hdi.out])
              | (go_at_call 19; refine (ref_unit _ _ _ (by omega) (by omega) _ (by omega) (by omega) (by omega)).mono ?_; rintro e w1 ⟨rfl, hb1⟩; rw [Int.toNat_natCast, Int.toNat_natCast, HU.out]; have HB1 := Lib.hid (HB.out.trans (hb1.mono HB.out.size)); clear hb1)
              | (go_at_call 20; refine (ref_units _).mono ?_; rintro e w2 ⟨rfl, rfl⟩; unfold unitsObj unitCells))
          go_roundw
          case rel => exact ⟨d + 1, 3, hlen, by omega, by go_num, by go_num, HN2.out, show Below _ _ _ from HB1.out.trans ((Below.refl _ _).alloc HB1.out.size _)⟩
          case measure => (simp [intOf] <;> omega)
        · go_wp2_with (first
              | (go_at_call 18; refine (ref_run _ _ (by omega) _ (by omega) (by omega)).mono ?_; rintro e w' ⟨rfl, rfl⟩; rw [Int.toNat_natCast, Hn.out, Hdi.out])
              | (go_at_call 19; refine (ref_unit _ _ _ (by omega) (by omega) _ (by omega) (by omega) (by omega)).mono ?_; rintro e w1 ⟨rfl, hb1⟩; rw [Int.toNat_natCast, Int.toNat_natCast, HU.out]; have HB1 := Lib.hid (HB.out.trans (hb1.mono HB.out.size)); clear hb1)
              | (go_at_call 20; refine (ref_units _).mono ?_; rintro e w2 ⟨rfl, rfl⟩; unfold unitsObj unitCells))
          go_roundw
          case rel => exact ⟨d + 1, 4, hlen, by omega, by go_num, by go_num, HN2.out, show Below _ _ _ from HB1.out.trans ((Below.refl _ _).alloc HB1.out.size _)⟩
          case measure => (simp [intOf] <;> omega)
        · go_wp2_with (first
              | (go_at_call 18; refine (ref_run _ _ (by omega) _ (by omega) (by omega)).mono ?_; rintro e w' ⟨rfl, rfl⟩; rw [Int.toNat_natCast, Hn.out, Hdi.out])
              | (go_at_call 19; refine (ref_unit _ _ _ (by omega) (by omega) _ (by omega) (by omega) (by omega)).mono ?_; rintro e w1 ⟨rfl, hb1⟩; rw [Int.toNat_natCast, Int.toNat_natCast, HU.out]; have HB1 := Lib.hid (HB.out.trans (hb1.mono HB.out.size)); clear hb1)
              | (go_at_call 20; refine (ref_units _).mono ?_; rintro e w2 ⟨rfl, rfl⟩; unfold unitsObj unitCells))
          go_roundw
          case rel => exact ⟨d + 1, 5, hlen, by omega, by go_num, by go_num, HN2.out, show Below _ _ _ from HB1.out.trans ((Below.refl _ _).alloc HB1.out.size _)⟩
          case measure => (simp [intOf] <;> omega)
        · go_wp2_with (first
              | (go_at_call 18; refine (ref_run _ _ (by omega) _ (by omega) (by omega)).mono ?_; rintro e w' ⟨rfl, rfl⟩; rw [Int.toNat_natCast, Hn.out, Hdi.out])
              | (go_at_call 19; refine (ref_unit _ _ _ (by omega) (by omega) _ (by omega) (by omega) (by omega)).mono ?_; rintro e w1 ⟨rfl, hb1⟩; rw [Int.toNat_natCast, Int.toNat_natCast, HU.out]; have HB1 := Lib.hid (HB.out.trans (hb1.mono HB.out.size)); clear hb1)
              | (go_at_call 20; refine (ref_units _).mono ?_; rintro e w2 ⟨rfl, rfl⟩; unfold unitsObj unitCells))
          go_roundw
          case rel => exact ⟨d + 1, 6, hlen, by omega, by go_num, by go_num, HN2.out, show Below _ _ _ from HB1.out.trans ((Below.refl _ _).alloc HB1.out.size _)⟩
          case measure => (simp [intOf] <;> omega)
        · go_wp2_with (first
              | (go_at_call 18; refine (ref_run _ _ (by omega) _ (by omega) (by omega)).mono ?_; rintro e w' ⟨rfl, rfl⟩; rw [Int.toNat_natCast, Hn.out, Hdi.out])
              | (go_at_call 19; refine (ref_unit _ _ _ (by omega) (by omega) _ (by omega) (by omega) (by omega)).mono ?_; rintro e w1 ⟨rfl, hb1⟩; rw [Int.toNat_natCast, Int.toNat_natCast, HU.out]; have HB1 := Lib.hid (HB.out.trans (hb1.mono HB.out.size)); clear hb1)
              | (go_at_call 20; refine (ref_units _).mono ?_; rintro e w2 ⟨rfl, rfl⟩; unfold unitsObj unitCells))
          go_roundw
          case rel => exact ⟨d + 2, 7, hlen, by omega, by go_num, by go_num, HN2.out, show Below _ _ _ from HB1.out.trans ((Below.refl _ _).alloc HB1.out.size _)⟩
          case measure => (simp [intOf] <;> omega)
end Go.Proofs.YtmfnkilohicapaaGreatDoor

/- Package lex's 'times': a number of digits, so often, at most one more than the longest duration. The digits are digits. -/
namespace Go.Proofs.YtmfnkilohicapaaGreatDoor
open Go.RowKit

theorem val_snoc (l : List UInt8) (c : UInt8) : val (l ++ [c]) = 10 * val l + (c.toNat - 48) := by
  unfold val; rw [List.foldl_append]; rfl
theorem val_take (s : ByteArray) (k : Nat) (h : k < s.size) : val (s.data.toList.take (k + 1)) = 10 * val (s.data.toList.take k) + (s[k].toNat - 48) := by
  rw [List.take_succ_eq_append_getElem (by rw [← size_len]; exact h), val_snoc]; rfl
/-- At most 2^40 and 1. -/
def capn (n : Nat) : Nat := min n 1099511627777
theorem capn_le (n : Nat) : capn n ≤ 1099511627777 := Nat.min_le_right _ _

set_option maxHeartbeats 1000000 in
theorem lex_times (s : ByteArray) (ms : Int) (w : World) (hs : s.size ≤ 140737488355328) (hd : ∀ k (h : k < s.size), isDig s[k] = true) (h1 : 1 ≤ ms) (h2 : ms ≤ 31536000000) :
    Calls Tryz.prog 39 #[.string s, .int .i64 ms] w fun e w' => e = .returned (.int .i64 (capn (val s.data.toList * ms.toNat))) ∧ w = w' := by
  have Hd := Lib.hid hd
  clear hd
  go_enter Tryz.func39, Tryz.ntmps39
  go_wp2
  go_loop [5, 6, 9] (fun v5 _ v9 => ∃ k : Nat, k ≤ s.size ∧ v9 = .int .i64 k ∧ v5 = .int .i64 (capn (val (s.data.toList.take k)))) (fun _ _ v9 => s.size - (intOf v9).toNat)
  case atStart => exact ⟨0, by omega, rfl, rfl⟩
  case round =>
    obtain ⟨k, hk, rfl, rfl⟩ := hrel
    obtain ⟨V, hV⟩ : ∃ V, val (s.data.toList.take k) = V := ⟨_, rfl⟩
    rw [hV]
    by_cases hlt : k < s.size
    · have hlt' : (k : Int) < (s.size : Int) := by omega
      have hvt := val_take s k hlt
      have hdk := (isDig_iff _).1 (Hd.out k hlt)
      obtain ⟨c, hc⟩ : ∃ c, s[k] = c := ⟨_, rfl⟩
      rw [hc] at hvt hdk
      rw [hV] at hvt
      have hcap := capn_le V
      obtain ⟨C, hC⟩ : ∃ C, capn V = C := ⟨_, rfl⟩
      rw [hC] at hcap ⊢
      have HC := Lib.hid hC
      have Hvt := Lib.hid hvt
      have HV := Lib.hid hV
      clear hC hvt hV
      obtain ⟨hd1, hd2⟩ := hdk
      go_wp2
      go_round
      case rel =>
        refine ⟨k + 1, by omega, by go_num, ?_⟩
        rw [Hvt.out]
        have h3 := HC.out
        unfold capn at h3 ⊢
        congr 1
        omega
      case measure => (simp [intOf] <;> omega)
    · have hke : k = s.size := by omega
      have hVall : val s.data.toList = V := by
        rw [← hV, hke, List.take_of_length_le (by rw [← size_len]; exact Nat.le_refl _)]
      have hcap := capn_le V
      obtain ⟨C, hC⟩ : ∃ C, capn V = C := ⟨_, rfl⟩
      rw [hC] at hcap ⊢
      obtain ⟨m, rfl⟩ := Int.eq_ofNat_of_zero_le (show 0 ≤ ms by omega)
      have HVall := Lib.hid hVall
      have HC := Lib.hid hC
      have hlt' : ¬ (k : Int) < (s.size : Int) := by omega
      clear hC hVall hke hV
      have hq1 : (1099511627776 / m) * m ≤ 1099511627776 := Nat.div_mul_le_self _ _
      have hq2 : 1099511627776 < (1099511627776 / m + 1) * m := by
        rw [Nat.mul_comm]; exact Nat.lt_mul_div_succ _ (by omega)
      obtain ⟨D, hD⟩ : ∃ D, 1099511627776 / m = D := ⟨_, rfl⟩
      rw [hD] at hq1 hq2
      have hDi : (1099511627776 : Int) / (m : Int) = (D : Int) := by rw [← hD]; rfl
      have hD2 : D ≤ 1099511627776 := by rw [← hD]; exact Nat.div_le_self _ _
      clear hD
      have Hq1 := Lib.hid hq1
      have Hq2 := Lib.hid hq2
      clear hq1 hq2
      by_cases hbig : D + 1 < C
      · have hbig' : (D : Int) + 1 < (C : Int) := by omega
        go_wp2
        go_ret
        refine ⟨ret_int ?_, rfl⟩
        rw [HVall.out]
        have h1 : (D + 1) * m ≤ V * m := Nat.mul_le_mul_right _ (by have := HC.out; unfold capn at this; omega)
        have h2 := Hq2.out
        unfold capn
        omega
      · have hbig' : ¬ (D : Int) + 1 < (C : Int) := by omega
        have hm1 : C * m ≤ (D + 1) * m := Nat.mul_le_mul_right _ (by omega)
        have hm2 : (D + 1) * m ≤ 1099511627776 + m := by have := Hq1.out; rw [Nat.add_mul, Nat.one_mul]; omega
        have hm3 : (C : Int) * (m : Int) = ((C * m : Nat) : Int) := by simp
        have hm4 : (C : Int) * (m : Int) ≤ 1131047627776 := by omega
        have hm5 : 0 ≤ (C : Int) * (m : Int) := by omega
        have Hm3 := Lib.hid hm3
        clear hm1 hm2 hm3
        go_wp2
        go_ret
        refine ⟨ret_int ?_, rfl⟩
        rw [HVall.out, Hm3.out]
        have h3 := HC.out
        have h1 : C * m ≤ V * m := Nat.mul_le_mul_right _ (by unfold capn at h3; omega)
        unfold capn at h3 ⊢
        rcases Nat.lt_or_ge V 1099511627777 with hv | hv
        · obtain rfl : V = C := by omega
          omega
        · have h4 : 1099511627777 * 1 ≤ V * m := Nat.mul_le_mul hv (by omega)
          have h5 : 1099511627777 * 1 ≤ C * m := Nat.mul_le_mul (by omega) (by omega)
          omega
end Go.Proofs.YtmfnkilohicapaaGreatDoor
