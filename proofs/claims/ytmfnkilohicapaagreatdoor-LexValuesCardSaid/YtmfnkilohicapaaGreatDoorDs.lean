/- atofHex: the walk. -/
import Derived.Test.YtmfnkilohicapaaGreatDoorDq
import Derived.LaidEqlPtr
namespace Go.Proofs.YtmfnkilohicapaaGreatDoor
open Go.RowKit

/-- Rounded; a small one; too large a one. -/
def hxRnd (m : Nat) : Bool := bits .or .u64 (bits .and .u64 (m : Int) 3) (bits .and .u64 ((m / 4 : Nat) : Int) 1) == 3
def hxR (m : Nat) (e : Int) : Nat × Int :=
  if hxRnd m then (if m / 4 + 1 = 9007199254740992 then ((m / 4 + 1) / 2, e + 2 + 1) else (m / 4 + 1, e + 2)) else (m / 4, e + 2)
theorem info145 : (Tryz.prog.info? 145).map (·.size) = some 3 := by kernel_rfl
theorem und143 : Tryz.prog.underlying 143 = some (.pointer 145) := by kernel_rfl
/-- The two tables of float formats are two. -/
theorem ne_info {w : World} (hT : Tabs w) (n : Nat) : (binOp .eql 143 (.pointer (some ⟨6, 0, none⟩)) (.pointer (some ⟨4, 0, none⟩))).run Tryz.prog (w.drewN n) = .ok (.bool false) (w.drewN n) := by
  obtain ⟨j, hj, hjs⟩ := Option.map_eq_some_iff.1 info145
  obtain ⟨c4, t4, h4⟩ := hT.hap4
  obtain ⟨c6, t6, h6⟩ := hT.hap6
  exact run_eql_ptr_other (w.drewN n) und143 hj (by rw [hjs]; decide) (fun h => by injection h with h1; exact absurd h1 (by decide)) h6 h4
def AtHex (m : Nat) (p : Int) (tr : Bool) (r : Nat) (er : Value) : Prop := ∀ (x : ByteArray) (w : World), Laid w → Calls Tryz.prog 102 #[.string x, .pointer (some ⟨6, 0, none⟩), .int .u64 m, .int .i64 p, .bool false, .bool tr] w fun e w' => e = .returned (.tuple #[.float .f64 r, er]) ∧ ∃ n, w' = w.drewN n
set_option maxRecDepth 100000 in
set_option maxHeartbeats 4000000 in
theorem atofHex_ (m : Nat) (hm : m < 18446744073709551616) (p : Int) (hp0 : 0 ≤ p) (hp1 : p ≤ 1125899906842624) (tr : Bool) : ∃ r er, ErrOk er ∧ AtHex m p tr r er := by
  obtain ⟨J, hJ, hJ1, hJ2⟩ := up_ex m
  obtain ⟨m1, hm1, hm1b⟩ : ∃ m1 : Nat, m1 = m * 2 ^ J ∧ m1 < 18446744073709551616 := by
    refine ⟨_, rfl, ?_⟩
    cases J with
    | zero => simpa using hm
    | succ j =>
      have := (hJ2 j (by omega)).2
      rw [Nat.pow_succ, ← Nat.mul_assoc]
      omega
  obtain ⟨m2, hm2, hm2b⟩ : ∃ m2 : Nat, (m2 : Int) = (if tr then bits .or .u64 (m1 : Int) 1 else (m1 : Int)) ∧ m2 < 18446744073709551616 := by
    cases tr
    · exact ⟨m1, rfl, hm1b⟩
    · obtain ⟨X, h1, h2⟩ := bits_ex .or (m1 : Int) 1
      exact ⟨X, h1.symm, h2⟩
  obtain ⟨K, hK, hK1, hK2⟩ := down_ex m2 hm2b
  obtain ⟨m3, hm3⟩ : ∃ m3, halves m2 K = m3 := ⟨_, rfl⟩
  obtain ⟨e3, he3⟩ : ∃ e3 : Int, p + 52 - J + K = e3 := ⟨_, rfl⟩
  rw [hm3] at hK1
  obtain ⟨m4, hm4⟩ : ∃ m4, (hxR m3 e3).1 = m4 := ⟨_, rfl⟩
  obtain ⟨e4, he4⟩ : ∃ e4, (hxR m3 e3).2 = e4 := ⟨_, rfl⟩
  have hb4 : m4 ≤ 9007199254740992 ∧ -10 ≤ e4 ∧ e4 ≤ 1125899906842700 := by
    rw [← hm4, ← he4]
    unfold hxR
    split
    · split
      · refine ⟨?_, ?_, ?_⟩ <;> simp <;> omega
      · refine ⟨?_, ?_, ?_⟩ <;> simp <;> omega
    · refine ⟨?_, ?_, ?_⟩ <;> simp <;> omega
  obtain ⟨e5, he5⟩ : ∃ e5 : Int, (if m4 / 4503599627370496 = 0 then -1023 else e4) = e5 := ⟨_, rfl⟩
  have hb5 : -1023 ≤ e5 ∧ e5 ≤ 1125899906842700 := by
    rw [← he5]; split <;> omega
  obtain ⟨hb4a, hb4b, hb4c⟩ := hb4
  obtain ⟨hb5a, hb5b⟩ := hb5
  have key : ∀ (m6 : Nat) (e6 : Int) (er : Value), (e5 > 1023 → m6 = 4503599627370496 ∧ e6 = 1024 ∧ er = .iface 87 (.int .i64 1)) → (¬ e5 > 1023 → m6 = m4 ∧ e6 = e5 ∧ er = .nilIface) → AtHex m p tr (fout m6 e6).toNat er := by
    intro m6 e6 er hover hunder x w hT
    have hT0 := hT.here
    have cm := hT0.mant
    have ce := hT0.expb
    have cb := hT0.bias
    have hfb := frombits
    have hpq := ne_info hT0
    have he6 : -1023 ≤ e6 ∧ e6 ≤ 1125899906842700 := by
      by_cases h : e5 > 1023
      · have := (hover h).2.1; omega
      · have := (hunder h).2.1; omega
    obtain ⟨he6a, he6b⟩ := he6
    have Hover := Lib.hid hover
    have Hunder := Lib.hid hunder
    have HJ1 := Lib.hid hJ1
    have HJ2 := Lib.hid hJ2
    have HK2 := Lib.hid hK2
    have Hm1 := Lib.hid hm1
    have Hm2 := Lib.hid hm2
    have Hm3 := Lib.hid hm3
    have He3 := Lib.hid he3
    have Hm4 := Lib.hid hm4
    have He4 := Lib.hid he4
    have He5 := Lib.hid he5
    clear hT0 hT hover hunder hJ1 hJ2 hK2 hm1 hm2 hm3 he3 hm4 he4 he5
    go_enter Tryz.func102, Tryz.ntmps102
    go_wp2
    go_quiet (fail)
    go_upto_block 0 with (fail)
    go_cut [2, 3] (fun v2 v3 wc => w.drewN nq = wc ∧ v2 = .int .u64 (m1 : Nat) ∧ v3 = .int .i64 (p + 52 - J))
    case first =>
      go_wp2_with fail
      go_loopg [2, 3] J (fun g v2 v3 wx => w.drewN nq = wx ∧ ∃ j : Nat, j + g = J ∧ v2 = .int .u64 (m * 2 ^ j : Nat) ∧ v3 = .int .i64 (p + 52 - j))
      case atStart => exact ⟨rfl, 0, by omega, by simp, by simp⟩
      case round =>
        obtain ⟨rfl, j, hjg, rfl, rfl⟩ := hrel
        by_cases hj : j < J
        · obtain ⟨g, rfl⟩ : ∃ g, gk = g + 1 := ⟨gk - 1, by omega⟩
          obtain ⟨z1, z2⟩ := HJ2.out j hj
          have hs : m * 2 ^ (j + 1) = m * 2 ^ j * 2 := by rw [Nat.pow_succ, ← Nat.mul_assoc]
          have hz : m * 2 ^ j ≠ 0 := Nat.mul_ne_zero z1 (Nat.ne_of_gt (Nat.pow_pos (by decide)))
          generalize m * 2 ^ j = M at *
          have Hs := Lib.hid hs
          have q1 : ((M : Int) != 0) = true := by rw [bne_iff_ne]; omega
          have q2 : ((M : Int) / 18014398509481984 == 0) = true := beq_iff_eq.2 (by omega)
          clear hs hz z1
          go_wp2
          go_roundg g
          case measure => omega
          case rel => exact ⟨rfl, j + 1, by omega, by rw [Hs.out]; exact congrArg _ (by omega), congrArg _ (by omega)⟩
        · obtain rfl : j = J := by omega
          rw [← Hm1.out]
          rcases HJ1.out with h | h
          · have hz : m1 = 0 := by rw [Hm1.out, h, Nat.zero_mul]
            have q1 : ((m1 : Int) != 0) = false := by rw [hz]; rfl
            clear hz h
            go_wp2
            go_meet
            exact ⟨rfl, rfl, rfl⟩
          · rw [← Hm1.out] at h
            have q1 : ((m1 : Int) != 0) = true := by rw [bne_iff_ne]; omega
            have q2 : ((m1 : Int) / 18014398509481984 == 0) = false := beq_eq_false_iff_ne.2 (by omega)
            go_wp2
            go_meet
            exact ⟨rfl, rfl, rfl⟩
    case rest =>
      obtain ⟨rfl, rfl, rfl⟩ := hcut
      go_upto_if 58 with (fail)
      go_cut [2] (fun v2 wc => w.drewN nq = wc ∧ v2 = .int .u64 (m2 : Nat))
      case first =>
        cases tr
        · go_wp2_with fail
          go_meet
          exact ⟨rfl, by rw [Hm2.out]; rfl⟩
        · go_wp2_with fail
          go_meet
          exact ⟨rfl, by rw [Hm2.out]; rfl⟩
      case rest =>
        obtain ⟨rfl, rfl⟩ := hcut
        go_upto_block 2 with (fail)
        go_cut [2, 3] (fun v2 v3 wc => w.drewN nq = wc ∧ v2 = .int .u64 (m3 : Nat) ∧ v3 = .int .i64 e3)
        case first =>
          go_wp2_with fail
          go_loopg [2, 3] K (fun g v2 v3 wx => w.drewN nq = wx ∧ ∃ j : Nat, j + g = K ∧ halves m2 j < 18446744073709551616 ∧ v2 = .int .u64 (halves m2 j : Nat) ∧ v3 = .int .i64 (p + 52 - J + j))
          case atStart => exact ⟨rfl, 0, by omega, hm2b, rfl, by simp⟩
          case round =>
            obtain ⟨rfl, j, hjg, hb, rfl, rfl⟩ := hrel
            by_cases hj : j < K
            · obtain ⟨g, rfl⟩ : ∃ g, gk = g + 1 := ⟨gk - 1, by omega⟩
              have z1 := HK2.out j hj
              have hs : halves m2 (j + 1) = half (halves m2 j) := rfl
              have hlt : halves m2 (j + 1) < 18446744073709551616 := by
                rw [hs]
                have := half_lt (L := 62) (m := halves m2 j) hb
                have e : (2 : Nat) ^ (62 + 1) < 18446744073709551616 := by decide
                omega
              generalize halves m2 j = M at *
              have hh := half_bits M hb
              obtain ⟨X, hX⟩ : ∃ X, half M = X := ⟨_, rfl⟩
              rw [hX] at hh hs
              have Hs := Lib.hid hs
              have Hlt := Lib.hid hlt
              have q1 : ((M : Int) / 36028797018963968 != 0) = true := by rw [bne_iff_ne]; omega
              clear hs hX hlt
              go_wp2
              go_roundg g
              case measure => omega
              case rel => exact ⟨rfl, j + 1, by omega, Hlt.out, by rw [Hs.out], congrArg _ (by omega)⟩
            · obtain rfl : j = K := by omega
              rw [Hm3.out]
              have q1 : ((m3 : Int) / 36028797018963968 != 0) = false := by rw [bne_eq_false_iff_eq]; omega
              go_wp2
              go_meet
              exact ⟨rfl, rfl, congrArg _ He3.out⟩
        case rest =>
          obtain ⟨rfl, rfl, rfl⟩ := hcut
          have he3b : -10 ≤ e3 ∧ e3 ≤ 1125899906842699 := by have := He3.out; omega
          obtain ⟨he3c, he3d⟩ := he3b
          have q3 : ¬ e3 < -1024 := by omega
          have hlt3 : m3 < 36028797018963968 := hK1
          have hrnd : (bits .or .u64 (bits .and .u64 (m3 : Int) 3) (bits .and .u64 ((m3 : Int) / 4) 1) == 3) = hxRnd m3 := by
            unfold hxRnd
            rw [show (m3 : Int) / 4 = ((m3 / 4 : Nat) : Int) by omega]
          obtain ⟨rb, hrb⟩ : ∃ rb, hxRnd m3 = rb := ⟨_, rfl⟩
          rw [hrb] at hrnd
          have Hrb := Lib.hid hrb
          clear hrb
          go_upto_block 4 with (fail)
          go_cut [2, 3] (fun v2 v3 wc => w.drewN nq = wc ∧ v2 = .int .u64 (m3 : Nat) ∧ v3 = .int .i64 e3)
          case first =>
            go_wp2_with fail
            go_loopg [2, 3] 0 (fun g v2 v3 wx => w.drewN nq = wx ∧ v2 = .int .u64 (m3 : Nat) ∧ v3 = .int .i64 e3)
            case atStart => exact ⟨rfl, rfl, rfl⟩
            case round =>
              obtain ⟨rfl, rfl, rfl⟩ := hrel
              by_cases h1 : (1 : Int) < (m3 : Int)
              · go_wp2
                go_meet
                exact ⟨rfl, rfl, rfl⟩
              · go_wp2
                go_meet
                exact ⟨rfl, rfl, rfl⟩
          case rest =>
            obtain ⟨rfl, rfl, rfl⟩ := hcut
            go_upto_if 103 with (fail)
            go_cut [2, 3] (fun v2 v3 wc => w.drewN nq = wc ∧ v2 = .int .u64 (m4 : Nat) ∧ v3 = .int .i64 e4)
            case first =>
              cases rb
              · have hv : hxR m3 e3 = (m3 / 4, e3 + 2) := by unfold hxR; rw [Hrb.out, if_neg (by decide)]
                have Hv := Lib.hid hv
                clear hv
                go_wp2_with fail
                go_meet
                refine ⟨rfl, ?_, ?_⟩
                · rw [← Hm4.out, Hv.out]
                  exact congrArg _ (by simp)
                · rw [← He4.out, Hv.out]
              · by_cases h53 : m3 / 4 + 1 = 9007199254740992
                · have hv : hxR m3 e3 = ((m3 / 4 + 1) / 2, e3 + 2 + 1) := by unfold hxR; rw [Hrb.out, if_pos rfl, if_pos h53]
                  have Hv := Lib.hid hv
                  have q5 : ((m3 : Int) / 4 + 1 == 9007199254740992) = true := beq_iff_eq.2 (by omega)
                  clear hv h53
                  go_wp2_with fail
                  go_meet
                  refine ⟨rfl, ?_, ?_⟩
                  · rw [← Hm4.out, Hv.out]
                    exact congrArg _ (by simp)
                  · rw [← He4.out, Hv.out]
                · have hv : hxR m3 e3 = (m3 / 4 + 1, e3 + 2) := by unfold hxR; rw [Hrb.out, if_pos rfl, if_neg h53]
                  have Hv := Lib.hid hv
                  have q5 : ((m3 : Int) / 4 + 1 == 9007199254740992) = false := beq_eq_false_iff_ne.2 (by omega)
                  clear hv h53
                  go_wp2_with fail
                  go_meet
                  refine ⟨rfl, ?_, ?_⟩
                  · rw [← Hm4.out, Hv.out]
                    exact congrArg _ (by simp)
                  · rw [← He4.out, Hv.out]
            case rest =>
              obtain ⟨rfl, rfl, rfl⟩ := hcut
              clear hrnd
              go_upto_if 124 with (fail)
              go_cut [3] (fun v3 wc => w.drewN nq = wc ∧ v3 = .int .i64 e5)
              case first =>
                by_cases h0 : m4 / 4503599627370496 = 0
                · have hv : e5 = -1023 := by rw [← He5.out, if_pos h0]
                  have Hv := Lib.hid hv
                  have q5 : ((m4 : Int) / 4503599627370496 == 0) = true := beq_iff_eq.2 (by omega)
                  clear hv h0
                  go_wp2_with fail
                  go_meet
                  exact ⟨rfl, by rw [Hv.out]⟩
                · have hv : e5 = e4 := by rw [← He5.out, if_neg h0]
                  have Hv := Lib.hid hv
                  have q5 : ((m4 : Int) / 4503599627370496 == 0) = false := beq_eq_false_iff_ne.2 (by omega)
                  clear hv h0
                  go_wp2_with fail
                  go_meet
                  exact ⟨rfl, by rw [Hv.out]⟩
              case rest =>
                obtain ⟨rfl, rfl⟩ := hcut
                go_upto_if 131 with (fail)
                go_cut [2, 3, 17] (fun v2 v3 v17 wc => w.drewN nq = wc ∧ v2 = .int .u64 (m6 : Nat) ∧ v3 = .int .i64 e6 ∧ v17 = er)
                case first =>
                  by_cases h0 : 1023 < e5
                  · obtain ⟨y1, y2, y3⟩ := Hover.out h0
                    have Y1 := Lib.hid y1
                    have Y2 := Lib.hid y2
                    have Y3 := Lib.hid y3
                    clear y1 y2 y3
                    go_wp2_with fail
                    go_meet
                    exact ⟨rfl, by rw [Y1.out]; rfl, by rw [Y2.out], Y3.out.symm⟩
                  · obtain ⟨y1, y2, y3⟩ := Hunder.out (by omega)
                    have Y1 := Lib.hid y1
                    have Y2 := Lib.hid y2
                    have Y3 := Lib.hid y3
                    clear y1 y2 y3
                    go_wp2_with fail
                    go_meet
                    exact ⟨rfl, by rw [Y1.out], by rw [Y2.out], Y3.out.symm⟩
                case rest =>
                  obtain ⟨rfl, rfl, rfl, rfl⟩ := hcut
                  go_wp2
                  go_quiet (fail)
                  go_wp2
                  go_ret2
                  exact ⟨rfl, _, rfl⟩
  by_cases h : e5 > 1023
  · exact ⟨_, _, Or.inr rfl, key 4503599627370496 1024 (.iface 87 (.int .i64 1)) (fun _ => ⟨rfl, rfl, rfl⟩) (fun h' => absurd h h')⟩
  · exact ⟨_, _, Or.inl rfl, key m4 e5 .nilIface (fun h' => absurd h' h) (fun _ => ⟨rfl, rfl, rfl⟩)⟩
end Go.Proofs.YtmfnkilohicapaaGreatDoor

/- ParseFloat answers at hexadecimal texts. -/
namespace Go.Proofs.YtmfnkilohicapaaGreatDoor
open Go.RowKit

set_option maxRecDepth 100000 in
set_option maxHeartbeats 4000000 in
theorem atof64_hex {x : ByteArray} {H : List UInt8} (hx : HText x H) : ∃ r er, ErrOk er ∧ Atof x r er := by
  obtain ⟨h1, hx0⟩ := byte_at hx.b0
  have hs := hx.size
  have hsp := fun wx => special_zero x h1 hx0 wx
  have hrf := fun wx => readFloat_hex x H hx wx
  obtain ⟨m, hm, hm1⟩ := hfold_nat H
  obtain ⟨v1, v2, v3⟩ := hfold_inv H
  have hHl : H.length ≤ 140737488355328 := by have := hx.len; omega
  obtain ⟨p, hp⟩ : ∃ p : Int, (if (hfold H).m = 0 then 0 else ((hfold H).nd : Int) * 4 - ((hfold H).nm : Int) * 4) = p := ⟨_, rfl⟩
  have hp01 : 0 ≤ p ∧ p ≤ 1125899906842624 := by
    rw [← hp]
    split <;> omega
  obtain ⟨tr, htr⟩ : ∃ tr, (hfold H).tr = tr := ⟨_, rfl⟩
  rw [hp, htr, hm] at hrf
  obtain ⟨r, er, her, hhex⟩ := atofHex_ m hm1 p hp01.1 hp01.2 tr
  have Hsp := Lib.hid hsp
  have Hrf := Lib.hid hrf
  have Hhex := Lib.hid hhex
  have hex : x.extract 0 x.size = x := ByteArray.extract_zero_size
  clear hsp hrf hhex hm hp htr hx0 v1 v2 v3
  refine ⟨r, er, her, fun w hT => ?_⟩
  have HT := Lib.hid hT
  clear hT her
  go_enter Tryz.func80, Tryz.ntmps80
  go_wp2_with (first
    | (go_at_call 100; refine (Hsp.out _).mono ?_; rintro e w' ⟨rfl, rfl⟩)
    | (go_at_call 101; refine (Hrf.out _).mono ?_; rintro e w' ⟨rfl, rfl⟩)
    | (go_at_call 102; refine (Hhex.out _ _ HT.out).mono ?_; rintro e w2 ⟨rfl, n2, rfl⟩))
  go_ret3
  exact ⟨rfl, below_drewN' (Below.refl _ _) _⟩
theorem pf_isHex {x : ByteArray} (h : IsHexText x) : ∃ b, PFspec x b := by
  obtain ⟨H, hx⟩ := htext_of h
  obtain ⟨r, er, h1, h2⟩ := atof64_hex hx
  exact ⟨r, pf_of_atof hx.size h1 h2⟩
theorem pf_all (x : ByteArray) (h : IsHexText x ∨ IsDecText x) : ∃ b, PFspec x b := by
  rcases h with h | h
  · exact pf_isHex h
  · exact pf_isDec h
end Go.Proofs.YtmfnkilohicapaaGreatDoor
