/- The shift to the right. -/
import Derived.Test.YtmfnkilohicapaaGreatDoorDc
import Derived.Deep.CutBlock
import Derived.Laws.Bits64b
namespace Go.Proofs.YtmfnkilohicapaaGreatDoor
open Go.RowKit

theorem shr_cast (n k : Nat) : ((n : Nat) : Int) / 2 ^ k = ((n / 2 ^ k : Nat) : Int) := by simp
theorem shr_zero {n k : Nat} (h : n < 2 ^ k) : (((n : Nat) : Int) / 2 ^ k == 0) = true := by
  rw [shr_cast, Nat.div_eq_of_lt h]; rfl
theorem shr_pos {n k : Nat} (h : 2 ^ k ≤ n) : (((n : Nat) : Int) / 2 ^ k == 0) = false := by
  rw [shr_cast]
  have : 1 ≤ n / 2 ^ k := (Nat.le_div_iff_mul_le (Nat.pow_pos (by decide))).2 (by omega)
  exact beq_eq_false_iff_ne.2 (by omega)
theorem DecAt.of_eq {w : World} {b : Nat} {D D' : Dst} (h : DecAt w b D) (h1 : ∀ i, i < 800 → D'.d i = D.d i) (h2 : D'.nd = D.nd) (h3 : D'.dp = D.dp) (h4 : D'.tr = D.tr) : DecAt w b D' :=
  ⟨fun i hi => by rw [h1 i hi]; exact h.dig i hi, by rw [h2]; exact h.nd, by rw [h3]; exact h.dp, h.neg, by rw [h4]; exact h.tr, h.frz⟩
theorem u64_lt {x : Int} (h0 : 0 ≤ x) (h1 : x < 18446744073709551616) : IntKind.u64.wrap x = x := by
  rw [IntKind.wrap_u64]; omega
theorem mask_eq (k : Nat) (hk : k ≤ 60) : IntKind.u64.wrap (IntKind.u64.wrap (2 ^ k) - 1) = ((2 ^ k - 1 : Nat) : Int) := by
  have h1 : (2 : Nat) ^ k ≤ 2 ^ 60 := Nat.pow_le_pow_right (by decide) hk
  have h2 : 0 < (2 : Nat) ^ k := Nat.pow_pos (by decide)
  have e : ((2 : Int) ^ k) = ((2 ^ k : Nat) : Int) := by simp
  rw [e]
  generalize (2 : Nat) ^ k = p at *
  have e1 : IntKind.u64.wrap (p : Int) = p := u64_lt (by omega) (by omega)
  rw [e1, u64_lt (by omega) (by omega)]
  omega
theorem and_mask (n k : Nat) (hk : k ≤ 60) (hn : n < 18446744073709551616) : bits .and .u64 (n : Int) ((2 ^ k - 1 : Nat) : Int) = ((n % 2 ^ k : Nat) : Int) := by
  have h1 : (2 : Nat) ^ k ≤ 2 ^ 60 := Nat.pow_le_pow_right (by decide) hk
  rw [bits_and_u64_nat n _ hn (by omega), Nat.and_two_pow_sub_one_eq_mod]
set_option maxRecDepth 100000 in
set_option maxHeartbeats 4000000 in
theorem rightShift_w (D : Dst) (hg : Good D) (hdp : -1000000000 ≤ D.dp) (hdp2 : D.dp ≤ 1000000000) (k R J : Nat) (hk1 : 1 ≤ k) (hk2 : k ≤ 60) (hR1 : 1 ≤ R) (hR2 : R ≤ 20) (hR3 : 2 ^ k ≤ pv D R) (hR4 : pv D R < 10 * 2 ^ k) (hR5 : ∀ r, r < R → pv D r < 2 ^ k)
    (hJ1 : D.nd ≤ R + J) (hJ2 : rn D k R J = 0) (hJ3 : ∀ j, j < J → ¬ (D.nd ≤ R + j ∧ rn D k R j = 0)) (b : Nat) (w : World) (hD : DecAt w b D) :
    Calls Tryz.prog 137 #[.pointer (some ⟨b, 0, none⟩), .int .u64 k] w fun e w' => e = .returned (.tuple #[]) ∧ DecAt w' b (rsh D k R J) ∧ Below b w w' := by
  have hp60 : 2 ^ k ≤ 1152921504606846976 := by
    have : (2 : Nat) ^ k ≤ 2 ^ 60 := Nat.pow_le_pow_right (by decide) hk2
    simpa using this
  have hnd1 := hg.n1
  have hnd2 := hg.n2
  have hk64 : (k : Int) < 64 := by omega
  have cnd := hD.nd
  have HD := Lib.hid hD
  have HR5 := Lib.hid hR5
  have HJ3 := Lib.hid hJ3
  have HJ2 := Lib.hid hJ2
  have HR3 := Lib.hid hR3
  have HR4 := Lib.hid hR4
  have HP := Lib.hid hp60
  clear hD hR5 hJ3 hJ2 hR3 hR4 hp60
  go_enter Tryz.func137, Tryz.ntmps137
  go_upto_block 0 with (fail)
  go_cut [4, 6] (fun v4 v6 wc => v4 = .int .i64 R ∧ v6 = .int .u64 (pv D R : Nat) ∧ w = wc)
  case first =>
    go_wp2_with fail
    go_loopg [4, 6] R (fun g v4 v6 wx => w = wx ∧ ∃ r, r + g = R ∧ v4 = .int .i64 r ∧ v6 = .int .u64 (pv D r : Nat))
    case atStart => exact ⟨rfl, 0, by omega, rfl, rfl⟩
    case round =>
      obtain ⟨rfl, r, hrg, rfl, rfl⟩ := hrel
      by_cases hlt : r < R
      · have hv : pv D r < 2 ^ k := HR5.out r hlt
        have hv2 : pv D r < 1152921504606846976 := Nat.lt_of_lt_of_le hv HP.out
        have hq := shr_zero hv
        have hsucc : pv D (r + 1) = pv D r * 10 + dg D r := rfl
        have Hs := Lib.hid hsucc
        obtain ⟨g, rfl⟩ : ∃ g, gk = g + 1 := ⟨gk - 1, by omega⟩
        clear hv hsucc
        by_cases hnd : r < D.nd
        · have hdr := hg.dig r hnd
          have hcr := HD.out.dig r (by omega)
          have hdg : dg D r = D.d r - 48 := by unfold dg; rw [if_pos hnd]
          have Hd := Lib.hid hdg
          clear hdg
          obtain ⟨c, hc⟩ : ∃ c, D.d r = c := ⟨_, rfl⟩
          obtain ⟨n, hn⟩ : ∃ n, pv D r = n := ⟨_, rfl⟩
          rw [hc] at hcr hdr
          rw [hn] at hq hv2 ⊢
          have Hc := Lib.hid hc
          have Hn := Lib.hid hn
          clear hc hn
          obtain ⟨hd1, hd2⟩ := hdr
          go_wp2
          go_roundg g
          case measure => omega
          case rel =>
            refine ⟨rfl, r + 1, by omega, by go_num, ?_⟩
            have e := Hs.out
            rw [Hd.out, Hn.out, Hc.out] at e
            rw [e]
            exact congrArg _ (by omega)
        · have h1 : 1 ≤ pv D r := by
            obtain ⟨m, rfl⟩ : ∃ m, r = m + 1 := ⟨r - 1, by omega⟩
            exact Nat.le_trans (Nat.pow_pos (by decide)) (pv_ge hg m)
          have hn0 : ((pv D r : Nat) : Int) ≠ 0 := by omega
          have hn1 : (((pv D r : Nat) : Int) == 0) = false := beq_eq_false_iff_ne.2 hn0
          clear hn0
          have hndi : (D.nd : Int) ≤ (r : Int) := by omega
          go_wp2
          go_loopg [4, 6] (R - r) (fun g v4 v6 wx => w = wx ∧ ∃ q, q + g = R ∧ r ≤ q ∧ v4 = .int .i64 q ∧ v6 = .int .u64 (pv D q : Nat))
          case atStart => exact ⟨rfl, r, by omega, by omega, rfl, rfl⟩
          case round =>
            obtain ⟨rfl, q, hqg, hrq, rfl, rfl⟩ := hrel
            by_cases hlt2 : q < R
            · have hv3 : pv D q < 2 ^ k := HR5.out q hlt2
              have hv4 : pv D q < 1152921504606846976 := Nat.lt_of_lt_of_le hv3 HP.out
              have hq3 := shr_zero hv3
              have Hs3 : Hid (pv D (q + 1) = pv D q * 10) := by
                show pv D q * 10 + dg D q = _
                unfold dg
                rw [if_neg (by omega)]; rfl
              obtain ⟨g3, rfl⟩ : ∃ g, gk = g + 1 := ⟨gk - 1, by omega⟩
              clear hv3 hq hv2 hn1
              go_wp2
              go_roundg g3
              case measure => omega
              case rel =>
                refine ⟨rfl, q + 1, by omega, by omega, by go_num, ?_⟩
                rw [Hs3.out]
                exact congrArg _ (by omega)
            · obtain rfl : q = R := by omega
              have hq3 := shr_pos HR3.out
              clear hq hv2 hn1
              go_wp2
              go_meet
              exact ⟨rfl, rfl, rfl⟩
      · obtain rfl : r = R := by omega
        have hq := shr_pos HR3.out
        go_wp2
        go_meet
        exact ⟨rfl, rfl, rfl⟩
  case rest =>
    obtain ⟨rfl, rfl, rfl⟩ := hcut
    have cdp := HD.out.dp
    have fdp := HD.out.frz 801
    obtain ⟨m, hm⟩ : ∃ m : Nat, 2 ^ k - 1 = m := ⟨_, rfl⟩
    have hmask := mask_eq k hk2
    rw [hm] at hmask
    have Hm := Lib.hid hm
    have hJ0 : J ≠ 0 := fun e => by
      have h1 := HJ2.out
      have h2 := HR3.out
      rw [e] at h1
      have h1 : pv D R = 0 := h1
      have : 0 < 2 ^ k := Nat.pow_pos (by decide)
      omega
    have hrlt : Hid (∀ j, rn D k R j < 10 * 2 ^ k) := rn_lt hg k R HR4.out
    clear hm
    obtain ⟨dp, hdpe⟩ : ∃ dp, D.dp - ((R : Int) - 1) = dp := ⟨_, rfl⟩
    have Hdpe := Lib.hid hdpe
    have HD1 : Hid (DecAt (w.setCell ⟨b, 801, none⟩ (.int .i64 dp)) b ⟨D.d, D.nd, dp, D.tr⟩) := HD.out.putDp dp
    have HB1 : Hid (Below b w (w.setCell ⟨b, 801, none⟩ (.int .i64 dp))) := Lib.hid ((Below.refl b w).setCell (p := ⟨b, 801, none⟩) (Nat.le_refl _) _)
    go_upto_block 4 with (fail)
    clear hmask cdp fdp cnd hdpe
    go_cut [4, 5, 6] (fun v4 v5 v6 wc => ∃ j : Nat, D.nd ≤ R + j ∧ j ≤ J ∧ j ≤ 800 ∧ v5 = .int .i64 j ∧ v6 = .int .u64 (rn D k R j : Nat) ∧ Hid (DecAt wc b ⟨rmem D k R j, D.nd, dp, rtr D k R j⟩) ∧ Hid (Below b w wc))
    case first =>
      go_wp2_with fail
      go_loopg [4, 5, 6] (D.nd + 1) (fun g v4 v5 v6 wx => ∃ j : Nat, j + g = D.nd + 1 ∧ (j = 0 ∨ R + j ≤ D.nd) ∧ v4 = .int .i64 (R + j : Nat) ∧ v5 = .int .i64 j ∧ v6 = .int .u64 (rn D k R j : Nat) ∧ Hid (DecAt wx b ⟨rmem D k R j, D.nd, dp, rtr D k R j⟩) ∧ Hid (Below b w wx))
      case atStart =>
        refine ⟨0, by omega, Or.inl rfl, rfl, rfl, rfl, HD1.out.of_eq (fun i hi => ?_) rfl rfl rfl, HB1⟩
        show rmem D k R 0 i = D.d i
        unfold rmem
        rw [if_neg (by omega)]
      case round =>
        obtain ⟨j, hjg, hj0, rfl, rfl, rfl, hdx, hbx⟩ := hrel
        have cnd := hdx.out.nd
        by_cases hlt : R + j < D.nd
        · obtain ⟨g, rfl⟩ : ∃ g, gk = g + 1 := ⟨gk - 1, by omega⟩
          have hcr : rmem D k R j (R + j) = D.d (R + j) := by unfold rmem; rw [if_neg (by omega)]
          have cr : wr.cell? ⟨b, R + j, none⟩ = some (.int .u8 (D.d (R + j) : Nat)) := by rw [← hcr]; exact hdx.out.dig (R + j) (by omega)
          have cw : wr.cell? ⟨b, j, none⟩ = some (.int .u8 (rmem D k R j j : Nat)) := hdx.out.dig j (by omega)
          have fw := hdx.out.frz j
          obtain ⟨hd1, hd2⟩ := hg.dig (R + j) hlt
          have hq9 := rmem_dig hg k R HR4.out j
          have hNlt := hrlt.out j
          have hsucc : rn D k R (j + 1) = rn D k R j % 2 ^ k * 10 + (D.d (R + j) - 48) := by
            show rn D k R j % 2 ^ k * 10 + dg D (R + j) = _
            unfold dg; rw [if_pos hlt]
          have hmem : ∀ i, i < 800 → rmem D k R (j + 1) i = if i = j then rn D k R j / 2 ^ k + 48 else rmem D k R j i := by
            intro i hi
            unfold rmem
            by_cases e : i = j
            · rw [if_pos e, if_pos ⟨by omega, hi⟩, e]
            · rw [if_neg e]
              by_cases e2 : i < j
              · rw [if_pos ⟨by omega, hi⟩, if_pos ⟨e2, hi⟩]
              · rw [if_neg (by omega), if_neg (by omega)]
          have htr : rtr D k R (j + 1) = rtr D k R j := by
            show (rtr D k R j || (decide (800 ≤ j) && _)) = _
            rw [decide_eq_false (by omega), Bool.false_and, Bool.or_false]
          have hlow : rn D k R j % 2 ^ k < 1152921504606846976 := Nat.lt_of_lt_of_le (Nat.mod_lt _ (Nat.pow_pos (by decide))) HP.out
          have hNb : rn D k R j < 11529215046068469760 := by have := HP.out; omega
          have hand := and_mask (rn D k R j) k hk2 (by omega)
          rw [Hm.out] at hand
          have hdiv := shr_cast (rn D k R j) k
          have hdx := hdx
          obtain ⟨N, hN⟩ : ∃ N, rn D k R j = N := ⟨_, rfl⟩
          obtain ⟨N', hN'⟩ : ∃ N', rn D k R j % 2 ^ k = N' := ⟨_, rfl⟩
          obtain ⟨q, hq⟩ : ∃ q, rn D k R j / 2 ^ k = q := ⟨_, rfl⟩
          obtain ⟨c, hc⟩ : ∃ c, D.d (R + j) = c := ⟨_, rfl⟩
          obtain ⟨x, hx⟩ : ∃ x, rmem D k R j j = x := ⟨_, rfl⟩
          rw [hN'] at hand hlow hsucc
          rw [hq] at hdiv hq9 hmem
          rw [hN] at hand hdiv hNb ⊢
          rw [hc] at cr hd1 hd2 hsucc
          rw [hx] at cw
          have Hsucc := Lib.hid hsucc
          have Hmem := Lib.hid hmem
          have Htr := Lib.hid htr
          have hlt' : (R : Int) + (j : Int) < (D.nd : Int) := by omega
          have hj8 : (j : Int) < 800 := by omega
          have hj8' : j < 800 := by omega
          clear hsucc hmem htr hN hN' hq hc hx hcr hNlt
          go_wp2
          go_roundg g
          case measure => omega
          case rel =>
            refine ⟨j + 1, by omega, by omega, by go_num, by go_num, ?_, ?_, ?_⟩
            · rw [Hsucc.out]
              exact congrArg _ (by omega)
            · have h5 := hdx.out.putDig j (q + 48) hj8'
              exact Lib.hid (h5.of_eq Hmem.out rfl rfl Htr.out)
            · exact Lib.hid (hbx.out.setCell (p := ⟨b, j, none⟩) (Nat.le_refl _) _)
        · go_wp2
          go_meet
          exact ⟨j, by omega, by omega, by omega, rfl, rfl, hdx, hbx⟩
    case rest =>
      obtain ⟨j, hj1, hj2, hj3, rfl, rfl, hdx, hbx⟩ := hcut
      go_wp2_with fail
      go_loopg [5, 6] (J - j) (fun g v5 v6 wx => ∃ i : Nat, i + g = J ∧ D.nd ≤ R + i ∧ v5 = .int .i64 (min i 800 : Nat) ∧ v6 = .int .u64 (rn D k R i : Nat) ∧ Hid (DecAt wx b ⟨rmem D k R i, D.nd, dp, rtr D k R i⟩) ∧ Hid (Below b w wx))
      case atStart => exact ⟨j, by omega, hj1, by rw [Nat.min_eq_left hj3], rfl, hdx, hbx⟩
      case round =>
        clear hdx hbx
        obtain ⟨i, hig, hi1, rfl, rfl, hdx, hbx⟩ := hrel
        by_cases hlt : i < J
        · obtain ⟨g, rfl⟩ : ∃ g, gk = g + 1 := ⟨gk - 1, by omega⟩
          have hN0 : rn D k R i ≠ 0 := fun e => HJ3.out i hlt ⟨hi1, e⟩
          have hq9 := rmem_dig hg k R HR4.out i
          have hNlt := hrlt.out i
          have hsucc : rn D k R (i + 1) = rn D k R i % 2 ^ k * 10 := by
            show rn D k R i % 2 ^ k * 10 + dg D (R + i) = _
            unfold dg; rw [if_neg (by omega)]; rfl
          have hlow : rn D k R i % 2 ^ k < 1152921504606846976 := Nat.lt_of_lt_of_le (Nat.mod_lt _ (Nat.pow_pos (by decide))) HP.out
          have hNb : rn D k R i < 11529215046068469760 := by have := HP.out; omega
          have hand := and_mask (rn D k R i) k hk2 (by omega)
          rw [Hm.out] at hand
          have hdiv := shr_cast (rn D k R i) k
          have htr : rtr D k R (i + 1) = (rtr D k R i || (decide (800 ≤ i) && decide (0 < rn D k R i / 2 ^ k))) := rfl
          have hmem : ∀ y, y < 800 → rmem D k R (i + 1) y = if y = i then rn D k R i / 2 ^ k + 48 else rmem D k R i y := by
            intro y hy
            unfold rmem
            by_cases e : y = i
            · rw [if_pos e, if_pos ⟨by omega, hy⟩, e]
            · rw [if_neg e]
              by_cases e2 : y < i
              · rw [if_pos ⟨by omega, hy⟩, if_pos ⟨e2, hy⟩]
              · rw [if_neg (by omega), if_neg (by omega)]
          obtain ⟨N, hN⟩ : ∃ N, rn D k R i = N := ⟨_, rfl⟩
          obtain ⟨N', hN'⟩ : ∃ N', rn D k R i % 2 ^ k = N' := ⟨_, rfl⟩
          obtain ⟨q, hq⟩ : ∃ q, rn D k R i / 2 ^ k = q := ⟨_, rfl⟩
          rw [hN'] at hand hlow hsucc
          rw [hq] at hdiv hq9 hmem htr
          rw [hN] at hand hdiv hNb hN0 ⊢
          have Hsucc := Lib.hid hsucc
          have Hmem := Lib.hid hmem
          have Htr := Lib.hid htr
          have hN1 : (0 : Int) < (N : Int) := by omega
          clear hsucc hmem htr hN hN' hq hNlt hN0
          by_cases h8 : i < 800
          · rw [Nat.min_eq_left (by omega)]
            have cw : wr.cell? ⟨b, i, none⟩ = some (.int .u8 (rmem D k R i i : Nat)) := hdx.out.dig i h8
            have fw := hdx.out.frz i
            have h8' : (i : Int) < 800 := by omega
            go_wp2
            go_roundg g
            case measure => omega
            case rel =>
              refine ⟨i + 1, by omega, by omega, ?_, ?_, ?_, ?_⟩
              · rw [Nat.min_eq_left (by omega)]; go_num
              · rw [Hsucc.out]
                exact congrArg _ (by omega)
              · have h5 := hdx.out.putDig i (q + 48) h8
                refine Lib.hid (h5.of_eq Hmem.out rfl rfl ?_)
                show rtr D k R (i + 1) = rtr D k R i
                rw [Htr.out, decide_eq_false (show ¬ 800 ≤ i by omega), Bool.false_and, Bool.or_false]
              · exact Lib.hid (hbx.out.setCell (p := ⟨b, i, none⟩) (Nat.le_refl _) _)
          · rw [Nat.min_eq_right (by omega)]
            have Hsame : Hid (∀ y, y < 800 → rmem D k R (i + 1) y = rmem D k R i y) := by
              intro y hy
              rw [Hmem.out y hy, if_neg (by omega)]
            by_cases hq0 : 0 < q
            · have hq0' : (0 : Int) < (q : Int) := by omega
              have ct := hdx.out.tr
              have ft := hdx.out.frz 803
              go_wp2
              go_roundg g
              case measure => omega
              case rel =>
                refine ⟨i + 1, by omega, by omega, ?_, ?_, ?_, ?_⟩
                · rw [Nat.min_eq_right (by omega)]; rfl
                · rw [Hsucc.out]
                  exact congrArg _ (by omega)
                · have h5 := hdx.out.putTr true
                  refine Lib.hid (h5.of_eq Hsame.out rfl rfl ?_)
                  show rtr D k R (i + 1) = true
                  rw [Htr.out, decide_eq_true (show 800 ≤ i by omega), decide_eq_true hq0, Bool.true_and, Bool.or_true]
                · exact Lib.hid (hbx.out.setCell (p := ⟨b, 803, none⟩) (Nat.le_refl _) _)
            · have hq0' : ¬ (0 : Int) < (q : Int) := by omega
              go_wp2
              go_roundg g
              case measure => omega
              case rel =>
                refine ⟨i + 1, by omega, by omega, ?_, ?_, ?_, hbx⟩
                · rw [Nat.min_eq_right (by omega)]; rfl
                · rw [Hsucc.out]
                  exact congrArg _ (by omega)
                · refine Lib.hid (hdx.out.of_eq Hsame.out rfl rfl ?_)
                  show rtr D k R (i + 1) = rtr D k R i
                  rw [Htr.out, decide_eq_false hq0, Bool.and_false, Bool.or_false]
        · obtain rfl : i = J := by omega
          rw [HJ2.out]
          have cn := hdx.out.nd
          have fn := hdx.out.frz 800
          obtain ⟨W, hW⟩ : ∃ W, min i 800 = W := ⟨_, rfl⟩
          have hW1 : 1 ≤ W := by omega
          have hW2 : W ≤ 800 := by omega
          rw [hW]
          have HW := Lib.hid hW
          clear hW
          have hd0 : rmem D k R i 0 ≠ 48 := (rsh_good hg k R i HR3.out HR4.out (by omega)).hd
          have Hd0 := Lib.hid hd0
          have Hnd : Hid (DecAt (wr.setCell ⟨b, 800, none⟩ (.int .i64 (W : Nat))) b ⟨rmem D k R i, W, dp, rtr D k R i⟩) := hdx.out.putNd W
          clear hd0
          go_wp2_with (go_at_call 140; refine (trim_ b ⟨rmem D k R i, W, dp, rtr D k R i⟩ hW1 hW2 Hd0.out _ Hnd.out).mono ?_; rintro e w' ⟨rfl, hda, hbb⟩)
          go_end0
          refine ⟨rfl, ?_, (hbx.out.setCell (p := ⟨b, 800, none⟩) (Nat.le_refl _) _).trans hbb⟩
          refine hda.of_eq (fun _ _ => rfl) ?_ ?_ rfl
          · show trimN (rmem D k R i) (min i 800) = trimN (rmem D k R i) W
            rw [HW.out]
          · show D.dp - ((R - 1 : Nat) : Int) = dp
            rw [← Hdpe.out]; omega
end Go.Proofs.YtmfnkilohicapaaGreatDoor

/- Does the head of a decimal come ahead of a text? -/
namespace Go.Proofs.YtmfnkilohicapaaGreatDoor
open Go.RowKit

set_option maxRecDepth 100000 in
set_option maxHeartbeats 2000000 in
theorem prefixLess_ (b : Nat) (d : Nat → Nat) (nd : Nat) (hnd : nd ≤ 800) (s : ByteArray) (_hs : s.size ≤ 100) (w : World) (hc : ∀ i, i < nd → w.cell? ⟨b, i, none⟩ = some (.int .u8 (d i : Nat))) :
    Calls Tryz.prog 139 #[.slice (some ⟨b, 0, none⟩) nd 800, .string s] w fun e w' => e = .returned (.bool (pl d nd s.data.toList 0)) ∧ ∃ n, w' = w.drewN n := by
  obtain ⟨A, hA⟩ : ∃ A, pl d nd s.data.toList 0 = A := ⟨_, rfl⟩
  rw [hA]
  have HA : Hid (pl d nd (s.data.toList.drop 0) 0 = A) := hA
  have Hc := Lib.hid hc
  clear hA hc
  go_enter Tryz.func139, Tryz.ntmps139
  go_wp2
  go_loopg [5] s.size (fun g v5 wx => ∃ i : Nat, i + g = s.size ∧ v5 = .int .i64 i ∧ Hid (pl d nd (s.data.toList.drop i) i = A) ∧ ∃ n, wx = w.drewN n)
  case atStart => exact ⟨0, by omega, rfl, HA, 0, rfl⟩
  case round =>
    obtain ⟨i, hig, rfl, hp, n, rfl⟩ := hrel
    by_cases hlt : i < s.size
    · obtain ⟨g, rfl⟩ : ∃ g, gk = g + 1 := ⟨gk - 1, by omega⟩
      obtain ⟨c, hcx⟩ : ∃ c, s[i] = c := ⟨_, rfl⟩
      have hdrop : s.data.toList.drop i = c :: s.data.toList.drop (i + 1) := by
        rw [← hcx]
        exact List.drop_eq_getElem_cons (by simpa using hlt)
      have hp2 := hp.out
      rw [hdrop] at hp2
      have Hp2 : Hid ((if nd ≤ i then true else if d i = c.toNat then pl d nd (s.data.toList.drop (i + 1)) (i + 1) else decide (d i < c.toNat)) = A) := hp2
      have hlti : (i : Int) < (s.size : Int) := by omega
      clear hdrop hp2 hp
      by_cases hn : nd ≤ i
      · have hni : (nd : Int) ≤ (i : Int) := by omega
        have hAt : A = true := by have := Hp2.out; rw [if_pos hn] at this; exact this.symm
        subst hAt
        go_wp2
        go_ret
        exact ⟨rfl, n, rfl⟩
      · have hni : ¬ (nd : Int) ≤ (i : Int) := by omega
        have ci := Hc.out i (by omega)
        have ci' : (w.drewN n).cell? ⟨b, i, none⟩ = some (.int .u8 (d i : Nat)) := ci
        obtain ⟨x, hx⟩ : ∃ x, d i = x := ⟨_, rfl⟩
        have Hx := Lib.hid hx
        rw [hx] at ci ci'
        by_cases hxc : x = c.toNat
        · have hA2 : Hid (pl d nd (s.data.toList.drop (i + 1)) (i + 1) = A) := by
            have := Hp2.out
            rw [if_neg hn, if_pos (by rw [Hx.out]; exact hxc)] at this
            exact Lib.hid this
          have hxi : ((x : Int) != (c.toNat : Int)) = false := by rw [hxc]; simp
          clear hx
          go_wp2
          go_quiet (fail)
          go_wp2
          go_roundg g
          case measure => omega
          case rel => exact ⟨i + 1, by omega, by go_num, hA2, _, rfl⟩
        · have hA2 : Hid (decide (x < c.toNat) = A) := by
            have := Hp2.out
            rw [if_neg hn, if_neg (by rw [Hx.out]; exact hxc), Hx.out] at this
            exact Lib.hid this
          have hxi : ((x : Int) != (c.toNat : Int)) = true := by
            rw [bne_iff_ne]; omega
          clear hx
          go_wp2
          go_quiet (fail)
          go_wp2
          go_quiet (fail)
          go_wp2
          go_ret
          exact ⟨ret_bool (by rw [← hA2.out]), _, by rw [World.drewN_drewN, World.drewN_drewN]⟩
    · have hlti : ¬ (i : Int) < (s.size : Int) := by omega
      have hAf : A = false := by
        have := hp.out
        rw [List.drop_of_length_le (by simp; omega)] at this
        exact this.symm
      subst hAf
      go_wp2
      go_ret
      exact ⟨rfl, n, rfl⟩
end Go.Proofs.YtmfnkilohicapaaGreatDoor
