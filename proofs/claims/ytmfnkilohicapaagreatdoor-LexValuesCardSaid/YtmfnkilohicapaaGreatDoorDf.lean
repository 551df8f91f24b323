/- The shift to the left. -/
import Derived.Test.YtmfnkilohicapaaGreatDoorDe
import Derived.Test.YtmfnkilohicapaaGreatDoorCd
namespace Go.Proofs.YtmfnkilohicapaaGreatDoor
open Go.RowKit

theorem und152 : Tryz.prog.underlying 152 = some (.array (Tryz.prog.arrayLen 152) (Tryz.prog.elem 152)) := by kernel_rfl
theorem len152 : Tryz.prog.arrayLen 152 = 800 := by kernel_rfl
theorem el152 : Tryz.prog.elem 152 = 5 := by kernel_rfl
theorem slice_dec (b nd : Nat) (h : nd ≤ 800) (w : World) : (Instr.sliceAt 152 (.pointer (some ⟨b, 0, none⟩)) (some (.int .i64 0)) (some (.int .i64 (nd : Nat))) none).run Tryz.prog w = .ok (.slice (some ⟨b, 0, none⟩) nd 800) w := by
  rw [run_sliceAt_array_lh w 152 _ und152 .i64 .i64 0 nd (by decide) (by omega) (by rw [len152]; omega), len152, el152]
  have : (sizeOf 5).run Tryz.prog w = .ok 1 w := by kernel_rfl
  rw [this]
  simp [Result.andThen, slicedAt, Addr.add]
/-- One place of the shift: the sum, its last digit and what is carried. -/
theorem shl_dig {C c k : Nat} (hk : k ≤ 60) (hC : C < 2 ^ k) (h1 : 48 ≤ c) (h2 : c ≤ 57) : ∃ X Q M : Nat, X = C + (c - 48) * 2 ^ k ∧ Q = X / 10 ∧ M = X % 10 ∧ IntKind.u64.wrap ((C : Int) + IntKind.u64.wrap (((c : Int) - 48) * 2 ^ k)) = (X : Int) ∧ (X : Int) / 10 = (Q : Int) ∧ (X : Int) - 10 * (Q : Int) = (M : Int) ∧ 10 * Q ≤ X ∧ M ≤ 9 ∧ X < 11529215046068469760 := by
  refine ⟨_, _, _, rfl, rfl, rfl, ?_, ?_, ?_, ?_, ?_, ?_⟩
  · have e : ((c : Int) - 48) * 2 ^ k = (((c - 48) * 2 ^ k : Nat) : Int) := by
      rw [Int.natCast_mul, Int.natCast_sub h1]; simp
    have hp : (2 : Nat) ^ k ≤ 2 ^ 60 := Nat.pow_le_pow_right (by decide) hk
    have hm : (c - 48) * 2 ^ k ≤ 9 * 2 ^ k := Nat.mul_le_mul_right _ (by omega)
    rw [e]
    generalize (c - 48) * 2 ^ k = S at *
    generalize (2 : Nat) ^ k = p at *
    rw [u64_lt (x := (S : Int)) (by omega) (by omega)]
    rw [u64_lt (by omega) (by omega)]
    omega
  · omega
  · omega
  · omega
  · omega
  · have hp : (2 : Nat) ^ k ≤ 2 ^ 60 := Nat.pow_le_pow_right (by decide) hk
    have hm : (c - 48) * 2 ^ k ≤ 9 * 2 ^ k := Nat.mul_le_mul_right _ (by omega)
    generalize (c - 48) * 2 ^ k = S at *
    generalize (2 : Nat) ^ k = p at *
    omega
set_option maxRecDepth 100000 in
set_option maxHeartbeats 4000000 in
theorem leftShift_w (D : Dst) (hg : Good D) (hdp : -1000000000 ≤ D.dp) (hdp2 : D.dp ≤ 1000000000) (k : Nat) (hk1 : 1 ≤ k) (hk2 : k ≤ 60) (δ : Nat) (s : List UInt8) (hc : Cheat k δ s) (b : Nat) (w : World) (hD : DecAt w b D) (hT : Tabs w) :
    Calls Tryz.prog 136 #[.pointer (some ⟨b, 0, none⟩), .int .u64 k] w fun e w' => e = .returned (.tuple #[]) ∧ DecAt w' b (lsh D k (addN D δ s)) ∧ Below b w w' := by
  have hA := adds_of hg hc
  obtain ⟨bt, off, cp, ht, hrows⟩ := hT.cheats
  obtain ⟨ht1, ht2⟩ := hrows k δ s hc.row
  have hp60 : 2 ^ k ≤ 1152921504606846976 := by
    have : (2 : Nat) ^ k ≤ 2 ^ 60 := Nat.pow_le_pow_right (by decide) hk2
    simpa using this
  have hnd1 := hg.n1
  have hnd2 := hg.n2
  have hk64 : (k : Int) < 64 := by omega
  have hk61 : (k : Int) < 61 := by omega
  have cnd := hD.nd
  have hδ1 := hc.d1
  have hδ2 := hc.d2
  have hsl := hc.len2
  have hadd : addN D δ s = if pl D.d D.nd s 0 then δ - 1 else δ := rfl
  obtain ⟨δ', hδ'⟩ : ∃ δ', addN D δ s = δ' := ⟨_, rfl⟩
  rw [hδ'] at hA hadd ⊢
  have HD := Lib.hid hD
  have HP := Lib.hid hp60
  have HA := Lib.hid hA
  have Hadd := Lib.hid hadd
  have Hcell : Hid (∀ i, i < D.nd → w.cell? ⟨b, i, none⟩ = some (.int .u8 (D.d i : Nat))) := fun i hi => hD.dig i (by omega)
  have hz : s.toArray.size ≤ 100 := by simp; omega
  have hpre := fun wx h => prefixLess_ b D.d D.nd hnd2 ⟨s.toArray⟩ hz wx h
  obtain ⟨bb, hbb⟩ : ∃ bb, pl D.d D.nd s 0 = bb := ⟨_, rfl⟩
  have hbb' : pl D.d D.nd (⟨s.toArray⟩ : ByteArray).data.toList 0 = bb := by simpa using hbb
  rw [hbb'] at hpre
  have Hpre := Lib.hid hpre
  rw [hbb] at hadd
  have Hadd := Lib.hid hadd
  obtain ⟨S, hS⟩ : ∃ S : ByteArray, (⟨s.toArray⟩ : ByteArray) = S := ⟨_, rfl⟩
  rw [hS] at ht2 Hpre
  clear hD hp60 hA hadd hrows hδ' hpre hbb hbb' hS hz
  go_enter Tryz.func136, Tryz.ntmps136
  go_wp2
  have hsl2 := fun wx => slice_dec b D.nd hnd2 wx
  go_quiet ((go_at_call 139; exact Calls.quiet_of (Hpre.out _ (fun i hi => Hcell.out i hi))))
  clear hsl2
  go_upto_if 30 with (fail)
  go_cut [4] (fun v4 wc => v4 = .int .i64 (δ' : Nat) ∧ w.drewN nq = wc)
  case first =>
    cases bb
    · go_wp2_with fail
      go_meet
      refine ⟨?_, rfl⟩
      rw [Hadd.out, if_neg (by decide)]
    · go_wp2_with fail
      go_meet
      refine ⟨?_, rfl⟩
      rw [Hadd.out, if_pos trivial]
      exact congrArg _ (by omega)
  case rest =>
    obtain ⟨rfl, rfl⟩ := hcut
    have HDq : Hid (DecAt (w.drewN nq) b D) := HD.out.drewN nq
    have HBq : Hid (Below b w (w.drewN nq)) := below_drewN' (Below.refl _ _) nq
    have hδ3 : δ' ≤ 19 := by
      have := Hadd.out
      rw [this]; split <;> omega
    clear Hadd ht ht1 ht2 cnd
    generalize w.drewN nq = wq at *
    have cnq := HDq.out.nd
    go_upto_block 0 with (fail)
    clear cnq
    obtain ⟨N, hN⟩ : ∃ N, D.nd = N := ⟨_, rfl⟩
    have HN := Lib.hid hN
    rw [hN] at hnd1 hnd2 ⊢
    clear hN
    go_wp2_with fail
    go_loopg [5, 6, 7] N (fun g v5 v6 v7 wx => ∃ (j W : Nat) (r : Int), j + g = N ∧ W + j = N + δ' ∧ r + 1 + j = N ∧ v5 = .int .i64 r ∧ v6 = .int .i64 W ∧ v7 = .int .u64 (cf D k j : Nat) ∧ Hid (DecAt wx b ⟨lmem D k δ' j, N, D.dp, ltr D k δ' j⟩) ∧ Hid (Below b w wx))
    case atStart =>
      refine ⟨0, N + δ', (N : Int) - 1, by omega, by omega, by omega, rfl, by go_num, rfl, ?_, HBq⟩
      refine Lib.hid (HDq.out.of_eq (fun i hi => ?_) HN.out.symm rfl rfl)
      show lmem D k δ' 0 i = D.d i
      unfold lmem
      rw [if_neg (by omega)]
    case round =>
      clear HDq HBq
      obtain ⟨j, W, r, hjg, hW, hr, rfl, rfl, rfl, hdx, hbx⟩ := hrel
      by_cases hr0 : 0 ≤ r
      · obtain ⟨R, rfl⟩ := Int.eq_ofNat_of_zero_le hr0
        obtain ⟨g, rfl⟩ : ∃ g, gk = g + 1 := ⟨gk - 1, by omega⟩
        obtain ⟨W, rfl⟩ : ∃ W', W = W' + 1 := ⟨W - 1, by omega⟩
        have hcr : lmem D k δ' j R = D.d R := by unfold lmem; rw [HN.out, if_neg (by omega)]
        have cr : wr.cell? ⟨b, R, none⟩ = some (.int .u8 (D.d R : Nat)) := by rw [← hcr]; exact hdx.out.dig R (by omega)
        obtain ⟨hd1, hd2⟩ := hg.dig R (by rw [HN.out]; omega)
        have hel : el D j = D.d R - 48 := by
          unfold el
          rw [HN.out, if_pos (by omega)]
          congr 2
          omega
        have hlt := cf_lt hg k j
        have hsucc : cf D k (j + 1) = (cf D k j + el D j * 2 ^ k) / 10 := rfl
        have hlo : lo D k δ' W = (cf D k j + el D j * 2 ^ k) % 10 := by
          unfold lo
          rw [HN.out, show N + δ' - 1 - W = j by omega]
        have hmem : ∀ i, i < 800 → lmem D k δ' (j + 1) i = if i = W then lo D k δ' W + 48 else lmem D k δ' j i := by
          intro i hi
          unfold lmem
          rw [HN.out]
          by_cases e : i = W
          · rw [if_pos e, if_pos ⟨by omega, by omega, hi⟩, e]
          · rw [if_neg e]
            by_cases e2 : N + δ' - j ≤ i ∧ i < N + δ' ∧ i < 800
            · rw [if_pos e2, if_pos ⟨by omega, e2.2⟩]
            · rw [if_neg e2, if_neg (by omega)]
        have htr : ltr D k δ' (j + 1) = (ltr D k δ' j || (decide (800 ≤ W) && decide (lo D k δ' W ≠ 0))) := by
          show (ltr D k δ' j || (decide (800 ≤ D.nd + δ' - 1 - j) && decide (lo D k δ' (D.nd + δ' - 1 - j) ≠ 0))) = _
          rw [HN.out, show N + δ' - 1 - j = W by omega]
        obtain ⟨c, hc⟩ : ∃ c, D.d R = c := ⟨_, rfl⟩
        rw [hc] at cr hd1 hd2 hel
        obtain ⟨C, hC⟩ : ∃ C, cf D k j = C := ⟨_, rfl⟩
        rw [hC] at hlt hsucc hlo ⊢
        rw [hel] at hsucc hlo
        obtain ⟨X, Q, M, hX, hQ, hM, x1, x2, x3, x4, x5, x6⟩ := shl_dig hk2 hlt hd1 hd2
        rw [← hX, ← hQ] at hsucc
        rw [← hX, ← hM] at hlo
        rw [hlo] at hmem htr
        have Hsucc := Lib.hid hsucc
        have Hmem := Lib.hid hmem
        have Htr := Lib.hid htr
        clear hcr hc hel hC hlt hsucc hmem htr hlo hX hQ hM
        have hR0 : (0 : Int) ≤ (R : Int) := by omega
        have hrel2 : ∀ wx, Hid (DecAt wx b ⟨lmem D k δ' (j + 1), N, D.dp, ltr D k δ' (j + 1)⟩) → Hid (Below b w wx) → ∃ (j' W' : Nat) (r : Int), j' + g = N ∧ W' + j' = N + δ' ∧ r + 1 + j' = N ∧ Value.int .i64 ((R : Int) - 1) = .int .i64 r ∧ Value.int .i64 (W : Int) = .int .i64 W' ∧ Value.int .u64 (Q : Int) = .int .u64 (cf D k j' : Nat) ∧ Hid (DecAt wx b ⟨lmem D k δ' j', N, D.dp, ltr D k δ' j'⟩) ∧ Hid (Below b w wx) := by
          intro wx h1 h2
          exact ⟨j + 1, W, (R : Int) - 1, by omega, by omega, by omega, rfl, rfl, by rw [Hsucc.out], h1, h2⟩
        have Hrel := Lib.hid hrel2
        clear hrel2
        by_cases h8 : W < 800
        · have h8' : (W : Int) < 800 := by omega
          have cw : wr.cell? ⟨b, W, none⟩ = some (.int .u8 (lmem D k δ' j W : Nat)) := hdx.out.dig W h8
          have fw := hdx.out.frz W
          go_wp2
          go_roundg g
          case measure => omega
          case rel =>
            refine Hrel.out _ (Lib.hid ?_) (Lib.hid (hbx.out.setCell (p := ⟨b, W, none⟩) (Nat.le_refl _) _))
            have h5 := hdx.out.putDig W (M + 48) h8
            refine h5.of_eq Hmem.out rfl rfl ?_
            show ltr D k δ' (j + 1) = ltr D k δ' j
            rw [Htr.out, decide_eq_false (show ¬ 800 ≤ W by omega), Bool.false_and, Bool.or_false]
        · have h8' : ¬ (W : Int) < 800 := by omega
          have Hsame : Hid (∀ y, y < 800 → lmem D k δ' (j + 1) y = lmem D k δ' j y) := by
            intro y hy
            rw [Hmem.out y hy, if_neg (by omega)]
          by_cases hM0 : M = 0
          · have hm0 : ((M : Int) != 0) = false := by rw [hM0]; rfl
            clear hM0
            go_wp2
            go_roundg g
            case measure => omega
            case rel =>
              refine Hrel.out _ (Lib.hid ?_) hbx
              refine hdx.out.of_eq Hsame.out rfl rfl ?_
              show ltr D k δ' (j + 1) = ltr D k δ' j
              have : M = 0 := by simpa using hm0
              rw [Htr.out, this]
              simp
          · have hm0 : ((M : Int) != 0) = true := by rw [bne_iff_ne]; omega
            have ct := hdx.out.tr
            have ft := hdx.out.frz 803
            go_wp2
            go_roundg g
            case measure => omega
            case rel =>
              refine Hrel.out _ (Lib.hid ?_) (Lib.hid (hbx.out.setCell (p := ⟨b, 803, none⟩) (Nat.le_refl _) _))
              refine (hdx.out.putTr true).of_eq Hsame.out rfl rfl ?_
              show ltr D k δ' (j + 1) = true
              rw [Htr.out, decide_eq_true (show 800 ≤ W by omega), decide_eq_true (show M ≠ 0 from hM0), Bool.true_and, Bool.or_true]
      · obtain rfl : r = -1 := by omega
        obtain rfl : j = N := by omega
        obtain rfl : W = δ' := by omega
        go_wp2
        go_loopg [6, 7] W (fun g v6 v7 wx => ∃ i : Nat, i + g = j + W ∧ j ≤ i ∧ v6 = .int .i64 g ∧ v7 = .int .u64 (cf D k i : Nat) ∧ Hid (DecAt wx b ⟨lmem D k W i, j, D.dp, ltr D k W i⟩) ∧ Hid (Below b w wx))
        case atStart => exact ⟨j, by omega, by omega, rfl, rfl, hdx, hbx⟩
        case round =>
          clear hdx hbx
          obtain ⟨i, hig, hij, rfl, rfl, hdx, hbx⟩ := hrel
          have hAd := HA.out
          by_cases hg0 : 0 < gk
          · obtain ⟨g, rfl⟩ : ∃ g, gk = g + 1 := ⟨gk - 1, by omega⟩
            have hpos := cf_pos hAd i (by rw [HN.out]; exact hij) (by rw [HN.out]; omega)
            have hlt := cf_lt hg k i
            have hel : el D i = 0 := by unfold el; rw [HN.out, if_neg (by omega)]
            have hsucc : cf D k (i + 1) = (cf D k i + el D i * 2 ^ k) / 10 := rfl
            have hlo : lo D k W g = (cf D k i + el D i * 2 ^ k) % 10 := by
              unfold lo
              rw [HN.out, show j + W - 1 - g = i by omega]
            simp only [hel, Nat.zero_mul, Nat.add_zero] at hsucc hlo
            have hmem : ∀ y, y < 800 → lmem D k W (i + 1) y = if y = g then lo D k W g + 48 else lmem D k W i y := by
              intro y hy
              unfold lmem
              rw [HN.out]
              by_cases e : y = g
              · rw [if_pos e, if_pos ⟨by omega, by omega, hy⟩, e]
              · rw [if_neg e]
                by_cases e2 : j + W - i ≤ y ∧ y < j + W ∧ y < 800
                · rw [if_pos e2, if_pos ⟨by omega, e2.2⟩]
                · rw [if_neg e2, if_neg (by omega)]
            have htr : ltr D k W (i + 1) = ltr D k W i := by
              show (ltr D k W i || (decide (800 ≤ D.nd + W - 1 - i) && decide (lo D k W (D.nd + W - 1 - i) ≠ 0))) = _
              rw [HN.out, decide_eq_false (by omega), Bool.false_and, Bool.or_false]
            obtain ⟨C, hC⟩ : ∃ C, cf D k i = C := ⟨_, rfl⟩
            rw [hC] at hlt hsucc hlo hpos ⊢
            obtain ⟨Q, hQ⟩ : ∃ Q, C / 10 = Q := ⟨_, rfl⟩
            obtain ⟨M, hM⟩ : ∃ M, C % 10 = M := ⟨_, rfl⟩
            have hC60 : C < 1152921504606846976 := Nat.lt_of_lt_of_le hlt HP.out
            have x1 : (C : Int) / 10 = (Q : Int) := by omega
            have x2 : (C : Int) - 10 * (Q : Int) = (M : Int) := by omega
            have x3 : 10 * Q ≤ C := by omega
            have x4 : M ≤ 9 := by omega
            rw [hQ] at hsucc
            rw [hM] at hlo
            rw [hlo] at hmem
            have Hsucc := Lib.hid hsucc
            have Hmem := Lib.hid hmem
            have Htr := Lib.hid htr
            have hpos' : (0 : Int) < (C : Int) := by omega
            have h8 : g < 800 := by omega
            have h8' : (g : Int) < 800 := by omega
            have cw : wr.cell? ⟨b, g, none⟩ = some (.int .u8 (lmem D k W i g : Nat)) := hdx.out.dig g h8
            have fw := hdx.out.frz g
            clear hel hsucc hlo hmem htr hC hQ hM hlt hAd hpos
            go_wp2
            go_roundg g
            case measure => omega
            case rel =>
              refine ⟨i + 1, by omega, by omega, by go_num, by rw [Hsucc.out], Lib.hid ?_, Lib.hid (hbx.out.setCell (p := ⟨b, g, none⟩) (Nat.le_refl _) _)⟩
              exact (hdx.out.putDig g (M + 48) h8).of_eq Hmem.out rfl rfl Htr.out
          · obtain rfl : gk = 0 := by omega
            obtain rfl : i = j + W := by omega
            have he := cf_end hAd
            rw [HN.out] at he
            rw [he]
            have cn := hdx.out.nd
            have fn := hdx.out.frz 800
            have cp := hdx.out.dp
            have fp := hdx.out.frz 801
            have hd0 := (lsh_good hg hAd).hd
            have hd0' : lmem D k W (D.nd + W) 0 ≠ 48 := hd0
            rw [HN.out] at hd0'
            have Hd0 := Lib.hid hd0'
            have hjw : j + W ≤ 1000 := by omega
            have Hfin : Hid (lsh D k W = ⟨lmem D k W (j + W), trimN (lmem D k W (j + W)) (min (j + W) 800), D.dp + W, ltr D k W (j + W)⟩) := by
              show lsh D k W = _
              unfold lsh
              rw [HN.out]
            clear he hd0 hd0' hAd
            by_cases h8 : 800 ≤ j + W
            · have h8' : (800 : Int) ≤ (j : Int) + (W : Int) := by omega
              have Hmin : Hid (min (j + W) 800 = 800) := Nat.min_eq_right h8
              have H1 := Lib.hid (((hdx.out.putNd (j + W)).putNd 800).putDp (D.dp + W))
              go_wp2_with (go_at_call 140; refine (trim_ b ⟨lmem D k W (j + W), 800, D.dp + W, ltr D k W (j + W)⟩ (Nat.le_of_ble_eq_true rfl) (Nat.le_refl _) Hd0.out _ H1.out).mono ?_; rintro e w' ⟨rfl, hda, hbb⟩)
              go_end0
              refine ⟨rfl, ?_, ?_⟩
              · rw [Hfin.out, Hmin.out]; exact hda
              · exact (((hbx.out.setCell (p := ⟨b, 800, none⟩) (Nat.le_refl _) _).setCell (p := ⟨b, 800, none⟩) (Nat.le_refl _) _).setCell (p := ⟨b, 801, none⟩) (Nat.le_refl _) _).trans hbb
            · have h8' : ¬ (800 : Int) ≤ (j : Int) + (W : Int) := by omega
              have Hmin : Hid (min (j + W) 800 = j + W) := Nat.min_eq_left (by omega)
              have H1 := Lib.hid ((hdx.out.putNd (j + W)).putDp (D.dp + W))
              go_wp2_with (go_at_call 140; refine (trim_ b ⟨lmem D k W (j + W), j + W, D.dp + W, ltr D k W (j + W)⟩ (by show 1 ≤ j + W; omega) (by show j + W ≤ 800; omega) Hd0.out _ H1.out).mono ?_; rintro e w' ⟨rfl, hda, hbb⟩)
              go_end0
              refine ⟨rfl, ?_, ?_⟩
              · rw [Hfin.out, Hmin.out]; exact hda
              · exact ((hbx.out.setCell (p := ⟨b, 800, none⟩) (Nat.le_refl _) _).setCell (p := ⟨b, 801, none⟩) (Nat.le_refl _) _).trans hbb
end Go.Proofs.YtmfnkilohicapaaGreatDoor
