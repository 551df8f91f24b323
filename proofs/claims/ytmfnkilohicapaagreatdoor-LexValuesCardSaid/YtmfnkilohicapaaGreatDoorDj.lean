/- floatBits: it answers, wherever the decimal lies. -/
import Derived.Test.YtmfnkilohicapaaGreatDoorDi
namespace Go.Proofs.YtmfnkilohicapaaGreatDoor
open Go.RowKit

def TabsB (b : Nat) (w : World) : Prop := ∀ w', Below b w w' → Tabs w'
def FBits (D : Dst) (r : Int) (ov : Bool) : Prop := ∀ (b : Nat) (w : World), TabsB b w → DecAt w b D → Calls Tryz.prog 108 #[.pointer (some ⟨b, 0, none⟩), .pointer (some ⟨6, 0, none⟩)] w fun e w' => e = .returned (.tuple #[.int .u64 r, .bool ov]) ∧ Below b w w'
set_option maxRecDepth 100000 in
set_option maxHeartbeats 4000000 in
theorem fbits_over (D : Dst) (hg : Good D) (h : 310 < D.dp) : ∃ r, FBits D r true := by
  apply Exists.intro
  intro b w hT hD
  have hT0 := hT w (Below.refl _ _)
  have cm := hT0.mant
  have ce := hT0.expb
  have cb := hT0.bias
  have cn := hD.nd
  have cp := hD.dp
  have cg := hD.neg
  have hn := hg.n1
  have hn0 : ((D.nd : Int) == 0) = false := beq_eq_false_iff_ne.2 (by omega)
  clear hT0 hT hD
  go_enter Tryz.func108, Tryz.ntmps108
  go_wp2
  refine scope_two (l0 := 0) (l1 := 1) rfl rfl ?_
  intro J0 J1 hJ0 hJ1
  go_wp2
  go_step3
  refine Or.inr ⟨rfl, hJ1 _ _ ?_⟩
  clear hJ0 hJ1
  go_wp2
  go_quiet (fail)
  go_wp2
  go_step3
  go_wp2
  go_quiet (fail)
  go_wp2
  rw [Exit.noGoto_ret]
  go_ret2
  exact ⟨rfl, below_drewN' (Below.refl _ _) _⟩
set_option maxRecDepth 100000 in
set_option maxHeartbeats 4000000 in
theorem fbits_under (D : Dst) (hg : Good D) (h : D.dp < -330) : ∃ r, FBits D r false := by
  apply Exists.intro
  intro b w hT hD
  have hT0 := hT w (Below.refl _ _)
  have cm := hT0.mant
  have ce := hT0.expb
  have cb := hT0.bias
  have cn := hD.nd
  have cp := hD.dp
  have cg := hD.neg
  have hn := hg.n1
  have hn0 : ((D.nd : Int) == 0) = false := beq_eq_false_iff_ne.2 (by omega)
  clear hT0 hT hD
  go_enter Tryz.func108, Tryz.ntmps108
  go_wp2
  refine scope_two (l0 := 0) (l1 := 1) rfl rfl ?_
  intro J0 J1 hJ0 hJ1
  go_wp2
  go_step3
  refine Or.inl ⟨rfl, hJ0 _ _ ?_⟩
  clear hJ0 hJ1
  go_wp2
  go_quiet (fail)
  go_wp2
  rw [Exit.noGoto_ret]
  go_ret2
  exact ⟨rfl, below_drewN' (Below.refl _ _) _⟩
/-- The bits of mantissa and exponent. -/
def fout (m x : Int) : Int := bits .or .u64 (bits .and .u64 m 4503599627370495) (IntKind.u64.wrap (IntKind.u64.wrap (bits .and .i64 (x - -1023) 2047) * 4503599627370496))
def ffin (E R : Int) : Int × Bool :=
  if 1024 ≤ E then (9218868437227405312, true)
  else if R = 9007199254740992 then (if 1023 ≤ E then (9218868437227405312, true) else (fout 4503599627370496 (E + 1), false))
  else if (bits .and .u64 R 4503599627370496 == 0) = true then (fout R (-1023), false) else (fout R E, false)
set_option maxRecDepth 100000 in
set_option maxHeartbeats 4000000 in
theorem fbits_main (D : Dst) (hg : Good D) (h1 : -330 ≤ D.dp) (h2 : D.dp ≤ 310) : ∃ r ov, FBits D r ov := by
  have hd := hg.dig 0 hg.n1
  obtain ⟨gA, DA, eA, hA, GA, a1, a2, a3, a4⟩ := ca_ex 3109 D 0 hg h1 h2 (by omega) (by decide) (by decide)
  have hdA := GA.dig 0 GA.n1
  obtain ⟨gB, DB, eB, hB, GB, b1, b2, b3, b4⟩ := cb_ex 3310 DA eA GA a2 (by omega) (by omega) a4 (by omega)
  obtain ⟨DC, EC, GC, c1, c2, c3, c4, hC⟩ : ∃ DC EC, Good DC ∧ -10000000 ≤ DC.dp ∧ DC.dp ≤ 19 ∧ -1022 ≤ EC ∧ EC ≤ 100000 ∧ ((-1022 ≤ eB - 1 ∧ DC = DB ∧ EC = eB - 1) ∨ (∃ n : Nat, n ≤ 1000000 ∧ eB - 1 < -1022 ∧ (n : Int) = -1022 - (eB - 1) ∧ ShQ 130 .i64 (-(n : Int)) DB DC ∧ EC = -1022)) := by
    by_cases h : -1022 ≤ eB - 1
    · exact ⟨DB, eB - 1, GB, by omega, b1, h, by omega, Or.inl ⟨h, rfl, rfl⟩⟩
    · obtain ⟨n, hn⟩ := Int.eq_ofNat_of_zero_le (show 0 ≤ -1022 - (eB - 1) by omega)
      obtain ⟨DC, g1, x1, x2, x3⟩ := rsteps n n DB (Nat.le_refl _) (by omega) GB (by omega) (by omega)
      exact ⟨DC, -1022, g1, by omega, by omega, by omega, by omega, Or.inr ⟨n, by omega, by omega, hn.symm, Shift_right n (by omega) x3, rfl⟩⟩
  obtain ⟨DD, GD, d1, d2, _, hD4⟩ := left_ GC (by omega) (by omega) 53 (by decide) (by decide)
  have hDD : ShR 130 .i64 53 DC DD := Shift_left GC 53 (by decide) (by decide) hD4
  obtain ⟨R, hR⟩ := rounded_int DD GD
  obtain ⟨r, hr⟩ : ∃ r, (ffin EC R).1 = r := ⟨_, rfl⟩
  obtain ⟨ov, hov⟩ : ∃ ov, (ffin EC R).2 = ov := ⟨_, rfl⟩
  refine ⟨r, ov, fun b w hT hD => ?_⟩
  have hT0 := hT w (Below.refl _ _)
  have cn := hD.nd
  have cp := hD.dp
  have hn := hg.n1
  have hn0 : ((D.nd : Int) == 0) = false := beq_eq_false_iff_ne.2 (by omega)
  have HT := Lib.hid hT
  have HD := Lib.hid hD
  have HA := Lib.hid hA
  have HB := Lib.hid hB
  have HC := Lib.hid hC
  have HDD := Lib.hid hDD
  have HR := Lib.hid hR
  have Hr := Lib.hid hr
  have Hov := Lib.hid hov
  have HGA := Lib.hid GA
  have HGB := Lib.hid GB
  clear hT0 hT hD hA hB GA GB hC hDD hD4 hR hr hov GC GD
  go_enter Tryz.func108, Tryz.ntmps108
  go_wp2
  refine scope_two (l0 := 0) (l1 := 1) rfl rfl ?_
  intro J0 J1 hJ0 hJ1
  have HJ0 := Lib.hid hJ0
  have HJ1 := Lib.hid hJ1
  clear hJ0 hJ1
  go_upto_block 0 with (fail)
  clear hn0 cn cp hd hdA
  go_cut [6] (fun v6 wc => v6 = .int .i64 eA ∧ Hid (DecAt wc b DA) ∧ Hid (Below b w wc))
  case first =>
    go_wp2_with fail
    go_loopg [6] gA (fun g v6 wx => ∃ (D1 : Dst) (e1 : Int), v6 = .int .i64 e1 ∧ Hid (CA g D1 e1 DA eA) ∧ Hid (DecAt wx b D1) ∧ Hid (Below b w wx))
    case atStart => exact ⟨D, 0, rfl, HA, HD, Lib.hid (Below.refl _ _)⟩
    case round =>
      clear HA HD
      obtain ⟨D1, e1, rfl, hca, hdx, hbx⟩ := hrel
      have hca' := hca.out
      cases hca' with
      | @step g n _ D2 _ _ _ G1 hdn n1 n2 x1 x2 hs hc =>
        have cp := hdx.out.dp
        rw [hdn] at cp
        have hTx := HT.out wr hbx.out
        obtain ⟨bt, off, cpp, ht, hrows⟩ := hTx.powtab
        have hn0 : (0 : Int) < (n : Int) := by omega
        have Hs := Lib.hid hs
        have Hc := Lib.hid hc
        have hpw := pw_in n
        by_cases h9 : 9 ≤ n
        · have h9' : (9 : Int) ≤ (n : Int) := by omega
          have hpe : pw n = 27 := by unfold pw; rw [if_pos h9]
          rw [hpe] at Hs Hc
          have Hs2 : Hid (ShQ 130 .i64 (-27) D1 D2) := Hs
          clear hrows hs hc hca hTx hdn hpe hpw Hs
          go_wp2
          go_quiet (fail)
          go_wp2_with (go_at_call 130; refine (Hs2.out b _ (hdx.out.drewN _)).mono ?_; rintro e w' ⟨rfl, hda, hbb⟩)
          go_roundg g
          case measure => omega
          case rel => exact ⟨D2, e1 + 27, rfl, Hc, Lib.hid hda, Lib.hid ((below_drewN' hbx.out _).trans hbb)⟩
        · have h9' : ¬ (9 : Int) ≤ (n : Int) := by omega
          have h99 : (n : Int) < 9 := by omega
          have hrow := hrows n (pw n) (pw_row n (by omega))
          obtain ⟨p, hp⟩ : ∃ p, pw n = p := ⟨_, rfl⟩
          rw [hp] at Hs Hc hrow hpw
          obtain ⟨p1, p2⟩ := hpw
          clear hrows hs hc hca hTx hdn hp
          go_wp2
          go_quiet (fail)
          go_wp2
          go_quiet (fail)
          go_wp2_with (go_at_call 130; refine (Hs.out b _ (hdx.out.drewN _)).mono ?_; rintro e w' ⟨rfl, hda, hbb⟩)
          go_roundg g
          case measure => omega
          case rel => exact ⟨D2, e1 + p, rfl, Hc, Lib.hid hda, Lib.hid ((below_drewN' hbx.out _).trans hbb)⟩
      | nil G1 hd0 =>
        have cp := hdx.out.dp
        have hd0' : ¬ (0 : Int) < DA.dp := by omega
        clear hca
        go_wp2
        go_meet
        exact ⟨rfl, hdx, hbx⟩
  case rest =>
    clear HA HD
    obtain ⟨rfl, hdA, hbA⟩ := hcut
    go_upto_block 2 with (fail)
    go_cut [6] (fun v6 wc => v6 = .int .i64 eB ∧ Hid (DecAt wc b DB) ∧ Hid (Below b w wc))
    case first =>
      go_wp2_with fail
      go_loopg [6] gB (fun g v6 wx => ∃ (D1 : Dst) (e1 : Int), v6 = .int .i64 e1 ∧ Hid (CB g D1 e1 DB eB) ∧ Hid (DecAt wx b D1) ∧ Hid (Below b w wx))
      case atStart => exact ⟨DA, eA, rfl, HB, hdA, hbA⟩
      case round =>
        clear hdA hbA HB
        obtain ⟨D1, e1, rfl, hca, hdx, hbx⟩ := hrel
        have hca' := hca.out
        cases hca' with
        | @step g n _ D2 _ _ _ G1 hdn n1 n2 x1 x2 hs hc =>
          have hd1 := G1.dig 0 G1.n1
          have cd := hdx.out.dig 0 (by decide)
          have cp := hdx.out.dp
          have hTx := HT.out wr hbx.out
          obtain ⟨bt, off, cpp, ht, hrows⟩ := hTx.powtab
          have Hs := Lib.hid hs
          have Hc := Lib.hid hc
          have hpw := pw_in n
          obtain ⟨y, hy⟩ : ∃ y, D1.dp = y := ⟨_, rfl⟩
          obtain ⟨c, hcd⟩ : ∃ c, D1.d 0 = c := ⟨_, rfl⟩
          rw [hy] at cp hdn
          rw [hcd] at cd n1 hd1
          have hcond : y < 0 ∨ (y = 0 ∧ c < 53) := by omega
          have Hdn := Lib.hid hdn
          clear hdn n1 hy hcd
          by_cases h9 : 9 ≤ n
          · have h9' : (9 : Int) ≤ -y := by have := Hdn.out; omega
            have hyl : y < 0 := by omega
            have hpe : pw n = 27 := by unfold pw; rw [if_pos h9]
            rw [hpe] at Hs Hc
            have Hs2 : Hid (ShR 130 .i64 27 D1 D2) := Hs
            have hyb : -330 ≤ y := by have := Hdn.out; omega
            clear hrows hs hc hca hTx hpe hpw Hs hcond
            go_wp2
            go_quiet (fail)
            go_wp2_with (go_at_call 130; refine (Hs2.out b _ (HT.out _ (below_drewN' hbx.out _)) (hdx.out.drewN _)).mono ?_; rintro e w' ⟨rfl, hda, hbb⟩)
            go_roundg g
            case measure => omega
            case rel => exact ⟨D2, e1 - 27, rfl, Hc, Lib.hid hda, Lib.hid ((below_drewN' hbx.out _).trans hbb)⟩
          · have hrow := hrows n (pw n) (pw_row n (by omega))
            obtain ⟨p, hp⟩ : ∃ p, pw n = p := ⟨_, rfl⟩
            rw [hp] at Hs Hc hrow hpw
            obtain ⟨p1, p2⟩ := hpw
            have hyn : Hid (-y = (n : Int)) := Lib.hid (by have := Hdn.out; omega)
            rcases hcond with hyl | ⟨hy0, hc53⟩
            · obtain ⟨m, hm⟩ : ∃ m : Int, -y = m := ⟨_, rfl⟩
              have hmn : Hid (m = (n : Int)) := Lib.hid (by rw [← hm]; exact hyn.out)
              have h9' : ¬ (9 : Int) ≤ (n : Int) := by omega
              have h99 : (n : Int) < 9 := by omega
              have hyn' := hyn.out
              clear hrows hs hc hca hTx hp hm hmn
              go_wp2
              go_quiet (fail)
              go_wp2
              go_quiet (fail)
              go_wp2_with (go_at_call 130; refine (Hs.out b _ (HT.out _ (below_drewN' hbx.out _)) (hdx.out.drewN _)).mono ?_; rintro e w' ⟨rfl, hda, hbb⟩)
              go_roundg g
              case measure => omega
              case rel => exact ⟨D2, e1 - p, rfl, Hc, Lib.hid hda, Lib.hid ((below_drewN' hbx.out _).trans hbb)⟩
            · subst hy0
              have hn0 : n = 0 := by have := hyn.out; omega
              have hc53' : (c : Int) < 53 := by omega
              rw [hn0] at hrow
              have hp1 : p = 1 := by rw [← hp, hn0]; rfl
              rw [hp1] at Hs Hc hrow
              have hrow0 : wr.cell? ⟨bt, off, none⟩ = some (.int .i64 1) := hrow
              have Hs2 : Hid (ShR 130 .i64 1 D1 D2) := Hs
              clear hrows hs hc hca hTx hp hn0 hp1 h9 hyn hrow Hs
              go_wp2
              go_quiet (fail)
              go_wp2
              go_quiet (fail)
              go_wp2_with (go_at_call 130; refine (Hs2.out b _ (HT.out _ (below_drewN' hbx.out _)) (hdx.out.drewN _)).mono ?_; rintro e w' ⟨rfl, hda, hbb⟩)
              go_roundg g
              case measure => omega
              case rel => exact ⟨D2, e1 - 1, rfl, Hc, Lib.hid hda, Lib.hid ((below_drewN' hbx.out _).trans hbb)⟩
        | nil G1 hd0 =>
          have hd1 := G1.dig 0 G1.n1
          have cd := hdx.out.dig 0 (by decide)
          have cp := hdx.out.dp
          clear hca
          rcases hd0 with hd0 | ⟨hd0, hc5⟩
          · have e1 : ¬ DB.dp < 0 := by omega
            have e2 : (DB.dp == 0) = false := beq_eq_false_iff_ne.2 (by omega)
            go_wp2
            go_meet
            exact ⟨rfl, hdx, hbx⟩
          · have e1 : ¬ ((DB.d 0 : Nat) : Int) < 53 := by omega
            rw [hd0] at cp
            clear hd0
            go_wp2
            go_meet
            exact ⟨rfl, hdx, hbx⟩
    case rest =>
      clear hdA hbA HB
      obtain ⟨rfl, hdB, hbB⟩ := hcut
      have hTB := HT.out _ hbB.out
      have cm := hTB.mant
      have ce := hTB.expb
      have cb := hTB.bias
      clear hTB
      go_upto_if 111 with (fail)
      go_cut [6] (fun v6 wc => v6 = .int .i64 EC ∧ Hid (DecAt wc b DC) ∧ Hid (Below b w wc))
      case first =>
        rcases HC.out with ⟨e1, e2, e3⟩ | ⟨n, e0, e1, e2, e3, e4⟩
        · subst e2
          subst e3
          have e1' : ¬ eB - 1 < -1022 := by omega
          go_wp2_with fail
          go_meet
          exact ⟨rfl, hdB, hbB⟩
        · subst e4
          have H3 := Lib.hid e3
          have e2' : -(n : Int) = -(-1022 - (eB - 1)) := by omega
          rw [e2'] at H3
          have n1 : 1 ≤ -1022 - (eB - 1) := by omega
          clear e2 e3 e2'
          go_wp2_with (go_at_call 130; refine (H3.out b _ hdB.out).mono ?_; rintro e w' ⟨rfl, hda, hbb⟩)
          go_meet
          exact ⟨congrArg _ (by omega), Lib.hid hda, Lib.hid (hbB.out.trans hbb)⟩
      case rest =>
        clear hdB hbB cm ce cb
        obtain ⟨rfl, hdC, hbC⟩ := hcut
        have hTB := HT.out _ hbC.out
        have cm := hTB.mant
        have ce := hTB.expb
        have cb := hTB.bias
        have cg := hdC.out.neg
        clear hTB
        by_cases hE : 1024 ≤ EC
        · have hf : ffin EC R = (9218868437227405312, true) := by unfold ffin; rw [if_pos hE]
          have Hf := Lib.hid hf
          have hE' : 2047 ≤ EC - -1023 := by omega
          clear hf
          go_wp2
          go_quiet (fail)
          go_wp2
          go_step3
          refine Or.inr ⟨rfl, HJ1.out _ _ ?_⟩
          clear HJ0 HJ1
          go_wp2
          go_quiet (fail)
          go_wp2
          go_step3
          go_wp2
          go_quiet (fail)
          go_wp2
          rw [Exit.noGoto_ret]
          go_ret2
          refine ⟨?_, below_drewN' hbC.out _⟩
          (rw [← Hr.out, ← Hov.out, Hf.out]; rfl)
        · have hE' : ¬ 2047 ≤ EC - -1023 := by omega
          by_cases hR53 : R = 9007199254740992
          · subst hR53
            have hbn : (bits BinOp.and IntKind.u64 4503599627370496 4503599627370496 == 0) = false := by decide
            by_cases hE2 : 1023 ≤ EC
            · have hf : ffin EC 9007199254740992 = (9218868437227405312, true) := by unfold ffin; rw [if_neg hE, if_pos rfl, if_pos hE2]
              have Hf := Lib.hid hf
              have hE2' : 2047 ≤ EC + 1 - -1023 := by omega
              clear hf hE
              go_wp2
              go_quiet (fail)
              go_wp2_with (first
                | (go_at_call 130; refine (HDD.out b _ (HT.out _ (below_drewN' hbC.out _)) (hdC.out.drewN _)).mono ?_; rintro e w2 ⟨rfl, hda, hbb⟩; have hTD := HT.out _ ((below_drewN' hbC.out _).trans hbb); have cm2 := hTD.mant; have ce2 := hTD.expb; have cb2 := hTD.bias; have cg2 := hda.neg; clear hTD)
                | (go_at_call 131; refine (HR.out b _ hda).mono ?_; rintro e w3 ⟨rfl, rfl⟩))
              go_quiet (fail)
              go_wp2
              go_step3
              refine Or.inr ⟨rfl, HJ1.out _ _ ?_⟩
              clear HJ0 HJ1
              go_wp2
              go_quiet (fail)
              go_wp2
              go_step3
              go_wp2
              go_quiet (fail)
              go_wp2
              rw [Exit.noGoto_ret]
              go_ret2
              refine ⟨?_, below_drewN' ((below_drewN' hbC.out _).trans hbb) _⟩
              (rw [← Hr.out, ← Hov.out, Hf.out]; rfl)
            · have hf : ffin EC 9007199254740992 = (fout 4503599627370496 (EC + 1), false) := by unfold ffin; rw [if_neg hE, if_pos rfl, if_neg hE2]
              have Hf := Lib.hid hf
              have hE2' : ¬ 2047 ≤ EC + 1 - -1023 := by omega
              clear hf hE
              go_wp2
              go_quiet (fail)
              go_wp2_with (first
                | (go_at_call 130; refine (HDD.out b _ (HT.out _ (below_drewN' hbC.out _)) (hdC.out.drewN _)).mono ?_; rintro e w2 ⟨rfl, hda, hbb⟩; have hTD := HT.out _ ((below_drewN' hbC.out _).trans hbb); have cm2 := hTD.mant; have ce2 := hTD.expb; have cb2 := hTD.bias; have cg2 := hda.neg; clear hTD)
                | (go_at_call 131; refine (HR.out b _ hda).mono ?_; rintro e w3 ⟨rfl, rfl⟩))
              go_quiet (fail)
              go_wp2
              go_step3
              refine Or.inl ⟨rfl, HJ0.out _ _ ?_⟩
              clear HJ0 HJ1
              go_wp2
              go_quiet (fail)
              go_wp2
              rw [Exit.noGoto_ret]
              go_ret2
              refine ⟨?_, below_drewN' ((below_drewN' hbC.out _).trans hbb) _⟩
              (rw [← Hr.out, ← Hov.out, Hf.out]; rfl)
          · have hRe : (R == 9007199254740992) = false := beq_eq_false_iff_ne.2 hR53
            cases hbit : (bits BinOp.and IntKind.u64 R 4503599627370496 == 0)
            · have hf : ffin EC R = (fout R EC, false) := by unfold ffin; rw [if_neg hE, if_neg hR53, hbit, if_neg (by decide)]
              have Hf := Lib.hid hf
              clear hf hE hR53
              go_wp2
              go_quiet (fail)
              go_wp2_with (first
                | (go_at_call 130; refine (HDD.out b _ (HT.out _ (below_drewN' hbC.out _)) (hdC.out.drewN _)).mono ?_; rintro e w2 ⟨rfl, hda, hbb⟩; have hTD := HT.out _ ((below_drewN' hbC.out _).trans hbb); have cm2 := hTD.mant; have ce2 := hTD.expb; have cb2 := hTD.bias; have cg2 := hda.neg; clear hTD)
                | (go_at_call 131; refine (HR.out b _ hda).mono ?_; rintro e w3 ⟨rfl, rfl⟩))
              go_step3
              refine Or.inl ⟨rfl, HJ0.out _ _ ?_⟩
              clear HJ0 HJ1
              go_wp2
              go_quiet (fail)
              go_wp2
              rw [Exit.noGoto_ret]
              go_ret2
              refine ⟨?_, below_drewN' ((below_drewN' hbC.out _).trans hbb) _⟩
              (rw [← Hr.out, ← Hov.out, Hf.out]; rfl)
            · have hf : ffin EC R = (fout R (-1023), false) := by unfold ffin; rw [if_neg hE, if_neg hR53, hbit, if_pos rfl]
              have Hf := Lib.hid hf
              clear hf hE hR53
              go_wp2
              go_quiet (fail)
              go_wp2_with (first
                | (go_at_call 130; refine (HDD.out b _ (HT.out _ (below_drewN' hbC.out _)) (hdC.out.drewN _)).mono ?_; rintro e w2 ⟨rfl, hda, hbb⟩; have hTD := HT.out _ ((below_drewN' hbC.out _).trans hbb); have cm2 := hTD.mant; have ce2 := hTD.expb; have cb2 := hTD.bias; have cg2 := hda.neg; clear hTD)
                | (go_at_call 131; refine (HR.out b _ hda).mono ?_; rintro e w3 ⟨rfl, rfl⟩))
              go_step3
              refine Or.inl ⟨rfl, HJ0.out _ _ ?_⟩
              clear HJ0 HJ1
              go_wp2
              go_quiet (fail)
              go_wp2
              rw [Exit.noGoto_ret]
              go_ret2
              refine ⟨?_, below_drewN' ((below_drewN' hbC.out _).trans hbb) _⟩
              (rw [← Hr.out, ← Hov.out, Hf.out]; rfl)
theorem floatBits_ (D : Dst) (hg : Good D) : ∃ r ov, FBits D r ov := by
  by_cases h1 : 310 < D.dp
  · obtain ⟨r, h⟩ := fbits_over D hg h1
    exact ⟨r, true, h⟩
  · by_cases h2 : D.dp < -330
    · obtain ⟨r, h⟩ := fbits_under D hg h2
      exact ⟨r, false, h⟩
    · exact fbits_main D hg (by omega) (by omega)
end Go.Proofs.YtmfnkilohicapaaGreatDoor
