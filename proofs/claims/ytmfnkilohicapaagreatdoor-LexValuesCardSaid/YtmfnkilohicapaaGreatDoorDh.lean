/- Shift: to the left and to the right. -/
import Derived.Test.YtmfnkilohicapaaGreatDoorDf
namespace Go.Proofs.YtmfnkilohicapaaGreatDoor
open Go.RowKit

/-- What a shift makes of a decimal, wherever it lies. -/
def ShR (f : FuncId) (kk : IntKind) (k : Int) (D D' : Dst) : Prop := ∀ (b : Nat) (w : World), Tabs w → DecAt w b D → Calls Tryz.prog f #[.pointer (some ⟨b, 0, none⟩), .int kk k] w fun e w' => e = .returned (.tuple #[]) ∧ DecAt w' b D' ∧ Below b w w'
/-- .. no table is read. -/
def ShQ (f : FuncId) (kk : IntKind) (k : Int) (D D' : Dst) : Prop := ∀ (b : Nat) (w : World), DecAt w b D → Calls Tryz.prog f #[.pointer (some ⟨b, 0, none⟩), .int kk k] w fun e w' => e = .returned (.tuple #[]) ∧ DecAt w' b D' ∧ Below b w w'
theorem right_ {D : Dst} (hg : Good D) (h1 : -100000000 ≤ D.dp) (h2 : D.dp ≤ 100000000) (k : Nat) (hk1 : 1 ≤ k) (hk2 : k ≤ 60) : ∃ D', Good D' ∧ D.dp - 19 ≤ D'.dp ∧ D'.dp ≤ D.dp ∧ (D'.dp < D.dp ∨ (D'.dp = D.dp ∧ D'.d 0 < D.d 0)) ∧ ShQ 137 .u64 k D D' := by
  obtain ⟨R, a1, a2, a3, a4, a5⟩ := pv_first hg k hk2
  obtain ⟨J, ⟨b1, b2⟩, b3⟩ := rn_end D k R
  have hJ : 1 ≤ J := by
    refine Nat.pos_of_ne_zero (fun e => ?_)
    rw [e] at b2
    have h1 : pv D R = 0 := b2
    have : 0 < 2 ^ k := Nat.pow_pos (by decide)
    omega
  have hdp : (rsh D k R J).dp = D.dp - ((R - 1 : Nat) : Int) := rfl
  exact ⟨rsh D k R J, rsh_good hg k R J a3 a4 hJ, by rw [hdp]; omega, by rw [hdp]; omega, rsh_less hg k R J hk1 a1 a3 hJ, fun b w hD => rightShift_w D hg (by omega) (by omega) k R J hk1 hk2 a1 a2 a3 a4 a5 b1 b2 b3 b w hD⟩
theorem left_ {D : Dst} (hg : Good D) (h1 : -100000000 ≤ D.dp) (h2 : D.dp ≤ 100000000) (k : Nat) (hk1 : 1 ≤ k) (hk2 : k ≤ 60) : ∃ D', Good D' ∧ D.dp ≤ D'.dp ∧ D'.dp ≤ D.dp + 19 ∧ (D.dp < D'.dp ∨ (D'.dp = D.dp ∧ D.d 0 < D'.d 0)) ∧ ShR 136 .u64 k D D' := by
  obtain ⟨δ, s, hc⟩ := cheat_of k hk1 hk2
  have hA := adds_of hg hc
  have hd2 := hc.d2
  have hle : addN D δ s ≤ 19 := by unfold addN; split <;> omega
  have hdp : (lsh D k (addN D δ s)).dp = D.dp + ((addN D δ s : Nat) : Int) := rfl
  exact ⟨lsh D k (addN D δ s), lsh_good hg hA, by rw [hdp]; omega, by rw [hdp]; omega, lsh_more hg hk1 hA, fun b w hT hD => leftShift_w D hg (by omega) (by omega) k hk1 hk2 δ s hc b w hD hT⟩
set_option maxRecDepth 100000 in
set_option maxHeartbeats 1000000 in
theorem Shift_left {D D' : Dst} (hg : Good D) (k : Nat) (hk1 : 1 ≤ k) (hk2 : k ≤ 60) (h : ShR 136 .u64 k D D') : ShR 130 .i64 k D D' := by
  intro b w hT hD
  have hn := hg.n1
  have cn := hD.nd
  have H := Lib.hid h
  have HT := Lib.hid hT
  have HD := Lib.hid hD
  have q1 : ((D.nd : Int) == 0) = false := beq_eq_false_iff_ne.2 (by omega)
  have q2 : (0 : Int) < (k : Int) := by omega
  have q3 : ¬ (60 : Int) < (k : Int) := by omega
  clear h hT hD
  go_enter Tryz.func130, Tryz.ntmps130
  go_wp2_with fail
  go_loopg [1] 0 (fun g v1 wx => v1 = .int .i64 k ∧ w = wx)
  case atStart => exact ⟨rfl, rfl⟩
  case round =>
    obtain ⟨rfl, rfl⟩ := hrel
    go_wp2_with (go_at_call 136; refine (H.out b _ HT.out HD.out).mono ?_; rintro e w' ⟨rfl, hda, hbb⟩)
    go_end0
    exact ⟨rfl, hda, hbb⟩
inductive RSteps : Dst → Nat → Dst → Prop
  | last {D D' : Dst} {n : Nat} : 1 ≤ n → n ≤ 60 → Good D → ShQ 137 .u64 n D D' → RSteps D n D'
  | more {D D1 D' : Dst} {n : Nat} : 1 ≤ n → Good D → ShQ 137 .u64 60 D D1 → RSteps D1 n D' → RSteps D (n + 60) D'
theorem rsteps (m : Nat) : ∀ (n : Nat) (D : Dst), n ≤ m → 1 ≤ n → Good D → -90000000 + 19 * n ≤ D.dp → D.dp ≤ 100000000 → ∃ D', Good D' ∧ D.dp - 19 * n ≤ D'.dp ∧ D'.dp ≤ D.dp ∧ RSteps D n D' := by
  induction m with
  | zero => intro n D h1 h2; omega
  | succ m ih =>
    intro n D hm hn hg h1 h2
    by_cases h60 : n ≤ 60
    · obtain ⟨D', g', a1, a2, _, a4⟩ := right_ hg (by omega) h2 n hn h60
      exact ⟨D', g', by omega, a2, .last hn h60 hg a4⟩
    · obtain ⟨D1, g1, a1, a2, _, a4⟩ := right_ hg (by omega) h2 60 (by decide) (by decide)
      obtain ⟨D', g', b1, b2, b3⟩ := ih (n - 60) D1 (by omega) (by omega) g1 (by omega) (by omega)
      refine ⟨D', g', by omega, by omega, ?_⟩
      rw [show n = n - 60 + 60 by omega]
      exact .more (by omega) hg a4 b3
set_option maxRecDepth 100000 in
set_option maxHeartbeats 1000000 in
theorem Shift_right {D D' : Dst} (n : Nat) (hn : n ≤ 1000000) (h : RSteps D n D') : ShQ 130 .i64 (-(n : Int)) D D' := by
  intro b w hD
  have hg : Good D := by cases h <;> assumption
  have hn1 : 1 ≤ n := by cases h <;> omega
  have hnd := hg.n1
  have cn := hD.nd
  have H := Lib.hid h
  have HD := Lib.hid hD
  have q1 : ((D.nd : Int) == 0) = false := beq_eq_false_iff_ne.2 (by omega)
  obtain ⟨κ, hκ⟩ : ∃ κ : Int, -(n : Int) = κ := ⟨_, rfl⟩
  have hκ2 : κ < 0 := by omega
  have hκ3 : ¬ 0 < κ := by omega
  have hκ4 : -1000000 ≤ κ := by omega
  rw [hκ]
  have Hκ := Lib.hid hκ
  clear h hD hκ
  go_enter Tryz.func130, Tryz.ntmps130
  go_wp2_with fail
  clear q1 cn hnd hg
  go_loopg [1] n (fun g v1 wx => ∃ (D1 : Dst) (κ1 : Int), -1000000 ≤ κ1 ∧ κ1 < 0 ∧ Hid (κ1 = -(g : Int)) ∧ v1 = .int .i64 κ1 ∧ Hid (RSteps D1 g D') ∧ Hid (DecAt wx b D1) ∧ Hid (Below b w wx))
  case atStart => exact ⟨D, κ, hκ4, hκ2, Hκ.out.symm, rfl, H, HD, Below.refl _ _⟩
  case round =>
    clear H HD
    obtain ⟨D1, κ1, k1, k2, hk, rfl, h, hdx, hbx⟩ := hrel
    have h5 := h.out
    have hgk : (gk : Int) = -κ1 := by have := hk.out; omega
    cases h5 with
    | last a1 a2 a3 a4 =>
      have q2 : ¬ κ1 < -60 := by omega
      have a4' : ShQ 137 .u64 (-κ1) D1 D' := by rw [← hgk]; exact a4
      have H4 := Lib.hid a4'
      clear a4 a4' h hgk
      go_wp2_with (go_at_call 137; refine (H4.out b _ hdx.out).mono ?_; rintro e w' ⟨rfl, hda, hbb⟩)
      go_end0
      exact ⟨rfl, hda, hbx.out.trans hbb⟩
    | @more _ D2 _ g a1 a2 a3 a4 =>
      have q2 : κ1 < -60 := by omega
      have H3 := Lib.hid a3
      have H4 := Lib.hid a4
      have Hgk := Lib.hid hgk
      clear a3 a4 h hgk
      go_wp2_with (go_at_call 137; refine (H3.out b _ hdx.out).mono ?_; rintro e w' ⟨rfl, hda, hbb⟩)
      go_roundg g
      case measure => omega
      case rel =>
        have := Hgk.out
        exact ⟨D2, κ1 + 60, by omega, by omega, Lib.hid (by omega), rfl, H4, hda, hbx.out.trans hbb⟩
end Go.Proofs.YtmfnkilohicapaaGreatDoor

/- A decimal's whole part, rounded: it answers, wherever the decimal lies. -/
namespace Go.Proofs.YtmfnkilohicapaaGreatDoor
open Go.RowKit

def RoundIs (D : Dst) (n : Int) (r : Bool) : Prop := ∀ (b : Nat) (w : World), DecAt w b D → Calls Tryz.prog 138 #[.pointer (some ⟨b, 0, none⟩), .int .i64 n] w fun e w' => e = .returned (.bool r) ∧ w = w'
set_option maxRecDepth 100000 in
set_option maxHeartbeats 2000000 in
theorem round_up (D : Dst) (hg : Good D) (n : Int) : ∃ r, RoundIs D n r := by
  have hn1 := hg.n1
  have hn2 := hg.n2
  by_cases h0 : n < 0
  · refine ⟨false, fun b w hD => ?_⟩
    have cn := hD.nd
    go_enter Tryz.func138, Tryz.ntmps138
    go_wp2
    go_ret
    exact ⟨rfl, rfl⟩
  · obtain ⟨i, rfl⟩ := Int.eq_ofNat_of_zero_le (show 0 ≤ n by omega)
    have h0' : ¬ (i : Int) < 0 := by omega
    by_cases h1 : D.nd ≤ i
    · refine ⟨false, fun b w hD => ?_⟩
      have cn := hD.nd
      have h1' : (D.nd : Int) ≤ (i : Int) := by omega
      go_enter Tryz.func138, Tryz.ntmps138
      go_wp2
      go_ret
      exact ⟨rfl, rfl⟩
    · have h1' : ¬ (D.nd : Int) ≤ (i : Int) := by omega
      have hi8 : (i : Int) < 800 := by omega
      obtain ⟨hd1, hd2⟩ := hg.dig i (by omega)
      obtain ⟨c, hc⟩ : ∃ c, D.d i = c := ⟨_, rfl⟩
      rw [hc] at hd1 hd2
      by_cases h53 : c = 53
      · subst h53
        by_cases hl : i + 1 = D.nd
        · have hl' : (((i : Int) + 1) == (D.nd : Int)) = true := beq_iff_eq.2 (by omega)
          cases ht : D.tr
          · by_cases hi0 : i = 0
            · refine ⟨false, fun b w hD => ?_⟩
              have cn := hD.nd
              have ct := hD.tr
              have cd := hD.dig i (by omega)
              rw [hc] at cd
              rw [ht] at ct
              have hi0' : ¬ (0 : Int) < (i : Int) := by omega
              clear hc ht hl hi0 hD
              go_enter Tryz.func138, Tryz.ntmps138
              go_wp2
              go_ret
              exact ⟨rfl, rfl⟩
            · obtain ⟨j, rfl⟩ : ∃ j, i = j + 1 := ⟨i - 1, by omega⟩
              obtain ⟨he1, he2⟩ := hg.dig j (by omega)
              obtain ⟨x, hx⟩ : ∃ x, D.d j = x := ⟨_, rfl⟩
              rw [hx] at he1 he2
              have hi0' : (0 : Int) < ((j + 1 : Nat) : Int) := by omega
              by_cases hm : (x - 48) % 2 = 0
              · refine ⟨false, fun b w hD => ?_⟩
                have cn := hD.nd
                have ct := hD.tr
                have cd := hD.dig (j + 1) (by omega)
                have ce := hD.dig j (by omega)
                rw [hc] at cd
                rw [hx] at ce
                rw [ht] at ct
                have hm' : ((((x : Int) - 48) % 2) != 0) = false := by rw [bne_eq_false_iff_eq]; omega
                clear hc ht hl hi0 hD hx hm
                go_enter Tryz.func138, Tryz.ntmps138
                go_wp2
                go_ret
                exact ⟨rfl, rfl⟩
              · refine ⟨true, fun b w hD => ?_⟩
                have cn := hD.nd
                have ct := hD.tr
                have cd := hD.dig (j + 1) (by omega)
                have ce := hD.dig j (by omega)
                rw [hc] at cd
                rw [hx] at ce
                rw [ht] at ct
                have hm' : ((((x : Int) - 48) % 2) != 0) = true := by rw [bne_iff_ne]; omega
                clear hc ht hl hi0 hD hx hm
                go_enter Tryz.func138, Tryz.ntmps138
                go_wp2
                go_ret
                exact ⟨rfl, rfl⟩
          · refine ⟨true, fun b w hD => ?_⟩
            have cn := hD.nd
            have ct := hD.tr
            have cd := hD.dig i (by omega)
            rw [hc] at cd
            rw [ht] at ct
            clear hc ht hl hD
            go_enter Tryz.func138, Tryz.ntmps138
            go_wp2
            go_ret
            exact ⟨rfl, rfl⟩
        · have hl' : (((i : Int) + 1) == (D.nd : Int)) = false := beq_eq_false_iff_ne.2 (by omega)
          refine ⟨true, fun b w hD => ?_⟩
          have cn := hD.nd
          have cd := hD.dig i (by omega)
          rw [hc] at cd
          clear hc hl hD
          go_enter Tryz.func138, Tryz.ntmps138
          go_wp2
          go_ret
          exact ⟨rfl, rfl⟩
      · have h53' : ((c : Int) == 53) = false := beq_eq_false_iff_ne.2 (by omega)
        by_cases h5 : 53 ≤ c
        · have h5' : (53 : Int) ≤ (c : Int) := by omega
          refine ⟨true, fun b w hD => ?_⟩
          have cn := hD.nd
          have cd := hD.dig i (by omega)
          rw [hc] at cd
          clear hc hD
          go_enter Tryz.func138, Tryz.ntmps138
          go_wp2
          go_ret
          exact ⟨ret_bool (by simp), rfl⟩
        · have h5' : ¬ (53 : Int) ≤ (c : Int) := by omega
          refine ⟨false, fun b w hD => ?_⟩
          have cn := hD.nd
          have cd := hD.dig i (by omega)
          rw [hc] at cd
          clear hc hD
          go_enter Tryz.func138, Tryz.ntmps138
          go_wp2
          go_ret
          exact ⟨ret_bool (by simp), rfl⟩
/-- The whole part so far. -/
def ri (D : Dst) : Nat → Int
  | 0 => 0
  | i + 1 => if i < D.nd then IntKind.u64.wrap (IntKind.u64.wrap (ri D i * 10) + ((D.d i : Int) - 48)) else IntKind.u64.wrap (ri D i * 10)
def IntegerIs (D : Dst) (r : Int) : Prop := ∀ (b : Nat) (w : World), DecAt w b D → Calls Tryz.prog 131 #[.pointer (some ⟨b, 0, none⟩)] w fun e w' => e = .returned (.int .u64 r) ∧ w = w'
set_option maxRecDepth 100000 in
set_option maxHeartbeats 2000000 in
theorem rounded_int (D : Dst) (hg : Good D) : ∃ r, IntegerIs D r := by
  have hn1 := hg.n1
  have hn2 := hg.n2
  by_cases h20 : 20 < D.dp
  · refine ⟨18446744073709551615, fun b w hD => ?_⟩
    have cp := hD.dp
    clear hD
    go_enter Tryz.func131, Tryz.ntmps131
    go_wp2
    go_ret
    exact ⟨rfl, rfl⟩
  · obtain ⟨r, hr⟩ := round_up D hg D.dp
    obtain ⟨P, hP⟩ : ∃ P : Nat, P = D.dp.toNat := ⟨_, rfl⟩
    obtain ⟨F, hF⟩ : ∃ F, ri D P = F := ⟨_, rfl⟩
    have HR := Lib.hid hr
    have HF := Lib.hid hF
    have HP := Lib.hid hP
    have hP20 : P ≤ 20 := by omega
    clear hr hF hP
    refine ⟨if r then IntKind.u64.wrap (F + 1) else F, fun b w hD => ?_⟩
    have cp := hD.dp
    have cn := hD.nd
    have HD := Lib.hid hD
    clear hD
    go_enter Tryz.func131, Tryz.ntmps131
    go_upto_block 0 with (fail)
    go_cut [3, 4] (fun v3 v4 wc => w = wc ∧ ∃ i : Nat, i ≤ P ∧ (D.nd ≤ i ∨ i = P) ∧ v3 = .int .i64 i ∧ v4 = .int .u64 (ri D i))
    case first =>
      go_wp2_with fail
      go_loopg [3, 4] P (fun g v3 v4 wx => w = wx ∧ ∃ i : Nat, i + g = P ∧ v3 = .int .i64 i ∧ v4 = .int .u64 (ri D i))
      case atStart => exact ⟨rfl, 0, by omega, rfl, rfl⟩
      case round =>
        obtain ⟨rfl, i, hig, rfl, rfl⟩ := hrel
        have hPe := HP.out
        by_cases h1 : (i : Int) < D.dp ∧ i < D.nd
        · obtain ⟨h1, h2⟩ := h1
          obtain ⟨g, rfl⟩ : ∃ g, gk = g + 1 := ⟨gk - 1, by omega⟩
          obtain ⟨hd1, hd2⟩ := hg.dig i h2
          have cd := HD.out.dig i (by omega)
          have hs : ri D (i + 1) = IntKind.u64.wrap (IntKind.u64.wrap (ri D i * 10) + ((D.d i : Int) - 48)) := by
            show (if i < D.nd then _ else _) = _
            rw [if_pos h2]
          have h2' : (i : Int) < (D.nd : Int) := by omega
          have hi8 : (i : Int) < 800 := by omega
          obtain ⟨c, hc⟩ : ∃ c, D.d i = c := ⟨_, rfl⟩
          obtain ⟨x, hx⟩ : ∃ x, ri D i = x := ⟨_, rfl⟩
          rw [hc] at cd hd1 hd2 hs
          rw [hx] at hs ⊢
          have Hs := Lib.hid hs
          clear hs hc hx hPe
          go_wp2
          go_roundg g
          case measure => omega
          case rel => exact ⟨rfl, i + 1, by omega, by go_num, by rw [Hs.out]⟩
        · clear hPe
          by_cases hx : (i : Int) < D.dp
          · have hy : ¬ (i : Int) < (D.nd : Int) := by omega
            go_wp2
            go_meet
            exact ⟨rfl, i, by omega, Or.inl (by omega), rfl, rfl⟩
          · have hz : Hid (i = P) := Lib.hid (by have := HP.out; omega)
            go_wp2
            go_meet
            exact ⟨rfl, i, by omega, Or.inr hz.out, rfl, rfl⟩
    case rest =>
      obtain ⟨rfl, i0, hi1, hi2, rfl, rfl⟩ := hcut
      go_wp2_with fail
      go_loopg [3, 4] (P - i0) (fun g v3 v4 wx => w = wx ∧ ∃ i : Nat, i + g = P ∧ (D.nd ≤ i ∨ i = P) ∧ v3 = .int .i64 i ∧ v4 = .int .u64 (ri D i))
      case atStart => exact ⟨rfl, i0, by omega, hi2, rfl, rfl⟩
      case round =>
        clear hi2
        obtain ⟨rfl, i, hig, hi2, rfl, rfl⟩ := hrel
        by_cases hx : i < P
        · have h1 : (i : Int) < D.dp := by have := HP.out; omega
          obtain ⟨g, rfl⟩ : ∃ g, gk = g + 1 := ⟨gk - 1, by omega⟩
          have hs : ri D (i + 1) = IntKind.u64.wrap (ri D i * 10) := by
            show (if i < D.nd then _ else _) = _
            rw [if_neg (by omega)]
          obtain ⟨x, hx⟩ : ∃ x, ri D i = x := ⟨_, rfl⟩
          rw [hx] at hs ⊢
          have Hs := Lib.hid hs
          have Hi2 := Lib.hid hi2
          clear hs hx hi2
          go_wp2
          go_roundg g
          case measure => omega
          case rel => exact ⟨rfl, i + 1, by omega, Or.inl (by have := Hi2.out; omega), by go_num, by rw [Hs.out]⟩
        · obtain rfl : i = P := by omega
          have h1 : ¬ (i : Int) < D.dp := by have := HP.out; omega
          rw [HF.out]
          clear hi2
          cases r
          · go_wp2_with (go_at_call 138; refine (HR.out b _ HD.out).mono ?_; rintro e w' ⟨rfl, rfl⟩)
            go_ret
            exact ⟨rfl, rfl⟩
          · go_wp2_with (go_at_call 138; refine (HR.out b _ HD.out).mono ?_; rintro e w' ⟨rfl, rfl⟩)
            go_ret
            exact ⟨rfl, rfl⟩
end Go.Proofs.YtmfnkilohicapaaGreatDoor
