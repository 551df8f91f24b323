/- parseFloat64: it answers, whatever the memory. -/
import Derived.Test.YtmfnkilohicapaaGreatDoorCb
namespace Go.Proofs.YtmfnkilohicapaaGreatDoor
open Go.RowKit

theorem rows_in : Pinned.pow10Rows.all (fun r => decide (r.1 < 18446744073709551616) && decide (r.2 < 18446744073709551616)) = true ∧ Pinned.pow10Rows.length = 696 := by
  constructor <;> kernel_rfl
theorem row_of (p : Int) (h0 : -348 ≤ p) (h1 : p ≤ 347) : ∃ h l, Pinned.pow10Rows[(p + 348).toNat]? = some (h, l) ∧ h < 18446744073709551616 ∧ l < 18446744073709551616 := by
  have hl : (p + 348).toNat < Pinned.pow10Rows.length := by rw [rows_in.2]; omega
  have := List.all_eq_true.1 rows_in.1 _ (List.getElem_mem hl)
  rw [Bool.and_eq_true, decide_eq_true_iff, decide_eq_true_iff] at this
  exact ⟨_, _, List.getElem?_eq_getElem hl, this⟩
theorem bitLenAux_le (f x : Nat) : Lib.bitLenAux f x ≤ f := by
  induction f generalizing x with
  | zero => exact Nat.le_refl _
  | succ f ih =>
    unfold Lib.bitLenAux
    split
    · omega
    · have := ih (x / 2)
      omega
theorem wr64 (x : Int) (h0 : -9223372036854775808 ≤ x) (h1 : x ≤ 9223372036854775807) : wrap64 x = x := by
  unfold wrap64; omega
theorem bitLen_in (d : Nat) (h : 0 < d) : 1 ≤ Lib.bitLen d ∧ Lib.bitLen d ≤ 64 := by
  refine ⟨?_, bitLenAux_le 64 d⟩
  unfold Lib.bitLen Lib.bitLenAux
  rw [if_neg (by omega)]; omega
theorem u64_nat (x : Int) : ∃ X : Nat, IntKind.u64.wrap x = (X : Int) ∧ X < 18446744073709551616 := by
  have h0 : 0 ≤ IntKind.u64.wrap x ∧ IntKind.u64.wrap x < 18446744073709551616 := by
    simp only [IntKind.wrap]
    constructor
    · exact Int.emod_nonneg _ (by decide)
    · exact Int.emod_lt_of_pos _ (by decide)
  obtain ⟨X, hX⟩ := Int.eq_ofNat_of_zero_le h0.1
  exact ⟨X, hX, by omega⟩
theorem and63 (n : Nat) (h : n < 64) : bits BinOp.and IntKind.i64 (n : Int) 63 = (n : Int) := by
  have : ∀ n : Fin 64, bits BinOp.and IntKind.i64 (n.val : Int) 63 = (n.val : Int) := by decide
  exact this ⟨n, h⟩
/-- No error, or the range error. -/
def ErrOk (er : Value) : Prop := er = .nilIface ∨ er = .iface 87 (.int .i64 1)
theorem packE_ok (x y : Int) : ErrOk (packE x y) := by
  unfold packE ErrOk; split
  · exact Or.inr rfl
  · exact Or.inl rfl
set_option maxRecDepth 100000 in
set_option maxHeartbeats 4000000 in
theorem parse64_ (d : Nat) (hd : 0 < d) (hd2 : d < 18446744073709551616) (p : Int) (h0 : -345 ≤ p) (h1 : p ≤ 310) : ∃ r er, ErrOk er ∧ ∀ w, Laid w → Calls Tryz.prog 112 #[.int .u64 d, .int .i64 p, .int .u64 0] w fun e w' => e = .returned (.tuple #[.float .f64 r, er]) ∧ Below w.heap.size w w' := by
  obtain ⟨h, l, hr, hh, hl⟩ := row_of p (by omega) (by omega)
  obtain ⟨b, hb⟩ : ∃ b, Lib.bitLen d = b := ⟨_, rfl⟩
  have hb1 : 1 ≤ b ∧ b ≤ 64 := by rw [← hb]; exact bitLen_in d hd
  have hlen := fun wx => Tryz.bits_Len64 (d : Int) wx (by omega) (by omega)
  rw [Int.toNat_natCast, hb] at hlen
  obtain ⟨lp, hlp⟩ : ∃ lp, l2p p = lp := ⟨_, rfl⟩
  have hl10 := fun wx => log2Pow10 p (by omega) (by omega) wx
  rw [hlp] at hl10
  have hlp1 : -1200 ≤ lp ∧ lp ≤ 1100 := by rw [← hlp]; unfold l2p; omega
  have Hlen := Lib.hid hlen
  have Hl10 := Lib.hid hl10
  clear hlen hl10 hlp hb
  obtain ⟨E0, hE0⟩ : ∃ E0 : Int, min 1074 (53 - (b : Int) - lp) = E0 := ⟨_, rfl⟩
  obtain ⟨sv, hsv⟩ := Int.eq_ofNat_of_zero_le (show 0 ≤ -(E0 - (64 - (b : Int)) + lp + 3) by omega)
  have hE1 : -1200 ≤ E0 ∧ E0 ≤ 1074 := by omega
  have hsv2 : wrap64 (-(wrap64 (wrap64 (E0 - (64 - (b : Int)) + lp) + 3))) = (sv : Int) := by
    have w1 : wrap64 (E0 - (64 - (b : Int)) + lp) = E0 - (64 - (b : Int)) + lp := wr64 _ (by omega) (by omega)
    have w2 : wrap64 (E0 - (64 - (b : Int)) + lp + 3) = E0 - (64 - (b : Int)) + lp + 3 := wr64 _ (by omega) (by omega)
    rw [w1, w2, hsv]
    exact wr64 _ (by omega) (by omega)
  have hpre := fun k wx hb hTx => prescale_ k (E0 - (64 - (b : Int))) p lp (by omega) (by omega) h l hr wx hb hTx
  rw [hsv2] at hpre
  have Hpre := Lib.hid hpre
  have hsvb : sv ≤ 5000 := by omega
  have HE0 := Lib.hid hE0
  have hE2 : min 1074 (53 - (b : Int) - lp) = E0 := hE0
  clear hpre hsv hsv2
  have hfb := frombits
  by_cases h64 : 64 ≤ sv
  · have h64' : (sv : Int) ≥ 64 := by omega
    refine ⟨(bits BinOp.or IntKind.u64 0 0).toNat, .nilIface, Or.inl rfl, fun w hT => ?_⟩
    have HT := Lib.hid hT
    clear hT
    go_enter Tryz.func112, Tryz.ntmps112
    go_wp2_with (first
      | (go_at_call 94; refine (Hlen.out _).mono ?_; rintro e w' ⟨rfl, hw⟩; subst hw)
      | (go_at_call 124; refine (Hl10.out _).mono ?_; rintro e w' ⟨rfl, rfl⟩)
      | (go_at_call 125; refine (Hpre.out _ _ (heap_alloc_new _ _) (HT.out.at_ ((Below.refl _ _).alloc (Nat.le_refl _) _))).mono ?_; rintro e w2 ⟨rfl, hS, hk, hsz, hB⟩; have c2 := (Lib.cell_of_heap hS 2).trans rfl))
    go_ret2
    exact ⟨rfl, ((Below.refl _ _).alloc (Nat.le_refl _) _).trans hB⟩
  · have h64' : ¬ (sv : Int) ≥ 64 := by omega
    have h63 := and63 sv (by omega)
    obtain ⟨X, hX, hX2⟩ := u64_nat ((d : Int) * 2 ^ (64 - b))
    obtain ⟨U, hU⟩ : ∃ U, uscF X h l sv = U := ⟨_, rfl⟩
    have husc := fun k wx hS => uscale_ k X h l sv sv hX2 hh hl h63 (by omega) wx hS
    rw [hU] at husc
    have Husc := Lib.hid husc
    clear husc hU
    cases hge : decide (36028797018963966 ≤ U)
    · refine ⟨packB (bits BinOp.or IntKind.u64 0 (rnd (bits BinOp.or IntKind.u64 U (bits BinOp.and IntKind.u64 U 1)))) (-E0), packE (bits BinOp.or IntKind.u64 0 (rnd (bits BinOp.or IntKind.u64 U (bits BinOp.and IntKind.u64 U 1)))) (-E0), packE_ok _ _, fun w hT => ?_⟩
      have HT := Lib.hid hT
      clear hT
      go_enter Tryz.func112, Tryz.ntmps112
      go_wp2_with (first
        | (go_at_call 94; refine (Hlen.out _).mono ?_; rintro e w' ⟨rfl, hw⟩; subst hw)
        | (go_at_call 124; refine (Hl10.out _).mono ?_; rintro e w' ⟨rfl, rfl⟩)
        | (go_at_call 125; refine (Hpre.out _ _ (heap_alloc_new _ _) (HT.out.at_ ((Below.refl _ _).alloc (Nat.le_refl _) _))).mono ?_; rintro e w2 ⟨rfl, hS, hk, hsz, hB⟩; have c2 := (Lib.cell_of_heap hS 2).trans rfl)
        | (go_at_call 126; refine (Husc.out _ _ hS).mono ?_; rintro e w3 ⟨rfl, n3, hw3⟩; subst hw3)
        | (go_at_call 127; refine (unmin_53 _).mono ?_; rintro e w' ⟨rfl, rfl⟩)
        | (go_at_call 95; refine (bool2_int _ _).mono ?_; rintro e w' ⟨rfl, rfl⟩; rw [b2i])
        | (go_at_call 129; refine (round_ _ _).mono ?_; rintro e w' ⟨rfl, rfl⟩)
        | (go_at_call 132; refine (pack_ _ _ _).mono ?_; rintro e w' ⟨rfl, rfl⟩))
      go_ret2
      exact ⟨rfl, below_drewN_ (((Below.refl _ _).alloc (Nat.le_refl _) _).trans hB) _⟩
    · refine ⟨packB (bits BinOp.or IntKind.u64 0 (rnd (bits BinOp.or IntKind.u64 (U / 2) (bits BinOp.and IntKind.u64 U 1)))) (-(E0 - 1)), packE (bits BinOp.or IntKind.u64 0 (rnd (bits BinOp.or IntKind.u64 (U / 2) (bits BinOp.and IntKind.u64 U 1)))) (-(E0 - 1)), packE_ok _ _, fun w hT => ?_⟩
      have HT := Lib.hid hT
      clear hT
      go_enter Tryz.func112, Tryz.ntmps112
      go_wp2_with (first
        | (go_at_call 94; refine (Hlen.out _).mono ?_; rintro e w' ⟨rfl, hw⟩; subst hw)
        | (go_at_call 124; refine (Hl10.out _).mono ?_; rintro e w' ⟨rfl, rfl⟩)
        | (go_at_call 125; refine (Hpre.out _ _ (heap_alloc_new _ _) (HT.out.at_ ((Below.refl _ _).alloc (Nat.le_refl _) _))).mono ?_; rintro e w2 ⟨rfl, hS, hk, hsz, hB⟩; have c2 := (Lib.cell_of_heap hS 2).trans rfl)
        | (go_at_call 126; refine (Husc.out _ _ hS).mono ?_; rintro e w3 ⟨rfl, n3, hw3⟩; subst hw3)
        | (go_at_call 127; refine (unmin_53 _).mono ?_; rintro e w' ⟨rfl, rfl⟩)
        | (go_at_call 95; refine (bool2_int _ _).mono ?_; rintro e w' ⟨rfl, rfl⟩; rw [b2i])
        | (go_at_call 129; refine (round_ _ _).mono ?_; rintro e w' ⟨rfl, rfl⟩)
        | (go_at_call 132; refine (pack_ _ _ _).mono ?_; rintro e w' ⟨rfl, rfl⟩))
      go_ret2
      exact ⟨rfl, below_drewN_ (((Below.refl _ _).alloc (Nat.le_refl _) _).trans hB) _⟩
end Go.Proofs.YtmfnkilohicapaaGreatDoor

/- Numbers that are no NaN: their products and quotients by powers of ten. -/
namespace Go.Proofs.YtmfnkilohicapaaGreatDoor
open Go.RowKit

/-- A float64 that is no NaN. -/
def NN (x : Nat) : Prop := (FloatKind.f64.format.read x).isNaN = false
theorem word_nn (neg : Bool) (k : Nat) (h : k ≤ FloatKind.f64.format.infRung) : NN (FloatKind.f64.format.word neg k) := by
  have h1 : FloatKind.f64.format.infRung = 9218868437227405312 := by decide
  have h2 : FloatKind.f64.format.signWeight = 9223372036854775808 := by decide
  have hk : FloatKind.f64.format.word neg k % 9223372036854775808 = k := by
    unfold Ieee.Format.word
    rw [h2]
    split <;> omega
  unfold NN Ieee.Format.read
  rw [h2, hk]
  simp only []
  split
  · rfl
  · split
    · rfl
    · rw [if_pos (by omega)]; rfl
theorem nearest_nn (neg : Bool) (mag : Nat) (place : Int) : NN (FloatKind.f64.format.nearest neg mag place) := by
  unfold Ieee.Format.nearest
  split
  · exact word_nn neg 0 (Nat.zero_le _)
  · exact word_nn neg _ (Nat.min_le_right _ _)
theorem write_nn (d : Ieee.Datum) (h : d.isNaN = false) : NN (FloatKind.f64.format.write d) := by
  cases d with
  | number s m e => exact nearest_nn s m e
  | infinity s => exact word_nn s _ (Nat.le_refl _)
  | nan s t => cases h
theorem ofInt_nn (n : Int) : NN (floatOfInt .f64 n) := nearest_nn _ _ _
/-- A float64 that is a number and not 0. -/
def Fin1 (y : Nat) : Prop := ∃ s n e, FloatKind.f64.format.read y = .number s n e ∧ n ≠ 0
theorem mul_nn (x y : Nat) (hx : NN x) (hy : Fin1 y) : ∃ r, floatBits .mul .f64 x y = some r ∧ NN r := by
  obtain ⟨s, n, e, hr, hn⟩ := hy
  have hm : floatBits .mul .f64 x y = ((FloatKind.f64.format.read x).product (FloatKind.f64.format.read y)).map FloatKind.f64.format.write := rfl
  rw [hm, hr]
  unfold NN at hx
  cases hd : FloatKind.f64.format.read x with
  | number a b c => exact ⟨_, rfl, write_nn _ rfl⟩
  | infinity a =>
    refine ⟨FloatKind.f64.format.write (.infinity (a ^^ s)), ?_, write_nn _ rfl⟩
    simp [Ieee.Datum.product, hn]
  | nan a b => rw [hd] at hx; cases hx
theorem div_nn (x y : Nat) (hx : NN x) (hy : Fin1 y) : ∃ r, floatBits .quo .f64 x y = some r ∧ NN r := by
  obtain ⟨s, n, e, hr, hn⟩ := hy
  have hm : floatBits .quo .f64 x y = ((FloatKind.f64.format.read x).quotient (FloatKind.f64.format.fractionBits + 2) (FloatKind.f64.format.read y)).map FloatKind.f64.format.write := rfl
  rw [hm, hr]
  unfold NN at hx
  cases hd : FloatKind.f64.format.read x with
  | number a b c =>
    simp only [Ieee.Datum.quotient, hn, if_false]
    exact ⟨_, rfl, write_nn _ rfl⟩
  | infinity a => exact ⟨_, rfl, write_nn _ rfl⟩
  | nan a b => rw [hd] at hx; cases hx
theorem pow_fin (i : Nat) (v : Nat) (h : f64powL[i]? = some v) : Fin1 v := by
  have hl : i < 23 := (List.getElem?_eq_some_iff.1 h).1
  have key : ∀ v ∈ f64powL, (match FloatKind.f64.format.read v with | .number _ n _ => n != 0 | _ => false) = true := by decide
  have := key v (List.mem_of_getElem? h)
  unfold Fin1
  cases hd : FloatKind.f64.format.read v with
  | number a b c =>
    rw [hd] at this
    exact ⟨a, b, c, rfl, by simpa using this⟩
  | infinity a => rw [hd] at this; cases this
  | nan a b => rw [hd] at this; cases this
end Go.Proofs.YtmfnkilohicapaaGreatDoor

/- ParseFloat's 'special' at a text that begins with 0; atof64exact. -/
namespace Go.Proofs.YtmfnkilohicapaaGreatDoor
open Go.RowKit

theorem special_zero (s : ByteArray) (h1 : 0 < s.size) (h : s[0] = 48) (w : World) :
    Calls Tryz.prog 100 #[.string s] w fun e w' => e = .returned (.tuple #[.float .f64 0, .int .i64 0, .bool false]) ∧ w = w' := by
  have h1' : (0 : Int) < (s.size : Int) := by omega
  have hz : ((s.size : Int) == 0) = false := beq_eq_false_iff_ne.2 (by omega)
  have hc : (s[0].toNat : Int) = 48 := by rw [h]; rfl
  obtain ⟨c, hc0⟩ : ∃ c, s[0] = c := ⟨_, rfl⟩
  rw [hc0] at hc
  have e1 : ((c.toNat : Int) == 43) = false := beq_eq_false_iff_ne.2 (by omega)
  have e2 : ((c.toNat : Int) == 45) = false := beq_eq_false_iff_ne.2 (by omega)
  have e3 : ((c.toNat : Int) == 105) = false := beq_eq_false_iff_ne.2 (by omega)
  have e4 : ((c.toNat : Int) == 73) = false := beq_eq_false_iff_ne.2 (by omega)
  have e5 : ((c.toNat : Int) == 110) = false := beq_eq_false_iff_ne.2 (by omega)
  have e6 : ((c.toNat : Int) == 78) = false := beq_eq_false_iff_ne.2 (by omega)
  clear h hc
  go_enter Tryz.func100, Tryz.ntmps100
  go_wp2
  go_ret3
  exact ⟨rfl, rfl⟩
theorem pow_at (i : Nat) (h : i < 23) : ∃ v, f64powL[i]? = some v ∧ Fin1 v := by
  have hl : i < f64powL.length := h
  exact ⟨_, List.getElem?_eq_getElem hl, pow_fin i _ (List.getElem?_eq_getElem hl)⟩
set_option maxRecDepth 100000 in
set_option maxHeartbeats 2000000 in
theorem exact_ (d : Nat) (p : Int) (h0 : -2000 ≤ p) (h1 : p ≤ 2000) : ∃ r ok, ∀ w, Laid w → Calls Tryz.prog 111 #[.int .u64 d, .int .i64 p, .bool false] w fun e w' => e = .returned (.tuple #[.float .f64 r, .bool ok]) ∧ w = w' := by
  by_cases hbig : (d : Int) / 4503599627370496 = 0
  · by_cases hp0 : p = 0
    · subst hp0
      refine ⟨floatOfInt .f64 (d : Int), true, fun w hT => ?_⟩
      have hm := hT.here.mant
      clear hT
      go_enter Tryz.func111, Tryz.ntmps111
      go_wp2
      go_ret2
      exact ⟨rfl, rfl⟩
    · have hpz : (p == 0) = false := beq_eq_false_iff_ne.2 hp0
      have hf := ofInt_nn (d : Int)
      obtain ⟨f, hff⟩ : ∃ f, floatOfInt .f64 (d : Int) = f := ⟨_, rfl⟩
      rw [hff] at hf
      by_cases hp1 : 22 < p ∧ p ≤ 37
      · obtain ⟨v, hv, hvf⟩ := pow_at (p - 22).toNat (by omega)
        obtain ⟨v2, hv2, hvf2⟩ := pow_at 22 (by omega)
        obtain ⟨f1, hf1, hn1⟩ := mul_nn f v hf hvf
        obtain ⟨f2, hf2, hn2⟩ := mul_nn f1 v2 hn1 hvf2
        have hq1 : p > 0 := by omega
        have hq2 : p ≤ 37 := by omega
        have hq3 : p > 22 := by omega
        cases g1 : (FloatKind.f64.format.order f1 4831355200913801216 == some Ordering.gt)
        all_goals cases g2 : (FloatKind.f64.format.order f1 14054727237768577024 == some Ordering.lt)
        · refine ⟨f2, true, fun w hT => ?_⟩
          have hm := hT.here.mant
          obtain ⟨fb, fo, fc, ht1, ht2⟩ := hT.here.f64pow
          have hcell := ht2 _ v hv
          have hcell2 := ht2 _ v2 hv2
          have hm1 := fun wx => run_float_arith (P := Tryz.prog) wx .mul 22 .f64 f v f1 hf1
          have hm2 := fun wx => run_float_arith (P := Tryz.prog) wx .mul 22 .f64 f1 v2 f2 hf2
          clear hT ht2 hv hv2 hf1 hf2 hp1
          go_enter Tryz.func111, Tryz.ntmps111
          go_wp2
          go_ret2
          exact ⟨rfl, rfl⟩
        · refine ⟨f1, false, fun w hT => ?_⟩
          have hm := hT.here.mant
          obtain ⟨fb, fo, fc, ht1, ht2⟩ := hT.here.f64pow
          have hcell := ht2 _ v hv
          have hcell2 := ht2 _ v2 hv2
          have hm1 := fun wx => run_float_arith (P := Tryz.prog) wx .mul 22 .f64 f v f1 hf1
          have hm2 := fun wx => run_float_arith (P := Tryz.prog) wx .mul 22 .f64 f1 v2 f2 hf2
          clear hT ht2 hv hv2 hf1 hf2 hp1
          go_enter Tryz.func111, Tryz.ntmps111
          go_wp2
          go_ret2
          exact ⟨rfl, rfl⟩
        · refine ⟨f1, false, fun w hT => ?_⟩
          have hm := hT.here.mant
          obtain ⟨fb, fo, fc, ht1, ht2⟩ := hT.here.f64pow
          have hcell := ht2 _ v hv
          have hcell2 := ht2 _ v2 hv2
          have hm1 := fun wx => run_float_arith (P := Tryz.prog) wx .mul 22 .f64 f v f1 hf1
          have hm2 := fun wx => run_float_arith (P := Tryz.prog) wx .mul 22 .f64 f1 v2 f2 hf2
          clear hT ht2 hv hv2 hf1 hf2 hp1
          go_enter Tryz.func111, Tryz.ntmps111
          go_wp2
          go_ret2
          exact ⟨rfl, rfl⟩
        · refine ⟨f1, false, fun w hT => ?_⟩
          have hm := hT.here.mant
          obtain ⟨fb, fo, fc, ht1, ht2⟩ := hT.here.f64pow
          have hcell := ht2 _ v hv
          have hcell2 := ht2 _ v2 hv2
          have hm1 := fun wx => run_float_arith (P := Tryz.prog) wx .mul 22 .f64 f v f1 hf1
          have hm2 := fun wx => run_float_arith (P := Tryz.prog) wx .mul 22 .f64 f1 v2 f2 hf2
          clear hT ht2 hv hv2 hf1 hf2 hp1
          go_enter Tryz.func111, Tryz.ntmps111
          go_wp2
          go_ret2
          exact ⟨rfl, rfl⟩
      · by_cases hp2 : 0 < p ∧ p ≤ 22
        · obtain ⟨v, hv, hvf⟩ := pow_at p.toNat (by omega)
          obtain ⟨f2, hf2, hn2⟩ := mul_nn f v hf hvf
          have hq1 : p > 0 := by omega
          have hq2 : p ≤ 37 := by omega
          have hq3 : ¬ p > 22 := by omega
          cases g1 : (FloatKind.f64.format.order f 4831355200913801216 == some Ordering.gt)
          all_goals cases g2 : (FloatKind.f64.format.order f 14054727237768577024 == some Ordering.lt)
          · refine ⟨f2, true, fun w hT => ?_⟩
            have hm := hT.here.mant
            obtain ⟨fb, fo, fc, ht1, ht2⟩ := hT.here.f64pow
            have hcell := ht2 _ v hv
            have hm1 := fun wx => run_float_arith (P := Tryz.prog) wx .mul 22 .f64 f v f2 hf2
            clear hT ht2 hv hf2 hp1 hp2
            go_enter Tryz.func111, Tryz.ntmps111
            go_wp2
            go_ret2
            exact ⟨rfl, rfl⟩
          · refine ⟨f, false, fun w hT => ?_⟩
            have hm := hT.here.mant
            obtain ⟨fb, fo, fc, ht1, ht2⟩ := hT.here.f64pow
            have hcell := ht2 _ v hv
            have hm1 := fun wx => run_float_arith (P := Tryz.prog) wx .mul 22 .f64 f v f2 hf2
            clear hT ht2 hv hf2 hp1 hp2
            go_enter Tryz.func111, Tryz.ntmps111
            go_wp2
            go_ret2
            exact ⟨rfl, rfl⟩
          · refine ⟨f, false, fun w hT => ?_⟩
            have hm := hT.here.mant
            obtain ⟨fb, fo, fc, ht1, ht2⟩ := hT.here.f64pow
            have hcell := ht2 _ v hv
            have hm1 := fun wx => run_float_arith (P := Tryz.prog) wx .mul 22 .f64 f v f2 hf2
            clear hT ht2 hv hf2 hp1 hp2
            go_enter Tryz.func111, Tryz.ntmps111
            go_wp2
            go_ret2
            exact ⟨rfl, rfl⟩
          · refine ⟨f, false, fun w hT => ?_⟩
            have hm := hT.here.mant
            obtain ⟨fb, fo, fc, ht1, ht2⟩ := hT.here.f64pow
            have hcell := ht2 _ v hv
            have hm1 := fun wx => run_float_arith (P := Tryz.prog) wx .mul 22 .f64 f v f2 hf2
            clear hT ht2 hv hf2 hp1 hp2
            go_enter Tryz.func111, Tryz.ntmps111
            go_wp2
            go_ret2
            exact ⟨rfl, rfl⟩
        · by_cases hp3 : p < 0 ∧ -22 ≤ p
          · obtain ⟨v, hv, hvf⟩ := pow_at (-p).toNat (by omega)
            obtain ⟨f2, hf2, hn2⟩ := div_nn f v hf hvf
            have hq1 : ¬ p > 0 := by omega
            have hq2 : p < 0 := by omega
            have hq3 : p ≥ -22 := by omega
            refine ⟨f2, true, fun w hT => ?_⟩
            have hm := hT.here.mant
            obtain ⟨fb, fo, fc, ht1, ht2⟩ := hT.here.f64pow
            have hcell := ht2 _ v hv
            have hm1 := fun wx => run_float_arith (P := Tryz.prog) wx .quo 22 .f64 f v f2 hf2
            clear hT ht2 hv hf2 hp1 hp2 hp3
            go_enter Tryz.func111, Tryz.ntmps111
            go_wp2
            go_ret2
            exact ⟨rfl, rfl⟩
          · refine ⟨f, false, fun w hT => ?_⟩
            have hm := hT.here.mant
            clear hT
            by_cases hpos : 0 < p
            · have hq1 : p > 0 := by omega
              have hq2 : ¬ p ≤ 37 := by omega
              have hq3 : ¬ p < 0 := by omega
              clear hp1 hp2 hp3
              go_enter Tryz.func111, Tryz.ntmps111
              go_wp2
              go_ret2
              exact ⟨rfl, rfl⟩
            · have hq1 : ¬ p > 0 := by omega
              have hq2 : p < 0 := by omega
              have hq3 : ¬ p ≥ -22 := by omega
              clear hp1 hp2 hp3
              go_enter Tryz.func111, Tryz.ntmps111
              go_wp2
              go_ret2
              exact ⟨rfl, rfl⟩
  · refine ⟨0, false, fun w hT => ?_⟩
    have hm := hT.here.mant
    clear hT
    go_enter Tryz.func111, Tryz.ntmps111
    go_wp2
    go_ret2
    exact ⟨rfl, rfl⟩
end Go.Proofs.YtmfnkilohicapaaGreatDoor
