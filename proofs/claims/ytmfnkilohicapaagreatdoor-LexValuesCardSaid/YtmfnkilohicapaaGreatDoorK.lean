/- The reference's 'alone'. -/
import Derived.Test.YtmfnkilohicapaaGreatDoorY
namespace Go.Proofs.YtmfnkilohicapaaGreatDoor
open Go.RowKit

set_option maxHeartbeats 1000000 in
theorem ref_alone (s : ByteArray) (kind : Int) (hk : kind = 2 ∨ kind = 3) (hs : s.size ≤ 140737488351232) (w : World) :
    Calls Tryz.prog 15 #[.string s, .int .i64 kind] w fun e w' => e = .returned (.bool (numOk s.data.toList kind)) ∧ Below w.heap.size w w' := by
  by_cases h0 : s.size = 0
  · have hse : s = ⟨#[]⟩ := by
      apply ByteArray.ext
      exact Array.eq_empty_of_size_eq_zero h0
    subst hse
    go_enter Tryz.func15, Tryz.ntmps15
    go_wp2
    go_ret
    exact ⟨rfl, Below.refl _ _⟩
  · have h1 : 0 < s.size := by omega
    have hne : (s.toList == ([] : List UInt8)) = false := by
      rw [Lib.toList_data]
      cases h : s.data.toList with
      | nil => rw [size_len, h] at h1; cases h1
      | cons a r => rfl
    have Hk := Lib.hid hk
    clear hk
    have hone := fun wx => ref_one_for s h1 hs wx
    have Hone := Lib.hid hone
    clear hone
    go_enter Tryz.func15, Tryz.ntmps15
    go_upto_region 4 with (go_at_call 34; refine (Hone.out _).mono ?_; rintro e w1 ⟨⟨k, n, t, b, rfl, hkn⟩, hb⟩; have Hkn := Lib.hid (hkn kind Hk.out); clear hkn)
    have c0 := cell_only w1 #[.int .i64 k, .string t, .int .i64 0] 64 0 _ rfl
    cases b
    · have hv := Hkn.out
      rw [Bool.false_and] at hv
      have Hv := Lib.hid hv
      clear hv
      cases hnn : (n == (s.size : Int))
      all_goals
        go_wp2
        go_ret
        exact ⟨ret_bool Hv.out, hb.alloc (Below.size hb) _⟩
    cases hnn : (n == (s.size : Int))
    · have hv : numOk s.data.toList kind = false := by rw [← Hkn.out, hnn]; rfl
      have Hv := Lib.hid hv
      clear hv
      go_wp2
      go_ret
      exact ⟨ret_bool Hv.out.symm, hb.alloc (Below.size hb) _⟩
    · have hv : (k == kind) = numOk s.data.toList kind := by rw [← Hkn.out, hnn]; rfl
      cases hkk : (k == kind)
      all_goals
        rw [hkk] at hv
        have Hv := Lib.hid hv
        clear hv
        go_wp2
        go_ret
        exact ⟨ret_bool Hv.out, hb.alloc (Below.size hb) _⟩
end Go.Proofs.YtmfnkilohicapaaGreatDoor

/- Both packages' 'Span'. -/
namespace Go.Proofs.YtmfnkilohicapaaGreatDoor
open Go.RowKit

/-- What 'Span' answers. -/
def spanOut (l : List UInt8) : Value :=
  if numOk l 3 then (if 1099511627776 < (sp true 0 l).2 then .tuple #[.int .i64 0, .int .i64 7] else .tuple #[.int .i64 ((sp true 0 l).2 : Nat), .int .i64 0]) else .tuple #[.int .i64 0, .int .i64 130]
structure SpanIs (R : Value) (b : Bool) (t : Nat) : Prop where
  none : b = false → R = .tuple #[.int .i64 0, .int .i64 130]
  large : b = true → 1099511627776 < t → R = .tuple #[.int .i64 0, .int .i64 7]
  ok : b = true → t ≤ 1099511627776 → R = .tuple #[.int .i64 (t : Nat), .int .i64 0]
theorem spanOut_is (l : List UInt8) : SpanIs (spanOut l) (numOk l 3) (sp true 0 l).2 := by
  unfold spanOut
  refine ⟨fun h => ?_, fun h h2 => ?_, fun h h2 => ?_⟩
  · rw [h]; rfl
  · rw [h, if_pos rfl, if_pos h2]
  · rw [h, if_pos rfl, if_neg (by omega)]
set_option maxHeartbeats 1000000 in
theorem lex_Span (s : ByteArray) (hs : s.size ≤ 140737488351232) (w : World) (hT : Laid w) :
    Calls Tryz.prog 6 #[.string s] w fun e w' => e = .returned (spanOut s.data.toList) ∧ Below w.heap.size w w' := by
  have HT := Lib.hid hT
  clear hT
  have halone := fun wx hTx => lex_alone s 3 (Or.inr rfl) hs wx hTx
  have hspan := fun wx => lex_span s wx (by omega)
  have hv := spanOut_is s.data.toList
  obtain ⟨R, hR⟩ : ∃ R, spanOut s.data.toList = R := ⟨_, rfl⟩
  rw [hR] at hv ⊢
  clear hR
  obtain ⟨b, hb⟩ : ∃ b, numOk s.data.toList 3 = b := ⟨_, rfl⟩
  obtain ⟨t, ht⟩ : ∃ t, (sp true 0 s.data.toList).2 = t := ⟨_, rfl⟩
  obtain ⟨m, hm⟩ : ∃ m, (sp true 0 s.data.toList).1 = m := ⟨_, rfl⟩
  rw [hb] at halone hv
  rw [ht, hm] at hspan
  rw [ht] at hv
  have Hv := Lib.hid hv
  clear hb ht hm hv
  obtain ⟨C, hC⟩ : ∃ C, capn t = C := ⟨_, rfl⟩
  rw [hC] at hspan
  have hC2 := capn_le t
  rw [hC] at hC2
  have HC := Lib.hid hC
  have Ha := Lib.hid halone
  have Hs := Lib.hid hspan
  clear halone hspan hC
  cases b
  · go_enter Tryz.func6, Tryz.ntmps6
    go_wp2_with (go_at_call 12; refine (Ha.out _ HT.out).mono ?_; rintro e w1 ⟨rfl, hb1⟩)
    go_ret2
    exact ⟨by rw [Hv.out.none rfl]; rfl, hb1⟩
  · by_cases hbig : (C : Int) > 1099511627776
    · go_enter Tryz.func6, Tryz.ntmps6
      go_wp2_with (first
        | (go_at_call 12; refine (Ha.out _ HT.out).mono ?_; rintro e w1 ⟨rfl, hb1⟩)
        | (go_at_call 17; refine (Hs.out _).mono ?_; rintro e w2 ⟨rfl, hb2⟩))
      go_ret2
      refine ⟨?_, hb1.trans (hb2.mono hb1.size)⟩
      rw [Hv.out.large rfl (by have := HC.out; unfold capn at this; omega)]; rfl
    · go_enter Tryz.func6, Tryz.ntmps6
      go_wp2_with (first
        | (go_at_call 12; refine (Ha.out _ HT.out).mono ?_; rintro e w1 ⟨rfl, hb1⟩)
        | (go_at_call 17; refine (Hs.out _).mono ?_; rintro e w2 ⟨rfl, hb2⟩))
      go_ret2
      refine ⟨?_, hb1.trans (hb2.mono hb1.size)⟩
      have hct : C = t := by have := HC.out; unfold capn at this; omega
      rw [Hv.out.ok rfl (by omega), ← hct]; rfl
theorem unit_ms (w : World) (i : Nat) (h : i ≤ 6) : (w.alloc (unitsObj 45)).cell? ⟨w.heap.size, i * 2 + 1, none⟩ = some (.int .i64 (ums i : Nat)) := by
  refine (UnitsAt.new w 45).cell _ _ ?_
  rcases (by omega : i = 0 ∨ i = 1 ∨ i = 2 ∨ i = 3 ∨ i = 4 ∨ i = 5 ∨ i = 6) with rfl | rfl | rfl | rfl | rfl | rfl | rfl <;> rfl
theorem unit_name (w : World) (i : Nat) (h : i ≤ 6) : (w.alloc (unitsObj 45)).cell? ⟨w.heap.size, i * 2, none⟩ = some (.string ⟨(uname i).toArray⟩) := by
  refine (UnitsAt.new w 45).cell _ _ ?_
  rcases (by omega : i = 0 ∨ i = 1 ∨ i = 2 ∨ i = 3 ∨ i = 4 ∨ i = 5 ∨ i = 6) with rfl | rfl | rfl | rfl | rfl | rfl | rfl <;> rfl
theorem uname_len (i : Nat) (h : i ≤ 6) : (⟨(uname i).toArray⟩ : ByteArray).size = ulen i := by
  rcases (by omega : i = 0 ∨ i = 1 ∨ i = 2 ∨ i = 3 ∨ i = 4 ∨ i = 5 ∨ i = 6) with rfl | rfl | rfl | rfl | rfl | rfl | rfl <;> rfl
theorem ums_in (i : Nat) (h : i ≤ 6) : 1 ≤ ums i ∧ ums i ≤ 31536000000 := by
  rcases (by omega : i = 0 ∨ i = 1 ∨ i = 2 ∨ i = 3 ∨ i = 4 ∨ i = 5 ∨ i = 6) with rfl | rfl | rfl | rfl | rfl | rfl | rfl <;> decide
theorem ulen_in (i : Nat) : 1 ≤ ulen i ∧ ulen i ≤ 2 := by unfold ulen; split <;> omega
/-- A duration's next part. -/
theorem sp_next (s : ByteArray) (p fr : Nat) (hp : p < s.size) (h : (sp false fr (s.data.toList.drop p)).1 = s.size - p) : ∃ n i, rl isDig (s.data.toList.drop p) = n ∧ 0 < n ∧ p + n ≤ s.size ∧ i ≤ 6 ∧ uAt (s.data.toList.drop (p + n)) = some i ∧ p + n + ulen i ≤ s.size ∧
    (sp false (i + 1) (s.data.toList.drop (p + n + ulen i))).1 = s.size - (p + n + ulen i) ∧ (sp false fr (s.data.toList.drop p)).2 = val ((s.data.toList.drop p).take n) * ums i + (sp false (i + 1) (s.data.toList.drop (p + n + ulen i))).2 := by
  by_cases hz : rl isDig (s.data.toList.drop p) = 0
  · rw [sp_zero hz] at h
    simp only [] at h
    omega
  · by_cases hex : ∃ i, uAt ((s.data.toList.drop p).drop (rl isDig (s.data.toList.drop p))) = some i ∧ fr ≤ i ∧ (false = true → ulen i = rl isLow ((s.data.toList.drop p).drop (rl isDig (s.data.toList.drop p))))
    · obtain ⟨i, hi, hfi, hx⟩ := hex
      have h6 := uAt_le _ _ hi
      have hn := rl_drop_le isDig s p (by omega)
      rw [sp_some rfl hz hi hfi hx] at h ⊢
      rw [List.drop_drop] at hi h
      have hl := uAt_len s _ i hi
      refine ⟨_, i, rfl, by omega, hn, h6, hi, hl, ?_, ?_⟩
      · rw [← Nat.add_assoc] at h
        simp only [] at h
        omega
      · rw [List.drop_drop, ← Nat.add_assoc]
    · rw [sp_none (fun i hi hfi hx => hex ⟨i, hi, hfi, hx⟩)] at h
      simp only [] at h
      omega
theorem val_next (l : List UInt8) (k : Nat) (c : UInt8) (h : l[k]? = some c) : val (l.take (k + 1)) = 10 * val (l.take k) + (c.toNat - 48) := by
  obtain ⟨hk, e⟩ := List.getElem?_eq_some_iff.1 h
  rw [List.take_succ_eq_append_getElem hk, val_snoc, e]
set_option maxHeartbeats 4000000 in
set_option maxRecDepth 100000 in
theorem ref_Span (s : ByteArray) (hs : s.size ≤ 140737488351232) (w : World) :
    Calls Tryz.prog 7 #[.string s] w fun e w' => e = .returned (spanOut s.data.toList) ∧ Below w.heap.size w w' := by
  have halone := fun wx => ref_alone s 3 (Or.inr rfl) hs wx
  have hsp : numOk s.data.toList 3 = true → (sp false 0 s.data.toList).1 = s.size ∧ (sp false 0 s.data.toList).2 = (sp true 0 s.data.toList).2 := by
    intro h
    unfold numOk at h
    rw [decide_eq_true_iff, if_neg (show ¬ (3 : Int) = 2 by decide)] at h
    have h2 := sp_whole 0 _ h.2.2
    rw [h2]
    exact ⟨by rw [h.2.2, size_len], rfl⟩
  have hv := spanOut_is s.data.toList
  obtain ⟨R, hR⟩ : ∃ R, spanOut s.data.toList = R := ⟨_, rfl⟩
  rw [hR] at hv ⊢
  clear hR
  obtain ⟨b, hb⟩ : ∃ b, numOk s.data.toList 3 = b := ⟨_, rfl⟩
  obtain ⟨t, ht⟩ : ∃ t, (sp true 0 s.data.toList).2 = t := ⟨_, rfl⟩
  rw [hb] at halone hsp hv
  rw [ht] at hsp hv
  have Hv := Lib.hid hv
  clear hb ht hv
  have Ha := Lib.hid halone
  clear halone
  cases b
  · clear hsp
    go_enter Tryz.func7, Tryz.ntmps7
    go_wp2_with (go_at_call 15; refine (Ha.out _).mono ?_; rintro e w1 ⟨rfl, hb1⟩)
    go_ret2
    exact ⟨by rw [Hv.out.none rfl]; rfl, hb1⟩
  · have hsp1 := hsp rfl
    have Hsp := Lib.hid hsp1
    clear hsp hsp1
    go_enter Tryz.func7, Tryz.ntmps7
    go_wp2_with (go_at_call 15; refine (Ha.out _).mono ?_; rintro e w1 ⟨rfl, hb1⟩)
    have HB := Lib.hid hb1
    have HS : Hid (s.size = s.size) := Lib.hid rfl
    go_loopw [4, 5, 6, 7, 8, 9, 10] (fun v4 v5 _ _ _ _ _ wr => ∃ p fr S : Nat, p ≤ s.size ∧ S ≤ 1099511627776 ∧ v5 = .int .i64 p ∧ v4 = .int .i64 S ∧ Hid ((sp false fr (s.data.toList.drop p)).1 = s.size - p) ∧ Hid (S + (sp false fr (s.data.toList.drop p)).2 = t) ∧ Hid (Below w.heap.size w wr)) (fun _ v5 _ _ _ _ _ _ => s.size - (intOf v5).toNat)
    case atStart => exact ⟨0, 0, 0, by omega, by omega, rfl, rfl, Lib.hid (by rw [List.drop_zero, Hsp.out.1]; rfl), Lib.hid (by rw [List.drop_zero, Hsp.out.2]; omega), HB⟩
    case round =>
      clear HB
      obtain ⟨p, fr, S, hp, hS, rfl, rfl, HL, HV, HB⟩ := hrel
      by_cases hlt : p < s.size
      · have hlt' : (p : Int) < (s.size : Int) := by omega
        obtain ⟨n, i, hn, hn0, hpn, hi6, hi, hlen, hL2, hV2⟩ := sp_next s p fr hlt HL.out
        obtain ⟨d, hd⟩ : ∃ d, p + n = d := ⟨_, rfl⟩
        have hdi : ((p : Int) + (n : Int)) = (d : Int) := by omega
        have hms := ums_in i hi6
        have hul := ulen_in i
        have hun : unitIx (s.data.toList.drop d) 0 = (i : Int) := by rw [← hd]; exact unitIx_some hi (Nat.zero_le _)
        have hdig : ∀ k, k < n → ∃ c, s.data.toList[p + k]? = some c ∧ isDig c = true := fun k hk => by
          have := rl_get isDig (s.data.toList.drop p) k (by omega)
          rwa [List.getElem?_drop] at this
        have hVt := HV.out
        rw [hV2] at hVt
        rw [hd] at hL2 hVt hlen
        have hds : d ≤ s.size := by omega
        have hum := fun wx => unit_ms wx i hi6
        have hunm := fun wx => unit_name wx i hi6
        have hunl := uname_len i hi6
        obtain ⟨X, hX⟩ : ∃ X : ByteArray, (⟨(uname i).toArray⟩ : ByteArray) = X := ⟨_, rfl⟩
        obtain ⟨m, hm⟩ : ∃ m, ums i = m := ⟨_, rfl⟩
        obtain ⟨u, hu⟩ : ∃ u, ulen i = u := ⟨_, rfl⟩
        rw [hX] at hunl
        simp only [hX] at hunm
        simp only [hm] at hum hms hVt
        rw [hu] at hunl hul hlen hVt hL2
        have Hum := Lib.hid hum
        have Hunm := Lib.hid hunm
        have Hun := Lib.hid hun
        have Hn := Lib.hid hn
        have Hdi := Lib.hid hdi
        have Hd := Lib.hid hd
        have Hdig := Lib.hid hdig
        have HL2 := Lib.hid hL2
        have HVt := Lib.hid hVt
        have Hunl := Lib.hid hunl
        clear hX hm hu hum hunm hun hn hdi hdig hL2 hVt hunl hV2 hi HL HV hd hpn
        go_upto_region 10 with (first
          | (go_at_call 18; refine (ref_run _ _ (by omega) _ (by omega) (by omega)).mono ?_; rintro e w' ⟨rfl, rfl⟩; rw [Int.toNat_natCast, Hn.out, Hdi.out])
          | (go_at_call 19; refine (ref_unit _ _ _ (by omega) (by omega) _ (by omega) (by omega) (by omega)).mono ?_; rintro e w2 ⟨rfl, hb2⟩; rw [Int.toNat_natCast, show (0 : Int).toNat = 0 from rfl, Hun.out]; have HB2 := Lib.hid (HB.out.trans (hb2.mono HB.out.size)); clear hb2))
        go_loop [8, 9] (fun v8 v9 => ∃ k : Nat, p + k ≤ d ∧ v9 = .int .i64 ((p + k : Nat) : Int) ∧ v8 = .int .i64 (capn (val ((s.data.toList.drop p).take k)))) (fun _ v9 => d - (intOf v9).toNat)
        case atStart => exact ⟨0, by have := Hd.out; omega, rfl, rfl⟩
        case round =>
          obtain ⟨k, hk, rfl, rfl⟩ := hrel
          obtain ⟨V, hV⟩ : ∃ V, val ((s.data.toList.drop p).take k) = V := ⟨_, rfl⟩
          obtain ⟨q, hq⟩ : ∃ q, p + k = q := ⟨_, rfl⟩
          rw [hV, hq]
          rw [hq] at hk
          have hcap := capn_le V
          obtain ⟨C, hC⟩ : ∃ C, capn V = C := ⟨_, rfl⟩
          rw [hC] at hcap ⊢
          have HC := Lib.hid hC
          by_cases hqd : q < d
          · have hqd' : (q : Int) < (d : Int) := by omega
            have hqs : q < s.size := by omega
            obtain ⟨c, hc, hdg⟩ := Hdig.out k (by have := Hd.out; omega)
            have hvt := val_next (s.data.toList.drop p) k c (by rw [List.getElem?_drop]; exact hc)
            have hdk := (isDig_iff _).1 hdg
            rw [hq, get_list s q hqs] at hc
            injection hc with hc
            rw [hV] at hvt
            have Hvt := Lib.hid hvt
            have Hq := Lib.hid hq
            clear hC hvt hV hq hdg
            obtain ⟨hd1, hd2⟩ := hdk
            go_wp2
            all_goals
              go_round
              case rel =>
                refine ⟨k + 1, by have := Hq.out; omega, by have := Hq.out; go_num, ?_⟩
                rw [Hvt.out]
                have h3 := HC.out
                unfold capn at h3 ⊢
                congr 1
                omega
              case measure => (simp [intOf] <;> omega)
          · have hqe : q = d := by omega
            have hqd' : ¬ (q : Int) < (d : Int) := by omega
            have hkn : k = n := by have := Hd.out; omega
            rw [hkn] at hV
            have HVV := Lib.hid hV
            have HHq := Lib.hid hqe
            clear hC hV hq hkn hqe
            have hcm := Hum.out w2
            have hcn := Hunm.out (w2.alloc (unitsObj 45))
            simp only [World.size_alloc] at hcn
            obtain ⟨R0, hR⟩ := Int.eq_ofNat_of_zero_le (show 0 ≤ (1099511627776 : Int) - (S : Int) by omega)
            have hRS : S + R0 = 1099511627776 := by omega
            obtain ⟨D, hD⟩ : ∃ D, R0 / m = D := ⟨_, rfl⟩
            have hDi : (R0 : Int) / (m : Int) = (D : Int) := by rw [← hD]; rfl
            have hq1 : D * m ≤ R0 := by rw [← hD]; exact Nat.div_mul_le_self _ _
            have hq2 : R0 < (D + 1) * m := by rw [← hD, Nat.mul_comm]; exact Nat.lt_mul_div_succ _ (by omega)
            have hD3 : D ≤ 1099511627776 := by have h4 : D * 1 ≤ D * m := Nat.mul_le_mul_left _ (by omega); omega
            have hxu : X.size ≤ 2 := by have := Hunl.out; omega
            have hqn : (q : Int) + (X.size : Int) ≤ (s.size : Int) := by have := Hunl.out; have := HHq.out; omega
            have hdn : (d : Int) + (X.size : Int) ≤ (s.size : Int) := by have := Hunl.out; omega
            have Hq1 := Lib.hid hq1
            have Hq2 := Lib.hid hq2
            clear hq1 hq2 hD
            by_cases hbig : D < C
            · have hbig' : (D : Int) < (C : Int) := by omega
              go_wp2_with (go_at_call 20; refine (ref_units _).mono ?_; rintro e w' ⟨rfl, rfl⟩)
              go_ret2
              refine ⟨?_, HB2.out.alloc HB2.out.size _⟩
              have h1 : (D + 1) * m ≤ V * m := Nat.mul_le_mul_right _ (by have := HC.out; unfold capn at this; omega)
              have h2 := HVt.out
              have h3 := Hq2.out
              rw [HVV.out] at h2
              rw [Hv.out.large rfl (by omega)]; rfl
            · have hbig' : ¬ (D : Int) < (C : Int) := by omega
              have hCm : C * m ≤ D * m := Nat.mul_le_mul_right _ (by omega)
              have hCV : C = V := by have h4 := HC.out; unfold capn at h4; omega
              have hCmi : (C : Int) * (m : Int) = ((C * m : Nat) : Int) := by simp
              obtain ⟨Y, hY⟩ : ∃ Y, C * m = Y := ⟨_, rfl⟩
              rw [hY] at hCm hCmi
              have hYR : Y ≤ R0 := by have := Hq1.out; omega
              have HCV := Lib.hid hCV
              have HY := Lib.hid hY
              clear hCm hCV hY
              go_wp2_with (go_at_call 20; refine (ref_units _).mono ?_; rintro e w' ⟨rfl, rfl⟩)
              go_roundw
              case rel =>
                refine ⟨d + u, i + 1, S + Y, by omega, by omega, by have := Hunl.out; go_num, by go_num, HL2, ?_, (HB2.out.alloc HB2.out.size _).alloc (by have := HB2.out.size; rw [World.size_alloc]; omega) _⟩
                have h2 := HVt.out
                rw [HVV.out, ← HCV.out, HY.out] at h2
                exact Lib.hid (by omega)
              case measure => (have := Hunl.out; have := Hd.out; simp [intOf] <;> omega)
      · have hlt' : ¬ (p : Int) < (s.size : Int) := by omega
        go_wp2
        go_ret2
        refine ⟨?_, HB.out⟩
        have hpe : p = s.size := by omega
        have h2 := HV.out
        rw [hpe, List.drop_of_length_le (by rw [← size_len]; exact Nat.le_refl _), sp_zero rfl] at h2
        simp only [Nat.add_zero] at h2
        rw [Hv.out.ok rfl (by omega), ← h2]; rfl
end Go.Proofs.YtmfnkilohicapaaGreatDoor
