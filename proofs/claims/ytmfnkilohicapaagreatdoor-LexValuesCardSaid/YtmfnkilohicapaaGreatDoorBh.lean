/- The reference's 'decimal'. -/
import Derived.Test.YtmfnkilohicapaaGreatDoorBg
namespace Go.Proofs.YtmfnkilohicapaaGreatDoor
open Go.RowKit

def gath (M : List UInt8) (i : Nat) : List UInt8 × Int × Bool := (M.take i).foldl refStep ([], 0, false)
theorem gath_succ (M : List UInt8) (i : Nat) (c : UInt8) (h : M[i]? = some c) : gath M (i + 1) = refStep (gath M i) c := by
  obtain ⟨hk, e⟩ := List.getElem?_eq_some_iff.1 h
  unfold gath
  rw [List.take_succ_eq_append_getElem hk, List.foldl_append, e]; rfl
theorem refStep_len (t : List UInt8 × Int × Bool) (c : UInt8) (n : Nat) (h1 : t.1.length ≤ n) (h2 : -(n : Int) ≤ t.2.1 ∧ t.2.1 ≤ n) : (refStep t c).1.length ≤ n + 1 ∧ -((n + 1 : Nat) : Int) ≤ (refStep t c).2.1 ∧ (refStep t c).2.1 ≤ ((n + 1 : Nat) : Int) := by
  obtain ⟨d, a, p⟩ := t
  simp only at h1 h2
  unfold refStep
  simp only []
  split
  · exact ⟨by simp only []; omega, by simp only []; omega⟩
  · split
    · refine ⟨by simp only []; omega, ?_⟩
      simp only []
      split <;> omega
    · refine ⟨by simp; omega, ?_⟩
      simp only []
      split <;> omega
set_option maxHeartbeats 8000000 in
set_option maxRecDepth 100000 in
theorem ref_decimal (s : ByteArray) (hs : s.size ≤ 140737488351232) {W Pt : List UInt8} {point ex : Bool} {e : UInt8} {sg ds : List UInt8} (h : DecOf s.data.toList W Pt point ex e sg ds) (hP : dig0 W Pt ≠ [] → PFspec (decText W Pt sg ds) (pfBits (decText W Pt sg ds))) (w : World) (hT : Laid w) :
    Calls Tryz.prog 16 #[.string s] w fun e w' => e = .returned (.float .f64 (decVal W Pt sg ds)) ∧ Below w.heap.size w w' := by
  have heq : s.data.toList = mant W Pt point ++ (if ex then e :: (sg ++ ds) else []) := h.eq
  have hlen := congrArg List.length heq
  rw [← size_len, List.length_append] at hlen
  obtain ⟨m, hm⟩ : ∃ m, (mant W Pt point).length = m := ⟨_, rfl⟩
  rw [hm] at hlen
  have hin : ∀ i (hi : i < m), ∃ c, (mant W Pt point)[i]? = some c ∧ s.data.toList[i]? = some c ∧ (isDig c = true ∨ c = 46) := fun i hi => by
    have hlt : i < (mant W Pt point).length := by omega
    refine ⟨(mant W Pt point)[i], List.getElem?_eq_getElem hlt, ?_, mant_mem h _ (List.getElem_mem hlt)⟩
    rw [heq, List.getElem?_append_left hlt, List.getElem?_eq_getElem hlt]
  have hend : m < s.size → ∃ c, s.data.toList[m]? = some c ∧ (c = 101 ∨ c = 69) := fun hlt => by
    cases ex
    · simp at hlen; omega
    · refine ⟨e, ?_, ?_⟩
      · rw [heq, List.getElem?_append_right (by omega), hm, Nat.sub_self]; rfl
      · have := h.isE
        unfold isE at this
        rwa [Bool.or_eq_true, beq_iff_eq, beq_iff_eq] at this
  have hms : m ≤ s.size := by omega
  have hfold : gath (mant W Pt point) m = (dig0 W Pt, ((dig0 W Pt).length : Int) - Pt.length, point) := by
    unfold gath; rw [← hm, List.take_length]; exact fold_mant h
  have hten : (tensOf ((s.extract m s.size).data.toList.drop 1)) = (decide (sg = [45]), foldCap ds) := by
    rw [Lib.extract_data]
    have : (s.data.toList.drop m).take (s.size - m) = (if ex then e :: (sg ++ ds) else []) := by
      rw [List.take_of_length_le (by rw [List.length_drop, ← size_len]; exact Nat.le_refl _), heq, ← hm, List.drop_left]
    rw [this]
    cases hx : ex
    · obtain ⟨h1, h2⟩ := h.none hx
      rw [h1, h2]; rfl
    · exact tens_dec h
  have hexp : (if (tensOf ((s.extract m s.size).data.toList.drop 1)).1 then -((tensOf ((s.extract m s.size).data.toList.drop 1)).2 : Int) else ((tensOf ((s.extract m s.size).data.toList.drop 1)).2 : Int)) = expV sg ds := by
    rw [hten]; unfold expV
    by_cases h45 : sg = [45] <;> simp [h45]
  have htens := fun wx => ref_tens (s.extract m s.size) (by rw [ByteArray.size_extract]; omega) wx
  rw [hexp] at htens
  have hV : -1099511627776 ≤ expV sg ds ∧ expV sg ds ≤ 1099511627776 := by
    have := foldCap_le ds
    unfold expV; split <;> omega
  obtain ⟨v, hv⟩ : ∃ v, decVal W Pt sg ds = v := ⟨_, rfl⟩
  have hv0 : dig0 W Pt = [] → v = 0 := fun h0 => by rw [← hv, decVal, if_pos h0]
  have hv1 : dig0 W Pt ≠ [] → PFspec (((⟨#[48, 46]⟩ ++ bytesOf (dig0 W Pt)) ++ ⟨#[101]⟩) ++ bytesOf (Lib.itoa (decAt W Pt sg ds))) v := fun h0 => by rw [← hv, decVal, if_neg h0]; exact hP h0
  have hat : decAt W Pt sg ds = clampAt (((dig0 W Pt).length : Int) - Pt.length + expV sg ds) := rfl
  rw [hv]
  obtain ⟨V, hVV⟩ : ∃ V, expV sg ds = V := ⟨_, rfl⟩
  obtain ⟨A, hA⟩ : ∃ A, decAt W Pt sg ds = A := ⟨_, rfl⟩
  rw [hVV] at htens hV hat
  rw [hA] at hat hv1
  generalize mant W Pt point = M at *
  have Hin := Lib.hid hin
  have Hend := Lib.hid hend
  have Hfold := Lib.hid hfold
  have Htens := Lib.hid htens
  have Hv0 := Lib.hid hv0
  have Hv1 := Lib.hid hv1
  have Hat := Lib.hid hat
  have HT := Lib.hid hT
  clear hin hend hfold htens hten hexp hv0 hv1 hat hT hVV hA hv hm heq hlen hP h
  obtain ⟨i0, hi, hz0, hz1, hz2⟩ := info_parts infoByte
  go_enter Tryz.func16, Tryz.ntmps16
  go_wp2
  have HB := Lib.hid (Below.refl w.heap.size w)
  have HR := Lib.hid (Row.nil w.heap.size w)
  have HG : Hid (gath M 0 = ([], 0, false)) := Lib.hid rfl
  go_loopw [3, 4, 5, 6] (fun v3 v4 v5 v6 wr => ∃ (i : Nat) (d : List UInt8) (a : Int) (p : Bool), i ≤ m ∧ d.length ≤ i ∧ -(i : Int) ≤ a ∧ a ≤ i ∧ v5 = .int .i64 i ∧ v4 = .int .i64 a ∧ v6 = .bool p ∧ Hid (gath M i = (d, a, p)) ∧ Hid (Row w.heap.size v3 d wr) ∧ Hid (Below w.heap.size w wr)) (fun _ _ v5 _ _ => s.size - (intOf v5).toNat)
  case atStart => exact ⟨0, [], 0, false, by omega, by simp, by omega, by omega, rfl, rfl, rfl, HG, HR, HB⟩
  case round =>
    rename_i wr
    clear HR HB HG
    obtain ⟨i, d, a, p, hi1, hdl, ha1, ha2, rfl, rfl, rfl, HG, HR, HB⟩ := hrel
    obtain ⟨sa, sc, rfl⟩ := HR.out.form
    by_cases him : i < m
    · have hlt : i < s.size := by omega
      have hlt' : (i : Int) < (s.size : Int) := by omega
      obtain ⟨c, hc1, hc2, hc3⟩ := Hin.out i him
      have hg := gath_succ M i c hc1
      rw [HG.out] at hg
      have hbd := refStep_len (d, a, p) c i hdl ⟨ha1, ha2⟩
      rw [get_list s i hlt] at hc2
      injection hc2 with hc2
      have n1 : ((c.toNat : Int) != 101) = true := by
        rcases hc3 with h3 | rfl
        · have := (dig_num h3).2.2.2.1
          rw [bne, beq_eq_false_iff_ne.2 (fun h => by rw [byte_of (n := 101) (by decide) h] at this; cases this)]; rfl
        · decide
      have n2 : ((c.toNat : Int) != 69) = true := by
        rcases hc3 with h3 | rfl
        · have := (dig_num h3).2.2.2.2.1
          rw [bne, beq_eq_false_iff_ne.2 (fun h => by rw [byte_of (n := 69) (by decide) h] at this; cases this)]; rfl
        · decide
      have b46 : (c == 46) = ((c.toNat : Int) == 46) := by
        rw [Bool.eq_iff_iff, beq_iff_eq, beq_iff_eq]
        exact ⟨fun h => by rw [h]; rfl, fun h => byte_of (n := 46) (by decide) h⟩
      have b48 : (c == 48) = ((c.toNat : Int) == 48) := by
        rw [Bool.eq_iff_iff, beq_iff_eq, beq_iff_eq]
        exact ⟨fun h => by rw [h]; rfl, fun h => byte_of (n := 48) (by decide) h⟩
      unfold refStep at hg
      simp only [b46, b48] at hg
      have Hg := Lib.hid hg
      clear hg hbd hc1 hc3 b46 b48
      cases e46 : ((c.toNat : Int) == 46)
      · cases e48 : ((c.toNat : Int) == 48)
        · cases p
          all_goals
            go_wp2_with (at_builtin; refine wpList_append_own _ rfl _ _ 49 rfl w.heap.size 5 i0 (.int .u8 0) 1 1 Tryz.underlying49 hi hz0 hz1 hz2 rfl (by decide) _ _ _ rfl (World.ownsRow.alloc HR.out _) ⟨wr.heap.size, 0, none⟩ 1 1 [.int .u8 (c.toNat : Int)] rfl rfl (row_one _ _) (one_cell _) (by unfold maxLen; omega) (by omega) (by have := HB.out.size; rw [World.size_alloc]; omega) ?_; intro v' w1 hown' hgrow _; have HR1 := Lib.hid (Row.snocB hown'); have HB1 := Lib.hid (grown_below HB.out HB.out.size HR.out hgrow); clear hown' hgrow)
            go_roundw
            case rel =>
              refine ⟨i + 1, d ++ [c], _, _, by omega, by rw [List.length_append, List.length_singleton]; omega, ?_, ?_, by go_num, rfl, rfl, ?_, HR1, HB1⟩
              rotate_right
              · have h2 := Hg.out
                rw [e46, e48] at h2
                exact Lib.hid (by simpa using h2)
              · omega
              · omega
            case measure => (simp [intOf] <;> omega)
        · by_cases hd0 : d = []
          · subst hd0
            cases p
            all_goals
              go_wp2
              go_roundw
              case rel =>
                refine ⟨i + 1, [], _, _, by omega, by simp, ?_, ?_, by go_num, rfl, rfl, ?_, HR, HB⟩
                rotate_right
                · have h2 := Hg.out
                  rw [e46, e48] at h2
                  exact Lib.hid (by simpa using h2)
                · omega
                · omega
              case measure => (simp [intOf] <;> omega)
          · have hdp : 0 < d.length := List.length_pos_iff.2 hd0
            have hdl0 : ((d.length : Int) == 0) = false := beq_eq_false_iff_ne.2 (by omega)
            have hde : d.isEmpty = false := by cases d; exact absurd rfl hd0; rfl
            have Hde := Lib.hid hde
            clear hd0 hde
            cases p
            all_goals
              go_wp2_with (at_builtin; refine wpList_append_own _ rfl _ _ 49 rfl w.heap.size 5 i0 (.int .u8 0) 1 1 Tryz.underlying49 hi hz0 hz1 hz2 rfl (by decide) _ _ _ rfl (World.ownsRow.alloc HR.out _) ⟨wr.heap.size, 0, none⟩ 1 1 [.int .u8 (c.toNat : Int)] rfl rfl (row_one _ _) (one_cell _) (by unfold maxLen; omega) (by omega) (by have := HB.out.size; rw [World.size_alloc]; omega) ?_; intro v' w1 hown' hgrow _; have HR1 := Lib.hid (Row.snocB hown'); have HB1 := Lib.hid (grown_below HB.out HB.out.size HR.out hgrow); clear hown' hgrow)
              go_roundw
              case rel =>
                refine ⟨i + 1, d ++ [c], _, _, by omega, by rw [List.length_append, List.length_singleton]; omega, ?_, ?_, by go_num, rfl, rfl, ?_, HR1, HB1⟩
                rotate_right
                · have h2 := Hg.out
                  rw [e46, e48, Hde.out] at h2
                  exact Lib.hid (by simpa using h2)
                · omega
                · omega
              case measure => (simp [intOf] <;> omega)
      · go_wp2
        go_roundw
        case rel =>
          refine ⟨i + 1, d, a, true, by omega, by omega, by omega, by omega, by go_num, rfl, rfl, ?_, HR, HB⟩
          have h2 := Hg.out
          rw [e46] at h2
          exact Lib.hid (by simpa using h2)
        case measure => (simp [intOf] <;> omega)
    · obtain rfl : i = m := by omega
      have hde := HG.out.symm.trans Hfold.out
      injection hde with hd1 hd2
      injection hd2 with hd2 hd3
      have hms2 : (i : Int) ≤ (s.size : Int) := by omega
      have hw : (i = s.size) ∨ ∃ (hlt : i < s.size), (s[i].toNat : Int) = 101 ∨ (s[i].toNat : Int) = 69 := by
        by_cases hlt : i < s.size
        · right
          obtain ⟨c, hc1, hc2⟩ := Hend.out hlt
          rw [get_list s i hlt] at hc1
          injection hc1 with hc1
          refine ⟨hlt, ?_⟩
          rw [hc1]
          rcases hc2 with rfl | rfl
          · exact Or.inl rfl
          · exact Or.inr rfl
        · left; omega
      have hax : A = min (max (a + V) (-1000)) 1000 := by rw [Hat.out, hd2]; rfl
      have hA1 : -1000 ≤ A ∧ A ≤ 1000 := by omega
      have hvd : d = [] → v = 0 := fun h0 => Hv0.out (by rw [← hd1]; exact h0)
      have hpf : d ≠ [] → PFspec (((⟨#[48, 46]⟩ ++ bytesOf d) ++ ⟨#[101]⟩) ++ bytesOf (Lib.itoa A)) v := fun h0 => by rw [hd1]; exact Hv1.out (by rw [← hd1]; exact h0)
      have Hax := Lib.hid hax.symm
      have Hvd := Lib.hid hvd
      have Hpf := Lib.hid hpf
      clear hax hvd hpf hd1 hd2 hd3 him hi1 Hv0 Hv1 Hat Hfold Hend Hin HG
      have hit := Lib.itoa_length_le A (by omega) (by omega)
      have hys : (bytesOf (Lib.itoa A)).size = (Lib.itoa A).length := bytesOf_size _
      obtain ⟨Y, hY⟩ : ∃ Y, bytesOf (Lib.itoa A) = Y := ⟨_, rfl⟩
      have hfmt : ∀ wx, Tabs wx → Calls Tryz.prog 33 #[.int .i64 A] wx fun e w' => e = .returned (.string Y) ∧ Below wx.heap.size wx w' := fun wx h => by rw [← hY]; exact fmt_itoa A (by omega) (by omega) wx h
      have hyz : Y.size ≤ 21 := by rw [← hY]; omega
      have Hfmt := Lib.hid hfmt
      have HY := Lib.hid hY
      clear hit hys hfmt hY
      by_cases hd0 : d = []
      · subst hd0
        rcases hw with hw | ⟨hlt, hw | hw⟩
        · have hlt' : ¬ (i : Int) < (s.size : Int) := by omega
          clear hw
          go_wp2
          go_ret
          exact ⟨ret_f64 (Hvd.out (by trivial)).symm, HB.out⟩
        · have hlt' : (i : Int) < (s.size : Int) := by omega
          obtain ⟨c, hc⟩ : ∃ c, s[i] = c := ⟨_, rfl⟩
          rw [hc] at hw
          have n1 : ((c.toNat : Int) != 101) = false := by rw [hw]; rfl
          clear hw
          go_wp2
          go_ret
          exact ⟨ret_f64 (Hvd.out (by trivial)).symm, HB.out⟩
        · have hlt' : (i : Int) < (s.size : Int) := by omega
          obtain ⟨c, hc⟩ : ∃ c, s[i] = c := ⟨_, rfl⟩
          rw [hc] at hw
          have n1 : ((c.toNat : Int) != 101) = true := by rw [hw]; rfl
          have n2 : ((c.toNat : Int) != 69) = false := by rw [hw]; rfl
          clear hw
          go_wp2
          go_ret
          exact ⟨ret_f64 (Hvd.out (by trivial)).symm, HB.out⟩
      · have hdp : 0 < d.length := List.length_pos_iff.2 hd0
        have hdl0 : ((d.length : Int) == 0) = false := beq_eq_false_iff_ne.2 (by omega)
        have Hpf2 := Lib.hid (Hpf.out hd0)
        clear hd0 Hpf Hvd
        rcases hw with hw | ⟨hlt, hw | hw⟩
        · have hlt' : ¬ (i : Int) < (s.size : Int) := by omega
          clear hw
          have hv1 := hV.1
          have hv2 := hV.2
          have hhx := Hax.out
          go_upto_region 17 with (go_at_call 35; refine (Htens.out _).mono ?_; rintro e w5 ⟨rfl, rfl⟩)
          have HTd := Lib.hid (HT.out.at_ (below_drew_ HB.out))
          have HRd := Lib.hid (Row.below HR.out (below_drew_ (Below.refl wr.heap.size wr)))
          have hDs : (bytesOf d).size = d.length := bytesOf_size d
          have hcv := HRd.out.string
          have hn1 : ¬ (2 + d.length > 9223372036854775807) := by omega
          have hn2 : ¬ (2 + d.length + 1 > 9223372036854775807) := by omega
          have hn3 : ¬ (2 + d.length + 1 + Y.size > 9223372036854775807) := by omega
          have hcv0 := HR.out.string
          have HPq := Hpf2.out
          rw [HY.out] at HPq
          have Hpq := Lib.hid HPq
          change (convert 49 9 (.slice sa d.length sc)).run Tryz.prog wr.drew = .ok (.string (bytesOf d)) wr.drew at hcv
          change (convert 49 9 (.slice sa d.length sc)).run Tryz.prog wr = .ok (.string (bytesOf d)) wr at hcv0
          clear HPq hhx
          have HCV : ∀ wx, Row w.heap.size (.slice sa d.length sc) d wx → (convert 49 9 (.slice sa d.length sc)).run Tryz.prog wx = .ok (.string (bytesOf d)) wx := fun wx h => h.string
          generalize bytesOf d = D at *
          have hm1 : ¬ (2 + D.size > 9223372036854775807) := by omega
          have hm2 : ¬ (2 + D.size + 1 > 9223372036854775807) := by omega
          have hm3 : ¬ (2 + D.size + 1 + Y.size > 9223372036854775807) := by omega
          have HDs := Lib.hid hDs
          clear hDs
          go_region_held3 (fun w' => (convert 49 9 (.slice sa d.length sc)).run Tryz.prog w' = .ok (.string D) w') (first | exact hcv | exact hcv0 | exact HC6.out | exact HC7.out | go_keep)
            (first
              | (go_at_call 33; refine (Hfmt.out _ HTd.out).mono ?_; rintro e w6 ⟨rfl, hb6⟩; have HB6 := Lib.hid (HB.out.trans ((below_of_drew hb6).mono HB.out.size)); have HR6 := Lib.hid (Row.below HR.out (below_of_drew hb6)); have HC6 : Hid ((convert 49 9 (.slice sa d.length sc)).run Tryz.prog w6 = .ok (.string D) w6) := Lib.hid (HCV w6 HR6.out); clear hb6)
              | (go_at_call 13; refine (Hpq.out _ (HT.out.below HB6.out)).mono ?_; rintro e w7 ⟨⟨er, rfl⟩, hb7⟩; have HB7 := Lib.hid (HB6.out.trans (hb7.mono HB6.out.size)); have HC7 : Hid ((convert 49 9 (.slice sa d.length sc)).run Tryz.prog w7 = .ok (.string D) w7) := Lib.hid (HCV w7 (Row.below HR6.out hb7)); clear hb7))
          go_wp2
          go_ret
          exact ⟨rfl, HB7.out⟩
        · have hlt' : (i : Int) < (s.size : Int) := by omega
          obtain ⟨c, hc⟩ : ∃ c, s[i] = c := ⟨_, rfl⟩
          rw [hc] at hw
          have n1 : ((c.toNat : Int) != 101) = false := by rw [hw]; rfl
          clear hw
          have hv1 := hV.1
          have hv2 := hV.2
          have hhx := Hax.out
          go_upto_region 17 with (go_at_call 35; refine (Htens.out _).mono ?_; rintro e w5 ⟨rfl, rfl⟩)
          have HTd := Lib.hid (HT.out.at_ (below_drew_ HB.out))
          have HRd := Lib.hid (Row.below HR.out (below_drew_ (Below.refl wr.heap.size wr)))
          have hDs : (bytesOf d).size = d.length := bytesOf_size d
          have hcv := HRd.out.string
          have hn1 : ¬ (2 + d.length > 9223372036854775807) := by omega
          have hn2 : ¬ (2 + d.length + 1 > 9223372036854775807) := by omega
          have hn3 : ¬ (2 + d.length + 1 + Y.size > 9223372036854775807) := by omega
          have hcv0 := HR.out.string
          have HPq := Hpf2.out
          rw [HY.out] at HPq
          have Hpq := Lib.hid HPq
          change (convert 49 9 (.slice sa d.length sc)).run Tryz.prog wr.drew = .ok (.string (bytesOf d)) wr.drew at hcv
          change (convert 49 9 (.slice sa d.length sc)).run Tryz.prog wr = .ok (.string (bytesOf d)) wr at hcv0
          clear HPq hhx
          have HCV : ∀ wx, Row w.heap.size (.slice sa d.length sc) d wx → (convert 49 9 (.slice sa d.length sc)).run Tryz.prog wx = .ok (.string (bytesOf d)) wx := fun wx h => h.string
          generalize bytesOf d = D at *
          have hm1 : ¬ (2 + D.size > 9223372036854775807) := by omega
          have hm2 : ¬ (2 + D.size + 1 > 9223372036854775807) := by omega
          have hm3 : ¬ (2 + D.size + 1 + Y.size > 9223372036854775807) := by omega
          have HDs := Lib.hid hDs
          clear hDs
          go_region_held3 (fun w' => (convert 49 9 (.slice sa d.length sc)).run Tryz.prog w' = .ok (.string D) w') (first | exact hcv | exact hcv0 | exact HC6.out | exact HC7.out | go_keep)
            (first
              | (go_at_call 33; refine (Hfmt.out _ HTd.out).mono ?_; rintro e w6 ⟨rfl, hb6⟩; have HB6 := Lib.hid (HB.out.trans ((below_of_drew hb6).mono HB.out.size)); have HR6 := Lib.hid (Row.below HR.out (below_of_drew hb6)); have HC6 : Hid ((convert 49 9 (.slice sa d.length sc)).run Tryz.prog w6 = .ok (.string D) w6) := Lib.hid (HCV w6 HR6.out); clear hb6)
              | (go_at_call 13; refine (Hpq.out _ (HT.out.below HB6.out)).mono ?_; rintro e w7 ⟨⟨er, rfl⟩, hb7⟩; have HB7 := Lib.hid (HB6.out.trans (hb7.mono HB6.out.size)); have HC7 : Hid ((convert 49 9 (.slice sa d.length sc)).run Tryz.prog w7 = .ok (.string D) w7) := Lib.hid (HCV w7 (Row.below HR6.out hb7)); clear hb7))
          go_wp2
          go_ret
          exact ⟨rfl, HB7.out⟩
        · have hlt' : (i : Int) < (s.size : Int) := by omega
          obtain ⟨c, hc⟩ : ∃ c, s[i] = c := ⟨_, rfl⟩
          rw [hc] at hw
          have n1 : ((c.toNat : Int) != 101) = true := by rw [hw]; rfl
          have n2 : ((c.toNat : Int) != 69) = false := by rw [hw]; rfl
          clear hw
          have hv1 := hV.1
          have hv2 := hV.2
          have hhx := Hax.out
          go_upto_region 17 with (go_at_call 35; refine (Htens.out _).mono ?_; rintro e w5 ⟨rfl, rfl⟩)
          have HTd := Lib.hid (HT.out.at_ (below_drew_ HB.out))
          have HRd := Lib.hid (Row.below HR.out (below_drew_ (Below.refl wr.heap.size wr)))
          have hDs : (bytesOf d).size = d.length := bytesOf_size d
          have hcv := HRd.out.string
          have hn1 : ¬ (2 + d.length > 9223372036854775807) := by omega
          have hn2 : ¬ (2 + d.length + 1 > 9223372036854775807) := by omega
          have hn3 : ¬ (2 + d.length + 1 + Y.size > 9223372036854775807) := by omega
          have hcv0 := HR.out.string
          have HPq := Hpf2.out
          rw [HY.out] at HPq
          have Hpq := Lib.hid HPq
          change (convert 49 9 (.slice sa d.length sc)).run Tryz.prog wr.drew = .ok (.string (bytesOf d)) wr.drew at hcv
          change (convert 49 9 (.slice sa d.length sc)).run Tryz.prog wr = .ok (.string (bytesOf d)) wr at hcv0
          clear HPq hhx
          have HCV : ∀ wx, Row w.heap.size (.slice sa d.length sc) d wx → (convert 49 9 (.slice sa d.length sc)).run Tryz.prog wx = .ok (.string (bytesOf d)) wx := fun wx h => h.string
          generalize bytesOf d = D at *
          have hm1 : ¬ (2 + D.size > 9223372036854775807) := by omega
          have hm2 : ¬ (2 + D.size + 1 > 9223372036854775807) := by omega
          have hm3 : ¬ (2 + D.size + 1 + Y.size > 9223372036854775807) := by omega
          have HDs := Lib.hid hDs
          clear hDs
          go_region_held3 (fun w' => (convert 49 9 (.slice sa d.length sc)).run Tryz.prog w' = .ok (.string D) w') (first | exact hcv | exact hcv0 | exact HC6.out | exact HC7.out | go_keep)
            (first
              | (go_at_call 33; refine (Hfmt.out _ HTd.out).mono ?_; rintro e w6 ⟨rfl, hb6⟩; have HB6 := Lib.hid (HB.out.trans ((below_of_drew hb6).mono HB.out.size)); have HR6 := Lib.hid (Row.below HR.out (below_of_drew hb6)); have HC6 : Hid ((convert 49 9 (.slice sa d.length sc)).run Tryz.prog w6 = .ok (.string D) w6) := Lib.hid (HCV w6 HR6.out); clear hb6)
              | (go_at_call 13; refine (Hpq.out _ (HT.out.below HB6.out)).mono ?_; rintro e w7 ⟨⟨er, rfl⟩, hb7⟩; have HB7 := Lib.hid (HB6.out.trans (hb7.mono HB6.out.size)); have HC7 : Hid ((convert 49 9 (.slice sa d.length sc)).run Tryz.prog w7 = .ok (.string D) w7) := Lib.hid (HCV w7 (Row.below HR6.out hb7)); clear hb7))
          go_wp2
          go_ret
          exact ⟨rfl, HB7.out⟩
end Go.Proofs.YtmfnkilohicapaaGreatDoor
