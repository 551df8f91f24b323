/- Package lex's 'decimal'. -/
import Derived.Test.YtmfnkilohicapaaGreatDoorBe
namespace Go.Proofs.YtmfnkilohicapaaGreatDoor
open Go.RowKit

def bytesOf (l : List UInt8) : ByteArray := ⟨l.toArray⟩
theorem bytesOf_data (l : List UInt8) : (bytesOf l).data.toList = l := rfl
theorem bytesOf_size (l : List UInt8) : (bytesOf l).size = l.length := by simp [bytesOf, ByteArray.size]
theorem bytes_eq {a b : ByteArray} (h : a.data.toList = b.data.toList) : a = b := by
  apply ByteArray.ext; exact Array.toList_inj.1 h
theorem fmt_itoa (n : Int) (h0 : -9223372036854775808 ≤ n) (h1 : n ≤ 9223372036854775807) (w : World) (hT : Tabs w) :
    Calls Tryz.prog 33 #[.int .i64 n] w fun e w' => e = .returned (.string ⟨(Lib.itoa n).toArray⟩) ∧ Below w.heap.size w w' := by
  refine (Tryz.strconv_Itoa n h0 h1 w hT.pow10).mono ?_
  rintro e w' ⟨rfl, k, os, rfl⟩
  exact ⟨rfl, Lib.below_grow _ w (Nat.le_refl _) k os⟩
theorem ret_f64 {a b : Nat} (h : a = b) : Ending.returned (.float .f64 a) = .returned (.float .f64 b) := by rw [h]
theorem iterPos_of {w : World} {k : Nat} {s : ByteArray} {p : Nat} (h : w.heap[k]? = some (.stringIter s p)) : w.iterPos k = p := by simp [World.iterPos, h]
theorem drop_past (M r : List UInt8) (e : UInt8) : (M ++ e :: r).drop (M.length + 1) = r := by
  induction M with
  | nil => rfl
  | cons a M ih => simp
set_option maxHeartbeats 8000000 in
set_option maxRecDepth 100000 in
theorem lex_decimal (s : ByteArray) (hs : s.size ≤ 140737488351232) {W Pt : List UInt8} {point ex : Bool} {e : UInt8} {sg ds : List UInt8} (h : DecOf s.data.toList W Pt point ex e sg ds) (hP : dig0 W Pt ≠ [] → PFspec (decText W Pt sg ds) (pfBits (decText W Pt sg ds))) (w : World) (hT : Laid w) :
    Calls Tryz.prog 14 #[.string s] w fun e w' => e = .returned (.float .f64 (decVal W Pt sg ds)) ∧ Below w.heap.size w w' := by
  have hasc := dec_ascii h
  have hix := dec_index h
  have hidx := fun wx => indexAny_eE s wx (by omega) (fun j b hb => hasc b (List.mem_of_getElem? hb))
  rw [show eE.data.toList = [101, 69] from rfl, hix] at hidx
  have hlen := congrArg List.length h.eq
  rw [← size_len, List.length_append] at hlen
  have hcut := fun wx => strings_Cut (bytesOf (mant W Pt point)) 46 wx (by rw [bytesOf_size]; unfold mant; omega)
  rw [bytesOf_data, dec_cut h] at hcut
  have hmin := fun wx => strings_HasPrefix (bytesOf (sg ++ ds)) ⟨#[45]⟩ wx
  rw [bytesOf_data, show (⟨#[45]⟩ : ByteArray).data.toList = [45] from rfl, dec_minus h] at hmin
  have htr := fun wx => trimLeft_signs (bytesOf (sg ++ ds)) wx
  rw [bytesOf_data, dec_trim h] at htr
  have htr0 := fun wx => Tryz.strings_TrimLeft_one (bytesOf W ++ bytesOf Pt) 48 (by decide) wx
  have hd0 : (Lib.trimLeftB (bytesOf W ++ bytesOf Pt).data.toList 48) = dig0 W Pt := by
    unfold Lib.trimLeftB dig0 bytesOf; simp
  rw [hd0] at htr0
  have hML : (bytesOf (mant W Pt point)).size + (if ex then 1 + (sg ++ ds).length else 0) = s.size := by
    rw [bytesOf_size, hlen]; unfold mant; rw [List.length_append]
    cases ex <;> simp <;> omega
  have hXs : (bytesOf (sg ++ ds)).size = (sg ++ ds).length := bytesOf_size _
  have hWP : W.length + Pt.length ≤ (mant W Pt point).length := by
    unfold mant ptOf; cases point
    · rw [h.nopart rfl]; simp
    · simp
  have hDl : (dig0 W Pt).length ≤ W.length + Pt.length := by
    have := (List.dropWhile_sublist (l := W ++ Pt) (· == 48)).length_le
    rw [List.length_append] at this; exact this
  have hM0 : ex = false → s = bytesOf (mant W Pt point) ∧ bytesOf (sg ++ ds) = ⟨#[]⟩ := fun hx => by
    refine ⟨bytes_eq ?_, ?_⟩
    · rw [bytesOf_data, h.eq, hx]; simp [mant]
    · obtain ⟨h1, h2⟩ := h.none hx; rw [h1, h2]; rfl
  have hM1 : ex = true → s.extract 0 (bytesOf (mant W Pt point)).size = bytesOf (mant W Pt point) ∧ s.extract ((bytesOf (mant W Pt point)).size + 1) s.size = bytesOf (sg ++ ds) := fun hx => by
    have he : s.data.toList = mant W Pt point ++ e :: (sg ++ ds) := by rw [h.eq, hx]; simp [mant]
    refine ⟨bytes_eq ?_, bytes_eq ?_⟩
    · rw [Lib.extract_data, he, bytesOf_data, bytesOf_size]; simp
    · rw [Lib.extract_data, size_len, he, bytesOf_data, bytesOf_size, drop_past]
      exact List.take_of_length_le (by simp; omega)
  have hdig := h.dig
  have hsz : (bytesOf W).size + (bytesOf Pt).size ≤ s.size := by rw [bytesOf_size, bytesOf_size]; rw [bytesOf_size] at hML; omega
  have hPl : (bytesOf Pt).size = Pt.length := bytesOf_size _
  have hne : (bytesOf (dig0 W Pt)).toList.isEmpty = decide (dig0 W Pt = []) := by
    rw [Lib.toList_data, bytesOf_data]
    cases dig0 W Pt <;> rfl
  have hDs : (bytesOf (dig0 W Pt)).size ≤ s.size := by rw [bytesOf_size]; rw [bytesOf_size] at hML; omega
  have hPs : (bytesOf Pt).size ≤ s.size := by omega
  have hTs : (bytesOf ds).size ≤ (sg ++ ds).length := by rw [bytesOf_size, List.length_append]; omega
  have hDn : (bytesOf (dig0 W Pt)).size = (dig0 W Pt).length := bytesOf_size _
  have hXM : (bytesOf (sg ++ ds)).size ≤ s.size := by
    cases ex
    · rw [(hM0 rfl).2]; exact Nat.zero_le _
    · rw [if_pos rfl] at hML; omega
  have hMk : (((mant W Pt point).length : Nat) : Int) = ((bytesOf (mant W Pt point)).size : Int) := by rw [bytesOf_size]
  have hMs : (bytesOf (mant W Pt point)).size ≤ s.size := by omega
  have hMs1 : ex = true → (bytesOf (mant W Pt point)).size + 1 ≤ s.size := fun hx => by rw [if_pos hx] at hML; omega
  rw [hMk] at hidx
  obtain ⟨v, hv⟩ : ∃ v, decVal W Pt sg ds = v := ⟨_, rfl⟩
  have hv0 : dig0 W Pt = [] → v = 0 := fun h0 => by rw [← hv, decVal, if_pos h0]
  have hv1 : dig0 W Pt ≠ [] → PFspec (decText W Pt sg ds) v := fun h0 => by rw [← hv, decVal, if_neg h0]; exact hP h0
  have hat : ∀ n : Int, n = expV sg ds → decAt W Pt sg ds = clampAt ((bytesOf (dig0 W Pt)).size - (bytesOf Pt).size + n) := fun n hn => by rw [decAt, hDn, hPl, hn]
  have htx : decText W Pt sg ds = ((⟨#[48, 46]⟩ ++ bytesOf (dig0 W Pt)) ++ ⟨#[101]⟩) ++ bytesOf (Lib.itoa (decAt W Pt sg ds)) := rfl
  have hev : ∀ n : Nat, foldCap (bytesOf ds).data.toList = n → expV sg ds = if decide (sg = [45]) then -(n : Int) else (n : Int) := fun n hn => by
    unfold expV; rw [← hn, bytesOf_data]
    by_cases h45 : sg = [45] <;> simp [h45]
  have hdT : ∀ c ∈ (bytesOf ds).data.toList, isDig c = true := hdig
  rw [hv]
  rw [htx] at hv1
  clear hv hP hdig hDn hPl hlen hML hXs hWP hDl hMk hix hasc htx
  change ∀ wx, Calls Tryz.prog 30 #[.string (bytesOf (mant W Pt point)), .string ⟨#[46]⟩] wx fun e w' => (∃ b, e = .returned (.tuple #[.string (bytesOf W), .string (bytesOf Pt), .bool b])) ∧ Below wx.heap.size wx w' at hcut
  change ∀ wx, Calls Tryz.prog 31 #[.string (bytesOf W ++ bytesOf Pt), .string ⟨#[48]⟩] wx fun e w' => e = .returned (.string (bytesOf (dig0 W Pt))) ∧ w' = wx at htr0
  change ∀ wx, Calls Tryz.prog 31 #[.string (bytesOf (sg ++ ds)), .string ⟨#[43, 45]⟩] wx fun e w' => e = .returned (.string (bytesOf ds)) ∧ Below wx.heap.size wx w' at htr
  obtain ⟨z, hz⟩ : ∃ z, decide (dig0 W Pt = []) = z := ⟨_, rfl⟩
  have hz0 : z = true → v = 0 := fun h0 => hv0 (of_decide_eq_true (hz.trans h0))
  have hz1 : z = false → PFspec _ v := fun h0 => hv1 (of_decide_eq_false (hz.trans h0))
  obtain ⟨mi, hmi⟩ : ∃ mi, decide (sg = [45]) = mi := ⟨_, rfl⟩
  rw [hmi] at hmin
  simp only [hmi] at hev
  rw [hz] at hne
  obtain ⟨A, hA⟩ : ∃ A, decAt W Pt sg ds = A := ⟨_, rfl⟩
  obtain ⟨V, hV⟩ : ∃ V, expV sg ds = V := ⟨_, rfl⟩
  simp only [hA, hV] at hat hz1 hev
  clear hv0 hv1 hz hmi hA hV hd0
  generalize bytesOf (mant W Pt point) = M at *
  generalize bytesOf (sg ++ ds) = X at *
  generalize bytesOf W = Wb at *
  generalize bytesOf Pt = Pb at *
  generalize bytesOf (dig0 W Pt) = D at *
  generalize bytesOf ds = T at *
  clear h
  obtain ⟨K, hK⟩ : ∃ K : Int, (if ex = true then (M.size : Int) else -1) = K := ⟨_, rfl⟩
  rw [hK] at hidx
  have HK := Lib.hid hK
  clear hK
  have HT := Lib.hid hT
  have Hidx := Lib.hid hidx
  have Hcut := Lib.hid hcut
  have Htr0 := Lib.hid htr0
  have Htr := Lib.hid htr
  have Hmin := Lib.hid hmin
  have HdT := Lib.hid hdT
  have Hat := Lib.hid hat
  have Hev := Lib.hid hev
  have Hz0 := Lib.hid hz0
  have Hz1 := Lib.hid hz1
  have HM0 := Lib.hid hM0
  have HM1 := Lib.hid hM1
  clear hT hidx hcut htr0 htr hmin hdT hat hev hz0 hz1 hM0 hM1
  have hnb : ¬ (Wb.size + Pb.size > 9223372036854775807) := by omega
  go_enter Tryz.func14, Tryz.ntmps14
  go_upto_if 20 with (go_at_call 29; refine (Hidx.out _).mono ?_; rintro e w1 ⟨rfl, hb1⟩)
  have HB1 := Lib.hid hb1
  clear hb1
  go_cut [3, 4] (fun v3 v4 wc => v3 = .string M ∧ v4 = .string X ∧ Hid (Below w.heap.size w wc))
  case first =>
    cases ex
    · obtain ⟨hm1, hm2⟩ := HM0.out rfl
      have Hm1 := Lib.hid hm1
      have Hm2 := Lib.hid hm2
      have hkn : ¬ K ≥ 0 := by have := HK.out; rw [if_neg (by decide)] at this; omega
      clear hm1 hm2
      go_wp2
      go_meet
      exact ⟨by rw [← Hm1.out], by rw [Hm2.out], HB1⟩
    · obtain ⟨hm1, hm2⟩ := HM1.out rfl
      have hke : K = (M.size : Int) := by have := HK.out; rw [if_pos rfl] at this; omega
      have hk0 : K ≥ 0 := by omega
      have hk1 : K < (s.size : Int) := by have := hMs1 rfl; omega
      have hk2 : IntKind.i64.wrap (K + 1) = K + 1 := IntWalk.i64_in _ ⟨by omega, by omega⟩
      have hk3 : (K + 1).toNat = M.size + 1 := by omega
      have hk4 : K.toNat = M.size := by omega
      have Hm1 := Lib.hid hm1
      have Hm2 := Lib.hid hm2
      clear hm1 hm2 hke
      go_wp2
      go_quiet (fail)
      go_wp2
      go_meet
      exact ⟨by rw [Hm1.out], by rw [Hm2.out], Lib.hid (below_drewN_ HB1.out _)⟩
  case rest =>
    obtain ⟨rfl, rfl, HB⟩ := hcut
    clear HB1 HK HM0 HM1 Hidx
    have HTl := fun wx (hb : Below w.heap.size w wx) => HT.out.below hb
    cases z
    · go_wp2_with (first
        | (go_at_call 30; refine (Hcut.out _).mono ?_; rintro e w2 ⟨⟨b, rfl⟩, hb2⟩; have HB2 := Lib.hid (HB.out.trans (hb2.mono HB.out.size)); clear hb2)
        | (go_at_call 31; (with_reducible refine (Htr0.out _).mono ?_); rintro e w3 ⟨rfl, hw⟩; subst hw)
        | (go_at_call 31; (with_reducible refine (Htr.out _).mono ?_); rintro e w4 ⟨rfl, hb4⟩; have HB4 := Lib.hid (HB2.out.trans (hb4.mono HB2.out.size)); clear hb4))
      have HIt := Lib.hid (World.iter_heap w4 T 0)
      have HBt := Lib.hid (HB4.out.trans ((below_iter T 0 w4).mono HB4.out.size))
      have hk4 : w.heap.size ≤ w4.heap.size := HB4.out.size
      obtain ⟨wi, hwi⟩ : ∃ wi, w4.iter T 0 = wi := ⟨_, rfl⟩
      rw [hwi] at HIt HBt ⊢
      obtain ⟨k, hk⟩ : ∃ k, w4.heap.size = k := ⟨_, rfl⟩
      rw [hk] at HIt hk4 ⊢
      clear hwi hk
      go_loopw [10, 12] (fun v10 _ wr => ∃ pos : Nat, pos ≤ T.size ∧ v10 = .int .i64 (foldCap (T.data.toList.take pos) : Nat) ∧ Hid (wr.heap[k]? = some (.stringIter T pos)) ∧ Hid (Below w.heap.size w wr)) (fun _ _ wr => T.size - wr.iterPos k)
      case atStart => exact ⟨0, by omega, rfl, HIt, HBt⟩
      case round =>
        rename_i wr
        clear HIt HBt
        obtain ⟨pos, hpos, rfl, HIt, HBt⟩ := hrel
        have hCle := foldCap_le (T.data.toList.take pos)
        have hpos0 := Lib.hid (iterPos_of HIt.out)
        by_cases hlt : pos < T.size
        · have hstep : foldCap (T.data.toList.take (pos + 1)) = min (10 * foldCap (T.data.toList.take pos) + ((T[pos]).toNat - 48)) 1099511627776 := by
            rw [List.take_succ_eq_append_getElem (by rw [← size_len]; exact hlt), foldCap_snoc]; rfl
          have hd := HdT.out T[pos] (List.mem_of_getElem? (get_list T pos hlt))
          have hd2 := (isDig_iff _).1 hd
          have hnx : ∀ ty, (Instr.next (.pointer (some ⟨k, 0, none⟩)) true ty).run Tryz.prog wr = _ := fun ty => Lib.run_next_ascii_at wr k T pos ty HIt.out hlt (by omega)
          have hit2 := Lib.hid (Lib.iterAt_heap wr k T pos (pos + 1) HIt.out)
          have hbw2 := Lib.hid (Lib.below_iterAt HBt.out (k := k) hk4 T (pos + 1))
          obtain ⟨c, hc⟩ : ∃ c, T[pos] = c := ⟨_, rfl⟩
          rw [hc] at hnx hstep hd2
          obtain ⟨W1, hW1⟩ : ∃ W1, wr.iterAt k T (pos + 1) = W1 := ⟨_, rfl⟩
          rw [hW1] at hnx hit2 hbw2
          obtain ⟨C, hC⟩ : ∃ C, foldCap (T.data.toList.take pos) = C := ⟨_, rfl⟩
          rw [hC] at hCle hstep ⊢
          have Hstep := Lib.hid hstep
          obtain ⟨hd3, hd4⟩ := hd2
          clear hc hW1 hC hstep hd
          go_wp2
          all_goals
            go_roundw
            case rel =>
              refine ⟨pos + 1, by omega, ?_, hit2, hbw2⟩
              rw [Hstep.out]
              congr 1
              omega
            case measure => (rw [iterPos_of hit2.out, hpos0.out]; omega)
        · obtain rfl : pos = T.size := by omega
          have hnx : ∀ ty, (Instr.next (.pointer (some ⟨k, 0, none⟩)) true ty).run Tryz.prog wr = _ := fun ty => Lib.run_next_end_at wr k T T.size ty HIt.out (by omega)
          have hall : T.data.toList.take T.size = T.data.toList := List.take_of_length_le (by rw [← size_len]; exact Nat.le_refl _)
          rw [hall] at hCle ⊢
          obtain ⟨C, hC⟩ : ∃ C, foldCap T.data.toList = C := ⟨_, rfl⟩
          have hev := Hev.out C hC
          rw [hC] at hCle ⊢
          have Hev2 := Lib.hid hev
          clear hC hall hev
          have hA1 : -1000 ≤ A ∧ A ≤ 1000 := by rw [Hat.out V rfl]; unfold clampAt; omega
          have hpf := Hz1.out (by trivial)
          have hit := Lib.itoa_length_le A (by omega) (by omega)
          have hys : (bytesOf (Lib.itoa A)).size = (Lib.itoa A).length := bytesOf_size _
          obtain ⟨Y, hY⟩ : ∃ Y, bytesOf (Lib.itoa A) = Y := ⟨_, rfl⟩
          rw [hY] at hpf hys
          have hyz : Y.size ≤ 21 := by omega
          have hfmt2 : ∀ wx, Tabs wx → Calls Tryz.prog 33 #[.int .i64 A] wx fun e w' => e = .returned (.string Y) ∧ Below wx.heap.size wx w' := fun wx h => by rw [← hY]; exact fmt_itoa A (by omega) (by omega) wx h
          have Hfmt := Lib.hid hfmt2
          have Hpf := Lib.hid hpf
          have hn1 : ¬ (2 + D.size > 9223372036854775807) := by omega
          have hn2 : ¬ (2 + D.size + 1 > 9223372036854775807) := by omega
          have hn3 : ¬ (2 + D.size + 1 + Y.size > 9223372036854775807) := by omega
          clear hfmt2 hpf hit hys hY hA1
          cases mi
          · have hVn : V = (C : Int) := by have := Hev2.out; simpa using this
            have hax : min (max ((D.size : Int) - (Pb.size : Int) + (C : Int)) (-1000)) 1000 = A := by rw [← hVn, Hat.out V rfl]; rfl
            clear hVn
            go_wp2_with (first
              | (go_at_call 32; refine (Hmin.out _).mono ?_; rintro e w5 ⟨rfl, rfl⟩)
              | (go_at_call 33; refine (Hfmt.out _ (HT.out.at_ HBt.out)).mono ?_; rintro e w6 ⟨rfl, hb6⟩; have HB6 := Lib.hid (HBt.out.trans (hb6.mono HBt.out.size)); clear hb6)
              | (go_at_call 13; refine (Hpf.out _ (HT.out.below HB6.out)).mono ?_; rintro e w7 ⟨⟨er, rfl⟩, hb7⟩))
            go_ret
            exact ⟨rfl, HB6.out.trans (hb7.mono HB6.out.size)⟩
          · have hVn : V = -(C : Int) := by have := Hev2.out; simpa using this
            have hax : min (max ((D.size : Int) - (Pb.size : Int) + -(C : Int)) (-1000)) 1000 = A := by rw [← hVn, Hat.out V rfl]; rfl
            clear hVn
            go_wp2_with (first
              | (go_at_call 32; refine (Hmin.out _).mono ?_; rintro e w5 ⟨rfl, rfl⟩)
              | (go_at_call 33; refine (Hfmt.out _ (HT.out.at_ HBt.out)).mono ?_; rintro e w6 ⟨rfl, hb6⟩; have HB6 := Lib.hid (HBt.out.trans (hb6.mono HBt.out.size)); clear hb6)
              | (go_at_call 13; refine (Hpf.out _ (HT.out.below HB6.out)).mono ?_; rintro e w7 ⟨⟨er, rfl⟩, hb7⟩))
            go_ret
            exact ⟨rfl, HB6.out.trans (hb7.mono HB6.out.size)⟩
    · go_wp2_with (first
        | (go_at_call 30; refine (Hcut.out _).mono ?_; rintro e w2 ⟨⟨b, rfl⟩, hb2⟩; have HB2 := Lib.hid (HB.out.trans (hb2.mono HB.out.size)); clear hb2)
        | (go_at_call 31; (with_reducible refine (Htr0.out _).mono ?_); rintro e w3 ⟨rfl, hw⟩; subst hw))
      go_ret
      exact ⟨ret_f64 (Hz0.out (by trivial)).symm, HB2.out⟩
end Go.Proofs.YtmfnkilohicapaaGreatDoor
