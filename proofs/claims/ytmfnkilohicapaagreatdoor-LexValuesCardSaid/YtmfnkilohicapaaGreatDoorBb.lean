/- The reference's 'SpanText'. -/
import Derived.Test.YtmfnkilohicapaaGreatDoorBa
namespace Go.Proofs.YtmfnkilohicapaaGreatDoor
open Go.RowKit

set_option maxHeartbeats 8000000 in
set_option maxRecDepth 100000 in
theorem ref_SpanText (n : Int) (h0 : -9223372036854775808 ≤ n) (h1 : n ≤ 9223372036854775807) (w : World) (hT : Laid w) :
    Calls Tryz.prog 9 #[.int .i64 n] w fun e w' => e = .returned (textOut n) ∧ Below w.heap.size w w' := by
  have HT := Lib.hid hT
  clear hT
  unfold textOut
  by_cases hout : n < 0 ∨ 1099511627776 < n
  · rw [if_pos hout]
    by_cases hneg : n < 0
    · clear hout
      go_enter Tryz.func9, Tryz.ntmps9
      go_wp2
      go_ret2
      exact ⟨rfl, Below.refl _ _⟩
    · have hbig : n > 1099511627776 := by omega
      clear hout
      go_enter Tryz.func9, Tryz.ntmps9
      go_wp2
      go_ret2
      exact ⟨rfl, Below.refl _ _⟩
  · rw [if_neg hout]
    have hn0 : ¬ n < 0 := by omega
    have hn1 : ¬ n > 1099511627776 := by omega
    clear hout
    by_cases hz : n = 0
    · subst hz
      rw [if_pos rfl]
      go_enter Tryz.func9, Tryz.ntmps9
      go_wp2
      go_ret2
      exact ⟨rfl, Below.refl _ _⟩
    · rw [if_neg hz]
      obtain ⟨N, rfl⟩ := Int.eq_ofNat_of_zero_le (show 0 ≤ n by omega)
      rw [Int.toNat_natCast]
      have hzb : ((N : Int) == 0) = false := beq_eq_false_iff_ne.2 hz
      obtain ⟨F, hF⟩ : ∃ F, partsF 7 0 N = F := ⟨_, rfl⟩
      rw [hF]
      have HF := Lib.hid hF
      clear hF hz
      go_enter Tryz.func9, Tryz.ntmps9
      go_wp2_with (go_at_call 20; refine (ref_units _).mono ?_; rintro e w' ⟨rfl, rfl⟩)
      obtain ⟨wq, hwq⟩ : ∃ wq, w.alloc (unitsObj 45) = wq := ⟨_, rfl⟩
      have hU : wq.heap[w.heap.size]? = some (.cells unitCells 45 (0, 0)) := by
        rw [← hwq]
        exact heap_alloc_new w (unitsObj 45)
      have hB : Below w.heap.size w wq := by rw [← hwq]; exact (Below.refl _ _).alloc (Nat.le_refl _) _
      rw [hwq]
      have HU := Lib.hid hU
      have HB := Lib.hid hB
      have hs0 : (⟨#[]⟩ : ByteArray).data.toList = [] := rfl
      clear hU hB hwq
      go_loopw [0, 4, 6] (fun v0 v4 v6 wr => ∃ (i m : Nat) (S : ByteArray), i ≤ 7 ∧ m ≤ 1099511627776 ∧ S.size ≤ 23 * i ∧ v6 = .int .i64 i ∧ v0 = .int .i64 m ∧ v4 = .string S ∧ Hid (S.data.toList ++ partsF (7 - i) i m = F) ∧ Hid (wr.heap[w.heap.size]? = some (.cells unitCells 45 (0, 0))) ∧ Hid (Below w.heap.size w wr)) (fun _ _ v6 _ => 7 - (intOf v6).toNat)
      case atStart => exact ⟨0, N, ⟨#[]⟩, by omega, by omega, by decide, rfl, rfl, rfl, HF, HU, HB⟩
      case round =>
        clear HF HU HB hs0
        obtain ⟨i, m, S, hi, hm, hl, rfl, rfl, rfl, HF, HU, HB⟩ := hrel
        by_cases hi7 : i < 7
        · have hi7' : (i : Int) < 7 := by omega
          have hcs : wr.cell? ⟨w.heap.size, i * 2, none⟩ = some (.string ⟨(uname i).toArray⟩) := cell_unit_name HU.out (by omega)
          have hcm : wr.cell? ⟨w.heap.size, i * 2 + 1, none⟩ = some (.int .i64 (ums i : Nat)) := cell_unit_ms HU.out (by omega)
          have hms := ums_in i (by omega)
          have hunl := uname_len i (by omega)
          have hul := ulen_in i
          have hstep : partsF (7 - i) i m = if 0 < m / ums i then (Lib.itoa ((m / ums i : Nat) : Int) ++ uname i) ++ partsF (7 - (i + 1)) (i + 1) (m - m / ums i * ums i) else partsF (7 - (i + 1)) (i + 1) m := by
            rw [show 7 - i = (7 - (i + 1)) + 1 by omega]; rfl
          obtain ⟨X, hX⟩ : ∃ X : ByteArray, (⟨(uname i).toArray⟩ : ByteArray) = X := ⟨_, rfl⟩
          obtain ⟨u, hu⟩ : ∃ u, ums i = u := ⟨_, rfl⟩
          rw [hX] at hcs hunl
          rw [hu] at hcm hms hstep
          have hxs : X.size ≤ 2 := by omega
          obtain ⟨D, hD⟩ : ∃ D, m / u = D := ⟨_, rfl⟩
          have hDi : (m : Int) / (u : Int) = (D : Int) := by rw [← hD]; rfl
          have hDm : D * u ≤ m := by rw [← hD]; exact Nat.div_mul_le_self _ _
          have hD0 : m < u ↔ D = 0 := by rw [← hD, Nat.div_eq_zero_iff]; omega
          have hD1 : D * 1 ≤ D * u := Nat.mul_le_mul_left _ (by omega)
          have hD2 : D ≤ 1099511627776 := by omega
          have hmod : m % u = m - D * u := by rw [← hD, Nat.mod_eq_sub, Nat.mul_comm]
          obtain ⟨Z, hZ⟩ : ∃ Z, m - D * u = Z := ⟨_, rfl⟩
          have hMi : (m : Int) % (u : Int) = (Z : Int) := by rw [← hZ, ← hmod]; rfl
          have hZm : Z ≤ m := by omega
          rw [hD, hZ] at hstep
          have Hstep := Lib.hid hstep
          have HX := Lib.hid hX
          clear hstep hX hu hD hunl hul hD1 hmod hZ hDm
          by_cases hDz : m < u
          · have hDz' : ¬ (m : Int) ≥ (u : Int) := by omega
            go_wp2
            go_roundw
            case rel =>
              refine ⟨i + 1, m, S, by omega, hm, by omega, by go_num, rfl, rfl, ?_, HU, HB⟩
              have h2 := HF.out
              rw [Hstep.out, if_neg (by omega)] at h2
              exact Lib.hid h2
            case measure => (simp [intOf] <;> omega)
          · have hDz' : (m : Int) ≥ (u : Int) := by omega
            have hDp : 0 < D := by omega
            have hit := Lib.itoa_length_le (D : Int) (by omega) (by omega)
            have hys : (⟨(Lib.itoa (D : Int)).toArray⟩ : ByteArray).size = (Lib.itoa (D : Int)).length := by simp [ByteArray.size]
            obtain ⟨Y, hY⟩ : ∃ Y : ByteArray, (⟨(Lib.itoa (D : Int)).toArray⟩ : ByteArray) = Y := ⟨_, rfl⟩
            rw [hY] at hys
            have hyz : Y.size ≤ 21 := by omega
            have hfmt := fun wx hTx => fmt_int (D : Int) (by omega) (by omega) wx hTx
            rw [hY] at hfmt
            have Hfmt := Lib.hid hfmt
            have HY := Lib.hid hY
            have hnb : ¬ (S.size + Y.size > 9223372036854775807) := by omega
            have hnb2 : ¬ ((S ++ Y).size + X.size > 9223372036854775807) := by rw [ByteArray.size_append]; omega
            have hnb3 : ¬ (S.size + Y.size + X.size > 9223372036854775807) := by omega
            have HTd := Lib.hid (HT.out.at_ (below_drew_ HB.out))
            have hlu : w.heap.size < wr.heap.size := (Array.getElem?_eq_some_iff.1 HU.out).1
            have hu0 : (0 : Int) < (u : Int) := by omega
            have hu1 : ¬ (u : Int) = 0 := by omega
            have hu2 : ¬ u = 0 := by omega
            have htd : (m : Int).tdiv (u : Int) = (D : Int) := by rw [Int.tdiv_eq_ediv_of_nonneg (by omega)]; exact hDi
            have hwd : IntKind.i64.wrap (D : Int) = (D : Int) := IntWalk.i64_in _ ⟨by omega, by omega⟩
            clear hit hys hY hfmt hD0
            go_upto_region 11 with fail
            go_region_held3 (fun w' => w'.cell? ⟨w.heap.size, i * 2, none⟩ = some (.string X) ∧ w'.cell? ⟨w.heap.size, i * 2 + 1, none⟩ = some (.int .i64 (u : Int))) (first | go_keep | exact ⟨(HC1.out ⟨w.heap.size, i * 2, none⟩ hlu).trans hcs, (HC1.out ⟨w.heap.size, i * 2 + 1, none⟩ hlu).trans hcm⟩)
              (first
                | (go_at_call 23; refine (Hfmt.out _ HTd.out).mono ?_; rintro e w1 ⟨rfl, hb1⟩; have HU1 : Hid (w1.heap[w.heap.size]? = _) := Lib.hid ((hb1.block _ hlu).trans HU.out); have HB1 := Lib.hid (HB.out.trans ((below_of_drew hb1).mono HB.out.size)); have HC1 : Hid (∀ p : Addr, p.block < wr.heap.size → w1.cell? p = wr.cell? p) := Lib.hid (fun p hp => (below_of_drew hb1).cell hp); clear hb1))
            have hcm1 : w1.cell? ⟨w.heap.size, i * 2 + 1, none⟩ = some (.int .i64 (u : Int)) := (HC1.out ⟨w.heap.size, i * 2 + 1, none⟩ hlu).trans hcm
            clear htd hwd hu1 hu2 hcs hcm
            go_wp2
            go_roundw
            case rel =>
              refine ⟨i + 1, Z, S ++ Y ++ X, by omega, by omega, by rw [ByteArray.size_append, ByteArray.size_append]; omega, by go_num, by rw [hMi], rfl, ?_, HU1, HB1⟩
              have h2 := HF.out
              rw [Hstep.out, if_pos hDp, ← List.append_assoc, ← List.append_assoc] at h2
              rw [← HY.out, ← HX.out]
              exact Lib.hid (by simpa using h2)
            case measure => (simp [intOf] <;> omega)
        · obtain rfl : i = 7 := by omega
          go_wp2
          go_ret2
          refine ⟨?_, HB.out⟩
          have h2 := HF.out
          rw [show partsF (7 - 7) 7 m = [] from rfl, List.append_nil] at h2
          rw [← h2]; rfl
end Go.Proofs.YtmfnkilohicapaaGreatDoor
