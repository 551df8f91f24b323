/- Both packages' 'SpanText'. -/
import Derived.Test.YtmfnkilohicapaaGreatDoorK
import Derived.Lib.ItoaLen
import Derived.Lib.AppendIntMem
import Derived.Deep.RegionHeld3
namespace Go.Proofs.YtmfnkilohicapaaGreatDoor
open Go.RowKit

/-- Each block of units stays. -/
def Keeps55 (w w' : World) : Prop := ∀ (k : Nat) (cs : Array Value) (fr : Nat × Nat), w.heap[k]? = some (.cells cs 55 fr) → w'.heap[k]? = some (.cells cs 55 fr)
theorem Keeps55.refl (w : World) : Keeps55 w w := fun _ _ _ h => h
theorem Keeps55.trans {a b c : World} (h : Keeps55 a b) (h2 : Keeps55 b c) : Keeps55 a c := fun k cs fr e => h2 k cs fr (h k cs fr e)
theorem Keeps55.grown {w w' : World} {B : Nat} {v : Value} {n : Nat} {xs : List Value} (hown : w.ownsRow B 5 1 v n xs) (hg : w.grownBy w' v.ownBlock) : Keeps55 w w' := fun k cs fr e => by
  have hlt : k < w.heap.size := (Array.getElem?_eq_some_iff.1 e).1
  rw [hg.block k hlt ?_, e]
  intro h
  rcases hown.2 with ⟨h1, _⟩ | ⟨g, cap, cur, hv, hB, hgc, rest⟩
  · rw [h1] at h; cases h
  · rw [hv] at h
    simp only [Value.ownBlock] at h
    injection h with h
    subst h
    rw [e] at hgc
    injection hgc with hgc
    injection hgc with _ h2 _
    cases h2
theorem Keeps55.setCell {w : World} {b i : Nat} {v x y : Value} (hb : w.heap[b]? = some (.cells #[x, y] 51 (0, 0))) : Keeps55 w (w.setCell ⟨b, i, none⟩ v) := fun k cs fr e => by
  have hne : k ≠ b := fun h => by
    subst h
    rw [e] at hb
    injection hb with hb
    injection hb with _ h2 _
    cases h2
  rw [Below.heap_setCell _ _ _ _ hne, e]
theorem copyCheck2 (B b : Nat) (bs : List Value) (w : World) (h : Lib.IsBuilder 51 5 B b bs w) :
    Calls Tryz.prog 41 #[.pointer (some ⟨b, 0, none⟩)] w fun e w' => e = .returned (.tuple #[]) ∧ (Lib.BuilderAt 51 5 B b (.pointer (some ⟨b, 0, none⟩)) bs w' ∧ Below B w w' ∧ Keeps55 w w') := by
  rcases h with h | h
  · refine (copyCheck_fresh b w h.cell0 h.shape h.frozen0).mono ?_
    rintro e w' ⟨rfl, rfl⟩
    obtain ⟨hB, v, hbk, hown, hne⟩ := h
    exact ⟨rfl, Lib.BuilderAt.used ⟨hB, v, hbk, hown, hne⟩ _, (Below.refl B w).setCell (p := ⟨b, 0, none⟩) hB _, Keeps55.setCell hbk⟩
  · refine (copyCheck_used b w h.cell0).mono ?_
    rintro e w' ⟨rfl, rfl⟩
    exact ⟨rfl, h, Below.refl B _, Keeps55.refl _⟩
set_option maxHeartbeats 2000000 in
set_option maxRecDepth 100000 in
theorem bd_WriteString2 (B b : Nat) (bs : List Value) (s : ByteArray) (w : World) (h : Lib.IsBuilder 51 5 B b bs w) (hlen : bs.length + s.size ≤ 140737488355328) (hBw : B ≤ w.heap.size) :
    Calls Tryz.prog 22 #[.pointer (some ⟨b, 0, none⟩), .string s] w fun e w' => e = .returned (.tuple #[.int .i64 s.size, .nilIface]) ∧ (Lib.BuilderAt 51 5 B b (.pointer (some ⟨b, 0, none⟩)) (bs ++ Lib.strCells s) w' ∧ Below B w w' ∧ Keeps55 w w') := by
  obtain ⟨i0, hi, hz0, hz1, hz2⟩ := info_parts infoByte
  go_enter Tryz.func22, Tryz.ntmps22
  go_wp2_with (go_at_call 41; refine (copyCheck2 B b bs _ h).mono ?_)
  rintro e w1 ⟨rfl, h1, hb1, hk1⟩
  obtain ⟨hB, v, hbk, hown, hne⟩ := h1
  have c0 : w1.cell? ⟨b, 0, none⟩ = some (.pointer (some ⟨b, 0, none⟩)) := by rw [Lib.cell_of_heap hbk]; rfl
  have c1 : w1.cell? ⟨b, 1, none⟩ = some v := by rw [Lib.cell_of_heap hbk]; rfl
  go_wp2_with (at_builtin; refine Lib.wpList_append_own_string _ rfl _ _ 49 9 rfl B 5 i0 Tryz.underlying49 Tryz.underlying9 hi hz0 hz1 hz2 _ _ _ rfl hown s rfl ?c3 ?c4 ?c5 ?_)
  case c3 => unfold maxLen; omega
  case c4 => omega
  case c5 => have := hb1.size; omega
  intro v' w2 hown' hgrow _
  have hlt : b < w1.heap.size := by
    rcases Nat.lt_or_ge b w1.heap.size with h' | h'
    · exact h'
    · simp [Array.getElem?_eq_none h'] at hbk
  have hb2 : w2.heap[b]? = some (.cells #[.pointer (some ⟨b, 0, none⟩), v] 51 (0, 0)) := by
    rw [hgrow.block b hlt (fun e => hne e.symm)]
    exact hbk
  have d0 : w2.cell? ⟨b, 0, none⟩ = some (.pointer (some ⟨b, 0, none⟩)) := by rw [Lib.cell_of_heap hb2]; rfl
  have d1 : w2.cell? ⟨b, 1, none⟩ = some v := by rw [Lib.cell_of_heap hb2]; rfl
  have f1 : w2.frozen? ⟨b, 1, none⟩ = false := Lib.frozen_of_heap hb2 1
  obtain ⟨ao, n', cap, rfl⟩ : ∃ ao n' cap, v' = .slice ao n' cap := by
    rcases hown'.2 with ⟨hv, _⟩ | ⟨g, cap, cur, hv, _⟩
    · exact ⟨_, _, _, hv⟩
    · exact ⟨_, _, _, hv⟩
  go_wp2
  go_ret2
  refine ⟨rfl, ?_, ?_, (hk1.trans (Keeps55.grown hown hgrow)).trans (Keeps55.setCell hb2)⟩
  · exact Lib.BuilderAt.put (T := 51) (e := 5) hB hb2 (bs' := bs ++ Lib.strCells s) (by simpa [Lib.strCells_length] using hown') (by decide)
  · exact (hb1.grown hgrow (by have := hb1.size; omega) (fun k hk => (hown.lt k hk).1)).setCell (p := ⟨b, 1, none⟩) hB _

/-- A number of milliseconds, part by part: from unit i on. -/
def partsF : Nat → Nat → Nat → List UInt8
  | 0, _, _ => []
  | f + 1, i, n => if 0 < n / ums i then (Lib.itoa ((n / ums i : Nat) : Int) ++ uname i) ++ partsF f (i + 1) (n - n / ums i * ums i) else partsF f (i + 1) n
/-- What 'SpanText' answers. -/
def textOut (n : Int) : Value :=
  if n < 0 ∨ 1099511627776 < n then .tuple #[.string ⟨#[]⟩, .int .i64 1] else if n = 0 then .tuple #[.string ⟨#[48, 115]⟩, .int .i64 0]
  else .tuple #[.string ⟨(partsF 7 0 n.toNat).toArray⟩, .int .i64 0]
theorem fmt_int (n : Int) (h0 : -9223372036854775808 ≤ n) (h1 : n ≤ 9223372036854775807) (w : World) (hT : Tabs w) :
    Calls Tryz.prog 23 #[.int .i64 n, .int .i64 10] w fun e w' => e = .returned (.string ⟨(Lib.itoa n).toArray⟩) ∧ Below w.heap.size w w' := by
  refine (Tryz.strconv_FormatInt_10 n h0 h1 w hT.pow10).mono ?_
  rintro e w' ⟨rfl, k, os, rfl⟩
  exact ⟨rfl, Lib.below_grow _ w (Nat.le_refl _) k os⟩
theorem below_drew_ {B : Nat} {a w : World} (h : Below B a w) : Below B a w.drew := ⟨h.os, h.tape, h.output, h.size, h.block⟩
theorem below_of_drew {w w' : World} (h : Below w.drew.heap.size w.drew w') : Below w.heap.size w w' := ⟨h.os, h.tape, h.output, h.size, h.block⟩
theorem cell_unit_ms {w : World} {b : Nat} {t : TypeId} (h : w.heap[b]? = some (.cells unitCells t (0, 0))) {i : Nat} (hi : i ≤ 6) : w.cell? ⟨b, i * 2 + 1, none⟩ = some (.int .i64 (ums i : Nat)) := by
  rw [Lib.cell_of_heap h]
  rcases (by omega : i = 0 ∨ i = 1 ∨ i = 2 ∨ i = 3 ∨ i = 4 ∨ i = 5 ∨ i = 6) with rfl | rfl | rfl | rfl | rfl | rfl | rfl <;> rfl
theorem cell_unit_name {w : World} {b : Nat} {t : TypeId} (h : w.heap[b]? = some (.cells unitCells t (0, 0))) {i : Nat} (hi : i ≤ 6) : w.cell? ⟨b, i * 2, none⟩ = some (.string ⟨(uname i).toArray⟩) := by
  rw [Lib.cell_of_heap h]
  rcases (by omega : i = 0 ∨ i = 1 ∨ i = 2 ∨ i = 3 ∨ i = 4 ∨ i = 5 ∨ i = 6) with rfl | rfl | rfl | rfl | rfl | rfl | rfl <;> rfl
set_option maxHeartbeats 8000000 in
set_option maxRecDepth 100000 in
theorem lex_SpanText (n : Int) (h0 : -9223372036854775808 ≤ n) (h1 : n ≤ 9223372036854775807) (w : World) (hT : Laid w) :
    Calls Tryz.prog 8 #[.int .i64 n] w fun e w' => e = .returned (textOut n) ∧ Below w.heap.size w w' := by
  have HT := Lib.hid hT
  clear hT
  unfold textOut
  by_cases hout : n < 0 ∨ 1099511627776 < n
  · rw [if_pos hout]
    have HO := Lib.hid hout
    have hor : n < 0 → True := fun _ => trivial
    by_cases hneg : n < 0
    · go_enter Tryz.func8, Tryz.ntmps8
      go_wp2
      go_ret2
      exact ⟨rfl, Below.refl _ _⟩
    · have hbig : n > 1099511627776 := by omega
      go_enter Tryz.func8, Tryz.ntmps8
      go_wp2
      go_ret2
      exact ⟨rfl, Below.refl _ _⟩
  · rw [if_neg hout]
    have hn0 : ¬ n < 0 := by omega
    have hn1 : ¬ n > 1099511627776 := by omega
    clear hout
    by_cases hz : n = 0
    · subst hz
      rw [if_pos rfl]
      go_enter Tryz.func8, Tryz.ntmps8
      go_wp2
      go_ret2
      exact ⟨rfl, Below.refl _ _⟩
    · rw [if_neg hz]
      obtain ⟨N, rfl⟩ := Int.eq_ofNat_of_zero_le (show 0 ≤ n by omega)
      rw [Int.toNat_natCast]
      have hzb : ((N : Int) == 0) = false := beq_eq_false_iff_ne.2 hz
      obtain ⟨F, hF⟩ : ∃ F, partsF 7 0 N = F := ⟨_, rfl⟩
      rw [hF]
      have HF := Lib.hid hF
      clear hF hz
      go_enter Tryz.func8, Tryz.ntmps8
      go_wp2_with (go_at_call 21; refine (lex_units _).mono ?_; rintro e w' ⟨rfl, rfl⟩)
      obtain ⟨wq, hwq⟩ : ∃ wq, (w.alloc (Obj.cells #[Value.pointer none, Value.slice none 0 0] 51)).alloc (unitsObj 55) = wq := ⟨_, rfl⟩
      have hU : wq.heap[w.heap.size + 1]? = some (.cells unitCells 55 (0, 0)) := by
        rw [← hwq]
        have := heap_alloc_new (w.alloc (Obj.cells #[Value.pointer none, Value.slice none 0 0] 51)) (unitsObj 55)
        rwa [World.size_alloc] at this
      have hB1 : Below w.heap.size w (w.alloc (Obj.cells #[Value.pointer none, Value.slice none 0 0] 51)) := (Below.refl _ _).alloc (Nat.le_refl _) _
      have hB : Below w.heap.size w wq := by rw [← hwq]; exact hB1.alloc hB1.size _
      have hI : Lib.IsBuilder 51 5 w.heap.size w.heap.size (Lib.byteCells []) wq := by
        rw [← hwq]
        exact isBuilder_below (Lib.fresh_isBuilder 51 5 w) ((Below.refl _ _).alloc (Nat.le_refl _) _)
      rw [hwq]
      have HU := Lib.hid hU
      have HB := Lib.hid hB
      have HI := Lib.hid hI
      clear hU hB hI hwq hB1
      go_loopw [0, 6, 7, 20] (fun v0 _ _ v20 wr => ∃ (i m : Nat) (l : List UInt8), i ≤ 7 ∧ m ≤ 1099511627776 ∧ l.length ≤ 23 * i ∧ v20 = .int .i64 i ∧ v0 = .int .i64 m ∧ Hid (l ++ partsF (7 - i) i m = F) ∧ Hid (wr.heap[w.heap.size + 1]? = some (.cells unitCells 55 (0, 0))) ∧ Hid (Lib.IsBuilder 51 5 w.heap.size w.heap.size (Lib.byteCells l) wr) ∧ Hid (Below w.heap.size w wr)) (fun _ _ _ v20 _ => 7 - (intOf v20).toNat)
      case atStart => exact ⟨0, N, [], by omega, by omega, by simp, rfl, rfl, HF, HU, HI, HB⟩
      case round =>
        clear HF HU HI HB
        obtain ⟨i, m, l, hi, hm, hl, rfl, rfl, HF, HU, HI, HB⟩ := hrel
        by_cases hi7 : i < 7
        · have hi7' : (i : Int) < 7 := by omega
          have hcs : wr.cell? ⟨w.heap.size + 1, i * 2, none⟩ = some (.string ⟨(uname i).toArray⟩) := cell_unit_name HU.out (by omega)
          have hcm : wr.cell? ⟨w.heap.size + 1, i * 2 + 1, none⟩ = some (.int .i64 (ums i : Nat)) := cell_unit_ms HU.out (by omega)
          have hms := ums_in i (by omega)
          have hunl := uname_len i (by omega)
          have hul := ulen_in i
          have hstep : partsF (7 - i) i m = if 0 < m / ums i then (Lib.itoa ((m / ums i : Nat) : Int) ++ uname i) ++ partsF (7 - (i + 1)) (i + 1) (m - m / ums i * ums i) else partsF (7 - (i + 1)) (i + 1) m := by
            rw [show 7 - i = (7 - (i + 1)) + 1 by omega]; rfl
          obtain ⟨X, hX⟩ : ∃ X : ByteArray, (⟨(uname i).toArray⟩ : ByteArray) = X := ⟨_, rfl⟩
          obtain ⟨u, hu⟩ : ∃ u, ums i = u := ⟨_, rfl⟩
          rw [hX] at hcs hunl
          rw [hu] at hcm hms hstep
          have hxs : X.size ≤ 2 := by omega
          obtain ⟨D, hD⟩ : ∃ D, m / u = D := ⟨_, rfl⟩
          have hDi : (m : Int) / (u : Int) = (D : Int) := by rw [← hD]; rfl
          have hDm : D * u ≤ m := by rw [← hD]; exact Nat.div_mul_le_self _ _
          have hD1 : D * 1 ≤ D * u := Nat.mul_le_mul_left _ (by omega)
          have hD2 : D ≤ 1099511627776 := by omega
          rw [hD] at hstep
          have Hstep := Lib.hid hstep
          have HX := Lib.hid hX
          clear hstep hX hu hD hunl hul hD1
          by_cases hDz : 0 < D
          · have hDz' : (D : Int) > 0 := by omega
            go_upto_region 11 with fail
            obtain ⟨wa, hwa⟩ : ∃ wa, wr.alloc (Obj.cells #[Value.string X, Value.int IntKind.i64 (u : Int)] 55) = wa := ⟨_, rfl⟩
            have hE : wa.heap[wr.heap.size]? = some (.cells #[Value.string X, Value.int IntKind.i64 (u : Int)] 55 (0, 0)) := by rw [← hwa]; exact heap_alloc_new wr _
            have hba : Below wr.heap.size wr wa := by rw [← hwa]; exact (Below.refl _ _).alloc (Nat.le_refl _) _
            have hla : wr.heap.size < wa.heap.size := by rw [← hwa, World.size_alloc]; omega
            have hxa : wa.cell? ⟨wr.heap.size, 0, none⟩ = some (.string X) := by rw [Lib.cell_of_heap hE]; rfl
            have hlu : w.heap.size + 1 < wr.heap.size := (Array.getElem?_eq_some_iff.1 HU.out).1
            have HUa : Hid (wa.heap[w.heap.size + 1]? = some (.cells unitCells 55 (0, 0))) := Lib.hid ((hba.block _ hlu).trans HU.out)
            have HIa := Lib.hid (isBuilder_below HI.out hba)
            have HBa := Lib.hid (HB.out.trans (hba.mono HB.out.size))
            have HTd := Lib.hid (HT.out.at_ (below_drew_ HBa.out))
            have hit := Lib.itoa_length_le (D : Int) (by omega) (by omega)
            have hys : (⟨(Lib.itoa (D : Int)).toArray⟩ : ByteArray).size = (Lib.itoa (D : Int)).length := by simp [ByteArray.size]
            obtain ⟨Y, hY⟩ : ∃ Y : ByteArray, (⟨(Lib.itoa (D : Int)).toArray⟩ : ByteArray) = Y := ⟨_, rfl⟩
            rw [hY] at hys
            have hyz : Y.size ≤ 21 := by omega
            have hfmt := fun wx hTx => fmt_int (D : Int) (by omega) (by omega) wx hTx
            rw [hY] at hfmt
            have Hfmt := Lib.hid hfmt
            have HY := Lib.hid hY
            have hlen : (Lib.byteCells l).length + (Y ++ X).size ≤ 140737488355328 := by rw [Lib.byteCells_length, ByteArray.size_append]; omega
            have Hlen := Lib.hid hlen
            have hnb : ¬ (Y.size + X.size > 9223372036854775807) := by omega
            have hyx : Lib.strCells (Y ++ X) = Lib.byteCells (Lib.itoa (D : Int) ++ uname i) := by
              rw [← hY, ← HX.out]
              simp [Lib.strCells, Lib.byteCells]
            have HYX := Lib.hid hyx
            have HLn : Hid ((Lib.itoa (D : Int) ++ uname i).length ≤ 23) := Lib.hid (by rw [List.length_append]; have h5 := HX.out; have h6 : (uname i).length = X.size := (by rw [← h5]; rfl); omega)
            clear hit hys hY hfmt hlen hyx
            rw [hwa]
            have HE := Lib.hid hE
            clear hwa hE hba HU HI HB hcs hcm
            go_region_held3 (fun w' => w'.cell? ⟨wr.heap.size, 0, none⟩ = some (.string X)) (first | go_keep | (rw [Lib.cell_of_heap HE1.out]; rfl) | (rw [Lib.cell_of_heap HE3.out]; rfl))
              (first
                | (go_at_call 23; refine (Hfmt.out _ HTd.out).mono ?_; rintro e w1 ⟨rfl, hb1⟩; have HE1 : Hid (w1.heap[wr.heap.size]? = _) := Lib.hid ((hb1.block _ hla).trans HE.out); have HU1 : Hid (w1.heap[w.heap.size + 1]? = _) := Lib.hid ((hb1.block _ (Nat.lt_trans hlu hla)).trans HUa.out); have HI1 := Lib.hid (isBuilder_below HIa.out (below_of_drew hb1)); have HB1 := Lib.hid (HBa.out.trans ((below_of_drew hb1).mono HBa.out.size)); clear hb1)
                | (go_at_call 22; refine (bd_WriteString2 _ _ _ _ _ HI1.out Hlen.out HB1.out.size).mono ?_; rintro e w3 ⟨rfl, hA3, hb3, hk3⟩; have HE3 := Lib.hid (hk3 _ _ _ HE1.out); have HU3 := Lib.hid (hk3 _ _ _ HU1.out); have HI3 := Lib.hid (Or.inr hA3 : Lib.IsBuilder 51 5 w.heap.size w.heap.size _ _); have HB3 := Lib.hid (HB1.out.trans hb3); clear hA3 hb3 hk3))
            have hmu : w3.cell? ⟨wr.heap.size, 1, none⟩ = some (.int .i64 (u : Int)) := by rw [Lib.cell_of_heap HE3.out]; rfl
            obtain ⟨Z, hZ⟩ : ∃ Z, D * u = Z := ⟨_, rfl⟩
            have hDui : (D : Int) * (u : Int) = (Z : Int) := by rw [← hZ]; simp
            rw [hZ] at hDm
            have HZ := Lib.hid hZ
            clear hZ
            go_wp2
            go_roundw
            case rel =>
              refine ⟨i + 1, m - Z, l ++ (Lib.itoa (D : Int) ++ uname i), by omega, by omega, by rw [List.length_append]; have := HLn.out; omega, by go_num, by go_num, ?_, HU3, ?_, HB3⟩
              · have h2 := HF.out
                rw [Hstep.out, if_pos hDz, HZ.out, ← List.append_assoc] at h2
                exact Lib.hid h2
              · rw [Lib.byteCells_append, ← HYX.out]; exact HI3
            case measure => (simp [intOf] <;> omega)
          · obtain rfl : D = 0 := by omega
            go_wp2
            go_roundw
            case rel =>
              refine ⟨i + 1, m, l, by omega, hm, by omega, by go_num, rfl, ?_, ?_, ?_, ?_⟩
              · have h2 := HF.out
                rw [Hstep.out, if_neg (by omega)] at h2
                exact Lib.hid h2
              · exact Lib.hid ((((Below.refl _ _).alloc (Nat.le_refl _) _).block _ (Array.getElem?_eq_some_iff.1 HU.out).1).trans HU.out)
              · exact Lib.hid (isBuilder_below HI.out ((Below.refl _ _).alloc (Nat.le_refl _) _))
              · exact Lib.hid (HB.out.alloc HB.out.size _)
            case measure => (simp [intOf] <;> omega)
        · obtain rfl : i = 7 := by omega
          go_wp2_with (go_at_call 24; refine (Tryz.Builder_String_any _ _ _ _ HI.out HB.out.size).mono ?_; rintro e w2 ⟨rfl, hb2⟩)
          go_ret2
          refine ⟨?_, HB.out.trans hb2⟩
          have h2 := HF.out
          rw [show partsF (7 - 7) 7 m = [] from rfl, List.append_nil] at h2
          rw [← h2]; rfl
end Go.Proofs.YtmfnkilohicapaaGreatDoor
