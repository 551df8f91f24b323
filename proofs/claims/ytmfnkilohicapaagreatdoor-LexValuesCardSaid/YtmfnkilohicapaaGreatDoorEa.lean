/- A quoted text without escapes: what it says. -/
import Derived.Test.YtmfnkilohicapaaGreatDoorR
namespace Go.Proofs.YtmfnkilohicapaaGreatDoor
open Go.RowKit

theorem dgo_ascii (t : ByteArray) (h : 0 < t.size) (ha : t[0].toNat < 128) : Lib.decodeGo t = (t[0].toNat, 1) := by
  unfold Lib.decodeGo
  rw [if_neg (by omega), decode_ascii t 0 h ha]
theorem enc_ascii (c : UInt8) (h : c.toNat < 128) : Lib.encodeRune ((c.toNat : Nat) : Int) = [c] := by
  have key := List.all_eq_true.1 (show (List.range 128).all (fun n => Lib.encodeRune (n : Int) == [UInt8.ofNat n]) = true by kernel_rfl) c.toNat (List.mem_range.2 h)
  have := beq_iff_eq.1 key
  rw [this]
  simp
theorem byte_num {c : UInt8} {n : Nat} (hn : n < 256) (h : (c.toNat : Int) = (n : Int)) : c = n.toUInt8 := by
  apply UInt8.toNat_inj.1
  have e : n.toUInt8.toNat = n := by
    show n % 256 = n
    omega
  rw [e]; omega
theorem ret_qt {t : ByteArray} {a b : Int} (h : a = b) : Ending.returned (.tuple #[.string t, .int .i64 a]) = .returned (.tuple #[.string t, .int .i64 b]) := by rw [h]
/-- '"', plain bytes, '"'. -/
structure QText (s : ByteArray) (l : List UInt8) : Prop where
  q0 : s.data.toList[0]? = some 34
  dat : ∀ (k : Nat) c, l[k]? = some c → s.data.toList[1 + k]? = some c
  plain : ∀ c ∈ l, c.toNat < 128 ∧ c ≠ 34 ∧ c ≠ 92 ∧ c ≠ 10
  q1 : s.data.toList[1 + l.length]? = some 34
theorem at_list {x : ByteArray} {k : Nat} {c : UInt8} (h : x.data.toList[k]? = some c) : ∃ hk : k < x.size, x[k] = c := by
  obtain ⟨hk, e⟩ := List.getElem?_eq_some_iff.1 h
  have hk' : k < x.size := by rw [size_len]; exact hk
  refine ⟨hk', ?_⟩
  have h2 := get_list x k hk'
  rw [h] at h2
  exact (Option.some.inj h2).symm
theorem extract_first (s : ByteArray) (p : Nat) (h : p < s.size) (h0 : 0 < (s.extract p s.size).size) : (s.extract p s.size)[0] = s[p] := by
  rw [ByteArray.getElem_extract]
  congr 1
set_option maxHeartbeats 8000000 in
set_option maxRecDepth 100000 in
theorem lex_quoted_plain (s : ByteArray) (hs : s.size ≤ 140737488351232) (t : List UInt8) (hq : QText s t) (w : World) (hT : Laid w) :
    Calls Tryz.prog 47 #[.string s] w fun e w' => e = .returned (.tuple #[.string ⟨t.toArray⟩, .int .i64 (t.length + 2 : Nat)]) ∧ Below w.heap.size w w' := by
  obtain ⟨h1n, hq0⟩ := at_list hq.q0
  obtain ⟨hl1, _⟩ := at_list hq.q1
  have h1' : (0 : Int) < (s.size : Int) := by omega
  obtain ⟨q, hqq⟩ : ∃ q, s[0] = q := ⟨_, rfl⟩
  rw [hqq] at hq0
  have hq34 : (q.toNat : Int) = 34 := by rw [hq0]; rfl
  have HQ := Lib.hid hq
  have HT := Lib.hid hT
  have HQ34 := Lib.hid hq34
  have hq256 : (q.toNat : Int) ≤ 255 := by omega
  clear hT hq hq0 hq34
  go_enter Tryz.func47, Tryz.ntmps47
  go_wp2
  have hI := Lib.fresh_isBuilder 51 5 w
  have hB : Below w.heap.size w (w.alloc (.cells #[.pointer none, .slice none 0 0] 51)) := (Below.refl _ _).alloc (Nat.le_refl _) _
  have HI := Lib.hid hI
  have HB := Lib.hid hB
  clear hI hB
  go_loopw [6] (fun v6 wr => ∃ k : Nat, k ≤ t.length ∧ v6 = .int .i64 (1 + k : Nat) ∧ Hid (Lib.IsBuilder 51 5 w.heap.size w.heap.size (Lib.byteCells (t.take k)) wr) ∧ Hid (Below w.heap.size w wr)) (fun v6 _ => s.size - (intOf v6).toNat)
  case atStart => exact ⟨0, by omega, rfl, HI, HB⟩
  case round =>
    clear HI HB
    obtain ⟨k, hk, rfl, HI, HB⟩ := hrel
    have hlt : 1 + k < s.size := by omega
    have hlt' : (1 : Int) + (k : Int) < (s.size : Int) := by omega
    have hne : 0 < (s.extract (1 + k) s.size).size := by rw [ByteArray.size_extract]; omega
    have hx0 := extract_first s (1 + k) hlt hne
    have HTu := Lib.hid (HT.out.at_ HB.out).utf8
    by_cases hkl : k < t.length
    · obtain ⟨c, hc⟩ : ∃ c, t[k]? = some c := ⟨_, List.getElem?_eq_getElem hkl⟩
      obtain ⟨_, hcs⟩ := at_list (HQ.out.dat k c hc)
      obtain ⟨c1, c2, c3, c4⟩ := HQ.out.plain c (List.mem_of_getElem? hc)
      have hdg := dgo_ascii (s.extract (1 + k) s.size) hne (by rw [hx0, hcs]; exact c1)
      rw [hx0, hcs] at hdg
      have hdec := fun wx hTx => Tryz.utf8_DecodeRuneInString (s.extract (1 + k) s.size) wx hTx
      rw [hdg] at hdec
      have Hdec := Lib.hid hdec
      have hn : ∀ n : Nat, n < 256 → c ≠ n.toUInt8 → ((c.toNat : Int) == (n : Int)) = false := fun n hn hne => beq_eq_false_iff_ne.2 (fun h => hne (byte_num hn h))
      have e1 : ((c.toNat : Int) == (q.toNat : Int)) = false := by rw [HQ34.out]; exact hn 34 (by decide) c2
      have e2 : ((c.toNat : Int) == 10) = false := hn 10 (by decide) c4
      have e3 : ((c.toNat : Int) == 92) = false := hn 92 (by decide) c3
      have e4 : ((c.toNat : Int) == 65533) = false := beq_eq_false_iff_ne.2 (by omega)
      have hc31 : (c.toNat : Int) ≤ 2147483647 := by omega
      have hstep : t.take (k + 1) = t.take k ++ [c] := by
        obtain ⟨hk2, e⟩ := List.getElem?_eq_some_iff.1 hc
        rw [List.take_succ_eq_append_getElem hk2, e]
      have henc : Lib.runeCells ((c.toNat : Nat) : Int) = Lib.byteCells [c] := by rw [← Lib.byteCells_encodeRune, enc_ascii c c1]
      have hl4 : (Lib.byteCells (t.take k)).length + 4 ≤ 140737488355328 := by rw [Lib.byteCells_length, List.length_take]; omega
      have Hl4 := Lib.hid hl4
      have Hstep := Lib.hid hstep
      have Henc := Lib.hid henc
      clear hl4 hstep henc hn hdec hdg hcs hc hx0 hne
      go_wp2_with (first
        | (go_at_call 75; (with_reducible refine (Hdec.out _ HTu.out).mono ?_); rintro e w1 ⟨rfl, hb1⟩; have HI1 := Lib.hid (isBuilder_below HI.out hb1); have HB1 := Lib.hid (HB.out.trans (hb1.mono HB.out.size)); clear hb1)
        | (go_at_call 78; refine (bd_WriteRune _ _ _ _ (by omega) (by omega) _ HI1.out Hl4.out HB1.out.size).mono ?_; rintro e w2 ⟨⟨nr, rfl⟩, hA2, hb2⟩; have HI2 := Lib.hid (Or.inr hA2 : Lib.IsBuilder 51 5 w.heap.size w.heap.size _ _); have HB2 := Lib.hid (HB1.out.trans hb2); clear hA2 hb2))
      go_roundw
      case rel =>
        refine ⟨k + 1, by omega, by go_num, ?_, HB2⟩
        rw [Hstep.out, Lib.byteCells_append, ← Henc.out]
        exact HI2
      case measure => (simp [intOf] <;> omega)
    · obtain rfl : k = t.length := by omega
      obtain ⟨_, hcs⟩ := at_list HQ.out.q1
      have hdg := dgo_ascii (s.extract (1 + t.length) s.size) hne (by rw [hx0, hcs]; decide)
      rw [hx0, hcs] at hdg
      have hdec := fun wx hTx => Tryz.utf8_DecodeRuneInString (s.extract (1 + t.length) s.size) wx hTx
      rw [hdg] at hdec
      have Hdec := Lib.hid hdec
      have e1 : ((34 : Int) == (q.toNat : Int)) = true := by rw [HQ34.out]; rfl
      rw [List.take_length] at HI
      clear hdec hdg hcs hx0 hne
      go_wp2_with (first
        | (go_at_call 75; refine (Hdec.out _ HTu.out).mono ?_; rintro e w1 ⟨rfl, hb1⟩; have HI1 := Lib.hid (isBuilder_below HI.out hb1); have HB1 := Lib.hid (HB.out.trans (hb1.mono HB.out.size)); clear hb1)
        | (go_at_call 24; refine (Tryz.Builder_String_any _ _ _ _ HI1.out HB1.out.size).mono ?_; rintro e w2 ⟨rfl, hb2⟩))
      go_ret2
      exact ⟨ret_qt (by omega), HB1.out.trans hb2⟩
end Go.Proofs.YtmfnkilohicapaaGreatDoor
