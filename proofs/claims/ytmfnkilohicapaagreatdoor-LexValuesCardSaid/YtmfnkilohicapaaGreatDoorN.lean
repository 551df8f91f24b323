/- Package lex's 'quoted': it answers a text and a length, and what was there stays. -/
import Derived.Test.YtmfnkilohicapaaGreatDoorM
import Derived.Shelf.Unicode.DecodeLastEight
import Derived.Lib.RuneCount
import Derived.Lib.VarintMem
namespace Go.Proofs.YtmfnkilohicapaaGreatDoor
open Go.RowKit

theorem own_below {w w' : World} {B e size n : Nat} {v : Value} {xs : List Value} (h : w.ownsRow B e size v n xs) (hb : Below w.heap.size w w') : w'.ownsRow B e size v n xs := by
  obtain ⟨h1, h2⟩ := h
  refine ⟨h1, ?_⟩
  rcases h2 with h2 | ⟨g, cap, cur, hv, hBg, hg, rest⟩
  · exact Or.inl h2
  · have hlt : g < w.heap.size := (Array.getElem?_eq_some_iff.1 hg).1
    exact Or.inr ⟨g, cap, cur, hv, hBg, (hb.block g hlt).trans hg, rest⟩
theorem isBuilder_below {w w' : World} {T e : TypeId} {B b : Nat} {bs : List Value} (h : Lib.IsBuilder T e B b bs w) (hb : Below w.heap.size w w') : Lib.IsBuilder T e B b bs w' := by
  have one : ∀ p, Lib.BuilderAt T e B b p bs w → Lib.BuilderAt T e B b p bs w' := fun p h => by
    have hlt := h.lt
    obtain ⟨hB, v, hk, hown, hne⟩ := h
    exact ⟨hB, v, (hb.block b hlt).trans hk, own_below hown hb, hne⟩
  exact h.imp (one _) (one _)
/-- A rune that is read takes as many bytes as it is written in, but for the one mark of a fault. -/
theorem enc_width (n b0 b1 b2 b3 : Nat) : ((Lib.decodeN n b0 b1 b2 b3).1 = 65533 ∧ (Lib.decodeN n b0 b1 b2 b3).2 = 1) ∨ (Lib.encodeRuneZ ((Lib.decodeN n b0 b1 b2 b3).1 : Int)).length ≤ (Lib.decodeN n b0 b1 b2 b3).2 := by
  unfold Lib.decodeN
  repeat' split
  all_goals first
    | exact Or.inl ⟨rfl, rfl⟩
    | (right; unfold Lib.encodeRuneZ; repeat' split
       all_goals first | (simp; done) | (exfalso; omega))
theorem decodeGo_enc (s : ByteArray) (h : 0 < s.size) : ((Lib.decodeGo s).1 = 65533 ∧ (Lib.decodeGo s).2 = 1) ∨ (Lib.encodeRune ((Lib.decodeGo s).1 : Int)).length ≤ (Lib.decodeGo s).2 := by
  unfold Lib.decodeGo
  rw [if_neg (by omega), Lib.decode_at, Lib.encodeRune, List.length_map]
  exact enc_width _ _ _ _ _
theorem decodeGo_pos (s : ByteArray) (h : 0 < s.size) : 1 ≤ (Lib.decodeGo s).2 := by
  unfold Lib.decodeGo
  rw [if_neg (by omega)]
  exact Lib.decode_width_pos s 0 h
theorem decodeGo_le (s : ByteArray) : (Lib.decodeGo s).1 ≤ 2147483647 := by
  unfold Lib.decodeGo
  split
  · decide
  · exact decode_le s 0
def StrAnd (s : ByteArray) (e : Ending) : Prop := ∃ (t : ByteArray) (k : Int), 0 ≤ k ∧ k ≤ s.size ∧ e = .returned (.tuple #[.string t, .int .i64 k])
theorem StrAnd.mk {s t : ByteArray} {k : Int} (h2 : 0 ≤ k) (h3 : k ≤ s.size) : StrAnd s (.returned (.tuple #[.string t, .int .i64 k])) := ⟨t, k, h2, h3, rfl⟩
set_option maxHeartbeats 8000000 in
set_option maxRecDepth 100000 in
theorem lex_quoted (s : ByteArray) (h1 : 1 ≤ s.size) (hs : s.size ≤ 140737488351232) (w : World) (hT : Laid w) :
    Calls Tryz.prog 47 #[.string s] w fun e w' => StrAnd s e ∧ Below w.heap.size w w' := by
  have h1' : (0 : Int) < (s.size : Int) := by omega
  have h1n : 0 < s.size := by omega
  obtain ⟨q, hq⟩ : ∃ q, s[0] = q := ⟨_, rfl⟩
  have hq256 : (q.toNat : Int) ≤ 255 := by have := q.toNat_lt; omega
  have HT := Lib.hid hT
  clear hT
  go_enter Tryz.func47, Tryz.ntmps47
  go_wp2
  have hI := Lib.fresh_isBuilder 51 5 w
  have hB : Below w.heap.size w (w.alloc (.cells #[.pointer none, .slice none 0 0] 51)) := (Below.refl _ _).alloc (Nat.le_refl _) _
  have HI := Lib.hid hI
  have HB := Lib.hid hB
  clear hI hB
  go_loopw [6] (fun v6 wr => ∃ (p : Nat) (l : List UInt8), 1 ≤ p ∧ p ≤ s.size ∧ l.length ≤ p ∧ v6 = .int .i64 p ∧ Hid (Lib.IsBuilder 51 5 w.heap.size w.heap.size (Lib.byteCells l) wr) ∧ Hid (Below w.heap.size w wr)) (fun v6 _ => s.size - (intOf v6).toNat)
  case atStart => exact ⟨1, [], by omega, by omega, by simp, rfl, HI, HB⟩
  case round =>
    clear HI HB
    obtain ⟨p, l, hp1, hp, hlp, rfl, HI, HB⟩ := hrel
    by_cases hlt : p < s.size
    · have hlt' : (p : Int) < (s.size : Int) := by omega
      have hne : 0 < (s.extract p s.size).size := by rw [ByteArray.size_extract]; omega
      have hsz : (s.extract p s.size).size = s.size - p := by rw [ByteArray.size_extract]; omega
      have hd1 := decodeGo_pos _ hne
      have hd2 := Lib.decodeGo_le_size (s.extract p s.size)
      have hd3 := decodeGo_enc _ hne
      have hd4 := decodeGo_le (s.extract p s.size)
      obtain ⟨c, hc⟩ : ∃ c, (Lib.decodeGo (s.extract p s.size)).1 = c := ⟨_, rfl⟩
      obtain ⟨n, hn⟩ : ∃ n, (Lib.decodeGo (s.extract p s.size)).2 = n := ⟨_, rfl⟩
      have hdec := fun wx hTx => Tryz.utf8_DecodeRuneInString (s.extract p s.size) wx hTx
      rw [hc, hn] at hdec
      rw [hc] at hd3 hd4
      rw [hn, hsz] at hd2
      rw [hn] at hd1 hd3
      have Hd3 := Lib.hid hd3
      have Hdec := Lib.hid hdec
      have HTu := Lib.hid (HT.out.at_ HB.out).utf8
      have hpn : p + n ≤ s.size := by omega
      have hc31 : (c : Int) ≤ 2147483647 := by omega
      clear hd3 hdec hc hn hsz hne hd2
      cases e1 : ((c : Int) == (q.toNat : Int))
      · have hsum : ((p : Int) + 1).toNat = p + 1 := by omega
        by_cases hbad : c = 65533 ∧ n = 1
        · obtain ⟨hb1, hb2⟩ := hbad
          have b1 : ((c : Int) == 65533) = true := beq_iff_eq.2 (by omega)
          have b2 : ((n : Int) == 1) = true := beq_iff_eq.2 (by omega)
          clear hb1 hb2 hsum
          go_wp2_with (go_at_call 75; (with_reducible refine (Hdec.out _ HTu.out).mono ?_); rintro e w1 ⟨rfl, hb1⟩; have HI1 := Lib.hid (isBuilder_below HI.out hb1); have HB1 := Lib.hid (HB.out.trans (hb1.mono HB.out.size)); clear hb1)
          go_ret2
          exact ⟨StrAnd.mk (by omega) (by omega), HB1.out⟩
        · have hw : (Lib.encodeRune (c : Int)).length ≤ n := by
            rcases Hd3.out with h | h
            · exact absurd h hbad
            · exact h
          have hbb : ((c : Int) == 65533) = true → ((n : Int) == 1) = false := fun h => by
            have h1 := beq_iff_eq.1 h
            exact beq_eq_false_iff_ne.2 (fun h2 => hbad ⟨by omega, by omega⟩)
          cases e2 : ((c : Int) == 10)
          · cases e3 : ((c : Int) == 92)
            · -- a rune that is written
              have hl4 : (Lib.byteCells l).length + 4 ≤ 140737488355328 := by rw [Lib.byteCells_length]; omega
              have Hl4 := Lib.hid hl4
              have Hw := Lib.hid hw
              clear hl4 hw hbad hsum
              cases e4 : ((c : Int) == 65533)
              all_goals
                (try have e5 := hbb e4)
                clear hbb
                go_wp2_with (first
                  | (go_at_call 75; (with_reducible refine (Hdec.out _ HTu.out).mono ?_); rintro e w1 ⟨rfl, hb1⟩; have HI1 := Lib.hid (isBuilder_below HI.out hb1); have HB1 := Lib.hid (HB.out.trans (hb1.mono HB.out.size)); clear hb1)
                  | (go_at_call 78; refine (bd_WriteRune _ _ _ _ (by omega) (by omega) _ HI1.out Hl4.out HB1.out.size).mono ?_; rintro e w2 ⟨⟨nr, rfl⟩, hA2, hb2⟩; have HI2 := Lib.hid (Or.inr hA2 : Lib.IsBuilder 51 5 w.heap.size w.heap.size _ _); have HB2 := Lib.hid (HB1.out.trans hb2); clear hA2 hb2))
                go_roundw
                case rel =>
                  refine ⟨p + n, l ++ Lib.encodeRune (c : Int), by omega, hpn, by rw [List.length_append]; have := Hw.out; omega, by go_num, ?_, HB2⟩
                  rw [Lib.byteCells_append, Lib.byteCells_encodeRune]
                  exact HI2
                case measure => (simp [intOf] <;> omega)
            · -- an escape
              have hne2 : ((c : Int) == 65533) = false := beq_eq_false_iff_ne.2 (by have := beq_iff_eq.1 e3; omega)
              have hsz2 : (s.extract (p + 1) s.size).size = s.size - (p + 1) := by rw [ByteArray.size_extract]; omega
              have hle2 : (s.extract (p + 1) s.size).size ≤ 140737488355328 := by omega
              have hl1 : (Lib.byteCells l).length + 1 ≤ 140737488355328 := by rw [Lib.byteCells_length]; omega
              have Hl1 := Lib.hid hl1
              have Hsz2 := Lib.hid hsz2
              have Hle2 := Lib.hid hle2
              have h32 : 0 ≤ (p : Int) + 1 := by omega
              have h33 : (p : Int) + 1 ≤ (s.size : Int) := by omega
              clear hl1 hsz2 hle2 hbb hbad hw hsum
              go_wp2_with (first
                | (go_at_call 75; (with_reducible refine (Hdec.out _ HTu.out).mono ?_); rintro e w1 ⟨rfl, hb1⟩; have HI1 := Lib.hid (isBuilder_below HI.out hb1); have HB1 := Lib.hid (HB.out.trans (hb1.mono HB.out.size)); clear hb1)
                | (go_at_call 76; refine (lex_escape _ Hle2.out _).mono ?_; rintro e w2 ⟨⟨x, k, hx0, hx1, hk0, hk1, rfl⟩, hb2⟩; have HI2 := Lib.hid (isBuilder_below HI1.out hb2); have HB2 := Lib.hid (HB1.out.trans (hb2.mono HB1.out.size)); have hk2 : k ≤ (s.size : Int) - ((p : Int) + 1) := (by have := Hsz2.out; omega); clear hb2 hk1)
                | (go_at_call 77; refine (bd_WriteByte _ _ _ _ _ HI2.out Hl1.out HB2.out.size).mono ?_; rintro e w3 ⟨rfl, hA3, hb3⟩; have HI3 := Lib.hid (Or.inr hA3 : Lib.IsBuilder 51 5 w.heap.size w.heap.size _ _); have HB3 := Lib.hid (HB2.out.trans hb3); clear hA3 hb3))
              · go_ret2
                exact ⟨StrAnd.mk (by omega) (by omega), HB2.out⟩
              · go_roundw
                case rel =>
                  obtain ⟨kn, rfl⟩ := Int.eq_ofNat_of_zero_le hk0
                  obtain ⟨xn, rfl⟩ := Int.eq_ofNat_of_zero_le hx0
                  refine ⟨p + (1 + kn), l ++ [xn.toUInt8], by omega, by omega, by rw [List.length_append]; simp; omega, by go_num, ?_, HB3⟩
                  rw [Lib.byteCells_snoc _ (by omega)]
                  exact HI3
                case measure => (simp [intOf] <;> omega)
          · have hne2 : ((c : Int) == 65533) = false := beq_eq_false_iff_ne.2 (by have := beq_iff_eq.1 e2; omega)
            clear hbb hbad hw hsum
            go_wp2_with (go_at_call 75; (with_reducible refine (Hdec.out _ HTu.out).mono ?_); rintro e w1 ⟨rfl, hb1⟩; have HI1 := Lib.hid (isBuilder_below HI.out hb1); have HB1 := Lib.hid (HB.out.trans (hb1.mono HB.out.size)); clear hb1)
            go_ret2
            exact ⟨StrAnd.mk (by omega) (by omega), HB1.out⟩
      · go_wp2_with (first
          | (go_at_call 75; (with_reducible refine (Hdec.out _ HTu.out).mono ?_); rintro e w1 ⟨rfl, hb1⟩; have HI1 := Lib.hid (isBuilder_below HI.out hb1); have HB1 := Lib.hid (HB.out.trans (hb1.mono HB.out.size)); clear hb1)
          | (go_at_call 24; refine (Tryz.Builder_String_any _ _ _ _ HI1.out HB1.out.size).mono ?_; rintro e w2 ⟨rfl, hb2⟩))
        go_ret2
        exact ⟨StrAnd.mk (by omega) (by omega), HB1.out.trans hb2⟩
    · have hlt' : ¬ (p : Int) < (s.size : Int) := by omega
      go_wp2
      go_ret2
      exact ⟨StrAnd.mk (by omega) (by omega), HB.out⟩
end Go.Proofs.YtmfnkilohicapaaGreatDoor
