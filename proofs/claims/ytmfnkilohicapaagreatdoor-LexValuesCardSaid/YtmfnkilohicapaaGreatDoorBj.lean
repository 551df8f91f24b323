/- Both packages' 'Number': the same answer, if ParseFloat answers at the texts that they hand it. -/
import Derived.Test.YtmfnkilohicapaaGreatDoorBh
namespace Go.Proofs.YtmfnkilohicapaaGreatDoor
open Go.RowKit

/-- A text that 'decimal' hands to ParseFloat. -/
def IsDecText (x : ByteArray) : Prop := ∃ (c : UInt8) (d : List UInt8) (A : Int), AllDig (c :: d) ∧ c ≠ 48 ∧ -1000 ≤ A ∧ A ≤ 1000 ∧ d.length ≤ 140737488351232 ∧ x = ((⟨#[48, 46]⟩ ++ ⟨(c :: d).toArray⟩) ++ ⟨#[101]⟩) ++ ⟨(Lib.itoa A).toArray⟩
/-- A text of hexadecimal digits that 'Number' hands to it. -/
def IsHexText (x : ByteArray) : Prop := ∃ (b : UInt8) (H : List UInt8), (b = 120 ∨ b = 88) ∧ H ≠ [] ∧ (∀ c ∈ H, isHex c = true) ∧ H.length ≤ 140737488351232 ∧ x.data.toList = 48 :: b :: (H ++ [112, 48])
theorem dropWhile_cons {p : UInt8 → Bool} {l : List UInt8} {c : UInt8} {d : List UInt8} (h : l.dropWhile p = c :: d) : p c = false ∧ (∀ x ∈ c :: d, x ∈ l) ∧ d.length + 1 ≤ l.length := by
  induction l with
  | nil => cases h
  | cons a r ih =>
    rw [List.dropWhile_cons] at h
    cases hp : p a
    · rw [hp] at h
      injection h with h1 h2
      subst h1 h2
      exact ⟨hp, fun x hx => hx, by simp⟩
    · rw [hp] at h
      obtain ⟨h1, h2, h3⟩ := ih h
      exact ⟨h1, fun x hx => List.mem_cons_of_mem _ (h2 x hx), by simp; omega⟩
theorem decText_is {s : ByteArray} (hs : s.size ≤ 140737488351232) {W Pt : List UInt8} {point ex : Bool} {e : UInt8} {sg ds : List UInt8} (h : DecOf s.data.toList W Pt point ex e sg ds) (h0 : dig0 W Pt ≠ []) : IsDecText (decText W Pt sg ds) := by
  cases hd : dig0 W Pt with
  | nil => exact absurd hd h0
  | cons c d =>
    obtain ⟨h1, h2, h3⟩ := dropWhile_cons hd
    have hl := congrArg List.length h.eq
    rw [← size_len] at hl
    have hwp : (W ++ Pt).length ≤ s.size := by
      rw [hl]
      unfold ptOf
      cases point
      · rw [h.nopart rfl]; simp
      · simp; omega
    refine ⟨c, d, decAt W Pt sg ds, fun x hx => ?_, ?_, ?_, ?_, by omega, ?_⟩
    · rcases List.mem_append.1 (h2 x hx) with h4 | h4
      · exact h.whole x h4
      · exact h.part x h4
    · rintro rfl; cases h1
    · unfold decAt clampAt; omega
    · unfold decAt clampAt; omega
    · unfold decText; rw [hd]
/-- Where a number is hexadecimal: what stands at its second byte. -/
theorem hex_shape {s : ByteArray} (h : numOk s.data.toList 2 = true) (hx : 0 < hexLen s.data.toList) : 2 < s.size ∧ ∃ b H, s.data.toList = 48 :: b :: H ∧ (b = 120 ∨ b = 88) ∧ H ≠ [] ∧ (∀ c ∈ H, isHex c = true) := by
  unfold numOk numLen at h
  rw [decide_eq_true_iff, if_pos rfl, if_pos hx] at h
  obtain ⟨h0, h⟩ := h
  have hh : hexLen s.data.toList = rl isHex (s.data.toList.drop 2) := by
    unfold hexLen at hx ⊢
    split
    · rfl
    · rename_i h1; rw [if_neg h1] at hx; omega
  have h12 : isAt s.data.toList 0 48 48 = true ∧ isAt s.data.toList 1 120 88 = true := by
    unfold hexLen at hx
    split at hx
    · rename_i h1; rwa [Bool.and_eq_true] at h1
    · omega
  obtain ⟨c0, hc0, hc0'⟩ := isAt_get h12.1
  obtain ⟨c1, hc1, hc1'⟩ := isAt_get h12.2
  obtain rfl : c0 = 48 := byte_of (n := 48) (by decide) (by omega)
  have hall := rl_take isHex (s.data.toList.drop 2)
  rw [← hh, List.take_of_length_le (by rw [List.length_drop]; omega)] at hall
  have he : s.data.toList = 48 :: c1 :: s.data.toList.drop 2 := by
    have e1 := drop_of_get hc0
    rw [List.drop_zero] at e1
    conv => lhs; rw [e1]
    rw [drop_of_get hc1]
  refine ⟨by rw [size_len]; omega, c1, s.data.toList.drop 2, he, ?_, ?_, hall⟩
  · rcases hc1' with h5 | h5
    · exact Or.inl (byte_of (n := 120) (by decide) (by omega))
    · exact Or.inr (byte_of (n := 88) (by decide) (by omega))
  · intro h5
    have h6 : rl isHex (s.data.toList.drop 2) = 0 := by rw [h5]; rfl
    omega
/-- .. and where it is decimal: no x stands there. -/
theorem dec_second {l W Pt : List UInt8} {point ex : Bool} {e : UInt8} {sg ds : List UInt8} (h : DecOf l W Pt point ex e sg ds) (c : UInt8) (hc : c ∈ l) : ((c.toNat : Int) == 120) = false ∧ ((c.toNat : Int) == 88) = false := by
  have key : c ≠ 120 ∧ c ≠ 88 := by
    rw [h.eq] at hc
    rcases List.mem_append.1 hc with hc | hc
    · rcases mant_mem h c hc with h1 | rfl
      · exact ⟨fun e => by rw [e] at h1; exact absurd h1 (by decide), fun e => by rw [e] at h1; exact absurd h1 (by decide)⟩
      · decide
    · cases ex
      · cases hc
      · rcases List.mem_cons.1 hc with rfl | hc
        · have := h.isE
          unfold isE at this
          rw [Bool.or_eq_true, beq_iff_eq, beq_iff_eq] at this
          rcases this with rfl | rfl <;> decide
        · rcases List.mem_append.1 hc with hc | hc
          · rcases h.sign with h1 | h1 | h1
            · rw [h1] at hc; cases hc
            · rw [h1] at hc; rw [List.mem_singleton.1 hc]; decide
            · rw [h1] at hc; rw [List.mem_singleton.1 hc]; decide
          · have h1 := h.dig c hc
            exact ⟨fun e => by rw [e] at h1; exact absurd h1 (by decide), fun e => by rw [e] at h1; exact absurd h1 (by decide)⟩
  exact ⟨beq_eq_false_iff_ne.2 (fun h5 => key.1 (byte_of (n := 120) (by decide) (by omega))), beq_eq_false_iff_ne.2 (fun h5 => key.2 (byte_of (n := 88) (by decide) (by omega)))⟩
/-- A call answers a float64 and an error number. -/
def NumIs (f : FuncId) (s : ByteArray) (b : Nat) (ec : Int) : Prop := ∀ w, Laid w → Calls Tryz.prog f #[.string s] w fun e w' => e = .returned (.tuple #[.float .f64 b, .int .i64 ec]) ∧ Below w.heap.size w w'
set_option maxHeartbeats 2000000 in
theorem lex_Number_dec (s : ByteArray) (hs : s.size ≤ 140737488351232) (hn : numOk s.data.toList 2 = true) {W Pt : List UInt8} {point ex : Bool} {e : UInt8} {sg ds : List UInt8} (h : DecOf s.data.toList W Pt point ex e sg ds) (hP : dig0 W Pt ≠ [] → PFspec (decText W Pt sg ds) (pfBits (decText W Pt sg ds))) : NumIs 4 s (decVal W Pt sg ds) 0 := by
  intro w hT
  have halone := fun wx hTx => lex_alone s 2 (Or.inl rfl) hs wx hTx
  have hdec := fun wx hTx => lex_decimal s hs h hP wx hTx
  rw [hn] at halone
  obtain ⟨v, hv⟩ : ∃ v, decVal W Pt sg ds = v := ⟨_, rfl⟩
  rw [hv] at hdec ⊢
  have hsec := fun c hc => dec_second h c hc
  clear hv h hP hn
  have Ha := Lib.hid halone
  have Hd := Lib.hid hdec
  have HT := Lib.hid hT
  clear halone hdec hT
  by_cases h1 : 1 < s.size
  · have h1' : (1 : Int) < (s.size : Int) := by omega
    obtain ⟨n1, n2⟩ := hsec s[1] (List.mem_of_getElem? (get_list s 1 h1))
    obtain ⟨c, hc⟩ : ∃ c, s[1] = c := ⟨_, rfl⟩
    rw [hc] at n1 n2
    clear hsec
    go_enter Tryz.func4, Tryz.ntmps4
    go_wp2_with (first
      | (go_at_call 12; refine (Ha.out _ HT.out).mono ?_; rintro e w1 ⟨rfl, hb1⟩)
      | (go_at_call 14; refine (Hd.out _ (HT.out.below hb1)).mono ?_; rintro e w2 ⟨rfl, hb2⟩))
    go_ret2
    exact ⟨rfl, hb1.trans (hb2.mono hb1.size)⟩
  · have h1' : ¬ (1 : Int) < (s.size : Int) := by omega
    clear hsec
    go_enter Tryz.func4, Tryz.ntmps4
    go_wp2_with (first
      | (go_at_call 12; refine (Ha.out _ HT.out).mono ?_; rintro e w1 ⟨rfl, hb1⟩)
      | (go_at_call 14; refine (Hd.out _ (HT.out.below hb1)).mono ?_; rintro e w2 ⟨rfl, hb2⟩))
    go_ret2
    exact ⟨rfl, hb1.trans (hb2.mono hb1.size)⟩
set_option maxHeartbeats 2000000 in
theorem ref_Number_dec (s : ByteArray) (hs : s.size ≤ 140737488351232) (hn : numOk s.data.toList 2 = true) {W Pt : List UInt8} {point ex : Bool} {e : UInt8} {sg ds : List UInt8} (h : DecOf s.data.toList W Pt point ex e sg ds) (hP : dig0 W Pt ≠ [] → PFspec (decText W Pt sg ds) (pfBits (decText W Pt sg ds))) : NumIs 5 s (decVal W Pt sg ds) 0 := by
  intro w hT
  have halone := fun wx => ref_alone s 2 (Or.inl rfl) hs wx
  have hdec := fun wx hTx => ref_decimal s hs h hP wx hTx
  rw [hn] at halone
  obtain ⟨v, hv⟩ : ∃ v, decVal W Pt sg ds = v := ⟨_, rfl⟩
  rw [hv] at hdec ⊢
  have hsec := fun c hc => dec_second h c hc
  clear hv h hP hn
  have Ha := Lib.hid halone
  have Hd := Lib.hid hdec
  have HT := Lib.hid hT
  clear halone hdec hT
  by_cases h1 : 2 < s.size
  · have h1' : (2 : Int) < (s.size : Int) := by omega
    have h11 : 1 < s.size := by omega
    have h11' : (1 : Int) < (s.size : Int) := by omega
    obtain ⟨n1, n2⟩ := hsec s[1] (List.mem_of_getElem? (get_list s 1 h11))
    obtain ⟨c, hc⟩ : ∃ c, s[1] = c := ⟨_, rfl⟩
    rw [hc] at n1 n2
    clear hsec
    go_enter Tryz.func5, Tryz.ntmps5
    go_wp2_with (first
      | (go_at_call 15; refine (Ha.out _).mono ?_; rintro e w1 ⟨rfl, hb1⟩)
      | (go_at_call 16; refine (Hd.out _ (HT.out.below hb1)).mono ?_; rintro e w2 ⟨rfl, hb2⟩))
    go_ret2
    exact ⟨rfl, hb1.trans (hb2.mono hb1.size)⟩
  · have h1' : ¬ (2 : Int) < (s.size : Int) := by omega
    clear hsec
    go_enter Tryz.func5, Tryz.ntmps5
    go_wp2_with (first
      | (go_at_call 15; refine (Ha.out _).mono ?_; rintro e w1 ⟨rfl, hb1⟩)
      | (go_at_call 16; refine (Hd.out _ (HT.out.below hb1)).mono ?_; rintro e w2 ⟨rfl, hb2⟩))
    go_ret2
    exact ⟨rfl, hb1.trans (hb2.mono hb1.size)⟩
end Go.Proofs.YtmfnkilohicapaaGreatDoor

/- Both packages' 'Number', joined: the same answer, if ParseFloat answers at the texts that they hand it. -/
namespace Go.Proofs.YtmfnkilohicapaaGreatDoor
open Go.RowKit

set_option maxHeartbeats 2000000 in
theorem Number_none (s : ByteArray) (hs : s.size ≤ 140737488351232) (hn : numOk s.data.toList 2 = false) : NumIs 4 s 0 130 ∧ NumIs 5 s 0 130 := by
  have halone := fun wx hTx => lex_alone s 2 (Or.inl rfl) hs wx hTx
  have halone2 := fun wx => ref_alone s 2 (Or.inl rfl) hs wx
  rw [hn] at halone halone2
  clear hn
  have Ha := Lib.hid halone
  have Hb := Lib.hid halone2
  clear halone halone2
  constructor
  · intro w hT
    have HT := Lib.hid hT
    clear hT
    go_enter Tryz.func4, Tryz.ntmps4
    go_wp2_with (go_at_call 12; refine (Ha.out _ HT.out).mono ?_; rintro e w1 ⟨rfl, hb1⟩)
    go_ret2
    exact ⟨rfl, hb1⟩
  · intro w hT
    clear hT
    go_enter Tryz.func5, Tryz.ntmps5
    go_wp2_with (go_at_call 15; refine (Hb.out _).mono ?_; rintro e w1 ⟨rfl, hb1⟩)
    go_ret2
    exact ⟨rfl, hb1⟩
set_option maxHeartbeats 2000000 in
theorem Number_hex (s : ByteArray) (hs : s.size ≤ 140737488351232) (hn : numOk s.data.toList 2 = true) (hx : 0 < hexLen s.data.toList) (hP : ∀ x, IsHexText x → ∃ b, PFspec x b) : ∃ b, NumIs 4 s b 0 ∧ NumIs 5 s b 0 := by
  obtain ⟨h2, b, H, he, hb, hH, hall⟩ := hex_shape hn hx
  have hlen := congrArg List.length he
  rw [← size_len] at hlen
  simp at hlen
  have htx : IsHexText (s ++ ⟨#[112, 48]⟩) := ⟨b, H, hb, hH, hall, by omega, by
    rw [ByteArray.data_append, Array.toList_append, he]; rfl⟩
  obtain ⟨v, hv⟩ := hP _ htx
  have halone := fun wx hTx => lex_alone s 2 (Or.inl rfl) hs wx hTx
  have halone2 := fun wx => ref_alone s 2 (Or.inl rfl) hs wx
  rw [hn] at halone halone2
  have h1 : 1 < s.size := by omega
  have hg : s.data.toList[1]? = some b := by rw [he]; rfl
  rw [get_list s 1 h1] at hg
  injection hg with hg
  have hcc : ((b.toNat : Int) == 120) = false → ((b.toNat : Int) == 88) = true := fun h5 => by
    rcases hb with rfl | rfl
    · cases h5
    · rfl
  have hns : ¬ (s.size + 2 > 9223372036854775807) := by omega
  have h1' : (1 : Int) < (s.size : Int) := by omega
  have h2' : (2 : Int) < (s.size : Int) := by omega
  have Ha := Lib.hid halone
  have Hb := Lib.hid halone2
  have Hv := Lib.hid hv
  clear halone halone2 hv hn hx hP he hH hall hlen htx hb
  refine ⟨v, fun w hT => ?_, fun w hT => ?_⟩
  · have HT := Lib.hid hT
    clear hT
    cases n1 : ((b.toNat : Int) == 120)
    all_goals
      (try have n2 := hcc n1)
      clear hcc
      go_enter Tryz.func4, Tryz.ntmps4
      go_wp2_with (first
        | (go_at_call 12; refine (Ha.out _ HT.out).mono ?_; rintro e w1 ⟨rfl, hb1⟩)
        | (go_at_call 13; refine (Hv.out _ (HT.out.below hb1)).mono ?_; rintro e w2 ⟨⟨er, rfl⟩, hb2⟩))
      go_ret2
      exact ⟨rfl, hb1.trans (hb2.mono hb1.size)⟩
  · have HT := Lib.hid hT
    clear hT
    cases n1 : ((b.toNat : Int) == 120)
    all_goals
      (try have n2 := hcc n1)
      clear hcc
      go_enter Tryz.func5, Tryz.ntmps5
      go_wp2_with (first
        | (go_at_call 15; refine (Hb.out _).mono ?_; rintro e w1 ⟨rfl, hb1⟩)
        | (go_at_call 13; refine (Hv.out _ (HT.out.below hb1)).mono ?_; rintro e w2 ⟨⟨er, rfl⟩, hb2⟩))
      go_ret2
      exact ⟨rfl, hb1.trans (hb2.mono hb1.size)⟩
/-- The two answer alike. -/
theorem Numbers (s : ByteArray) (hs : s.size ≤ 140737488351232) (hP : ∀ x, IsHexText x ∨ IsDecText x → ∃ b, PFspec x b) : ∃ b ec, NumIs 4 s b ec ∧ NumIs 5 s b ec := by
  cases hn : numOk s.data.toList 2
  · exact ⟨0, 130, Number_none s hs hn⟩
  · by_cases hx : 0 < hexLen s.data.toList
    · obtain ⟨b, h⟩ := Number_hex s hs hn hx (fun x h => hP x (Or.inl h))
      exact ⟨b, 0, h⟩
    · obtain ⟨W, Pt, point, ex, e, sg, ds, h⟩ := decOf s.data.toList hn (by omega)
      have hq : dig0 W Pt ≠ [] → PFspec (decText W Pt sg ds) (pfBits (decText W Pt sg ds)) := fun h0 => pf_of (hP _ (Or.inr (decText_is hs h h0)))
      exact ⟨_, 0, lex_Number_dec s hs hn h hq, ref_Number_dec s hs hn h hq⟩
end Go.Proofs.YtmfnkilohicapaaGreatDoor
