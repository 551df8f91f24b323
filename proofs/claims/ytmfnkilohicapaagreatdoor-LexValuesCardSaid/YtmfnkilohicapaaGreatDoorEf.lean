/- 'known' answers true. -/
import Derived.Test.YtmfnkilohicapaaGreatDoorEd
import Derived.Test.YtmfnkilohicapaaGreatDoorBb
import Derived.Test.YtmfnkilohicapaaGreatDoorCb
namespace Go.Proofs.YtmfnkilohicapaaGreatDoor
open Go.RowKit

theorem out_1h30m : spanOut (⟨#[49, 104, 51, 48, 109]⟩ : ByteArray).data.toList = .tuple #[.int .i64 5400000, .int .i64 0] := by kernel_rfl
theorem out_1500 : textOut 1500 = .tuple #[.string ⟨#[49, 115, 53, 48, 48, 109, 115]⟩, .int .i64 0] := by kernel_rfl
theorem toks_13 : (kCs 11 ++ tokC 0 [] 31)[13]? = some (.string ⟨#[99, 46, 42]⟩) := by kernel_rfl
theorem toks_21 : (kCs 11 ++ tokC 0 [] 31)[21]? = some (.int .i64 3) := by kernel_rfl
theorem own_at {w : World} {base : Nat} {e : TypeId} {size n g cap : Nat} {xs : List Value} (h : w.ownsRow base e size (.slice (some ⟨g, 0, none⟩) n cap) n xs) (i : Nat) {u : Value} (hu : xs[i]? = some u) : w.cell? ⟨g, i, none⟩ = some u := by
  have := h.cells (g := g) rfl i u hu
  have e : ((⟨g, 0, none⟩ : Addr).add i) = ⟨g, i, none⟩ := by
    by_cases h0 : i = 0
    · subst h0; rfl
    · simp [Addr.add, h0]
  rw [← e]; exact this
set_option maxHeartbeats 8000000 in
set_option maxRecDepth 100000 in
theorem known_true (w : World) (hT : Laid w) : Calls Tryz.prog 11 #[] w fun e w' => e = .returned (.bool true) ∧ Below w.heap.size w w' := by
  have htok : ∀ wx, Laid wx → Calls Tryz.prog 25 #[.string ⟨#[97, 58, 98, 123, 120, 61, 126, 34, 99, 46, 42, 34, 125, 91, 53, 109, 93, 32, 62, 32, 49, 46, 53, 101, 51, 32, 35, 32, 101, 110, 100]⟩] wx (TokensEnd wx) := fun wx h => lex_Tokens_known wx h
  have hspan : ∀ wx, Laid wx → Calls Tryz.prog 6 #[.string ⟨#[49, 104, 51, 48, 109]⟩] wx fun e w' => e = .returned (.tuple #[.int .i64 5400000, .int .i64 0]) ∧ Below wx.heap.size wx w' := by
    intro wx h
    have := lex_Span ⟨#[49, 104, 51, 48, 109]⟩ (by show 5 ≤ _; decide) wx h
    rw [out_1h30m] at this
    exact this
  have htext : ∀ wx, Laid wx → Calls Tryz.prog 8 #[.int .i64 1500] wx fun e w' => e = .returned (.tuple #[.string ⟨#[49, 115, 53, 48, 48, 109, 115]⟩, .int .i64 0]) ∧ Below wx.heap.size wx w' := by
    intro wx h
    have := lex_SpanText 1500 (by decide) (by decide) wx h
    rw [out_1500] at this
    exact this
  have Htok := Lib.hid htok
  have Hspan := Lib.hid hspan
  have Htext := Lib.hid htext
  have HT := Lib.hid hT
  clear htok hspan htext hT
  go_enter Tryz.func11, Tryz.ntmps11
  go_wp2_with (first
    | (go_at_call 25; refine (Htok.out _ HT.out).mono ?_; rintro e w1 ⟨v, rfl, hown, hb1⟩; have Hown := Lib.hid hown; clear hown)
    | (go_at_call 6; refine (Hspan.out _ (HT.out.below hb1)).mono ?_; rintro e w2 ⟨rfl, hb2⟩)
    | (go_at_call 8; refine (Htext.out _ (HT.out.below (hb1.trans (hb2.mono hb1.size)))).mono ?_; rintro e w3 ⟨rfl, hb3⟩; have hown3 := own_below (own_below Hown.out hb2) hb3; (rcases hown3.2 with ⟨_, h0⟩ | ⟨g, cap, cur, hv, hg1, hg2, hg3⟩; (exact absurd h0 (by decide))); subst hv; have hc13 := own_at hown3 13 toks_13; have hc21 := own_at hown3 21 toks_21; have HB3 := Lib.hid ((hb1.trans (hb2.mono hb1.size)).trans (hb3.mono (hb1.trans (hb2.mono hb1.size)).size)); clear hown3 hg1 hg2 hg3))
  go_ret
  exact ⟨rfl, HB3.out⟩
end Go.Proofs.YtmfnkilohicapaaGreatDoor

/- LexValues answers true, if ParseFloat answers at the texts that it is handed. -/
namespace Go.Proofs.YtmfnkilohicapaaGreatDoor
open Go.RowKit

theorem spanOut_two (l : List UInt8) : ∃ a b : Int, spanOut l = .tuple #[.int .i64 a, .int .i64 b] := by
  unfold spanOut
  repeat' split
  all_goals exact ⟨_, _, rfl⟩
theorem textOut_two (n : Int) : ∃ (t : ByteArray) (b : Int), textOut n = .tuple #[.string t, .int .i64 b] := by
  unfold textOut
  repeat' split
  all_goals exact ⟨_, _, rfl⟩
set_option maxHeartbeats 8000000 in
set_option maxRecDepth 100000 in
theorem lexValues_true (hP : ∀ x, IsHexText x ∨ IsDecText x → ∃ b, PFspec x b) (s : ByteArray) (hs : s.size ≤ 140737488351232) (n : Int) (h0 : -9223372036854775808 ≤ n) (h1 : n ≤ 9223372036854775807) (w : World) (hT : Laid w) :
    Calls Tryz.prog 3 #[.string s, .int .i64 n] w fun e w' => e = .returned (.bool true) ∧ Below w.heap.size w w' := by
  obtain ⟨b, ec, hn4, hn5⟩ := Numbers s hs hP
  obtain ⟨a1, a2, hso⟩ := spanOut_two s.data.toList
  obtain ⟨t, c, hto⟩ := textOut_two n
  have h6 := fun wx hTx => lex_Span s hs wx hTx
  have h7 := fun wx => ref_Span s hs wx
  have h8 := fun wx hTx => lex_SpanText n h0 h1 wx hTx
  have h9 := fun wx hTx => ref_SpanText n h0 h1 wx hTx
  rw [hso] at h6 h7
  rw [hto] at h8 h9
  have H4 := Lib.hid hn4
  have H5 := Lib.hid hn5
  have H6 := Lib.hid h6
  have H7 := Lib.hid h7
  have H8 := Lib.hid h8
  have H9 := Lib.hid h9
  have HT := Lib.hid hT
  have hfb := float64bits
  clear hn4 hn5 h6 h7 h8 h9 hT hso hto hP
  go_enter Tryz.func3, Tryz.ntmps3
  go_wp2_with (first
    | (go_at_call 4; refine (H4.out _ HT.out).mono ?_; rintro e w1 ⟨rfl, hb1⟩; have HB1 := Lib.hid hb1; clear hb1)
    | (go_at_call 5; refine (H5.out _ (HT.out.below HB1.out)).mono ?_; rintro e w2 ⟨rfl, hb2⟩; have HB2 := Lib.hid (HB1.out.trans (hb2.mono HB1.out.size)); clear hb2)
    | (go_at_call 6; refine (H6.out _ (HT.out.below HB2.out)).mono ?_; rintro e w3 ⟨rfl, hb3⟩; have HB3 := Lib.hid (HB2.out.trans (hb3.mono HB2.out.size)); clear hb3)
    | (go_at_call 7; refine (H7.out _).mono ?_; rintro e w4 ⟨rfl, hb4⟩; have HB4 := Lib.hid (HB3.out.trans (hb4.mono HB3.out.size)); clear hb4)
    | (go_at_call 8; refine (H8.out _ (HT.out.below HB4.out)).mono ?_; rintro e w5 ⟨rfl, hb5⟩; have HB5 := Lib.hid (HB4.out.trans (hb5.mono HB4.out.size)); clear hb5)
    | (go_at_call 9; refine (H9.out _ (HT.out.below HB5.out)).mono ?_; rintro e w6 ⟨rfl, hb6⟩; have HB6 := Lib.hid (HB5.out.trans (hb6.mono HB5.out.size)); clear hb6)
    | (go_at_call 11; refine (known_true _ (HT.out.below HB6.out)).mono ?_; rintro e w7 ⟨rfl, hb7⟩; have HB7 := Lib.hid (HB6.out.trans (hb7.mono HB6.out.size)); clear hb7))
  go_ret
  exact ⟨rfl, HB7.out⟩
end Go.Proofs.YtmfnkilohicapaaGreatDoor
