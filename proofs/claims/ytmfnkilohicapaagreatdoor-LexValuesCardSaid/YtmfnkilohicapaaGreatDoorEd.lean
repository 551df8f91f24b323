/- Tokens at the text that 'known' asks. -/
import Derived.Test.YtmfnkilohicapaaGreatDoorEc
namespace Go.Proofs.YtmfnkilohicapaaGreatDoor
open Go.RowKit

def tokC (k : Int) (t : List UInt8) (p : Nat) : List Value := [.int .i64 k, .string ⟨t.toArray⟩, .int .i64 p]
def kC (j : Nat) : List Value := tokC (kK.getD j 0) (kT.getD j []) (kP.getD j 0)
def kCs : Nat → List Value
  | 0 => []
  | j + 1 => kCs j ++ kC j
theorem known_step (j : Nat) (hj : j < 11) : kP.getD j 0 < 31 ∧ 1 ≤ kN.getD j 0 ∧ kP.getD j 0 + kN.getD j 0 ≤ 31 ∧ kP.getD j 0 + kN.getD j 0 + skN (kS.data.toList.drop (kP.getD j 0 + kN.getD j 0)) false = kP.getD (j + 1) 0 := by
  have : ∀ j : Fin 11, kP.getD j.val 0 < 31 ∧ 1 ≤ kN.getD j.val 0 ∧ kP.getD j.val 0 + kN.getD j.val 0 ≤ 31 ∧ kP.getD j.val 0 + kN.getD j.val 0 + skN (kL.drop (kP.getD j.val 0 + kN.getD j.val 0)) false = kP.getD (j.val + 1) 0 := by decide
  exact this ⟨j, hj⟩
theorem kS_size : kS.size = 31 := rfl
theorem kS_ascii : ∀ c ∈ kS.data.toList, c.toNat < 128 := by
  show ∀ c ∈ kL, c.toNat < 128
  decide
theorem infoTok : (Tryz.prog.info? 64).map (fun i => (i.zero, i.size, i.bytes)) = some (some (.agg #[.int .i64 0, .string ⟨#[]⟩, .int .i64 0]), 3, 32) := by kernel_rfl
/-- The twelve tokens, in a slice of the call's own. -/
def TokensEnd (w : World) (e : Ending) (w' : World) : Prop := ∃ v, e = .returned (.tuple #[v, .int .i64 0, .int .i64 0]) ∧ w'.ownsRow w.heap.size 64 3 v 12 (kCs 11 ++ tokC 0 [] 31) ∧ Below w.heap.size w w'
set_option maxHeartbeats 8000000 in
set_option maxRecDepth 100000 in
theorem lex_Tokens_known (w : World) (hT : Laid w) :
    Calls Tryz.prog 25 #[.string kS] w (TokensEnd w) := by
  have hsz := kS_size
  have hsk := fun p hp wx => lex_skip kS (by rw [kS_size]; decide) kS_ascii p hp wx
  have hsk0 := hsk 0 (by omega)
  have e0 : 0 + skN (kS.data.toList.drop 0) false = 0 := by kernel_rfl
  rw [e0] at hsk0
  have Hsk := Lib.hid hsk
  have Hsk0 : Hid (∀ wx, Calls Tryz.prog 43 #[.string kS, .int .i64 0] wx fun e w' => e = .returned (.int .i64 (0 : Nat)) ∧ Below wx.heap.size wx w') := Lib.hid hsk0
  have HT := Lib.hid hT
  obtain ⟨i0, hi, hz0, hz1, hz2⟩ := info_parts infoTok
  obtain ⟨S, hS⟩ : ∃ S, kS = S := ⟨_, rfl⟩
  have HS := Lib.hid hS
  rw [hS] at hsz Hsk Hsk0 ⊢
  clear hsk hsk0 e0 hT hS
  go_enter Tryz.func25, Tryz.ntmps25
  go_wp2_with (go_at_call 43; refine (Hsk0.out _).mono ?_; rintro e w1 ⟨rfl, hb1⟩)
  have hbw1 := Lib.hid hb1
  clear hb1
  go_loopg [5, 6] 11 (fun g v5 v6 wr => ∃ j : Nat, j + g = 11 ∧ v6 = .int .i64 (kP.getD j 0 : Nat) ∧ Hid (wr.ownsRow w.heap.size 64 3 v5 j (kCs j)) ∧ Hid (Below w.heap.size w wr))
  case atStart => exact ⟨0, by omega, rfl, Lib.hid ⟨rfl, Or.inl ⟨rfl, rfl⟩⟩, hbw1⟩
  case round =>
    obtain ⟨j, hjg, rfl, how, hbw⟩ := hrel
    by_cases hj : j < 11
    · obtain ⟨g, rfl⟩ : ∃ g, gk = g + 1 := ⟨gk - 1, by omega⟩
      obtain ⟨s1, s2, s3, s4⟩ := known_step j hj
      have hone := known_one j hj
      rw [HS.out] at s4
      unfold OneIs at hone
      rw [HS.out] at hone
      obtain ⟨P, hP⟩ : ∃ P, kP.getD j 0 = P := ⟨_, rfl⟩
      obtain ⟨N, hN⟩ : ∃ N, kN.getD j 0 = N := ⟨_, rfl⟩
      obtain ⟨kd, hkd⟩ : ∃ kd, kK.getD j 0 = kd := ⟨_, rfl⟩
      obtain ⟨tx, htx⟩ : ∃ tx, kT.getD j [] = tx := ⟨_, rfl⟩
      have hkc : kCs (j + 1) = kCs j ++ tokC kd tx P := by rw [← hkd, ← htx, ← hP]; rfl
      rw [hP, hN, hkd, htx] at hone
      rw [hN] at s2 s3 s4
      rw [hP] at s1 s3 s4 ⊢
      have hskn := fun wx => Hsk.out (P + N) (by rw [hsz]; exact s3) wx
      rw [s4] at hskn
      obtain ⟨P2, hP2⟩ : ∃ P2, kP.getD (j + 1) 0 = P2 := ⟨_, rfl⟩
      rw [hP2] at hskn
      have Hskn := Lib.hid hskn
      have HP2 := Lib.hid hP2
      have Hkc := Lib.hid hkc
      have Hone := Lib.hid hone
      have n0 : ((N : Int) == 0) = false := beq_eq_false_iff_ne.2 (by omega)
      have hP31 : (P : Int) < 31 := by omega
      have hPN : (P : Int) + (N : Int) ≤ 31 := by omega
      clear hskn hP2 hkc hone s4 hP hN hkd htx
      obtain ⟨X, hX⟩ : ∃ X : ByteArray, (⟨tx.toArray⟩ : ByteArray) = X := ⟨_, rfl⟩
      unfold tok at Hone
      go_upto_region 10 with (go_at_call 26; refine (Hone.out _ (HT.out.below hbw.out)).mono ?_; rintro e w2 ⟨rfl, hb2⟩)
      have hown := Lib.hid (((own_below how.out hb2).alloc (.cells #[.int .i64 kd, .string X, .int .i64 P] 64)))
      have hsz2 : wr.heap.size ≤ w2.heap.size := hb2.size
      have hsz3 : w.heap.size ≤ wr.heap.size := hbw.out.size
      go_wp2_with (at_builtin; refine wpList_append_own _ rfl _ _ 60 rfl w.heap.size 64 i0 (.agg #[.int .i64 0, .string ⟨#[]⟩, .int .i64 0]) 3 32 Tryz.underlying60 hi hz0 hz1 hz2 rfl (by decide) _ _ _ rfl (hown.out.alloc _) ⟨w2.heap.size + 1, 0, none⟩ 1 1 [.int .i64 kd, .string X, .int .i64 P] rfl rfl ?c1 ?c2 ?c3 ?c4 ?c5 ?_)
      case c1 =>
        intro i u hu
        match i, hu with
        | 0, hu => simp at hu; subst hu; simp [Addr.add]
        | 1, hu => simp at hu; subst hu; simp [Addr.add]
        | 2, hu => simp at hu; subst hu; simp [Addr.add]
      case c2 => intro u hu; simp at hu; rcases hu with rfl | rfl | rfl <;> rfl
      case c3 => unfold maxLen; omega
      case c4 => omega
      case c5 => simp; omega
      intro v' w4 hown' hgrow _
      have hb4 : Below w.heap.size w w4 := by
        have h2 : Below w.heap.size w w2 := hbw.out.trans (hb2.mono hsz3)
        refine ((h2.alloc (by omega) _).alloc (by simp; omega) _).grown hgrow (by simp; omega) (fun k hk => ?_)
        exact (hown.out.lt k hk).1
      have Hb4 := Lib.hid hb4
      have Hown4 := Lib.hid hown'
      clear hgrow hown' hb4 hb2
      go_wp2_with (go_at_call 43; refine (Hskn.out _).mono ?_; rintro e w5 ⟨rfl, hb5⟩)
      go_roundg g
      case measure => omega
      case rel =>
        refine ⟨j + 1, by omega, by rw [HP2.out], Lib.hid ?_, Lib.hid (Hb4.out.trans (hb5.mono Hb4.out.size))⟩
        rw [Hkc.out, tokC, hX]
        exact own_below Hown4.out hb5
    · obtain rfl : j = 11 := by omega
      have hP31 : kP.getD 11 0 = 31 := rfl
      rw [hP31]
      clear hP31
      have hown := how
      have hsz3 : w.heap.size ≤ wr.heap.size := hbw.out.size
      go_wp2_with (at_builtin; refine wpList_append_own _ rfl _ _ 60 rfl w.heap.size 64 i0 (.agg #[.int .i64 0, .string ⟨#[]⟩, .int .i64 0]) 3 32 Tryz.underlying60 hi hz0 hz1 hz2 rfl (by decide) _ _ _ rfl (hown.out.alloc _) ⟨wr.heap.size, 0, none⟩ 1 1 [.int .i64 0, .string ⟨#[]⟩, .int .i64 31] rfl rfl ?c1 ?c2 ?c3 ?c4 ?c5 ?_)
      case c1 =>
        intro i u hu
        match i, hu with
        | 0, hu => simp at hu; subst hu; simp [Addr.add]
        | 1, hu => simp at hu; subst hu; simp [Addr.add]
        | 2, hu => simp at hu; subst hu; simp [Addr.add]
      case c2 => intro u hu; simp at hu; rcases hu with rfl | rfl | rfl <;> rfl
      case c3 => unfold maxLen; omega
      case c4 => omega
      case c5 => simp; omega
      intro v' w4 hown' hgrow _
      have hb4 : Below w.heap.size w w4 := by
        refine (hbw.out.alloc (by omega) _).grown hgrow (by simp; omega) (fun k hk => ?_)
        exact (hown.out.lt k hk).1
      obtain ⟨g4, cap4, rfl⟩ : ∃ g4 cap4, v' = .slice (some ⟨g4, 0, none⟩) 12 cap4 := by
        rcases hown'.2 with ⟨_, h0⟩ | ⟨g4, cap4, cur, hv, _⟩
        · omega
        · exact ⟨g4, cap4, hv⟩
      have Hb4 := Lib.hid hb4
      have Hown4 := Lib.hid hown'
      clear hgrow hown' hb4
      go_wp2
      go_ret3
      exact ⟨_, rfl, Hown4.out, Hb4.out⟩
end Go.Proofs.YtmfnkilohicapaaGreatDoor
