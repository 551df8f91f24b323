/- Package lex's 'span': the duration that stands ahead, its length and its milliseconds (at most 2^40 and 1). -/
import Derived.Test.YtmfnkilohicapaaGreatDoorH
namespace Go.Proofs.YtmfnkilohicapaaGreatDoor
open Go.RowKit

theorem quiet_add_left {P : Program} {f : FuncId} {args : Array Value} {w : World} {a n : Nat} {v : Value}
    (h : Calls P f args (w.drewN (a + n)) fun e w' => e = .returned v ∧ w.drewN (a + n) = w') :
    Calls P f args (w.drewN (a + n)) fun e w'' => e = .returned v ∧ ∃ m, w'' = w.drewN (a + m) :=
  h.mono fun _ _ ⟨he, hm⟩ => ⟨he, n, hm.symm⟩
theorem rl_get (p : UInt8 → Bool) (l : List UInt8) (j : Nat) (h : j < rl p l) : ∃ c, l[j]? = some c ∧ p c = true := by
  induction l generalizing j with
  | nil => simp [rl] at h
  | cons c r ih =>
    simp only [rl] at h
    split at h
    · rcases j with _ | j
      · exact ⟨c, rfl, ‹_›⟩
      · obtain ⟨d, h1, h2⟩ := ih j (by omega)
        exact ⟨d, by simpa using h1, h2⟩
    · omega
theorem rl_stop (p : UInt8 → Bool) (l : List UInt8) (c : UInt8) (h : l[rl p l]? = some c) : p c = false := by
  induction l with
  | nil => simp at h
  | cons a r ih =>
    simp only [rl] at h
    split at h
    · exact ih (by simpa using h)
    · rename_i hp
      simp at h; subst h; simpa using hp
theorem digits_of_run (s : ByteArray) (k n : Nat) (hn : rl isDig (s.data.toList.drop k) = n) : ∀ j (h : j < (s.extract k (k + n)).size), isDig (s.extract k (k + n))[j] = true := by
  intro j h
  have hl := get_list (s.extract k (k + n)) j h
  rw [Lib.extract_data, Nat.add_sub_cancel_left] at hl
  have hj : j < n := by
    rcases Nat.lt_or_ge j n with h1 | h1
    · exact h1
    · rw [List.getElem?_eq_none (by rw [List.length_take]; omega)] at hl; cases hl
  obtain ⟨c, h1, h2⟩ := rl_get isDig (s.data.toList.drop k) j (by omega)
  rw [List.getElem?_take_of_lt hj, h1] at hl
  injection hl with hl
  rw [← hl]; exact h2
theorem val_extract (s : ByteArray) (k n : Nat) : (s.extract k (k + n)).data.toList = (s.data.toList.drop k).take n := by
  rw [Lib.extract_data, Nat.add_sub_cancel_left]
def uname (i : Nat) : List UInt8 := match i with | 0 => [121] | 1 => [119] | 2 => [100] | 3 => [104] | 4 => [109] | 5 => [115] | _ => [109, 115]
theorem match_iff (l : List UInt8) (i : Nat) (h6 : i ≤ 6) : l.take (rl isLow l) = uname i ↔ (uAt l = some i ∧ ulen i = rl isLow l) := by
  have key : ∀ m : Nat, rl isLow l = m → (∀ c, l[m]? = some c → isLow c = false) := fun m hm c hc => rl_stop isLow l c (by rw [hm]; exact hc)
  have hlen : (l.take (rl isLow l)).length = rl isLow l := by rw [List.length_take]; have := rl_le isLow l; omega
  have hc : i = 0 ∨ i = 1 ∨ i = 2 ∨ i = 3 ∨ i = 4 ∨ i = 5 ∨ i = 6 := by omega
  rcases hc with rfl | rfl | rfl | rfl | rfl | rfl | rfl
  · constructor
    · intro h
      have hm : rl isLow l = 1 := by rw [← hlen, h]; rfl
      exact ⟨(uAt_0 _).2 (by rw [← hm]; exact h), hm.symm⟩
    · rintro ⟨h1, h2⟩
      exact by rw [← h2]; exact (uAt_0 _).1 h1
  · constructor
    · intro h
      have hm : rl isLow l = 1 := by rw [← hlen, h]; rfl
      exact ⟨(uAt_1 _).2 (by rw [← hm]; exact h), hm.symm⟩
    · rintro ⟨h1, h2⟩
      exact by rw [← h2]; exact (uAt_1 _).1 h1
  · constructor
    · intro h
      have hm : rl isLow l = 1 := by rw [← hlen, h]; rfl
      exact ⟨(uAt_2 _).2 (by rw [← hm]; exact h), hm.symm⟩
    · rintro ⟨h1, h2⟩
      exact by rw [← h2]; exact (uAt_2 _).1 h1
  · constructor
    · intro h
      have hm : rl isLow l = 1 := by rw [← hlen, h]; rfl
      exact ⟨(uAt_3 _).2 (by rw [← hm]; exact h), hm.symm⟩
    · rintro ⟨h1, h2⟩
      exact by rw [← h2]; exact (uAt_3 _).1 h1
  · constructor
    · intro h
      have hm : rl isLow l = 1 := by rw [← hlen, h]; rfl
      exact ⟨(uAt_4 _).2 ⟨by rw [← hm]; exact h, fun hb => by have := key 1 hm 115 hb; revert this; decide⟩, hm.symm⟩
    · rintro ⟨h1, h2⟩
      exact by rw [← h2]; exact ((uAt_4 _).1 h1).1
  · constructor
    · intro h
      have hm : rl isLow l = 1 := by rw [← hlen, h]; rfl
      exact ⟨(uAt_5 _).2 (by rw [← hm]; exact h), hm.symm⟩
    · rintro ⟨h1, h2⟩
      exact by rw [← h2]; exact (uAt_5 _).1 h1
  · constructor
    · intro h
      have hm : rl isLow l = 2 := by rw [← hlen, h]; rfl
      exact ⟨(uAt_6 _).2 (by rw [← hm]; exact h), hm.symm⟩
    · rintro ⟨h1, h2⟩
      exact by rw [← h2]; exact (uAt_6 _).1 h1
theorem capn_add (a b : Nat) : min ((capn a : Int) + (capn b : Int)) 1099511627777 = ((capn (a + b) : Nat) : Int) := by
  unfold capn; omega
theorem span_step {s : ByteArray} {k n d m c fr T N S : Nat} (hn : rl isDig (s.data.toList.drop k) = n) (hz : n ≠ 0) (hd : k + n = d) (hm : rl isLow (s.data.toList.drop d) = m) (hfr : fr ≤ c) (h6 : c ≤ 6)
    (hmt : (s.data.toList.drop d).take m = uname c) (HN : k + (sp true fr (s.data.toList.drop k)).1 = N) (HS : capn (T + (sp true fr (s.data.toList.drop k)).2) = S) :
    (k + (n + m)) + (sp true (c + 1) (s.data.toList.drop (k + (n + m)))).1 = N ∧ capn (T + val (s.extract k (k + n)).data.toList * ums c + (sp true (c + 1) (s.data.toList.drop (k + (n + m)))).2) = S := by
  obtain ⟨hu, hl⟩ := (match_iff (s.data.toList.drop d) c h6).1 (by rw [hm]; exact hmt)
  rw [hm] at hl
  have h := sp_some (lx := true) (fr := fr) hn hz (i := c) (by rw [List.drop_drop, hd]; exact hu) hfr (fun _ => by rw [List.drop_drop, hd, hm]; exact hl)
  rw [List.drop_drop, hl] at h
  rw [h] at HN HS
  rw [val_extract]
  simp only [] at HN HS
  exact ⟨by omega, by rw [← HS]; congr 1; omega⟩
theorem UnitsAt.alloc {w : World} {B : Nat} (h : UnitsAt w B) (hB : B < w.heap.size) (o : Obj) (n : Nat) : UnitsAt ((w.alloc o).drewN n) B := ⟨fun j v hv => by
  show (w.alloc o).cell? _ = _
  rw [World.cell?_alloc_lt w o ⟨B, j, none⟩ hB]; exact h.cell j v hv⟩
theorem lt_alloc_drewN {w : World} {B : Nat} (h : B < w.heap.size) (o : Obj) (n : Nat) : B < ((w.alloc o).drewN n).heap.size := by
  show B < (w.alloc o).heap.size
  simp; omega
theorem no_more {l : List UInt8} {fr m c : Nat} (h : ∀ j, j < c → fr ≤ j → ¬ (uAt l = some j ∧ ulen j = m)) (hc : fr ≤ c → ¬ (uAt l = some c ∧ ulen c = m)) : ∀ j, j < c + 1 → fr ≤ j → ¬ (uAt l = some j ∧ ulen j = m) := fun j hj hf => by
  rcases Nat.lt_or_ge j c with h1 | h1
  · exact h j h1 hf
  · obtain rfl : j = c := by omega
    exact hc hf
set_option maxHeartbeats 16000000 in
set_option maxRecDepth 100000 in
theorem lex_span (s : ByteArray) (w : World) (hs : s.size ≤ 140737488355328) :
    Calls Tryz.prog 17 #[.string s] w fun e w' => e = .returned (.tuple #[.int .i64 (sp true 0 s.data.toList).1, .int .i64 (capn (sp true 0 s.data.toList).2)]) ∧ Below w.heap.size w w' := by
  obtain ⟨N, hN⟩ : ∃ N, (sp true 0 s.data.toList).1 = N := ⟨_, rfl⟩
  obtain ⟨S, hS⟩ : ∃ S, capn (sp true 0 s.data.toList).2 = S := ⟨_, rfl⟩
  rw [hN, hS]
  have HN := Lib.hid hN
  have HS := Lib.hid hS
  clear hN hS
  have HB := Lib.hid (Below.refl w.heap.size w)
  go_enter Tryz.func17, Tryz.ntmps17
  go_wp2
  go_step3
  go_wp2
  go_step3
  go_wp2
  go_loopg [4, 5, 6] 7 (fun g v4 v5 v6 wr => ∃ k fr T : Nat, k ≤ s.size ∧ fr + g = 7 ∧ v4 = .int .i64 k ∧ v5 = .int .i64 fr ∧ v6 = .int .i64 (capn T) ∧ Hid (k + (sp true fr (s.data.toList.drop k)).1 = N) ∧ Hid (capn (T + (sp true fr (s.data.toList.drop k)).2) = S) ∧ Hid (Below w.heap.size w wr))
  case atStart => exact ⟨0, 0, 0, by omega, by omega, rfl, rfl, rfl, show _ = _ by rw [List.drop_zero, Nat.zero_add]; exact HN.out, show _ = _ by rw [List.drop_zero, Nat.zero_add]; exact HS.out, HB⟩
  case round =>
    clear HN HS HB
    obtain ⟨k, fr, T, hk, hfg, rfl, rfl, rfl, HN, HS, HB⟩ := hrel
    have hfr : fr ≤ 7 := by omega
    obtain ⟨F, hF⟩ : ∃ F : Int, (fr : Int) = F := ⟨_, rfl⟩
    have hF0 : 0 ≤ F := by omega
    have hF7 : F ≤ 7 := by omega
    rw [hF]
    have HF := Lib.hid hF
    clear hF
    have Hfg := Lib.hid hfg
    clear hfg
    obtain ⟨n, hn⟩ : ∃ n, rl isDig (s.data.toList.drop k) = n := ⟨_, rfl⟩
    have hkn := rl_drop_le isDig s k hk
    rw [hn] at hkn
    have Hn := Lib.hid hn
    clear hn
    have hcT := capn_le T
    obtain ⟨C, hC⟩ : ∃ C, capn T = C := ⟨_, rfl⟩
    rw [hC] at hcT ⊢
    have HC := Lib.hid hC
    clear hC
    by_cases hz : n = 0
    · have hzi : ((n : Int) == 0) = true := beq_iff_eq.2 (by omega)
      have Hz := Lib.hid hz
      clear hz
      go_wp2_with (go_at_call 36; (with_reducible refine (run_dig _ _ (by omega) _ (by omega) (by omega)).mono ?_); rintro e w' ⟨rfl, rfl⟩; rw [Int.toNat_natCast, Hn.out])
      (try rw [Exit.noGoto_ret])
      go_ret2
      have h1 := HN.out
      have h2 := HS.out
      rw [sp_zero (Hn.out.trans Hz.out)] at h1 h2
      refine ⟨?_, HB.out⟩
      rw [← h1, ← h2, ← HC.out]; rfl
    · have hzi : ((n : Int) == 0) = false := beq_eq_false_iff_ne.2 (by omega)
      have Hz := Lib.hid hz
      clear hz
      obtain ⟨d, hd⟩ : ∃ d, k + n = d := ⟨_, rfl⟩
      have hdi : ((k : Int) + (n : Int)) = (d : Int) := by omega
      have hds : d ≤ s.size := by omega
      have hkd : k ≤ d := by omega
      have Hd := Lib.hid hd
      have Hdi := Lib.hid hdi
      clear hd hdi
      obtain ⟨m, hm⟩ : ∃ m, rl isLow (s.data.toList.drop d) = m := ⟨_, rfl⟩
      have hdm := rl_drop_le isLow s d hds
      rw [hm] at hdm
      have Hm := Lib.hid hm
      clear hm
      go_wp2_with (first
        | (go_at_call 21; refine (lex_units _).mono ?_; rintro e w2 ⟨rfl, rfl⟩)
        | (go_at_call 36; (with_reducible refine (run_dig _ _ (by omega) _ (by omega) (by omega)).mono ?_); rintro e w' ⟨rfl, rfl⟩; rw [Int.toNat_natCast, Hn.out])
        | (go_at_call 36; (with_reducible refine (run_low _ _ (by omega) _ (by omega) (by omega)).mono ?_); rintro e w' ⟨rfl, rfl⟩; rw [show ((k : Int) + (n : Int)).toNat = d by have := Hd.out; omega, Hm.out]))
      have HB1 := Lib.hid (HB.out.alloc (B := w.heap.size) HB.out.size (unitsObj 55))
      have HU1 := Lib.hid (UnitsAt.new wr 55)
      obtain ⟨wo, hwo⟩ : ∃ wo : World, wr.alloc (unitsObj 55) = wo := ⟨_, rfl⟩
      have hBo : wr.heap.size < wo.heap.size := by rw [← hwo]; simp
      obtain ⟨B, hBB⟩ : ∃ B, wr.heap.size = B := ⟨_, rfl⟩
      rw [hwo] at HB1 HU1 ⊢
      rw [hBB] at HU1 hBo ⊢
      clear hwo
      obtain ⟨g1, rfl⟩ : ∃ g1, g1 = gk := ⟨_, rfl⟩
      go_loopg [4, 5, 6, 9, 10, 25] 7 (fun h v4 v5 v6 _ _ v25 wx => ∃ i : Nat, i + h = 7 ∧ v25 = .int .i64 i ∧ v4 = .int .i64 k ∧ v5 = .int .i64 F ∧ v6 = .int .i64 C ∧ Hid (∀ j, j < i → fr ≤ j → ¬ (uAt (s.data.toList.drop d) = some j ∧ ulen j = m)) ∧ Hid (UnitsAt wx B) ∧ Hid (Below w.heap.size w wx) ∧ Hid (B < wx.heap.size))
      case atStart => exact ⟨0, by omega, rfl, rfl, rfl, rfl, fun j h _ => by omega, HU1, HB1, hBo⟩
      case round =>
        clear HU1 HB1 hBo HB
        obtain ⟨i, hih, rfl, rfl, rfl, rfl, HM, HU, HB, HBx⟩ := hrel
        have hBx : B < wr.heap.size := HBx.out
        by_cases hi7 : i < 7
        · obtain ⟨h1, rfl⟩ : ∃ h1, gk = h1 + 1 := ⟨gk - 1, by omega⟩
          have hi6 : i ≤ 6 := by omega
          have hcases : i = 0 ∨ i = 1 ∨ i = 2 ∨ i = 3 ∨ i = 4 ∨ i = 5 ∨ i = 6 := by omega
          have hkm : k + (n + m) ≤ s.size := by have := Hd.out; omega
          have hs1 : IntKind.i64.wrap ((k : Int) + (n : Int)) = (k : Int) + (n : Int) := IntWalk.i64_in _ ⟨by omega, by omega⟩
          have hs2 : IntKind.i64.wrap ((k : Int) + ((n : Int) + (m : Int))) = (k : Int) + ((n : Int) + (m : Int)) := IntWalk.i64_in _ ⟨by omega, by omega⟩
          have hs3 : 0 ≤ (k : Int) + (n : Int) := by omega
          have hs4 : (k : Int) + (n : Int) ≤ (k : Int) + ((n : Int) + (m : Int)) := by omega
          have hs5 : (k : Int) + ((n : Int) + (m : Int)) ≤ (s.size : Int) := by omega
          have hs6 : ((k : Int) + (n : Int)).toNat = k + n := by omega
          have hs7 : ((k : Int) + ((n : Int) + (m : Int))).toNat = k + (n + m) := by omega
          have hx : (s.extract (k + n) (k + (n + m))).toList = (s.data.toList.drop d).take m := by
            rw [← Nat.add_assoc, extract_take, Hd.out]
          have Hx := Lib.hid hx
          have hds' := digits_of_run s k n Hn.out
          have hsz : (s.extract k (k + n)).size ≤ 140737488355328 := by rw [ByteArray.size_extract]; omega
          have Hds := Lib.hid hds'
          have Hsz := Lib.hid hsz
          have Hih := Lib.hid hih
          clear hx hds' hsz hi6 hi7 hih
          rcases hcases with rfl | rfl | rfl | rfl | rfl | rfl | rfl
          · have c0 : wr.cell? ⟨B, 0, none⟩ = some (.string ⟨#[121]⟩) := HU.out.cell 0 _ rfl
            have c1 : wr.cell? ⟨B, 1, none⟩ = some (.int .i64 31536000000) := HU.out.cell 1 _ rfl
            by_cases hfi : F ≤ 0
            · cases heq : ((s.extract (k + n) (k + (n + m))).toList == [121])
              · go_wp2
                go_quiet (fail)
                go_wp2
                go_roundg h1
                case measure => omega
                case rel => exact ⟨1, by have := Hih.out; omega, by go_num, rfl, rfl, rfl, no_more HM.out (fun hf => fun hh => by have h2 := (match_iff _ 0 (by omega)).2 ⟨hh.1, hh.2.trans Hm.out.symm⟩; rw [Hm.out, ← Hx.out] at h2; rw [h2] at heq; simp [uname] at heq), UnitsAt.alloc HU.out HBx.out _ _, below_drewN_ (HB.out.alloc HB.out.size _) _, lt_alloc_drewN HBx.out _ _⟩
              · obtain ⟨X, hX⟩ : ∃ X, capn (val (s.extract k (k + n)).data.toList * (31536000000 : Int).toNat) = X := ⟨_, rfl⟩
                have ht := fun wx => lex_times (s.extract k (k + n)) 31536000000 wx Hsz.out Hds.out (by omega) (by omega)
                rw [hX] at ht
                have hX1 : X ≤ 1099511627777 := by rw [← hX]; exact capn_le _
                have Ht := Lib.hid ht
                have HX := Lib.hid hX
                clear ht hX
                go_wp2
                go_quiet (fail)
                go_wp2
                go_quiet ((go_at_call 39; exact quiet_add_left (Ht.out _)))
                go_wp2
                have hmt : (s.data.toList.drop d).take m = uname 0 := by rw [← Hx.out]; exact beq_iff_eq.1 heq
                have hfrc : fr ≤ 0 := by have := HF.out; omega
                have hst := span_step Hn.out Hz.out Hd.out Hm.out hfrc (by omega) hmt HN.out HS.out
                go_roundg 6
                case measure => have := Hfg.out; omega
                case rel => exact ⟨k + (n + m), 1, T + val (s.extract k (k + n)).data.toList * ums 0, hkm, by omega, by go_num, by go_num, by rw [← capn_add, HC.out, ← HX.out]; rfl, hst.1, hst.2, below_drewN_ (HB.out.alloc HB.out.size _) _⟩
            · have hfi' : decide (F ≤ 0) = false := decide_eq_false hfi
              go_wp2
              go_quiet (fail)
              go_wp2
              go_roundg h1
              case measure => omega
              case rel => exact ⟨1, by have := Hih.out; omega, by go_num, rfl, rfl, rfl, no_more HM.out (fun hf => by have := HF.out; omega), UnitsAt.alloc HU.out HBx.out _ _, below_drewN_ (HB.out.alloc HB.out.size _) _, lt_alloc_drewN HBx.out _ _⟩
          · have c0 : wr.cell? ⟨B, 2, none⟩ = some (.string ⟨#[119]⟩) := HU.out.cell 2 _ rfl
            have c1 : wr.cell? ⟨B, 3, none⟩ = some (.int .i64 604800000) := HU.out.cell 3 _ rfl
            by_cases hfi : F ≤ 1
            · cases heq : ((s.extract (k + n) (k + (n + m))).toList == [119])
              · go_wp2
                go_quiet (fail)
                go_wp2
                go_roundg h1
                case measure => omega
                case rel => exact ⟨2, by have := Hih.out; omega, by go_num, rfl, rfl, rfl, no_more HM.out (fun hf => fun hh => by have h2 := (match_iff _ 1 (by omega)).2 ⟨hh.1, hh.2.trans Hm.out.symm⟩; rw [Hm.out, ← Hx.out] at h2; rw [h2] at heq; simp [uname] at heq), UnitsAt.alloc HU.out HBx.out _ _, below_drewN_ (HB.out.alloc HB.out.size _) _, lt_alloc_drewN HBx.out _ _⟩
              · obtain ⟨X, hX⟩ : ∃ X, capn (val (s.extract k (k + n)).data.toList * (604800000 : Int).toNat) = X := ⟨_, rfl⟩
                have ht := fun wx => lex_times (s.extract k (k + n)) 604800000 wx Hsz.out Hds.out (by omega) (by omega)
                rw [hX] at ht
                have hX1 : X ≤ 1099511627777 := by rw [← hX]; exact capn_le _
                have Ht := Lib.hid ht
                have HX := Lib.hid hX
                clear ht hX
                go_wp2
                go_quiet (fail)
                go_wp2
                go_quiet ((go_at_call 39; exact quiet_add_left (Ht.out _)))
                go_wp2
                have hmt : (s.data.toList.drop d).take m = uname 1 := by rw [← Hx.out]; exact beq_iff_eq.1 heq
                have hfrc : fr ≤ 1 := by have := HF.out; omega
                have hst := span_step Hn.out Hz.out Hd.out Hm.out hfrc (by omega) hmt HN.out HS.out
                go_roundg 5
                case measure => have := Hfg.out; omega
                case rel => exact ⟨k + (n + m), 2, T + val (s.extract k (k + n)).data.toList * ums 1, hkm, by omega, by go_num, by go_num, by rw [← capn_add, HC.out, ← HX.out]; rfl, hst.1, hst.2, below_drewN_ (HB.out.alloc HB.out.size _) _⟩
            · have hfi' : decide (F ≤ 1) = false := decide_eq_false hfi
              go_wp2
              go_quiet (fail)
              go_wp2
              go_roundg h1
              case measure => omega
              case rel => exact ⟨2, by have := Hih.out; omega, by go_num, rfl, rfl, rfl, no_more HM.out (fun hf => by have := HF.out; omega), UnitsAt.alloc HU.out HBx.out _ _, below_drewN_ (HB.out.alloc HB.out.size _) _, lt_alloc_drewN HBx.out _ _⟩
          · have c0 : wr.cell? ⟨B, 4, none⟩ = some (.string ⟨#[100]⟩) := HU.out.cell 4 _ rfl
            have c1 : wr.cell? ⟨B, 5, none⟩ = some (.int .i64 86400000) := HU.out.cell 5 _ rfl
            by_cases hfi : F ≤ 2
            · cases heq : ((s.extract (k + n) (k + (n + m))).toList == [100])
              · go_wp2
                go_quiet (fail)
                go_wp2
                go_roundg h1
                case measure => omega
                case rel => exact ⟨3, by have := Hih.out; omega, by go_num, rfl, rfl, rfl, no_more HM.out (fun hf => fun hh => by have h2 := (match_iff _ 2 (by omega)).2 ⟨hh.1, hh.2.trans Hm.out.symm⟩; rw [Hm.out, ← Hx.out] at h2; rw [h2] at heq; simp [uname] at heq), UnitsAt.alloc HU.out HBx.out _ _, below_drewN_ (HB.out.alloc HB.out.size _) _, lt_alloc_drewN HBx.out _ _⟩
              · obtain ⟨X, hX⟩ : ∃ X, capn (val (s.extract k (k + n)).data.toList * (86400000 : Int).toNat) = X := ⟨_, rfl⟩
                have ht := fun wx => lex_times (s.extract k (k + n)) 86400000 wx Hsz.out Hds.out (by omega) (by omega)
                rw [hX] at ht
                have hX1 : X ≤ 1099511627777 := by rw [← hX]; exact capn_le _
                have Ht := Lib.hid ht
                have HX := Lib.hid hX
                clear ht hX
                go_wp2
                go_quiet (fail)
                go_wp2
                go_quiet ((go_at_call 39; exact quiet_add_left (Ht.out _)))
                go_wp2
                have hmt : (s.data.toList.drop d).take m = uname 2 := by rw [← Hx.out]; exact beq_iff_eq.1 heq
                have hfrc : fr ≤ 2 := by have := HF.out; omega
                have hst := span_step Hn.out Hz.out Hd.out Hm.out hfrc (by omega) hmt HN.out HS.out
                go_roundg 4
                case measure => have := Hfg.out; omega
                case rel => exact ⟨k + (n + m), 3, T + val (s.extract k (k + n)).data.toList * ums 2, hkm, by omega, by go_num, by go_num, by rw [← capn_add, HC.out, ← HX.out]; rfl, hst.1, hst.2, below_drewN_ (HB.out.alloc HB.out.size _) _⟩
            · have hfi' : decide (F ≤ 2) = false := decide_eq_false hfi
              go_wp2
              go_quiet (fail)
              go_wp2
              go_roundg h1
              case measure => omega
              case rel => exact ⟨3, by have := Hih.out; omega, by go_num, rfl, rfl, rfl, no_more HM.out (fun hf => by have := HF.out; omega), UnitsAt.alloc HU.out HBx.out _ _, below_drewN_ (HB.out.alloc HB.out.size _) _, lt_alloc_drewN HBx.out _ _⟩
          · have c0 : wr.cell? ⟨B, 6, none⟩ = some (.string ⟨#[104]⟩) := HU.out.cell 6 _ rfl
            have c1 : wr.cell? ⟨B, 7, none⟩ = some (.int .i64 3600000) := HU.out.cell 7 _ rfl
            by_cases hfi : F ≤ 3
            · cases heq : ((s.extract (k + n) (k + (n + m))).toList == [104])
              · go_wp2
                go_quiet (fail)
                go_wp2
                go_roundg h1
                case measure => omega
                case rel => exact ⟨4, by have := Hih.out; omega, by go_num, rfl, rfl, rfl, no_more HM.out (fun hf => fun hh => by have h2 := (match_iff _ 3 (by omega)).2 ⟨hh.1, hh.2.trans Hm.out.symm⟩; rw [Hm.out, ← Hx.out] at h2; rw [h2] at heq; simp [uname] at heq), UnitsAt.alloc HU.out HBx.out _ _, below_drewN_ (HB.out.alloc HB.out.size _) _, lt_alloc_drewN HBx.out _ _⟩
              · obtain ⟨X, hX⟩ : ∃ X, capn (val (s.extract k (k + n)).data.toList * (3600000 : Int).toNat) = X := ⟨_, rfl⟩
                have ht := fun wx => lex_times (s.extract k (k + n)) 3600000 wx Hsz.out Hds.out (by omega) (by omega)
                rw [hX] at ht
                have hX1 : X ≤ 1099511627777 := by rw [← hX]; exact capn_le _
                have Ht := Lib.hid ht
                have HX := Lib.hid hX
                clear ht hX
                go_wp2
                go_quiet (fail)
                go_wp2
                go_quiet ((go_at_call 39; exact quiet_add_left (Ht.out _)))
                go_wp2
                have hmt : (s.data.toList.drop d).take m = uname 3 := by rw [← Hx.out]; exact beq_iff_eq.1 heq
                have hfrc : fr ≤ 3 := by have := HF.out; omega
                have hst := span_step Hn.out Hz.out Hd.out Hm.out hfrc (by omega) hmt HN.out HS.out
                go_roundg 3
                case measure => have := Hfg.out; omega
                case rel => exact ⟨k + (n + m), 4, T + val (s.extract k (k + n)).data.toList * ums 3, hkm, by omega, by go_num, by go_num, by rw [← capn_add, HC.out, ← HX.out]; rfl, hst.1, hst.2, below_drewN_ (HB.out.alloc HB.out.size _) _⟩
            · have hfi' : decide (F ≤ 3) = false := decide_eq_false hfi
              go_wp2
              go_quiet (fail)
              go_wp2
              go_roundg h1
              case measure => omega
              case rel => exact ⟨4, by have := Hih.out; omega, by go_num, rfl, rfl, rfl, no_more HM.out (fun hf => by have := HF.out; omega), UnitsAt.alloc HU.out HBx.out _ _, below_drewN_ (HB.out.alloc HB.out.size _) _, lt_alloc_drewN HBx.out _ _⟩
          · have c0 : wr.cell? ⟨B, 8, none⟩ = some (.string ⟨#[109]⟩) := HU.out.cell 8 _ rfl
            have c1 : wr.cell? ⟨B, 9, none⟩ = some (.int .i64 60000) := HU.out.cell 9 _ rfl
            by_cases hfi : F ≤ 4
            · cases heq : ((s.extract (k + n) (k + (n + m))).toList == [109])
              · go_wp2
                go_quiet (fail)
                go_wp2
                go_roundg h1
                case measure => omega
                case rel => exact ⟨5, by have := Hih.out; omega, by go_num, rfl, rfl, rfl, no_more HM.out (fun hf => fun hh => by have h2 := (match_iff _ 4 (by omega)).2 ⟨hh.1, hh.2.trans Hm.out.symm⟩; rw [Hm.out, ← Hx.out] at h2; rw [h2] at heq; simp [uname] at heq), UnitsAt.alloc HU.out HBx.out _ _, below_drewN_ (HB.out.alloc HB.out.size _) _, lt_alloc_drewN HBx.out _ _⟩
              · obtain ⟨X, hX⟩ : ∃ X, capn (val (s.extract k (k + n)).data.toList * (60000 : Int).toNat) = X := ⟨_, rfl⟩
                have ht := fun wx => lex_times (s.extract k (k + n)) 60000 wx Hsz.out Hds.out (by omega) (by omega)
                rw [hX] at ht
                have hX1 : X ≤ 1099511627777 := by rw [← hX]; exact capn_le _
                have Ht := Lib.hid ht
                have HX := Lib.hid hX
                clear ht hX
                go_wp2
                go_quiet (fail)
                go_wp2
                go_quiet ((go_at_call 39; exact quiet_add_left (Ht.out _)))
                go_wp2
                have hmt : (s.data.toList.drop d).take m = uname 4 := by rw [← Hx.out]; exact beq_iff_eq.1 heq
                have hfrc : fr ≤ 4 := by have := HF.out; omega
                have hst := span_step Hn.out Hz.out Hd.out Hm.out hfrc (by omega) hmt HN.out HS.out
                go_roundg 2
                case measure => have := Hfg.out; omega
                case rel => exact ⟨k + (n + m), 5, T + val (s.extract k (k + n)).data.toList * ums 4, hkm, by omega, by go_num, by go_num, by rw [← capn_add, HC.out, ← HX.out]; rfl, hst.1, hst.2, below_drewN_ (HB.out.alloc HB.out.size _) _⟩
            · have hfi' : decide (F ≤ 4) = false := decide_eq_false hfi
              go_wp2
              go_quiet (fail)
              go_wp2
              go_roundg h1
              case measure => omega
              case rel => exact ⟨5, by have := Hih.out; omega, by go_num, rfl, rfl, rfl, no_more HM.out (fun hf => by have := HF.out; omega), UnitsAt.alloc HU.out HBx.out _ _, below_drewN_ (HB.out.alloc HB.out.size _) _, lt_alloc_drewN HBx.out _ _⟩
          · have c0 : wr.cell? ⟨B, 10, none⟩ = some (.string ⟨#[115]⟩) := HU.out.cell 10 _ rfl
            have c1 : wr.cell? ⟨B, 11, none⟩ = some (.int .i64 1000) := HU.out.cell 11 _ rfl
            by_cases hfi : F ≤ 5
            · cases heq : ((s.extract (k + n) (k + (n + m))).toList == [115])
              · go_wp2
                go_quiet (fail)
                go_wp2
                go_roundg h1
                case measure => omega
                case rel => exact ⟨6, by have := Hih.out; omega, by go_num, rfl, rfl, rfl, no_more HM.out (fun hf => fun hh => by have h2 := (match_iff _ 5 (by omega)).2 ⟨hh.1, hh.2.trans Hm.out.symm⟩; rw [Hm.out, ← Hx.out] at h2; rw [h2] at heq; simp [uname] at heq), UnitsAt.alloc HU.out HBx.out _ _, below_drewN_ (HB.out.alloc HB.out.size _) _, lt_alloc_drewN HBx.out _ _⟩
              · obtain ⟨X, hX⟩ : ∃ X, capn (val (s.extract k (k + n)).data.toList * (1000 : Int).toNat) = X := ⟨_, rfl⟩
                have ht := fun wx => lex_times (s.extract k (k + n)) 1000 wx Hsz.out Hds.out (by omega) (by omega)
                rw [hX] at ht
                have hX1 : X ≤ 1099511627777 := by rw [← hX]; exact capn_le _
                have Ht := Lib.hid ht
                have HX := Lib.hid hX
                clear ht hX
                go_wp2
                go_quiet (fail)
                go_wp2
                go_quiet ((go_at_call 39; exact quiet_add_left (Ht.out _)))
                go_wp2
                have hmt : (s.data.toList.drop d).take m = uname 5 := by rw [← Hx.out]; exact beq_iff_eq.1 heq
                have hfrc : fr ≤ 5 := by have := HF.out; omega
                have hst := span_step Hn.out Hz.out Hd.out Hm.out hfrc (by omega) hmt HN.out HS.out
                go_roundg 1
                case measure => have := Hfg.out; omega
                case rel => exact ⟨k + (n + m), 6, T + val (s.extract k (k + n)).data.toList * ums 5, hkm, by omega, by go_num, by go_num, by rw [← capn_add, HC.out, ← HX.out]; rfl, hst.1, hst.2, below_drewN_ (HB.out.alloc HB.out.size _) _⟩
            · have hfi' : decide (F ≤ 5) = false := decide_eq_false hfi
              go_wp2
              go_quiet (fail)
              go_wp2
              go_roundg h1
              case measure => omega
              case rel => exact ⟨6, by have := Hih.out; omega, by go_num, rfl, rfl, rfl, no_more HM.out (fun hf => by have := HF.out; omega), UnitsAt.alloc HU.out HBx.out _ _, below_drewN_ (HB.out.alloc HB.out.size _) _, lt_alloc_drewN HBx.out _ _⟩
          · have c0 : wr.cell? ⟨B, 12, none⟩ = some (.string ⟨#[109, 115]⟩) := HU.out.cell 12 _ rfl
            have c1 : wr.cell? ⟨B, 13, none⟩ = some (.int .i64 1) := HU.out.cell 13 _ rfl
            by_cases hfi : F ≤ 6
            · cases heq : ((s.extract (k + n) (k + (n + m))).toList == [109, 115])
              · go_wp2
                go_quiet (fail)
                go_wp2
                go_roundg h1
                case measure => omega
                case rel => exact ⟨7, by have := Hih.out; omega, by go_num, rfl, rfl, rfl, no_more HM.out (fun hf => fun hh => by have h2 := (match_iff _ 6 (by omega)).2 ⟨hh.1, hh.2.trans Hm.out.symm⟩; rw [Hm.out, ← Hx.out] at h2; rw [h2] at heq; simp [uname] at heq), UnitsAt.alloc HU.out HBx.out _ _, below_drewN_ (HB.out.alloc HB.out.size _) _, lt_alloc_drewN HBx.out _ _⟩
              · obtain ⟨X, hX⟩ : ∃ X, capn (val (s.extract k (k + n)).data.toList * (1 : Int).toNat) = X := ⟨_, rfl⟩
                have ht := fun wx => lex_times (s.extract k (k + n)) 1 wx Hsz.out Hds.out (by omega) (by omega)
                rw [hX] at ht
                have hX1 : X ≤ 1099511627777 := by rw [← hX]; exact capn_le _
                have Ht := Lib.hid ht
                have HX := Lib.hid hX
                clear ht hX
                go_wp2
                go_quiet (fail)
                go_wp2
                go_quiet ((go_at_call 39; exact quiet_add_left (Ht.out _)))
                go_wp2
                have hmt : (s.data.toList.drop d).take m = uname 6 := by rw [← Hx.out]; exact beq_iff_eq.1 heq
                have hfrc : fr ≤ 6 := by have := HF.out; omega
                have hst := span_step Hn.out Hz.out Hd.out Hm.out hfrc (by omega) hmt HN.out HS.out
                go_roundg 0
                case measure => have := Hfg.out; omega
                case rel => exact ⟨k + (n + m), 7, T + val (s.extract k (k + n)).data.toList * ums 6, hkm, by omega, by go_num, by go_num, by rw [← capn_add, HC.out, ← HX.out]; rfl, hst.1, hst.2, below_drewN_ (HB.out.alloc HB.out.size _) _⟩
            · have hfi' : decide (F ≤ 6) = false := decide_eq_false hfi
              go_wp2
              go_quiet (fail)
              go_wp2
              go_roundg h1
              case measure => omega
              case rel => exact ⟨7, by have := Hih.out; omega, by go_num, rfl, rfl, rfl, no_more HM.out (fun hf => by have := HF.out; omega), UnitsAt.alloc HU.out HBx.out _ _, below_drewN_ (HB.out.alloc HB.out.size _) _, lt_alloc_drewN HBx.out _ _⟩
        · obtain rfl : i = 7 := by omega
          go_wp2
          (try rw [Exit.noGoto_ret])
          go_ret2
          have h1 := HN.out
          have h2 := HS.out
          rw [sp_none (fun j hj hfj hxj => by
            have hlen := hxj rfl
            rw [List.drop_drop, Hn.out, Hd.out] at hj
            rw [List.drop_drop, Hn.out, Hd.out, Hm.out] at hlen
            exact HM.out j (by have := uAt_le _ _ hj; omega) hfj ⟨hj, hlen⟩)] at h1 h2
          refine ⟨?_, HB.out⟩
          rw [← h1, ← h2, ← HC.out]; rfl
end Go.Proofs.YtmfnkilohicapaaGreatDoor
