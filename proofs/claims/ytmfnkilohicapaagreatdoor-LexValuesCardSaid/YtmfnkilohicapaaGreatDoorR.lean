/- Package lex's 'one' where a letter or a quote stands ahead. -/
import Derived.Test.YtmfnkilohicapaaGreatDoorP
namespace Go.Proofs.YtmfnkilohicapaaGreatDoor
open Go.RowKit

theorem rl_size (p : UInt8 → Bool) (s : ByteArray) : rl p s.data.toList ≤ s.size := by
  have := rl_drop_le p s 0 (by omega)
  rw [List.drop_zero] at this; omega
theorem cell_only (w : World) (cs : Array Value) (t : TypeId) (j : Nat) (v : Value) (h : cs[j]? = some v) : (w.alloc (.cells cs t)).cell? ⟨w.heap.size, j, none⟩ = some v := by
  rw [World.cell?_alloc_new, h]
set_option maxHeartbeats 8000000 in
set_option maxRecDepth 100000 in
theorem lex_one_letter (s : ByteArray) (h1 : 0 < s.size) (hs : s.size ≤ 140737488351232) (hc : isLet s[0] = true) (w : World) :
    Calls Tryz.prog 26 #[.string s] w fun e w' => e = .returned (.tuple #[tok 1 (s.extract 0 (rl isIdc s.data.toList)), .int .i64 (rl isIdc s.data.toList)]) ∧ Below w.heap.size w w' := by
  have h1' : (0 : Int) < (s.size : Int) := by omega
  have hrun := fun wx => run_idc s 0 (by omega) wx (by omega) (by omega)
  rw [show (0 : Int).toNat = 0 from rfl, List.drop_zero] at hrun
  have hE := rl_size isIdc s
  obtain ⟨E, hEE⟩ : ∃ E, rl isIdc s.data.toList = E := ⟨_, rfl⟩
  rw [hEE] at hrun hE ⊢
  obtain ⟨c, hc0⟩ : ∃ c, s[0] = c := ⟨_, rfl⟩
  rw [hc0] at hc
  have Hc := Lib.hid hc
  have Hrun := Lib.hid hrun
  clear hc hrun hEE
  go_enter Tryz.func26, Tryz.ntmps26
  go_wp2_with (first
    | (go_at_call 44; refine (lex_letter _ _).mono ?_; rintro e w' ⟨rfl, rfl⟩; rw [Hc.out])
    | (go_at_call 36; refine (Hrun.out _).mono ?_; rintro e w' ⟨rfl, rfl⟩))
  refine bodyPost_ret (v := .tuple #[tok 1 (s.extract 0 E), .int .i64 E]) ?_ rfl ⟨rfl, ?_⟩
  · simp [results, Tryz.results26, go_sem, tok]
  · exact (Below.refl _ _).alloc (Nat.le_refl _) _
def QuoteAnd (s : ByteArray) (e : Ending) : Prop := ∃ (t : ByteArray) (k : Int), 0 ≤ k ∧ k ≤ s.size ∧ e = .returned (.tuple #[tok 4 t, .int .i64 k])
set_option maxHeartbeats 8000000 in
set_option maxRecDepth 100000 in
theorem lex_one_quote (s : ByteArray) (h1 : 0 < s.size) (hs : s.size ≤ 140737488351232) (hc : (s[0].toNat : Int) = 34 ∨ (s[0].toNat : Int) = 39) (w : World) (hT : Laid w) :
    Calls Tryz.prog 26 #[.string s] w fun e w' => QuoteAnd s e ∧ Below w.heap.size w w' := by
  have h1' : (0 : Int) < (s.size : Int) := by omega
  obtain ⟨c, hc0⟩ : ∃ c, s[0] = c := ⟨_, rfl⟩
  rw [hc0] at hc
  have hl : isLet c = false := by
    rcases hc with h | h <;> exact (Bool.not_eq_true _).mp (fun h2 => by rw [isLet_iff] at h2; omega)
  have hd : isDig c = false := by
    rcases hc with h | h <;> exact (Bool.not_eq_true _).mp (fun h2 => by rw [isDig_iff] at h2; omega)
  have hp : ((c.toNat : Int) == 46) = false := beq_eq_false_iff_ne.2 (by omega)
  have hq : ((c.toNat : Int) == 34) = false → ((c.toNat : Int) == 39) = true := fun h => by
    rcases hc with h2 | h2
    · rw [h2] at h; cases h
    · exact beq_iff_eq.2 h2
  have Hl := Lib.hid hl
  have Hd := Lib.hid hd
  have HT := Lib.hid hT
  clear hl hd hT hc
  cases hq4 : ((c.toNat : Int) == 34)
  all_goals
    (try have hq9 := hq hq4)
    go_enter Tryz.func26, Tryz.ntmps26
    have hB : Below w.heap.size w (w.alloc (.cells #[.int .i64 0, .string ⟨#[]⟩, .int .i64 0] 64)) := (Below.refl _ _).alloc (Nat.le_refl _) _
    have c0 := cell_only w #[.int .i64 0, .string ⟨#[]⟩, .int .i64 0] 64 0 _ rfl
    have c1 := cell_only w #[.int .i64 0, .string ⟨#[]⟩, .int .i64 0] 64 1 _ rfl
    have c2 := cell_only w #[.int .i64 0, .string ⟨#[]⟩, .int .i64 0] 64 2 _ rfl
    have fz := frozen_new w 64 #[.int .i64 0, .string ⟨#[]⟩, .int .i64 0]
    have hlw0 : w.heap.size < (w.alloc (.cells #[.int .i64 0, .string ⟨#[]⟩, .int .i64 0] 64)).heap.size := by rw [World.size_alloc]; omega
    have HB := Lib.hid hB
    clear hB
    go_upto_region 2 with fail
    obtain ⟨wq, hwq⟩ : ∃ wq, w.alloc (.cells #[.int .i64 0, .string ⟨#[]⟩, .int .i64 0] 64) = wq := ⟨_, rfl⟩
    rw [hwq] at HB c0 c1 c2 fz hlw0 ⊢
    clear hwq
    have HTq := Lib.hid (HT.out.below HB.out)
    go_upto_region 15 with (first
      | (go_at_call 44; refine (lex_letter _ _).mono ?_; rintro e w' ⟨rfl, rfl⟩; rw [Hl.out])
      | (go_at_call 37; refine (lex_digit _ _).mono ?_; rintro e w' ⟨rfl, rfl⟩; rw [Hd.out])
      | (go_at_call 47; refine (lex_quoted s (by omega) hs _ HTq.out).mono ?_; rintro e w1 ⟨⟨t, k, hk0, hk1, rfl⟩, hb1⟩))
    have c0' := (hb1.cell (p := ⟨w.heap.size, 0, none⟩) hlw0).trans c0
    have c1' := (hb1.cell (p := ⟨w.heap.size, 1, none⟩) hlw0).trans c1
    have c2' := (hb1.cell (p := ⟨w.heap.size, 2, none⟩) hlw0).trans c2
    have f0 := (hb1.frozen (p := ⟨w.heap.size, 0, none⟩) hlw0).trans (fz 0)
    have f1 := (hb1.frozen (p := ⟨w.heap.size, 1, none⟩) hlw0).trans (fz 1)
    have f2 := (hb1.frozen (p := ⟨w.heap.size, 2, none⟩) hlw0).trans (fz 2)
    have HBW := Lib.hid (HB.out.trans (hb1.mono HB.out.size))
    have hlw : w.heap.size < w1.heap.size := Nat.lt_of_lt_of_le hlw0 hb1.size
    clear c0 c1 c2 fz hb1
    go_wp2
    refine bodyPost_ret (v := .tuple #[tok 4 t, .int .i64 k]) ?_ rfl ⟨⟨t, k, hk0, hk1, rfl⟩, ?_⟩
    · simp [results, Tryz.results26, go_sem, tok, c0', c1', c2']
    · exact ((HBW.out.setCell (p := ⟨w.heap.size, 0, none⟩) (Nat.le_refl _) _).setCell (p := ⟨w.heap.size, 1, none⟩) (Nat.le_refl _) _).setCell (p := ⟨w.heap.size, 2, none⟩) (Nat.le_refl _) _
end Go.Proofs.YtmfnkilohicapaaGreatDoor

/- Is a text just one number, or just one duration? In plain words; and package lex's 'alone'. -/
namespace Go.Proofs.YtmfnkilohicapaaGreatDoor
open Go.RowKit

theorem low_of_unit (t : List UInt8) (i : Nat) (h : uAt t = some i) (hn : ∀ c, t[ulen i]? = some c → isLow c = false) : rl isLow t = ulen i := by
  have h6 := uAt_le _ _ h
  have key : ∀ a r, t = a :: r → isLow a = true → ulen i = 1 → rl isLow t = ulen i := fun a r e ha hu => by
    subst e
    rw [hu] at hn ⊢
    simp only [rl, ha, if_true]
    cases r with
    | nil => rfl
    | cons b q =>
      have := hn b rfl
      simp [rl, this]
  have one : ∀ a, t.take 1 = [a] → ∃ r, t = a :: r := fun a e => by
    cases t with
    | nil => cases e
    | cons b r => simp at e; exact ⟨r, by rw [e]⟩
  rcases (by omega : i = 0 ∨ i = 1 ∨ i = 2 ∨ i = 3 ∨ i = 4 ∨ i = 5 ∨ i = 6) with rfl | rfl | rfl | rfl | rfl | rfl | rfl
  · obtain ⟨r, e⟩ := one _ ((uAt_0 _).1 h); exact key _ r e (by decide) rfl
  · obtain ⟨r, e⟩ := one _ ((uAt_1 _).1 h); exact key _ r e (by decide) rfl
  · obtain ⟨r, e⟩ := one _ ((uAt_2 _).1 h); exact key _ r e (by decide) rfl
  · obtain ⟨r, e⟩ := one _ ((uAt_3 _).1 h); exact key _ r e (by decide) rfl
  · obtain ⟨r, e⟩ := one _ ((uAt_4 _).1 h).1; exact key _ r e (by decide) rfl
  · obtain ⟨r, e⟩ := one _ ((uAt_5 _).1 h); exact key _ r e (by decide) rfl
  · have e := (uAt_6 _).1 h
    rcases t with _ | ⟨a, _ | ⟨b, r⟩⟩
    · cases e
    · simp at e
    · simp at e
      obtain ⟨rfl, rfl⟩ := e
      have h1 : isLow 109 = true := by decide
      have h2 : isLow 115 = true := by decide
      simp only [rl, h1, h2, if_true]
      cases r with
      | nil => rfl
      | cons c q => have := hn c rfl; simp [rl, this, ulen]
theorem sp_first {lx : Bool} {fr : Nat} {l : List UInt8} (h : 0 < (sp lx fr l).1) : ∃ c, l[0]? = some c ∧ isDig c = true := by
  by_cases h0 : rl isDig l = 0
  · rw [sp_zero h0] at h; cases h
  · exact rl_get isDig l 0 (by omega)
theorem sp_whole (fr : Nat) (l : List UInt8) (h : (sp true fr l).1 = l.length) : sp false fr l = sp true fr l := by
  induction hm : 7 - fr using Nat.strongRecOn generalizing fr l with
  | _ m ih =>
    by_cases hz : rl isDig l = 0
    · rw [sp_zero hz, sp_zero hz]
    · by_cases hex : ∃ i, uAt (l.drop (rl isDig l)) = some i ∧ fr ≤ i ∧ (true = true → ulen i = rl isLow (l.drop (rl isDig l)))
      · obtain ⟨i, hi, hfi, hx⟩ := hex
        have h6 := uAt_le _ _ hi
        rw [sp_some rfl hz hi hfi hx] at h ⊢
        rw [sp_some rfl hz hi hfi (fun h => by cases h)]
        rw [ih (7 - (i + 1)) (by omega) (i + 1) _ (by rw [List.length_drop]; simp only [] at h; omega) rfl]
      · rw [sp_none (fun i hi hfi hx => hex ⟨i, hi, hfi, hx⟩)] at h
        have : l = [] := List.length_eq_zero_iff.1 (by simpa using h.symm)
        subst this
        exact absurd rfl hz
theorem sp_whole' (fr : Nat) (l : List UInt8) (h : (sp false fr l).1 = l.length) : sp true fr l = sp false fr l := by
  induction hm : 7 - fr using Nat.strongRecOn generalizing fr l with
  | _ m ih =>
    by_cases hz : rl isDig l = 0
    · rw [sp_zero hz, sp_zero hz]
    · by_cases hex : ∃ i, uAt (l.drop (rl isDig l)) = some i ∧ fr ≤ i ∧ (false = true → ulen i = rl isLow (l.drop (rl isDig l)))
      · obtain ⟨i, hi, hfi, hx⟩ := hex
        have h6 := uAt_le _ _ hi
        rw [sp_some rfl hz hi hfi hx] at h ⊢
        have hrest : (sp false (i + 1) (l.drop (rl isDig l + ulen i))).1 = (l.drop (rl isDig l + ulen i)).length := by
          rw [List.length_drop]; simp only [] at h; omega
        have hlow : rl isLow (l.drop (rl isDig l)) = ulen i := low_of_unit _ _ hi (fun c hc => by
          rw [List.getElem?_drop] at hc
          have hlt : rl isDig l + ulen i < l.length := (List.getElem?_eq_some_iff.1 hc).1
          obtain ⟨c', hc', hd⟩ := sp_first (lx := false) (fr := i + 1) (l := l.drop (rl isDig l + ulen i)) (by rw [hrest, List.length_drop]; omega)
          rw [List.getElem?_drop] at hc'
          rw [Nat.add_zero, hc] at hc'
          injection hc' with hc'
          subst hc'
          refine (Bool.not_eq_true _).mp (fun h2 => ?_)
          rw [isDig_iff] at hd
          rw [isLow_iff] at h2
          omega)
        rw [sp_some rfl hz hi hfi (fun _ => hlow.symm)]
        rw [ih (7 - (i + 1)) (by omega) (i + 1) _ hrest rfl]
      · rw [sp_none (fun i hi hfi hx => hex ⟨i, hi, hfi, hx⟩)] at h
        have : l = [] := List.length_eq_zero_iff.1 (by simpa using h.symm)
        subst this
        exact absurd rfl hz
/-- Is a text just one number (kind 2), or just one duration (kind 3)? -/
def numOk (l : List UInt8) (kind : Int) : Bool := decide (0 < l.length ∧ (if kind = 2 then numLen l = l.length else numLen l < (sp true 0 l).1 ∧ (sp true 0 l).1 = l.length))
theorem ref_ok (l : List UInt8) : (numLen l < (sp false 0 l).1 ∧ (sp false 0 l).1 = l.length) ↔ (numLen l < (sp true 0 l).1 ∧ (sp true 0 l).1 = l.length) := by
  constructor
  · rintro ⟨h1, h2⟩; rw [sp_whole' 0 l h2]; exact ⟨h1, h2⟩
  · rintro ⟨h1, h2⟩; rw [sp_whole 0 l h2]; exact ⟨h1, h2⟩
theorem num_first (l : List UInt8) (c : UInt8) (h : l[0]? = some c) (h1 : isDig c = false) (h2 : ((c.toNat : Int) == 46) = false) : numLen l = 0 ∧ ∀ lx fr, sp lx fr l = (0, 0) := by
  have hz : rl isDig l = 0 := by have := rl_drop_no isDig l 0 c h h1; rwa [List.drop_zero] at this
  have e48 : isAt l 0 48 48 = false := by
    unfold isAt; rw [h]
    simp only [Bool.or_self]
    refine beq_eq_false_iff_ne.2 (fun e => ?_)
    have : isDig c = true := (isDig_iff c).2 (by omega)
    rw [this] at h1; cases h1
  have e46 : isAt l 0 46 46 = false := by
    unfold isAt; rw [h]
    simp only [Bool.or_self]; exact h2
  refine ⟨?_, fun lx fr => sp_zero hz⟩
  unfold numLen hexLen mantLen fracLen
  rw [hz, e48, e46]
  simp
theorem numOk_first (l : List UInt8) (kind : Int) (c : UInt8) (h : l[0]? = some c) (h1 : isDig c = false) (h2 : ((c.toNat : Int) == 46) = false) : numOk l kind = false := by
  obtain ⟨e1, e2⟩ := num_first l c h h1 h2
  unfold numOk
  rw [e1, e2]
  refine decide_eq_false ?_
  rintro ⟨a, b⟩
  split at b
  · omega
  · exact absurd b.1 (Nat.lt_irrefl 0)
theorem wordAt_end (l : List UInt8) (n : Nat) (h : l.length ≤ n) : wordAt l n = false := by
  unfold wordAt; rw [List.getElem?_eq_none h]

/-- What 'one' answers, as far as 'alone' asks. -/
def OneFor (s : ByteArray) (e : Ending) : Prop := ∃ (k n : Int) (t : ByteArray), e = .returned (.tuple #[.agg #[.int .i64 k, .string t, .int .i64 0], .int .i64 n]) ∧ ∀ kind, kind = 2 ∨ kind = 3 → (n == (s.size : Int) && k == kind) = numOk s.data.toList kind
theorem lex_one_for (s : ByteArray) (h1 : 0 < s.size) (hs : s.size ≤ 140737488351232) (w : World) (hT : Laid w) :
    Calls Tryz.prog 26 #[.string s] w fun e w' => OneFor s e ∧ Below w.heap.size w w' := by
  have hlen := size_len s
  have hget := get_list s 0 h1
  have bad : ∀ kind : Int, kind = 2 ∨ kind = 3 → ∀ n k : Int, isDig s[0] = false → (((s[0]).toNat : Int) == 46) = false → (k ≠ 2 ∧ k ≠ 3) → (n == (s.size : Int) && k == kind) = numOk s.data.toList kind := by
    intro kind hk n k hd hp hkk
    rw [numOk_first _ kind _ hget hd hp]
    have : (k == kind) = false := beq_eq_false_iff_ne.2 (by omega)
    rw [this, Bool.and_false]
  by_cases hl : isLet s[0] = true
  · refine (lex_one_letter s h1 hs hl w).mono ?_
    rintro e w' ⟨rfl, hb⟩
    refine ⟨⟨1, _, _, rfl, fun kind hk => bad kind hk _ _ ?_ ?_ (by omega)⟩, hb⟩
    · exact (Bool.not_eq_true _).mp (fun h2 => by rw [isDig_iff] at h2; rw [isLet_iff] at hl; omega)
    · exact beq_eq_false_iff_ne.2 (by rw [isLet_iff] at hl; omega)
  · have hl := (Bool.not_eq_true _).mp hl
    by_cases hd : isDig s[0] = true ∨ (s[0].toNat : Int) = 46
    · refine (lex_one_num s h1 hs hl hd w).mono ?_
      rintro e w' ⟨rfl, hb⟩
      refine ⟨?_, hb⟩
      have hE := numEnd_le s
      have hm := sp_le true 0 s 0 (by omega)
      rw [List.drop_zero] at hm
      by_cases hw : wordAt s.data.toList (numEnd s.data.toList) = true
      · rw [if_pos hw]
        refine ⟨0, 0, ⟨#[]⟩, rfl, fun kind hk => ?_⟩
        have hne : numEnd s.data.toList ≠ s.data.toList.length := fun h => by
          rw [wordAt_end _ _ (by omega)] at hw; cases hw
        have : ((0 : Int) == (s.size : Int)) = false := beq_eq_false_iff_ne.2 (by omega)
        rw [this, Bool.false_and]
        symm
        unfold numOk
        refine decide_eq_false ?_
        rintro ⟨a, b⟩
        unfold numEnd at hne
        split at b <;> split at hne <;> omega
      · rw [if_neg hw]
        refine ⟨_, _, _, rfl, fun kind hk => ?_⟩
        rw [Bool.eq_iff_iff, Bool.and_eq_true, beq_iff_eq, beq_iff_eq]
        unfold numOk numEnd numKind
        rw [decide_eq_true_iff]
        rcases hk with rfl | rfl
        · rw [if_pos rfl]
          split <;> omega
        · rw [if_neg (show ¬ (3 : Int) = 2 by decide)]
          split <;> omega
    · have hd1 : isDig s[0] = false := (Bool.not_eq_true _).mp (fun h => hd (Or.inl h))
      have hd2 : ((s[0].toNat : Int) == 46) = false := beq_eq_false_iff_ne.2 (fun h => hd (Or.inr h))
      by_cases hq : (s[0].toNat : Int) = 34 ∨ (s[0].toNat : Int) = 39
      · refine (lex_one_quote s h1 hs hq w hT).mono ?_
        rintro e w' ⟨⟨t, k, hk0, hk1, rfl⟩, hb⟩
        exact ⟨⟨4, k, t, rfl, fun kind hk => bad kind hk _ _ hd1 hd2 (by omega)⟩, hb⟩
      · refine (lex_one_sign s h1 hs ?_ w).mono ?_
        · unfold plainByte
          have e1 : ((s[0].toNat : Int) == 34) = false := beq_eq_false_iff_ne.2 (fun h => hq (Or.inl h))
          have e2 : ((s[0].toNat : Int) == 39) = false := beq_eq_false_iff_ne.2 (fun h => hq (Or.inr h))
          rw [hl, hd1, hd2, e1, e2]; rfl
        · rintro e w' ⟨rfl, hb⟩
          refine ⟨?_, hb⟩
          unfold signRes
          split
          · exact ⟨5, _, _, rfl, fun kind hk => bad kind hk _ _ hd1 hd2 (by omega)⟩
          · exact ⟨0, _, _, rfl, fun kind hk => bad kind hk _ _ hd1 hd2 (by omega)⟩
set_option maxHeartbeats 1000000 in
theorem lex_alone (s : ByteArray) (kind : Int) (hk : kind = 2 ∨ kind = 3) (hs : s.size ≤ 140737488351232) (w : World) (hT : Laid w) :
    Calls Tryz.prog 12 #[.string s, .int .i64 kind] w fun e w' => e = .returned (.bool (numOk s.data.toList kind)) ∧ Below w.heap.size w w' := by
  have HT := Lib.hid hT
  clear hT
  by_cases h0 : s.size = 0
  · have hse : s = ⟨#[]⟩ := by
      apply ByteArray.ext
      exact Array.eq_empty_of_size_eq_zero h0
    subst hse
    go_enter Tryz.func12, Tryz.ntmps12
    go_wp2
    go_ret
    exact ⟨rfl, Below.refl _ _⟩
  · have h1 : 0 < s.size := by omega
    have hne : (s.toList == ([] : List UInt8)) = false := by
      rw [Lib.toList_data]
      cases h : s.data.toList with
      | nil => rw [size_len, h] at h1; cases h1
      | cons a r => rfl
    have Hk := Lib.hid hk
    clear hk
    have hone := fun wx hTx => lex_one_for s h1 hs wx hTx
    have Hone := Lib.hid hone
    clear hone
    go_enter Tryz.func12, Tryz.ntmps12
    go_upto_region 4 with (go_at_call 26; refine (Hone.out _ HT.out).mono ?_; rintro e w1 ⟨⟨k, n, t, rfl, hkn⟩, hb⟩; have Hkn := Lib.hid (hkn kind Hk.out); clear hkn)
    have c0 := cell_only w1 #[.int .i64 k, .string t, .int .i64 0] 64 0 _ rfl
    cases hnn : (n == (s.size : Int))
    · have hv : numOk s.data.toList kind = false := by rw [← Hkn.out, hnn]; rfl
      have Hv := Lib.hid hv
      clear hv
      go_wp2
      go_ret
      exact ⟨ret_bool Hv.out.symm, hb.alloc (Below.size hb) _⟩
    · have hv : (k == kind) = numOk s.data.toList kind := by rw [← Hkn.out, hnn]; rfl
      cases hkk : (k == kind)
      all_goals
        rw [hkk] at hv
        have Hv := Lib.hid hv
        clear hv
        go_wp2
        go_ret
        exact ⟨ret_bool Hv.out, hb.alloc (Below.size hb) _⟩
end Go.Proofs.YtmfnkilohicapaaGreatDoor
