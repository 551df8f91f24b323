/- strings.IndexAny at texts however long (after the shelf's own proof), strings.Cut at one byte, strings.TrimLeft at signs. -/
import Derived.Test.YtmfnkilohicapaaGreatDoorBb
import Derived.Shelf.Strings.IndexAnyAll
import Derived.Shelf.Strings.SlTrimAscii
namespace Go.Proofs.YtmfnkilohicapaaGreatDoor
open Go.RowKit

theorem infoSet : (Tryz.prog.info? 94).map (fun i => (i.zero, i.size)) = some (some (.agg (Array.replicate 256 (.bool false))), 256) := by kernel_rfl
def eE : ByteArray := ⟨#[101, 69]⟩
theorem eE_ascii : ∀ (j : Nat) b, eE.data.toList[j]? = some b → b.toNat < 128 := ascii_of_all (by decide)
set_option maxHeartbeats 8000000 in
set_option maxRecDepth 1000000 in
theorem indexAny_long (s : ByteArray) (w : World) (h8 : 8 < s.size) (hs : s.size ≤ 140737488355328) :
    Calls Tryz.prog 29 #[.string s, .string eE] w fun e w' => e = .returned (.int .i64 (Lib.indexAny s.data.toList eE.data.toList)) ∧ Below w.heap.size w w' := by
  have hM := Tryz.strings_makeASCIISet (zero_of_info infoSet).1 eE w (by decide) eE_ascii
  have hemp : eE.toList.isEmpty = false := by rw [Lib.toList_data]; rfl
  have hn1 : ((eE.size : Int) == 1) = false := by decide
  have h8z : decide ((8 : Int) < (s.size : Int)) = true := decide_eq_true (by omega)
  obtain ⟨C, hC⟩ : ∃ C, eE = C := ⟨_, rfl⟩
  rw [hC] at hM hemp hn1 ⊢
  have hsc : (storeCells ⟨w.heap.size + 1, 0, none⟩ (Lib.setCells C.data.toList).toList 0).run Tryz.prog ((w.alloc (.cells (Lib.setCells C.data.toList) 94)).alloc (.cells (Array.replicate 256 (.bool false)) 94)) = .ok () ((w.alloc (.cells (Lib.setCells C.data.toList) 94)).alloc (.cells (Lib.setCells C.data.toList) 94)) := by
    have := run_storeCells_new (P := Tryz.prog) (w.alloc (.cells (Lib.setCells C.data.toList) 94)) 94 (Array.replicate 256 (.bool false)) (Lib.setCells C.data.toList) (by rw [Lib.setCells_size]; exact (zero_of_info infoSet).2) (by rw [Lib.setCells_size, Array.size_replicate]) (Lib.setCells_one _)
    simpa using this
  have hsz := Lib.setCells_size C.data.toList
  have hcellAt : ∀ x : UInt8, ((w.alloc (.cells (Lib.setCells C.data.toList) 94)).alloc (.cells (Lib.setCells C.data.toList) 94)).cell? ⟨w.heap.size + 1, x.toNat, none⟩ = some (.bool (C.data.toList.contains x)) := fun x => by
    rw [World.cell?_alloc_at _ _ _ _ (by simp), Lib.setCells_at]
  have HC := Lib.hid hcellAt
  have z94 := (zero_of_info infoSet).1
  have hBel : Below w.heap.size w ((w.alloc (.cells (Lib.setCells C.data.toList) 94)).alloc (.cells (Lib.setCells C.data.toList) 94)) := ((Below.refl _ _).alloc (Nat.le_refl _) _).alloc (by simp) _
  have HBel := Lib.hid hBel
  clear hcellAt hC hBel
  go_enter Tryz.func29, Tryz.ntmps29
  go_wp2_with (first
    | (go_at_call 55; refine (Tryz.strings_shouldUseASCIISet _ _).mono ?_; rintro e w' ⟨rfl, hw⟩; rw [hw, h8z])
    | (go_at_call 56; refine hM.mono ?_; rintro e w' ⟨rfl, hw⟩; rw [hw]))
  clear hM hsc z94
  go_loopg [8] s.size (fun g s8 wx => ∃ i : Nat, i + g = s.size ∧ s8 = .int .i64 i ∧ wx = ((w.alloc (.cells (Lib.setCells C.data.toList) 94)).alloc (.cells (Lib.setCells C.data.toList) 94)) ∧ Lib.NoAny s.data.toList C.data.toList i)
  case atStart => exact ⟨0, by omega, rfl, rfl, Lib.NoAny.zero _ _⟩
  case round =>
    obtain ⟨i, hig, rfl, rfl, hno⟩ := hrel
    have HN := Lib.hid hno
    clear hno
    cases gk with
    | zero =>
      obtain rfl : i = s.size := by omega
      have hiz : ¬ ((s.size : Int) < (s.size : Int)) := by omega
      go_wp2
      go_ret
      exact ⟨by rw [Lib.indexAny_none (by rw [← Lib.size_eq]; exact HN.out)]; rfl, HBel.out⟩
    | succ g =>
      have hi : i < s.size := by omega
      have hiz : (i : Int) < (s.size : Int) := by omega
      obtain ⟨x, hx⟩ : ∃ x : UInt8, s[i]'hi = x := ⟨_, rfl⟩
      have hxl : s.data.toList[i]? = some x := by rw [← hx]; exact Lib.data_getElem? s i hi
      have Hx := Lib.hid hxl
      clear hxl
      have hcx := HC.out x
      cases hin : C.data.toList.contains x <;> rw [hin] at hcx
      · go_wp2_with (go_at_call 57; refine (Tryz.asciiSet_contains _ x _ _ hcx).mono ?_; rintro e w' ⟨rfl, hw⟩; rw [hw])
        go_roundg g
        case measure => omega
        case rel => exact ⟨i + 1, by omega, by first | rfl | simp, rfl, HN.out.succ Hx.out hin⟩
      · go_wp2_with (go_at_call 57; refine (Tryz.asciiSet_contains _ x _ _ hcx).mono ?_; rintro e w' ⟨rfl, hw⟩; rw [hw])
        go_ret
        exact ⟨by rw [Lib.indexAny_hit HN.out Hx.out hin]; rfl, HBel.out⟩
theorem below_iter (s : ByteArray) (pos : Nat) (w : World) : Below w.heap.size w (w.iter s pos) := (Below.refl _ _).alloc (Nat.le_refl _) _
theorem indexAny_eE (s : ByteArray) (w : World) (hs : s.size ≤ 140737488355328) (ha : ∀ (j : Nat) b, s.data.toList[j]? = some b → b.toNat < 128) :
    Calls Tryz.prog 29 #[.string s, .string eE] w fun e w' => e = .returned (.int .i64 (Lib.indexAny s.data.toList eE.data.toList)) ∧ Below w.heap.size w w' := by
  by_cases h8 : 8 < s.size
  · exact indexAny_long s w h8 hs
  · refine (Tryz.strings_IndexAny_short s eE w (by decide) (by omega) ha).mono ?_
    rintro e w' ⟨rfl, pos, rfl⟩
    exact ⟨rfl, below_iter s pos w⟩
theorem trimLeft_signs (s : ByteArray) (w : World) :
    Calls Tryz.prog 31 #[.string s, .string ⟨#[43, 45]⟩] w fun e w' => e = .returned (.string ⟨(Lib.trimLeftS s.data.toList [43, 45]).toArray⟩) ∧ Below w.heap.size w w' :=
  Any.strings_TrimLeft_laid Tryz.lays161 infoSet s ⟨#[43, 45]⟩ w (by decide) (ascii_of_all (by decide))
/-- What stands ahead of the first of these bytes, and behind it. -/
def cutAt (c : UInt8) (l : List UInt8) : List UInt8 × List UInt8 := (l.takeWhile (· != c), (l.dropWhile (· != c)).drop 1)
theorem cut_index (c : UInt8) (l : List UInt8) : (Lib.indexByte l c = -1 ∧ cutAt c l = (l, [])) ∨ ∃ k, k < l.length ∧ Lib.indexByte l c = (k : Nat) ∧ cutAt c l = (l.take k, l.drop (k + 1)) := by
  induction l with
  | nil => exact Or.inl ⟨rfl, rfl⟩
  | cons b r ih =>
    cases hb : b == c
    · have hne : (b != c) = true := by rw [bne, hb]; rfl
      have e1 : cutAt c (b :: r) = (b :: (cutAt c r).1, (cutAt c r).2) := by
        unfold cutAt
        simp only [List.takeWhile_cons, List.dropWhile_cons, hne, if_true]
      rcases ih with ⟨h1, h2⟩ | ⟨k, hk, h1, h2⟩
      · left
        refine ⟨?_, ?_⟩
        · simp [Lib.indexByte, hb, h1]
        · rw [e1, h2]
      · right
        refine ⟨k + 1, by simp; omega, ?_, ?_⟩
        · have h3 : ((k : Int) == -1) = false := beq_eq_false_iff_ne.2 (by omega)
          simp [Lib.indexByte, hb, h1, h3]
        · rw [e1, h2]; rfl
    · right
      have hne : (b != c) = false := by rw [bne, hb]; rfl
      refine ⟨0, by simp, ?_, ?_⟩
      · simp [Lib.indexByte, hb]
      · unfold cutAt
        simp [hne]
set_option maxHeartbeats 2000000 in
theorem sl_Cut (s : ByteArray) (c : UInt8) (w : World) (hs : s.size ≤ 140737488355328) :
    Calls Tryz.prog 58 #[.string s, .string ⟨#[c]⟩] w fun e w' => (∃ b, e = .returned (.tuple #[.string ⟨(cutAt c s.data.toList).1.toArray⟩, .string ⟨(cutAt c s.data.toList).2.toArray⟩, .bool b])) ∧ Below w.heap.size w w' := by
  rcases cut_index c s.data.toList with ⟨h1, h2⟩ | ⟨k, hk, h1, h2⟩
  · have hs0 : (⟨s.data.toList.toArray⟩ : ByteArray) = s := by simp
    rw [h2]
    simp only [hs0]
    have H1 := Lib.hid h1
    clear h1 h2 hs0
    go_enter Tryz.func58, Tryz.ntmps58
    go_wp2_with (go_at_call 87; refine (Tryz.stringslite_Index_one s c _).mono ?_; rintro e w' ⟨rfl, hw⟩; rw [hw, H1.out])
    go_ret3
    exact ⟨⟨_, rfl⟩, Below.refl _ _⟩
  · rw [← size_len] at hk
    have hx1 : (⟨(cutAt c s.data.toList).1.toArray⟩ : ByteArray) = s.extract 0 k := by
      rw [h2]; apply ByteArray.ext; apply Array.toList_inj.1; rw [Lib.extract_data]; simp
    have hx2 : (⟨(cutAt c s.data.toList).2.toArray⟩ : ByteArray) = s.extract (k + 1) s.size := by
      rw [h2]; apply ByteArray.ext; apply Array.toList_inj.1; rw [Lib.extract_data]; exact (List.take_of_length_le (l := s.data.toList.drop (k + 1)) (by rw [List.length_drop, ← size_len]; exact Nat.le_refl _)).symm
    rw [hx1, hx2]
    have H1 := Lib.hid h1
    have hki : (k : Int) < (s.size : Int) := by omega
    have hwk : IntKind.i64.wrap ((k : Int) + 1) = (k : Int) + 1 := IntWalk.i64_in _ ⟨by omega, by omega⟩
    have htn : ((k : Int) + 1).toNat = k + 1 := by omega
    clear h1 h2 hx1 hx2
    go_enter Tryz.func58, Tryz.ntmps58
    go_wp2_with (go_at_call 87; refine (Tryz.stringslite_Index_one s c _).mono ?_; rintro e w' ⟨rfl, hw⟩; rw [hw, H1.out])
    go_quiet (fail)
    go_wp2
    go_ret3
    exact ⟨⟨_, rfl⟩, below_drewN_ (Below.refl _ _) _⟩
theorem strings_Cut (s : ByteArray) (c : UInt8) (w : World) (hs : s.size ≤ 140737488355328) :
    Calls Tryz.prog 30 #[.string s, .string ⟨#[c]⟩] w fun e w' => (∃ b, e = .returned (.tuple #[.string ⟨(cutAt c s.data.toList).1.toArray⟩, .string ⟨(cutAt c s.data.toList).2.toArray⟩, .bool b])) ∧ Below w.heap.size w w' := by
  go_enter Tryz.func30, Tryz.ntmps30
  go_wp2_with (go_at_call 58; refine (sl_Cut s c _ hs).mono ?_; rintro e w1 ⟨⟨b, rfl⟩, hb⟩)
  go_ret3
  exact ⟨⟨b, rfl⟩, hb⟩
end Go.Proofs.YtmfnkilohicapaaGreatDoor

/- A decimal number in plain words: its digits, its point, its exponent; what both packages' 'decimal' hand to ParseFloat. -/
namespace Go.Proofs.YtmfnkilohicapaaGreatDoor

def AllDig (l : List UInt8) : Prop := ∀ c ∈ l, isDig c = true
theorem allDig_nil : AllDig [] := fun c hc => by cases hc
theorem rl_take (p : UInt8 → Bool) (l : List UInt8) : ∀ c ∈ l.take (rl p l), p c = true := by
  induction l with
  | nil => intro c hc; simp [rl] at hc
  | cons a r ih =>
    intro c hc
    simp only [rl] at hc
    cases hp : p a
    · rw [hp] at hc; simp at hc
    · rw [hp] at hc
      simp at hc
      rcases hc with rfl | hc
      · exact hp
      · exact ih c hc
/-- The point and the digits behind it; nothing where there is no point. -/
def ptOf (point : Bool) (Pt : List UInt8) : List UInt8 := if point then 46 :: Pt else []
/-- A decimal number: digits, perhaps a point and digits, perhaps an exponent. -/
structure DecShape (l W Pt : List UInt8) (point : Bool) (E : List UInt8) : Prop where
  eq : l = W ++ ptOf point Pt ++ E
  whole : AllDig W
  part : AllDig Pt
  nopart : point = false → Pt = []
  exp : E = [] ∨ ∃ e sg ds, E = e :: (sg ++ ds) ∧ (e = 101 ∨ e = 69) ∧ (sg = [] ∨ sg = [43] ∨ sg = [45]) ∧ AllDig ds
theorem isAt_get {l : List UInt8} {n : Nat} {a b : Int} (h : isAt l n a b = true) : ∃ c, l[n]? = some c ∧ ((c.toNat : Int) = a ∨ (c.toNat : Int) = b) := by
  unfold isAt at h
  split at h
  · rename_i c hc
    rw [Bool.or_eq_true, beq_iff_eq, beq_iff_eq] at h
    exact ⟨c, hc, h⟩
  · cases h
theorem byte_of {c : UInt8} {n : Nat} (hn : n < 256) (h : (c.toNat : Int) = (n : Int)) : c = n.toUInt8 := by
  apply UInt8.toNat_inj.1
  rw [show (c.toNat : Nat) = n by omega]
  simp [Nat.toUInt8, Nat.mod_eq_of_lt hn]
theorem drop_of_get {l : List UInt8} {n : Nat} {c : UInt8} (h : l[n]? = some c) : l.drop n = c :: l.drop (n + 1) := by
  obtain ⟨hk, e⟩ := List.getElem?_eq_some_iff.1 h
  rw [List.drop_eq_getElem_cons hk, e]
theorem dec_shape (l : List UInt8) (h : numOk l 2 = true) (hx : hexLen l = 0) : ∃ W Pt point E, DecShape l W Pt point E := by
  unfold numOk at h
  rw [decide_eq_true_iff, if_pos rfl] at h
  obtain ⟨h0, h⟩ := h
  unfold numLen at h
  rw [if_neg (by omega)] at h
  split at h
  · omega
  · rename_i hm
    -- the mantissa
    have hmant : ∃ W Pt point, l = W ++ ptOf point Pt ++ l.drop (mantLen l) ∧ AllDig W ∧ AllDig Pt ∧ (point = false → Pt = []) := by
      have hW := rl_take isDig l
      have hmm : mantLen l = rl isDig l + fracLen l (rl isDig l) := by
        unfold mantLen at hm ⊢
        split
        · rename_i h1; rw [if_pos h1] at hm; exact absurd rfl hm
        · rfl
      rw [hmm]
      unfold fracLen
      cases hp : isAt l (rl isDig l) 46 46
      · refine ⟨l.take (rl isDig l), [], false, ?_, hW, allDig_nil, fun _ => rfl⟩
        simp [ptOf]
      · obtain ⟨c, hc, hc46⟩ := isAt_get hp
        obtain rfl : c = 46 := byte_of (n := 46) (by decide) (by omega)
        refine ⟨l.take (rl isDig l), (l.drop (rl isDig l + 1)).take (rl isDig (l.drop (rl isDig l + 1))), true, ?_, hW, rl_take isDig _, fun h => by cases h⟩
        rw [if_pos rfl]
        simp only [ptOf, if_true]
        conv => lhs; rw [← List.take_append_drop (rl isDig l) l, drop_of_get hc]
        rw [List.append_assoc]
        congr 1
        rw [List.cons_append]
        congr 1
        obtain ⟨q, hq⟩ : ∃ q, rl isDig (l.drop (rl isDig l + 1)) = q := ⟨_, rfl⟩
        rw [hq, show rl isDig l + (1 + q) = (rl isDig l + 1) + q by omega, show l.drop (rl isDig l + 1 + q) = (l.drop (rl isDig l + 1)).drop q from (List.drop_drop ..).symm, List.take_append_drop]
    obtain ⟨W, Pt, point, he, hW, hP, hnp⟩ := hmant
    refine ⟨W, Pt, point, l.drop (mantLen l), he, hW, hP, hnp, ?_⟩
    unfold expLen at h
    cases hE : isAt l (mantLen l) 101 69
    · rw [hE] at h
      left
      rw [if_neg (by decide)] at h
      exact List.drop_of_length_le (by omega)
    · right
      obtain ⟨c, hc, hcE⟩ := isAt_get hE
      have hlt : mantLen l < l.length := (List.getElem?_eq_some_iff.1 hc).1
      rw [hE, if_pos rfl] at h
      split at h
      · have hce : c = 101 ∨ c = 69 := by
          rcases hcE with h1 | h1
          · exact Or.inl (byte_of (n := 101) (by decide) (by omega))
          · exact Or.inr (byte_of (n := 69) (by decide) (by omega))
        have hds := rl_take isDig (l.drop (expAt l (mantLen l)))
        have hall : (l.drop (expAt l (mantLen l))).take (rl isDig (l.drop (expAt l (mantLen l)))) = l.drop (expAt l (mantLen l)) :=
          List.take_of_length_le (by rw [List.length_drop]; omega)
        rw [hall] at hds
        rw [drop_of_get hc]
        cases hs : isAt l (mantLen l + 1) 43 45
        · have e1 : expAt l (mantLen l) = mantLen l + 1 := by unfold expAt; rw [hs]; rfl
          rw [e1] at hds
          exact ⟨c, [], l.drop (mantLen l + 1), rfl, hce, Or.inl rfl, hds⟩
        · have e1 : expAt l (mantLen l) = mantLen l + 2 := by unfold expAt; rw [hs]; rfl
          rw [e1] at hds
          obtain ⟨g, hg, hgs⟩ := isAt_get hs
          refine ⟨c, [g], l.drop (mantLen l + 2), by rw [drop_of_get hg]; rfl, hce, ?_, hds⟩
          rcases hgs with h1 | h1
          · exact Or.inr (Or.inl (by rw [byte_of (n := 43) (by decide) (by omega : (g.toNat : Int) = ((43 : Nat) : Int))]; rfl))
          · exact Or.inr (Or.inr (by rw [byte_of (n := 45) (by decide) (by omega : (g.toNat : Int) = ((45 : Nat) : Int))]; rfl))
      · omega
end Go.Proofs.YtmfnkilohicapaaGreatDoor
