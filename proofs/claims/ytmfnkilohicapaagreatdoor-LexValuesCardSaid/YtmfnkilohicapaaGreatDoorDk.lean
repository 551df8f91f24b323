/- readFloat at a decimal text. -/
import Derived.Test.YtmfnkilohicapaaGreatDoorDj
namespace Go.Proofs.YtmfnkilohicapaaGreatDoor
open Go.RowKit

theorem lower_ (c : Int) (w : World) : Calls Tryz.prog 122 #[.int .u8 c] w fun e w' => e = .returned (.int .u8 (bits .or .u8 c 32)) ∧ w = w' := by
  go_enter Tryz.func122, Tryz.ntmps122
  go_wp2
  go_ret
  exact ⟨rfl, rfl⟩
theorem lower_at (c : UInt8) (n m : Int) (hc : (c.toNat : Int) = n) (hm : bits .or .u8 n 32 = m) (w : World) : Calls Tryz.prog 122 #[.int .u8 (c.toNat : Nat)] w fun e w' => e = .returned (.int .u8 m) ∧ w = w' := by
  rw [hc, ← hm]; exact lower_ n w
/-- The mantissa, the digits in it, was one cut off? -/
def mtStep (t : Int × Nat × Bool) (c : UInt8) : Int × Nat × Bool :=
  if t.2.1 < 19 then (IntKind.u64.wrap (IntKind.u64.wrap (t.1 * 10) + (c.toNat - 48)), t.2.1 + 1, t.2.2) else (t.1, t.2.1, t.2.2 || (c != 48))
def mt (ds : List UInt8) : Int × Nat × Bool := ds.foldl mtStep (0, 0, false)
theorem mt_snoc (ds : List UInt8) (c : UInt8) : mt (ds ++ [c]) = mtStep (mt ds) c := by
  unfold mt; rw [List.foldl_append]; rfl
theorem mt_le_aux (ds : List UInt8) (t : Int × Nat × Bool) (h : t.2.1 ≤ 19) : (ds.foldl mtStep t).2.1 ≤ 19 := by
  induction ds generalizing t with
  | nil => exact h
  | cons c r ih =>
    refine ih _ ?_
    unfold mtStep
    split
    · simp only []; omega
    · exact h
theorem mt_le (ds : List UInt8) : (mt ds).2.1 ≤ 19 := mt_le_aux ds _ (by decide)
/-- Where the reading of '0.' and digits stands. -/
def RFst (ds : List UInt8) (i : Nat) (v2 v5 v13 v14 v15 v16 v17 : Value) : Prop :=
  (i = 0 ∧ v2 = .int .u64 0 ∧ v5 = .bool false ∧ v13 = .bool false ∧ v14 = .bool false ∧ v15 = .int .i64 0 ∧ v16 = .int .i64 0 ∧ v17 = .int .i64 0) ∨
  (i = 1 ∧ v2 = .int .u64 0 ∧ v5 = .bool false ∧ v13 = .bool false ∧ v14 = .bool true ∧ v15 = .int .i64 0 ∧ v16 = .int .i64 0 ∧ v17 = .int .i64 (-1)) ∨
  (∃ k, i = 2 + k ∧ k ≤ ds.length ∧ v2 = .int .u64 (mt (ds.take k)).1 ∧ v5 = .bool (mt (ds.take k)).2.2 ∧ v13 = .bool true ∧ v14 = .bool true ∧ v15 = .int .i64 k ∧ v16 = .int .i64 ((mt (ds.take k)).2.1 : Nat) ∧ v17 = .int .i64 0)
/-- An exponent's digits, as both readers take them. -/
def eStep (e : Nat) (c : UInt8) : Nat := if e < 10000 then e * 10 + (c.toNat - 48) else e
def eFold (es : List UInt8) : Nat := es.foldl eStep 0
theorem eFold_snoc (es : List UInt8) (c : UInt8) : eFold (es ++ [c]) = eStep (eFold es) c := by
  unfold eFold; rw [List.foldl_append]; rfl
theorem eFold_le_aux (es : List UInt8) (h : AllDig es) (e : Nat) (he : e ≤ 99999) : es.foldl eStep e ≤ 99999 := by
  induction es generalizing e with
  | nil => exact he
  | cons c r ih =>
    refine ih (fun x hx => h x (List.mem_cons_of_mem _ hx)) _ ?_
    have := (isDig_iff c).1 (h c (List.mem_cons_self ..))
    unfold eStep
    split <;> omega
theorem eFold_le (es : List UInt8) (h : AllDig es) : eFold es ≤ 99999 := eFold_le_aux es h 0 (by decide)
def eVal (ng : Bool) (es : List UInt8) : Int := if ng then -(eFold es : Int) else (eFold es : Int)
/-- A text '0.', digits, 'e', perhaps '-', digits. -/
structure DText (x : ByteArray) (ds es : List UInt8) (ng : Bool) (P : Nat) : Prop where
  size : x.size ≤ 140737488355328
  b0 : x.data.toList[0]? = some 48
  b1 : x.data.toList[1]? = some 46
  dig : AllDig ds
  some_ : ds ≠ []
  nz : ∀ c, ds[0]? = some c → c ≠ 48
  dat : ∀ (k : Nat) c, ds[k]? = some c → x.data.toList[2 + k]? = some c
  e : x.data.toList[2 + ds.length]? = some 101
  ng1 : ng = true → x.data.toList[2 + ds.length + 1]? = some 45 ∧ P = 2 + ds.length + 2
  ng0 : ng = false → P = 2 + ds.length + 1
  edig : AllDig es
  esome : es ≠ []
  eat : ∀ (k : Nat) c, es[k]? = some c → x.data.toList[P + k]? = some c
  len : x.size = P + es.length
theorem byte_at {x : ByteArray} {k : Nat} {c : UInt8} (h : x.data.toList[k]? = some c) : ∃ hk : k < x.size, x[k] = c := by
  obtain ⟨hk, e⟩ := List.getElem?_eq_some_iff.1 h
  have hk' : k < x.size := by rw [size_len]; exact hk
  refine ⟨hk', ?_⟩
  have h2 := get_list x k hk'
  rw [h] at h2
  exact (Option.some.inj h2).symm
set_option maxRecDepth 100000 in
set_option maxHeartbeats 4000000 in
theorem readFloat_dec (x : ByteArray) (ds es : List UInt8) (ng : Bool) (P : Nat) (hx : DText x ds es ng P) (w : World) :
    Calls Tryz.prog 101 #[.string x] w fun e w' => e = .returned (.tuple #[.int .u64 (mt ds).1, .int .i64 (if (mt ds).1 = 0 then 0 else eVal ng es - ((mt ds).2.1 : Nat)), .bool false, .bool (mt ds).2.2, .bool false, .int .i64 x.size, .bool true]) ∧ w = w' := by
  obtain ⟨m1, hm1⟩ : ∃ m1, (mt ds).1 = m1 := ⟨_, rfl⟩
  obtain ⟨m2, hm2⟩ : ∃ m2, (mt ds).2.1 = m2 := ⟨_, rfl⟩
  obtain ⟨m3, hm3⟩ : ∃ m3, (mt ds).2.2 = m3 := ⟨_, rfl⟩
  have hm19 := mt_le ds
  rw [hm2] at hm19
  rw [hm1, hm2, hm3]
  obtain ⟨pE, hpE⟩ : ∃ pE : Int, (if m1 = 0 then 0 else eVal ng es - (m2 : Nat)) = pE := ⟨_, rfl⟩
  rw [hpE]
  have HpE := Lib.hid hpE
  have HM1 := Lib.hid hm1
  have HM2 := Lib.hid hm2
  have HM3 := Lib.hid hm3
  clear hpE hm1 hm2 hm3
  have hs := hx.size
  have hX := hx
  have Hdg := Lib.hid hx.dig
  have Hz := Lib.hid hx.nz
  have Hds := Lib.hid hx.dat
  have Hend := Lib.hid hx.e
  obtain ⟨hxl, hxe⟩ := byte_at hx.e
  obtain ⟨h1, hx0⟩ := byte_at hx.b0
  obtain ⟨h2, hx1⟩ := byte_at hx.b1
  have HX := Lib.hid hX
  clear hxe hX hx
  obtain ⟨c0, hc0⟩ : ∃ c, x[0] = c := ⟨_, rfl⟩
  obtain ⟨c1, hc1⟩ : ∃ c, x[1] = c := ⟨_, rfl⟩
  rw [hc0] at hx0
  rw [hc1] at hx1
  have e0 : (c0.toNat : Int) = 48 := by rw [hx0]; rfl
  have e1 : (c1.toNat : Int) = 46 := by rw [hx1]; rfl
  have h1' : (0 : Int) < (x.size : Int) := by omega
  have h2' : (1 : Int) < (x.size : Int) := by omega
  have h3' : (2 : Int) < (x.size : Int) := by omega
  have f1 : ((c0.toNat : Int) == 43) = false := beq_eq_false_iff_ne.2 (by omega)
  have f2 : ((c0.toNat : Int) == 45) = false := beq_eq_false_iff_ne.2 (by omega)
  have f3 : ((c0.toNat : Int) == 48) = true := beq_iff_eq.2 e0
  have hlo := fun wx => lower_at c1 46 46 e1 (by decide) wx
  have hxe : ¬ x = ByteArray.empty := by intro h; rw [h] at h1; exact absurd h1 (by decide)
  have Hlo := Lib.hid hlo
  have E0 := Lib.hid e0
  have E1 := Lib.hid e1
  have g0 : ((c1.toNat : Int) == 46) = true := beq_iff_eq.2 e1
  have g1 : ((c1.toNat : Int) == 95) = false := beq_eq_false_iff_ne.2 (by omega)
  have g2 : ((c0.toNat : Int) == 95) = false := beq_eq_false_iff_ne.2 (by omega)
  have g3 : ((c0.toNat : Int) == 46) = false := beq_eq_false_iff_ne.2 (by omega)
  clear hlo hx0 hx1 e0 e1
  go_enter Tryz.func101, Tryz.ntmps101
  go_wp2
  go_step3
  go_wp2_with (go_at_call 122; refine (Hlo.out _).mono ?_; rintro e w' ⟨rfl, rfl⟩)
  go_step3
  go_upto_block 1 with (fail)
  go_cut [2, 5, 7, 9, 13, 14, 15, 16, 17, 18] (fun v2 v5 v7 v9 v13 v14 v15 v16 v17 v18 wc => w = wc ∧ v9 = .bool false ∧ v7 = .int .i64 (2 + ds.length : Nat) ∧ v2 = .int .u64 m1 ∧ v5 = .bool m3 ∧ v13 = .bool true ∧ v14 = .bool true ∧ v15 = .int .i64 ds.length ∧ v16 = .int .i64 (m2 : Nat) ∧ v17 = .int .i64 0)
  case first =>
    go_wp2_with fail
    go_loopg [2, 5, 7, 9, 13, 14, 15, 16, 17, 18] x.size (fun g v2 v5 v7 v9 v13 v14 v15 v16 v17 _ wx => wx = w ∧ v9 = .bool false ∧ ∃ i, i + g = x.size ∧ v7 = .int .i64 i ∧ RFst ds i v2 v5 v13 v14 v15 v16 v17)
    case atStart => exact ⟨rfl, rfl, 0, by omega, rfl, Or.inl ⟨rfl, rfl, rfl, rfl, rfl, rfl, rfl, rfl⟩⟩
    case round =>
      obtain ⟨rfl, rfl, i, hig, rfl, hst⟩ := hrel
      rcases hst with ⟨rfl, rfl, rfl, rfl, rfl, rfl, rfl, rfl⟩ | ⟨rfl, rfl, rfl, rfl, rfl, rfl, rfl, rfl⟩ | ⟨k, rfl, hk, rfl, rfl, rfl, rfl, rfl, rfl, rfl⟩
      · obtain ⟨g, rfl⟩ : ∃ g, gk = g + 1 := ⟨gk - 1, by omega⟩
        have E0' := E0.out
        have q1 : (48 : Int) ≤ (c0.toNat : Int) := by omega
        have q2 : (c0.toNat : Int) ≤ 57 := by omega
        clear E0'
        go_wp2
        go_roundg g
        case measure => omega
        case rel => exact ⟨rfl, rfl, 1, by omega, rfl, Or.inr (Or.inl ⟨rfl, rfl, rfl, rfl, rfl, rfl, rfl, rfl⟩)⟩
      · obtain ⟨g, rfl⟩ : ∃ g, gk = g + 1 := ⟨gk - 1, by omega⟩
        go_wp2
        go_roundg g
        case measure => omega
        case rel => exact ⟨rfl, rfl, 2, by omega, rfl, Or.inr (Or.inr ⟨0, rfl, by omega, rfl, rfl, rfl, rfl, rfl, rfl, rfl⟩)⟩
      · by_cases hkl : k < ds.length
        · obtain ⟨g, rfl⟩ : ∃ g, gk = g + 1 := ⟨gk - 1, by omega⟩
          obtain ⟨c, hc⟩ : ∃ c, ds[k]? = some c := ⟨_, List.getElem?_eq_getElem hkl⟩
          have hlt : 2 + k < x.size := by omega
          have hxc := Hds.out k c hc
          rw [get_list x (2 + k) hlt] at hxc
          injection hxc with hxc
          have hcd := (isDig_iff c).1 (Hdg.out c (List.mem_of_getElem? hc))
          obtain ⟨q1, q2⟩ := hcd
          have r1 : ((c.toNat : Int) == 95) = false := beq_eq_false_iff_ne.2 (by omega)
          have r2 : ((c.toNat : Int) == 46) = false := beq_eq_false_iff_ne.2 (by omega)
          have hst2 : mt (ds.take (k + 1)) = mtStep (mt (ds.take k)) c := by
            obtain ⟨hk2, e⟩ := List.getElem?_eq_some_iff.1 hc
            rw [List.take_succ_eq_append_getElem hk2, mt_snoc, e]
          have hk0 : k = 0 → ((c.toNat : Int) == 48) = false := fun h => by
            subst h
            refine beq_eq_false_iff_ne.2 (fun h5 => Hz.out c hc (byte_of (n := 48) (by decide) h5))
          have hle := mt_le (ds.take k)
          obtain ⟨m, hm⟩ : ∃ m, (mt (ds.take k)).1 = m := ⟨_, rfl⟩
          obtain ⟨n, hn⟩ : ∃ n, (mt (ds.take k)).2.1 = n := ⟨_, rfl⟩
          obtain ⟨t, ht⟩ : ∃ t, (mt (ds.take k)).2.2 = t := ⟨_, rfl⟩
          have hst3 : mt (ds.take (k + 1)) = mtStep (m, n, t) c := by rw [hst2, ← hm, ← hn, ← ht]
          rw [hm, hn, ht]
          rw [hn] at hle
          have Hst := Lib.hid hst3
          clear hst2 hst3 hm hn ht hc
          have hkz : (((c.toNat : Int) == 48) && ((k : Int) == 0)) = false := by
            by_cases h : k = 0
            · rw [hk0 h]; rfl
            · rw [show ((k : Int) == 0) = false from beq_eq_false_iff_ne.2 (by omega), Bool.and_false]
          clear hk0
          by_cases hn19 : n < 19
          · have hn19' : (n : Int) < 19 := by omega
            cases c48 : ((c.toNat : Int) == 48)
            all_goals
              have hk1 : ((c.toNat : Int) == 48) = true → ((k : Int) == 0) = false := fun h => by rw [h, Bool.true_and] at hkz; exact hkz
              (try have hk2 := hk1 c48)
              clear hkz hk1
              go_wp2
              all_goals
                go_roundg g
                case measure => omega
                case rel =>
                  refine ⟨rfl, rfl, 2 + (k + 1), by omega, by go_num, Or.inr (Or.inr ⟨k + 1, rfl, by omega, ?_, ?_, rfl, rfl, by go_num, ?_, rfl⟩)⟩
                  all_goals
                    rw [Hst.out]
                    simp [mtStep, hn19]
          · have hn19' : ¬ (n : Int) < 19 := by omega
            have hcb : (c != 48) = ((c.toNat : Int) != 48) := by
              rw [bne, bne]
              congr 1
              rw [Bool.eq_iff_iff, beq_iff_eq, beq_iff_eq]
              exact ⟨fun h => by rw [h]; rfl, fun h => byte_of (n := 48) (by decide) h⟩
            cases c48 : ((c.toNat : Int) == 48)
            · have c49 : ((c.toNat : Int) != 48) = true := by rw [bne, c48]; rfl
              have HCB := Lib.hid (hcb.trans c49)
              have hk1 : ((c.toNat : Int) == 48) = true → ((k : Int) == 0) = false := fun h => by rw [h, Bool.true_and] at hkz; exact hkz
              (try have hk2 := hk1 c48)
              clear hcb hkz hk1
              go_wp2
              all_goals
                go_roundg g
                case measure => omega
                case rel =>
                  refine ⟨rfl, rfl, 2 + (k + 1), by omega, by go_num, Or.inr (Or.inr ⟨k + 1, rfl, by omega, ?_, ?_, rfl, rfl, by go_num, ?_, rfl⟩)⟩
                  all_goals
                    rw [Hst.out]
                    simp [mtStep, hn19, HCB.out]
            · have c49 : ((c.toNat : Int) != 48) = false := by rw [bne, c48]; rfl
              have HCB := Lib.hid (hcb.trans c49)
              have hk1 : ((c.toNat : Int) == 48) = true → ((k : Int) == 0) = false := fun h => by rw [h, Bool.true_and] at hkz; exact hkz
              (try have hk2 := hk1 c48)
              clear hcb hkz hk1
              go_wp2
              all_goals
                go_roundg g
                case measure => omega
                case rel =>
                  refine ⟨rfl, rfl, 2 + (k + 1), by omega, by go_num, Or.inr (Or.inr ⟨k + 1, rfl, by omega, ?_, ?_, rfl, rfl, by go_num, ?_, rfl⟩)⟩
                  all_goals
                    rw [Hst.out]
                    simp [mtStep, hn19, HCB.out]
        · obtain rfl : k = ds.length := by omega
          have hxc := Hend.out
          rw [get_list x (2 + ds.length) hxl] at hxc
          injection hxc with hxc
          obtain ⟨c, hc⟩ : ∃ c, x[2 + ds.length] = c := ⟨_, rfl⟩
          rw [hc] at hxc
          have hci : (c.toNat : Int) = 101 := by rw [hxc]; rfl
          have r1 : ((c.toNat : Int) == 95) = false := beq_eq_false_iff_ne.2 (by omega)
          have r2 : ((c.toNat : Int) == 46) = false := beq_eq_false_iff_ne.2 (by omega)
          have r3 : (48 : Int) ≤ (c.toNat : Int) := by omega
          have r4 : ¬ (c.toNat : Int) ≤ 57 := by omega
          have hxl2 : (2 : Int) + (ds.length : Int) < (x.size : Int) := by omega
          have Hci := Lib.hid hci
          clear hci hxc
          rw [List.take_length, HM1.out, HM2.out, HM3.out]
          go_wp2
          go_meet
          exact ⟨rfl, rfl, rfl, rfl, rfl, rfl, rfl, rfl, rfl, rfl⟩
  case rest =>
    obtain ⟨rfl, rfl, rfl, rfl, rfl, rfl, rfl, rfl, rfl, rfl⟩ := hcut
    have hdt := HX.out
    have hPs := hdt.len
    have hes1 : 1 ≤ es.length := by
      cases hes : es with
      | nil => exact absurd hes hdt.esome
      | cons a r => simp
    obtain ⟨xe, hxe0⟩ := byte_at hdt.e
    obtain ⟨c, hc⟩ : ∃ c, x[2 + ds.length] = c := ⟨_, rfl⟩
    rw [hc] at hxe0
    have hci : (c.toNat : Int) = 101 := by rw [hxe0]; rfl
    have hlc := fun wx => lower_at c 101 101 hci (by decide) wx
    have Hlc := Lib.hid hlc
    have hedig := hdt.edig
    have heat := hdt.eat
    have hn1 := hdt.ng1
    have hn0 := hdt.ng0
    have He : Hid (∀ (k : Nat) (c : UInt8), es[k]? = some c → x.data.toList[P + k]? = some c) := heat
    have Hed : Hid (AllDig es) := hedig
    have hele := eFold_le es hedig
    have Hn1 := Lib.hid hn1
    have Hn0 := Lib.hid hn0
    have hP3 : 2 + ds.length + 1 ≤ P := by
      cases hng : ng
      · have := hdt.ng0 hng; omega
      · have := (hdt.ng1 hng).2; omega
    have hPx : P < x.size := by omega
    have HPs := Lib.hid hPs
    have hi1 : (2 : Int) + (ds.length : Int) < (x.size : Int) := by omega
    have hi2 : (2 : Int) + (ds.length : Int) + 1 < (x.size : Int) := by omega
    have Hc := Lib.hid hc
    clear hPs hxe0 hci hlc hedig heat hn1 hn0 hdt f1 f2 f3 g0 g1 g2 g3 HX hc0 hc1 Hds Hz Hdg Hend
    obtain ⟨d0, hd0⟩ : ∃ c, es[0]? = some c := ⟨_, List.getElem?_eq_getElem hes1⟩
    obtain ⟨q1, q2⟩ := (isDig_iff d0).1 (Hed.out d0 (List.mem_of_getElem? hd0))
    have q5 : ¬ (d0.toNat : Int) < 48 := by omega
    have q6 : ¬ (57 : Int) < (d0.toNat : Int) := by omega
    have He0 := Lib.hid (He.out 0 d0 hd0)
    clear hd0
    cases ng
    case' false =>
      have HP := Lib.hid (Hn0.out rfl)
      have hxq : x.data.toList[2 + ds.length + 1]? = some d0 := by rw [← HP.out]; exact He0.out
      obtain ⟨xk, hxk⟩ := byte_at hxq
      have q3 : ((d0.toNat : Int) == 43) = false := beq_eq_false_iff_ne.2 (by omega)
      have q4 : ((d0.toNat : Int) == 45) = false := beq_eq_false_iff_ne.2 (by omega)
      clear hxq
      go_wp2_with (go_at_call 122; refine (Hlc.out _).mono ?_; rintro e w' ⟨rfl, rfl⟩)
      clear hxk q3 q4
    case' true =>
      obtain ⟨hm, hp⟩ := Hn1.out rfl
      have HP := Lib.hid hp
      have hxq : x.data.toList[2 + ds.length + 2]? = some d0 := by rw [← HP.out]; exact He0.out
      obtain ⟨xk, hxk⟩ := byte_at hxq
      obtain ⟨xm, hxm⟩ := byte_at hm
      obtain ⟨cm, hcm⟩ : ∃ c, x[2 + ds.length + 1] = c := ⟨_, rfl⟩
      rw [hcm] at hxm
      have q3 : ((cm.toNat : Int) == 43) = false := by rw [hxm]; rfl
      have q4 : ((cm.toNat : Int) == 45) = true := by rw [hxm]; rfl
      have hi3 : (2 : Int) + (ds.length : Int) + 1 + 1 < (x.size : Int) := by omega
      have hxk' : x[2 + ds.length + 1 + 1] = d0 := hxk
      clear hxq hxm hm hp hxk
      go_wp2_with (go_at_call 122; refine (Hlc.out _).mono ?_; rintro e w' ⟨rfl, rfl⟩)
      clear hxk' hcm q3 q4
    all_goals
      clear q1 q2 q5 q6 He0
      go_loopg [7, 9, 20] es.length (fun g v7 v9 v20 wx => w = wx ∧ v9 = .bool false ∧ ∃ k : Nat, k + g = es.length ∧ v7 = .int .i64 (P + k : Nat) ∧ v20 = .int .i64 (eFold (es.take k) : Nat))
      case atStart => exact ⟨rfl, rfl, 0, by omega, congrArg _ (by have := HP.out; omega), rfl⟩
      case round =>
        obtain ⟨rfl, rfl, k, hkg, rfl, rfl⟩ := hrel
        by_cases hk : k < es.length
        · obtain ⟨g, rfl⟩ : ∃ g, gk = g + 1 := ⟨gk - 1, by omega⟩
          obtain ⟨c, hcs⟩ : ∃ c, es[k]? = some c := ⟨_, List.getElem?_eq_getElem hk⟩
          obtain ⟨yk, hyk⟩ := byte_at (He.out k c hcs)
          obtain ⟨q1, q2⟩ := (isDig_iff c).1 (Hed.out c (List.mem_of_getElem? hcs))
          have q3 : ((c.toNat : Int) == 95) = false := beq_eq_false_iff_ne.2 (by omega)
          have hlt : (P : Int) + (k : Int) < (x.size : Int) := by omega
          have hst : eFold (es.take (k + 1)) = eStep (eFold (es.take k)) c := by
            obtain ⟨hk2, e⟩ := List.getElem?_eq_some_iff.1 hcs
            rw [List.take_succ_eq_append_getElem hk2, eFold_snoc, e]
          have hEle : eFold (es.take k) ≤ 99999 := eFold_le _ (fun y hy => Hed.out y (List.mem_of_mem_take hy))
          obtain ⟨E, hE⟩ : ∃ E, eFold (es.take k) = E := ⟨_, rfl⟩
          rw [hE] at hst hEle ⊢
          have Hst := Lib.hid hst
          have r1 : (48 : Int) ≤ (c.toNat : Int) := by omega
          have r2 : (c.toNat : Int) ≤ 57 := by omega
          clear hst hE hcs
          by_cases hE4 : E < 10000
          · have hE4' : (E : Int) < 10000 := by omega
            go_wp2
            go_roundg g
            case measure => omega
            case rel =>
              refine ⟨rfl, rfl, k + 1, by omega, by go_num, ?_⟩
              rw [Hst.out, eStep, if_pos hE4]
              exact congrArg _ (by omega)
          · have hE4' : ¬ (E : Int) < 10000 := by omega
            go_wp2
            go_roundg g
            case measure => omega
            case rel =>
              refine ⟨rfl, rfl, k + 1, by omega, by go_num, ?_⟩
              rw [Hst.out, eStep, if_neg hE4]
        · obtain rfl : k = es.length := by omega
          rw [List.take_length]
          have hlt : ¬ (P : Int) + (es.length : Int) < (x.size : Int) := by have := HPs.out; omega
          obtain ⟨E, hE⟩ : ∃ E, eFold es = E := ⟨_, rfl⟩
          rw [hE] at hele ⊢
          have HE := Lib.hid hE
          clear hE
          by_cases hm0 : m1 = 0
          · have hm0' : (m1 != 0) = false := by rw [hm0]; rfl
            have hpe : pE = 0 := by rw [← HpE.out, if_pos hm0]
            subst hpe
            clear hm0
            go_wp2
            exact bodyPost_ret (v := .tuple #[.int .u64 m1, .int .i64 0, .bool false, .bool m3, .bool false, .int .i64 x.size, .bool true]) (by simp [results, Tryz.results101, go_sem]; have := HPs.out; omega) rfl ⟨rfl, rfl⟩
          · have hm0' : (m1 != 0) = true := by rw [bne_iff_ne]; exact hm0
            have hpe := HpE.out
            rw [if_neg hm0, eVal, HE.out] at hpe
            have Hpe := Lib.hid hpe
            clear hpe hm0
            go_wp2
            exact bodyPost_ret (v := .tuple #[.int .u64 m1, .int .i64 pE, .bool false, .bool m3, .bool false, .int .i64 x.size, .bool true]) (by simp [results, Tryz.results101, go_sem]; have h1 := HPs.out; have h2 := Hpe.out; simp at h2; constructor <;> omega) rfl ⟨rfl, rfl⟩
end Go.Proofs.YtmfnkilohicapaaGreatDoor
