/- decimal.set at a decimal text. -/
import Derived.Test.YtmfnkilohicapaaGreatDoorDk
import Derived.StillTailTactics
namespace Go.Proofs.YtmfnkilohicapaaGreatDoor
open Go.RowKit

def zeroD : Dst := ⟨fun _ => 0, 0, 0, false⟩
/-- So many digits read. -/
def sd (ds : List UInt8) (k : Nat) (i : Nat) : Nat := if i < k ∧ i < 800 then (ds[i]?.getD 0).toNat else 0
def str (ds : List UInt8) : Nat → Bool
  | 0 => false
  | k + 1 => str ds k || (decide (800 ≤ k) && (ds[k]?.getD 0 != 48))
def setD (ds es : List UInt8) (ng : Bool) : Dst := ⟨sd ds ds.length, min ds.length 800, eVal ng es, str ds ds.length⟩
theorem setD_good {x : ByteArray} {ds es : List UInt8} {ng : Bool} {P : Nat} (h : DText x ds es ng P) : Good (setD ds es ng) := by
  have hl : 1 ≤ ds.length := by
    cases hd : ds with
    | nil => exact absurd hd h.some_
    | cons a r => simp
  refine ⟨by show 1 ≤ min ds.length 800; omega, by show min ds.length 800 ≤ 800; omega, fun i hi => ?_, ?_⟩
  · have hi : i < min ds.length 800 := hi
    show 48 ≤ sd ds ds.length i ∧ sd ds ds.length i ≤ 57
    unfold sd
    rw [if_pos ⟨by omega, by omega⟩]
    obtain ⟨c, hc⟩ : ∃ c, ds[i]? = some c := ⟨_, List.getElem?_eq_getElem (by omega)⟩
    rw [hc]
    have := (isDig_iff c).1 (h.dig c (List.mem_of_getElem? hc))
    simp only [Option.getD_some]
    omega
  · show sd ds ds.length 0 ≠ 48
    unfold sd
    rw [if_pos ⟨by omega, by decide⟩]
    obtain ⟨c, hc⟩ : ∃ c, ds[0]? = some c := ⟨_, List.getElem?_eq_getElem hl⟩
    rw [hc]
    have := h.nz c hc
    simp only [Option.getD_some]
    intro e
    exact this (byte_of (n := 48) (by decide) (by omega))
set_option maxRecDepth 100000 in
set_option maxHeartbeats 4000000 in
theorem set_dec (x : ByteArray) (ds es : List UInt8) (ng : Bool) (P : Nat) (hx : DText x ds es ng P) (b : Nat) (w : World) (hD : DecAt w b zeroD) :
    Calls Tryz.prog 107 #[.pointer (some ⟨b, 0, none⟩), .string x] w fun e w' => e = .returned (.bool true) ∧ DecAt w' b (setD ds es ng) ∧ Below b w w' := by
  have hs := hx.size
  have HX := Lib.hid hx
  obtain ⟨hxl, hxe⟩ := byte_at hx.e
  obtain ⟨h1, hx0⟩ := byte_at hx.b0
  obtain ⟨h2, hx1⟩ := byte_at hx.b1
  obtain ⟨c0, hc0⟩ : ∃ c, x[0] = c := ⟨_, rfl⟩
  obtain ⟨c1, hc1⟩ : ∃ c, x[1] = c := ⟨_, rfl⟩
  rw [hc0] at hx0
  rw [hc1] at hx1
  have e0 : (c0.toNat : Int) = 48 := by rw [hx0]; rfl
  have e1 : (c1.toNat : Int) = 46 := by rw [hx1]; rfl
  have h1' : (0 : Int) < (x.size : Int) := by omega
  have h2' : (1 : Int) < (x.size : Int) := by omega
  have f1 : ((c0.toNat : Int) == 43) = false := beq_eq_false_iff_ne.2 (by omega)
  have f2 : ((c0.toNat : Int) == 45) = false := beq_eq_false_iff_ne.2 (by omega)
  have f3 : ((c0.toNat : Int) == 48) = true := beq_iff_eq.2 e0
  have f4 : (48 : Int) ≤ (c0.toNat : Int) := by omega
  have f5 : (c0.toNat : Int) ≤ 57 := by omega
  have hxe0 : ¬ x = ByteArray.empty := by intro h; rw [h] at h1; exact absurd h1 (by decide)
  have g0 : ((c1.toNat : Int) == 46) = true := beq_iff_eq.2 e1
  have g1 : ((c1.toNat : Int) == 95) = false := beq_eq_false_iff_ne.2 (by omega)
  have g2 : ((c0.toNat : Int) == 95) = false := beq_eq_false_iff_ne.2 (by omega)
  have g3 : ((c0.toNat : Int) == 46) = false := beq_eq_false_iff_ne.2 (by omega)
  have k2 : w.cell? ⟨b, 802, none⟩ = some (.bool false) := hD.neg
  have k3 : w.cell? ⟨b, 803, none⟩ = some (.bool false) := hD.tr
  have z2 := hD.frz 802
  have z3 := hD.frz 803
  have HD0 : Hid (DecAt ((w.setCell ⟨b, 802, none⟩ (.bool false)).setCell ⟨b, 803, none⟩ (.bool false)) b zeroD) := by
    have h : DecAt (w.setCell ⟨b, 802, none⟩ (.bool false)) b zeroD := ⟨fun j hj => cell_off (hD.dig j hj) (by omega), cell_off hD.nd (by omega), cell_off hD.dp (by omega), by rw [cell_put hD.neg, if_pos rfl], cell_off hD.tr (by omega), fun j => by rw [World.frozen?_setCell]; exact hD.frz j⟩
    exact Lib.hid ((h.putTr false).of_eq (fun _ _ => rfl) rfl rfl rfl)
  have HB0 : Hid (Below b w ((w.setCell ⟨b, 802, none⟩ (.bool false)).setCell ⟨b, 803, none⟩ (.bool false))) := Lib.hid (((Below.refl b w).setCell (p := ⟨b, 802, none⟩) (Nat.le_refl _) _).setCell (p := ⟨b, 803, none⟩) (Nat.le_refl _) _)
  clear hxe hx0 hx1 e0 e1 hx hD
  go_enter Tryz.func107, Tryz.ntmps107
  go_upto_block 1 with (fail)
  clear k2 k3 z2 z3
  go_cut [5, 6, 7] (fun v5 v6 v7 wc => v5 = .int .i64 (2 + ds.length : Nat) ∧ v6 = .bool true ∧ v7 = .bool true ∧ Hid (DecAt wc b ⟨sd ds ds.length, min ds.length 800, 0, str ds ds.length⟩) ∧ Hid (Below b w wc))
  case first =>
    have hdg := HX.out.dig
    have hz := HX.out.nz
    have hdat := HX.out.dat
    have hend := HX.out.e
    have Hdg := Lib.hid hdg
    have Hz := Lib.hid hz
    have Hds := Lib.hid hdat
    have Hend := Lib.hid hend
    clear hdg hz hdat hend
    go_wp2_with fail
    go_loopg [5, 6, 7] x.size (fun g v5 v6 v7 wx => ∃ i : Nat, i + g = x.size ∧ v5 = .int .i64 i ∧ Hid (Below b w wx) ∧ ((i = 0 ∧ v6 = .bool false ∧ v7 = .bool false ∧ Hid (DecAt wx b zeroD)) ∨ (i = 1 ∧ v6 = .bool false ∧ v7 = .bool true ∧ Hid (DecAt wx b ⟨fun _ => 0, 0, -1, false⟩)) ∨ (∃ k, i = 2 + k ∧ k ≤ ds.length ∧ v6 = .bool true ∧ v7 = .bool true ∧ Hid (DecAt wx b ⟨sd ds k, min k 800, 0, str ds k⟩))))
    case atStart => exact ⟨0, by omega, rfl, HB0, Or.inl ⟨rfl, rfl, rfl, HD0⟩⟩
    case round =>
      clear HD0 HB0
      obtain ⟨i, hig, rfl, hbx, hst⟩ := hrel
      rcases hst with ⟨rfl, rfl, rfl, hdx⟩ | ⟨rfl, rfl, rfl, hdx⟩ | ⟨k, rfl, hk, rfl, rfl, hdx⟩
      · obtain ⟨g, rfl⟩ : ∃ g, gk = g + 1 := ⟨gk - 1, by omega⟩
        have cn : wr.cell? ⟨b, 800, none⟩ = some (.int .i64 0) := hdx.out.nd
        have cp : wr.cell? ⟨b, 801, none⟩ = some (.int .i64 0) := hdx.out.dp
        have fp := hdx.out.frz 801
        go_wp2
        go_roundg g
        case measure => omega
        case rel =>
          refine ⟨1, by omega, rfl, Lib.hid (hbx.out.setCell (p := ⟨b, 801, none⟩) (Nat.le_refl _) _), Or.inr (Or.inl ⟨rfl, rfl, rfl, Lib.hid ?_⟩)⟩
          exact (hdx.out.putDp (-1)).of_eq (fun _ _ => rfl) rfl rfl rfl
      · obtain ⟨g, rfl⟩ : ∃ g, gk = g + 1 := ⟨gk - 1, by omega⟩
        have cn : wr.cell? ⟨b, 800, none⟩ = some (.int .i64 0) := hdx.out.nd
        have cp : wr.cell? ⟨b, 801, none⟩ = some (.int .i64 (-1)) := hdx.out.dp
        have fp := hdx.out.frz 801
        go_wp2
        go_roundg g
        case measure => omega
        case rel =>
          refine ⟨2, by omega, rfl, Lib.hid (hbx.out.setCell (p := ⟨b, 801, none⟩) (Nat.le_refl _) _), Or.inr (Or.inr ⟨0, rfl, by omega, rfl, rfl, Lib.hid ?_⟩)⟩
          refine (hdx.out.putDp 0).of_eq (fun i _ => ?_) rfl rfl rfl
          show sd ds 0 i = 0
          unfold sd
          rw [if_neg (by omega)]
      · by_cases hkl : k < ds.length
        · obtain ⟨g, rfl⟩ : ∃ g, gk = g + 1 := ⟨gk - 1, by omega⟩
          obtain ⟨c, hc⟩ : ∃ c, ds[k]? = some c := ⟨_, List.getElem?_eq_getElem hkl⟩
          have hlt : 2 + k < x.size := by omega
          obtain ⟨yk, hxc⟩ := byte_at (Hds.out k c hc)
          obtain ⟨q1, q2⟩ := (isDig_iff c).1 (Hdg.out c (List.mem_of_getElem? hc))
          have r1 : ((c.toNat : Int) == 95) = false := beq_eq_false_iff_ne.2 (by omega)
          have r2 : ((c.toNat : Int) == 46) = false := beq_eq_false_iff_ne.2 (by omega)
          have r3 : (48 : Int) ≤ (c.toNat : Int) := by omega
          have r4 : (c.toNat : Int) ≤ 57 := by omega
          have hlt' : (2 : Int) + (k : Int) < (x.size : Int) := by omega
          have cn : wr.cell? ⟨b, 800, none⟩ = some (.int .i64 (min k 800 : Nat)) := hdx.out.nd
          have fn := hdx.out.frz 800
          have htr : str ds (k + 1) = (str ds k || (decide (800 ≤ k) && (c != 48))) := by
            show (str ds k || (decide (800 ≤ k) && (ds[k]?.getD 0 != 48))) = _
            rw [hc]; rfl
          have hsd : ∀ i, i < 800 → sd ds (k + 1) i = if i = k then c.toNat else sd ds k i := by
            intro i hi
            unfold sd
            by_cases e : i = k
            · rw [if_pos e, if_pos ⟨by omega, hi⟩, e, hc]; rfl
            · rw [if_neg e]
              by_cases e2 : i < k
              · rw [if_pos ⟨by omega, hi⟩, if_pos ⟨e2, hi⟩]
              · rw [if_neg (by omega), if_neg (by omega)]
          have Htr := Lib.hid htr
          have Hsd := Lib.hid hsd
          have hk0 : (((c.toNat : Int) == 48) && (((min k 800 : Nat) : Int) == 0)) = false := by
            by_cases h : k = 0
            · subst h
              have : ((c.toNat : Int) == 48) = false := beq_eq_false_iff_ne.2 (fun h5 => Hz.out c hc (byte_of (n := 48) (by decide) h5))
              rw [this]; rfl
            · rw [show (((min k 800 : Nat) : Int) == 0) = false from beq_eq_false_iff_ne.2 (by omega), Bool.and_false]
          clear htr hsd hc
          by_cases hk8 : k < 800
          · have hk8' : (k : Int) < 800 := by omega
            rw [Nat.min_eq_left (by omega)] at cn hk0
            have fk := hdx.out.frz k
            have ck : wr.cell? ⟨b, k, none⟩ = some (.int .u8 (sd ds k k : Nat)) := hdx.out.dig k hk8
            cases c48 : ((c.toNat : Int) == 48)
            all_goals
              (have hk1 : ((c.toNat : Int) == 48) = true → ((k : Int) == 0) = false := fun h => by rw [h, Bool.true_and] at hk0; exact hk0)
              (try have hk2 := hk1 c48)
              clear hk0 hk1
              go_wp2
              go_still_tail 11, (by kernel_rfl)
              change wpList _ _ _ _ _ wr.drew
              go_wp2
              go_roundg g
              case measure => omega
              case rel =>
                refine ⟨2 + (k + 1), by omega, by go_num, Lib.hid (((hbx.out.setCell (p := ⟨b, k, none⟩) (Nat.le_refl _) _).setCell (p := ⟨b, 800, none⟩) (Nat.le_refl _) _).drew), Or.inr (Or.inr ⟨k + 1, rfl, by omega, rfl, rfl, Lib.hid ?_⟩)⟩
                have h5 := (hdx.out.putDig k c.toNat hk8).putNd (k + 1)
                have h6 := h5.drewN 1
                refine h6.of_eq Hsd.out ?_ rfl ?_
                · show min (k + 1) 800 = k + 1
                  omega
                · show str ds (k + 1) = str ds k
                  rw [Htr.out, decide_eq_false (show ¬ 800 ≤ k by omega), Bool.false_and, Bool.or_false]
          · have hk8' : ¬ (k : Int) < 800 := by omega
            rw [Nat.min_eq_right (by omega)] at cn hk0
            have cn' : wr.cell? ⟨b, 800, none⟩ = some (.int .i64 800) := cn
            have Hsame : Hid (∀ i, i < 800 → sd ds (k + 1) i = sd ds k i) := by
              intro i hi
              rw [Hsd.out i hi, if_neg (by omega)]
            have hcb : (c != 48) = ((c.toNat : Int) != 48) := by
              rw [bne, bne]
              congr 1
              rw [Bool.eq_iff_iff, beq_iff_eq, beq_iff_eq]
              exact ⟨fun h => by rw [h]; rfl, fun h => byte_of (n := 48) (by decide) h⟩
            have k0 : ((800 : Int) == 0) = false := by decide
            clear hk0 cn
            cases c48 : ((c.toNat : Int) == 48)
            · have c49 : ((c.toNat : Int) != 48) = true := by rw [bne, c48]; rfl
              have HCB := Lib.hid (hcb.trans c49)
              have ct := hdx.out.tr
              have ft := hdx.out.frz 803
              clear hcb
              go_wp2
              go_roundg g
              case measure => omega
              case rel =>
                refine ⟨2 + (k + 1), by omega, by go_num, Lib.hid (hbx.out.setCell (p := ⟨b, 803, none⟩) (Nat.le_refl _) _), Or.inr (Or.inr ⟨k + 1, rfl, by omega, rfl, rfl, Lib.hid ?_⟩)⟩
                refine (hdx.out.putTr true).of_eq Hsame.out ?_ rfl ?_
                · show min (k + 1) 800 = min k 800
                  omega
                · show str ds (k + 1) = true
                  rw [Htr.out, decide_eq_true (show 800 ≤ k by omega), HCB.out, Bool.true_and, Bool.or_true]
            · have c49 : ((c.toNat : Int) != 48) = false := by rw [bne, c48]; rfl
              have HCB := Lib.hid (hcb.trans c49)
              clear hcb
              go_wp2
              go_roundg g
              case measure => omega
              case rel =>
                refine ⟨2 + (k + 1), by omega, by go_num, hbx, Or.inr (Or.inr ⟨k + 1, rfl, by omega, rfl, rfl, Lib.hid ?_⟩)⟩
                refine hdx.out.of_eq Hsame.out ?_ rfl ?_
                · show min (k + 1) 800 = min k 800
                  omega
                · show str ds (k + 1) = str ds k
                  rw [Htr.out, HCB.out, Bool.and_false, Bool.or_false]
        · obtain rfl : k = ds.length := by omega
          obtain ⟨ye, hxc⟩ := byte_at Hend.out
          obtain ⟨c, hc⟩ : ∃ c, x[2 + ds.length] = c := ⟨_, rfl⟩
          rw [hc] at hxc
          have hci : (c.toNat : Int) = 101 := by rw [hxc]; rfl
          have r1 : ((c.toNat : Int) == 95) = false := beq_eq_false_iff_ne.2 (by omega)
          have r2 : ((c.toNat : Int) == 46) = false := beq_eq_false_iff_ne.2 (by omega)
          have r3 : (48 : Int) ≤ (c.toNat : Int) := by omega
          have r4 : ¬ (c.toNat : Int) ≤ 57 := by omega
          have hxl2 : (2 : Int) + (ds.length : Int) < (x.size : Int) := by omega
          clear hci hxc
          go_wp2
          go_meet
          exact ⟨rfl, rfl, rfl, hdx, hbx⟩
  case rest =>
    obtain ⟨rfl, rfl, rfl, hdx, hbx⟩ := hcut
    clear HD0 HB0
    have hdt := HX.out
    have hPs := hdt.len
    have hes1 : 1 ≤ es.length := by
      cases hes : es with
      | nil => exact absurd hes hdt.esome
      | cons a r => simp
    obtain ⟨xe, hxe0⟩ := byte_at hdt.e
    obtain ⟨c, hc⟩ : ∃ c, x[2 + ds.length] = c := ⟨_, rfl⟩
    rw [hc] at hxe0
    have hci : (c.toNat : Int) = 101 := by rw [hxe0]; rfl
    have hlc := fun wx => lower_at c 101 101 hci (by decide) wx
    have Hlc := Lib.hid hlc
    have hedig := hdt.edig
    have heat := hdt.eat
    have hn1 := hdt.ng1
    have hn0 := hdt.ng0
    have He : Hid (∀ (k : Nat) (c : UInt8), es[k]? = some c → x.data.toList[P + k]? = some c) := heat
    have Hed : Hid (AllDig es) := hedig
    have hele := eFold_le es hedig
    have Hn1 := Lib.hid hn1
    have Hn0 := Lib.hid hn0
    have hP3 : 2 + ds.length + 1 ≤ P := by
      cases hng : ng
      · have := hdt.ng0 hng; omega
      · have := (hdt.ng1 hng).2; omega
    have hPx : P < x.size := by omega
    have HPs := Lib.hid hPs
    have hi1 : (2 : Int) + (ds.length : Int) < (x.size : Int) := by omega
    have hi2 : (2 : Int) + (ds.length : Int) + 1 < (x.size : Int) := by omega
    have Hc := Lib.hid hc
    clear hPs hxe0 hci hlc hedig heat hn1 hn0 hdt f1 f2 f3 f4 f5 g0 g1 g2 g3 HX hc0 hc1
    obtain ⟨d0, hd0⟩ : ∃ c, es[0]? = some c := ⟨_, List.getElem?_eq_getElem hes1⟩
    obtain ⟨q1, q2⟩ := (isDig_iff d0).1 (Hed.out d0 (List.mem_of_getElem? hd0))
    have q5 : ¬ (d0.toNat : Int) < 48 := by omega
    have q6 : ¬ (57 : Int) < (d0.toNat : Int) := by omega
    have He0 := Lib.hid (He.out 0 d0 hd0)
    clear hd0
    cases ng
    case' false =>
      have HP := Lib.hid (Hn0.out rfl)
      have hxq : x.data.toList[2 + ds.length + 1]? = some d0 := by rw [← HP.out]; exact He0.out
      obtain ⟨xk, hxk⟩ := byte_at hxq
      have q3 : ((d0.toNat : Int) == 43) = false := beq_eq_false_iff_ne.2 (by omega)
      have q4 : ((d0.toNat : Int) == 45) = false := beq_eq_false_iff_ne.2 (by omega)
      clear hxq
      go_wp2_with (go_at_call 122; refine (Hlc.out _).mono ?_; rintro e w' ⟨rfl, rfl⟩)
      clear hxk q3 q4
    case' true =>
      obtain ⟨hm, hp⟩ := Hn1.out rfl
      have HP := Lib.hid hp
      have hxq : x.data.toList[2 + ds.length + 2]? = some d0 := by rw [← HP.out]; exact He0.out
      obtain ⟨xk, hxk⟩ := byte_at hxq
      obtain ⟨xm, hxm⟩ := byte_at hm
      obtain ⟨cm, hcm⟩ : ∃ c, x[2 + ds.length + 1] = c := ⟨_, rfl⟩
      rw [hcm] at hxm
      have q3 : ((cm.toNat : Int) == 43) = false := by rw [hxm]; rfl
      have q4 : ((cm.toNat : Int) == 45) = true := by rw [hxm]; rfl
      have hi3 : (2 : Int) + (ds.length : Int) + 1 + 1 < (x.size : Int) := by omega
      have hxk' : x[2 + ds.length + 1 + 1] = d0 := hxk
      clear hxq hxm hm hp hxk
      go_wp2_with (go_at_call 122; refine (Hlc.out _).mono ?_; rintro e w' ⟨rfl, rfl⟩)
      clear hxk' hcm q3 q4
    all_goals
      clear q1 q2 q5 q6 He0
      go_loopg [5, 9] es.length (fun g v5 v9 wx => wc = wx ∧ ∃ k : Nat, k + g = es.length ∧ v5 = .int .i64 (P + k : Nat) ∧ v9 = .int .i64 (eFold (es.take k) : Nat))
      case atStart => exact ⟨rfl, 0, by omega, congrArg _ (by have := HP.out; omega), rfl⟩
      case round =>
        obtain ⟨rfl, k, hkg, rfl, rfl⟩ := hrel
        by_cases hk : k < es.length
        · obtain ⟨g, rfl⟩ : ∃ g, gk = g + 1 := ⟨gk - 1, by omega⟩
          obtain ⟨c, hcs⟩ : ∃ c, es[k]? = some c := ⟨_, List.getElem?_eq_getElem hk⟩
          obtain ⟨yk, hyk⟩ := byte_at (He.out k c hcs)
          obtain ⟨q1, q2⟩ := (isDig_iff c).1 (Hed.out c (List.mem_of_getElem? hcs))
          have q3 : ((c.toNat : Int) == 95) = false := beq_eq_false_iff_ne.2 (by omega)
          have hlt : (P : Int) + (k : Int) < (x.size : Int) := by omega
          have hst : eFold (es.take (k + 1)) = eStep (eFold (es.take k)) c := by
            obtain ⟨hk2, e⟩ := List.getElem?_eq_some_iff.1 hcs
            rw [List.take_succ_eq_append_getElem hk2, eFold_snoc, e]
          have hEle : eFold (es.take k) ≤ 99999 := eFold_le _ (fun y hy => Hed.out y (List.mem_of_mem_take hy))
          obtain ⟨E, hE⟩ : ∃ E, eFold (es.take k) = E := ⟨_, rfl⟩
          rw [hE] at hst hEle ⊢
          have Hst := Lib.hid hst
          have r1 : (48 : Int) ≤ (c.toNat : Int) := by omega
          have r2 : (c.toNat : Int) ≤ 57 := by omega
          clear hst hE hcs
          by_cases hE4 : E < 10000
          · have hE4' : (E : Int) < 10000 := by omega
            go_wp2
            go_roundg g
            case measure => omega
            case rel =>
              refine ⟨rfl, k + 1, by omega, by go_num, ?_⟩
              rw [Hst.out, eStep, if_pos hE4]
              exact congrArg _ (by omega)
          · have hE4' : ¬ (E : Int) < 10000 := by omega
            go_wp2
            go_roundg g
            case measure => omega
            case rel =>
              refine ⟨rfl, k + 1, by omega, by go_num, ?_⟩
              rw [Hst.out, eStep, if_neg hE4]
        · obtain rfl : k = es.length := by omega
          rw [List.take_length]
          have hlt : ¬ (P : Int) + (es.length : Int) < (x.size : Int) := by have := HPs.out; omega
          have heq : ((P : Int) + (es.length : Int) != (x.size : Int)) = false := by rw [bne_eq_false_iff_eq]; have := HPs.out; omega
          obtain ⟨E, hE⟩ : ∃ E, eFold es = E := ⟨_, rfl⟩
          rw [hE] at hele ⊢
          have HE := Lib.hid hE
          have cp := hdx.out.dp
          have fp := hdx.out.frz 801
          clear hE
          go_wp2
          go_ret
          refine ⟨rfl, ?_, hbx.out.setCell (p := ⟨b, 801, none⟩) (Nat.le_refl _) _⟩
          refine (hdx.out.putDp _).of_eq (fun _ _ => rfl) rfl ?_ rfl
          have hv : ∀ ng, (setD ds es ng).dp = eVal ng es := fun _ => rfl
          rw [hv, eVal, HE.out]
          simp
end Go.Proofs.YtmfnkilohicapaaGreatDoor
