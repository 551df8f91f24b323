/- readFloat at a hexadecimal text: the walk. -/
import Derived.Test.YtmfnkilohicapaaGreatDoorDo
namespace Go.Proofs.YtmfnkilohicapaaGreatDoor
open Go.RowKit

set_option maxRecDepth 100000 in
set_option maxHeartbeats 4000000 in
theorem readFloat_hex (x : ByteArray) (H : List UInt8) (hx : HText x H) (w : World) :
    Calls Tryz.prog 101 #[.string x] w fun e w' => e = .returned (.tuple #[.int .u64 (hfold H).m, .int .i64 (if (hfold H).m = 0 then 0 else ((hfold H).nd : Int) * 4 - ((hfold H).nm : Int) * 4), .bool false, .bool (hfold H).tr, .bool true, .int .i64 x.size, .bool true]) ∧ w = w' := by
  obtain ⟨m1, hm1⟩ : ∃ m1, (hfold H).m = m1 := ⟨_, rfl⟩
  obtain ⟨n1, hn1⟩ : ∃ n1, (hfold H).nd = n1 := ⟨_, rfl⟩
  obtain ⟨n2, hn2⟩ : ∃ n2, (hfold H).nm = n2 := ⟨_, rfl⟩
  obtain ⟨m3, hm3⟩ : ∃ m3, (hfold H).tr = m3 := ⟨_, rfl⟩
  obtain ⟨v1, v2, v3⟩ := hfold_inv H
  rw [hn1] at v2 v3
  rw [hn2] at v1 v2
  rw [hm1, hn1, hn2, hm3]
  obtain ⟨pE, hpE⟩ : ∃ pE : Int, (if m1 = 0 then 0 else (n1 : Int) * 4 - (n2 : Int) * 4) = pE := ⟨_, rfl⟩
  rw [hpE]
  have hn1l : n1 ≤ H.length := by omega
  have HpE := Lib.hid hpE
  have HM1 := Lib.hid hm1
  have HN1 := Lib.hid hn1
  have HN2 := Lib.hid hn2
  have HM3 := Lib.hid hm3
  clear hpE hm1 hn1 hn2 hm3 v3
  have hs := hx.size
  have HX := Lib.hid hx
  have hlen := hx.len
  have hHl : 1 ≤ H.length := by
    cases hH : H with
    | nil => exact absurd hH hx.some_
    | cons a r => simp
  obtain ⟨h1, hx0⟩ := byte_at hx.b0
  obtain ⟨b, hb, hb1⟩ := hx.b1
  obtain ⟨h2, hx1⟩ := byte_at hb1
  obtain ⟨c0, hc0⟩ : ∃ c, x[0] = c := ⟨_, rfl⟩
  obtain ⟨c1, hc1⟩ : ∃ c, x[1] = c := ⟨_, rfl⟩
  rw [hc0] at hx0
  rw [hc1] at hx1
  have e0 : (c0.toNat : Int) = 48 := by rw [hx0]; rfl
  have h1' : (0 : Int) < (x.size : Int) := by omega
  have h2' : (1 : Int) < (x.size : Int) := by omega
  have h3' : (2 : Int) < (x.size : Int) := by omega
  have f1 : ((c0.toNat : Int) == 43) = false := beq_eq_false_iff_ne.2 (by omega)
  have f2 : ((c0.toNat : Int) == 45) = false := beq_eq_false_iff_ne.2 (by omega)
  have f3 : ((c0.toNat : Int) == 48) = true := beq_iff_eq.2 e0
  have hlo : ∀ wx, Calls Tryz.prog 122 #[.int .u8 (c1.toNat : Nat)] wx fun e w' => e = .returned (.int .u8 120) ∧ wx = w' := by
    intro wx
    rw [hx1]
    rcases hb with rfl | rfl
    · exact lower_at 120 120 120 rfl (by decide) wx
    · exact lower_at 88 88 120 rfl (by decide) wx
  have hxe : ¬ x = ByteArray.empty := by intro h; rw [h] at h1; exact absurd h1 (by decide)
  have Hlo := Lib.hid hlo
  have Hlen := Lib.hid hlen
  clear hlo hx0 hx1 e0 hb hb1 hx hlen
  go_enter Tryz.func101, Tryz.ntmps101
  go_wp2
  go_step3
  go_wp2_with (go_at_call 122; refine (Hlo.out _).mono ?_; rintro e w' ⟨rfl, rfl⟩)
  go_step3
  go_upto_block 1 with (fail)
  clear f1 f2 f3
  go_cut [2, 5, 7, 9, 13, 14, 15, 16, 17, 18] (fun v2 v5 v7 v9 v13 v14 v15 v16 v17 v18 wc => w = wc ∧ v9 = .bool false ∧ v7 = .int .i64 (2 + H.length : Nat) ∧ v2 = .int .u64 m1 ∧ v5 = .bool m3 ∧ v13 = .bool false ∧ v14 = .bool true ∧ v15 = .int .i64 (n1 : Nat) ∧ v16 = .int .i64 (n2 : Nat) ∧ ∃ z : Int, v17 = .int .i64 z)
  case first =>
    have hhex := HX.out.hex
    have hdat := HX.out.dat
    have hend := HX.out.p
    have Hhex := Lib.hid hhex
    have Hds := Lib.hid hdat
    have Hend := Lib.hid hend
    clear hhex hdat hend
    go_wp2_with fail
    go_loopg [2, 5, 7, 9, 13, 14, 15, 16, 17, 18] H.length (fun g v2 v5 v7 v9 v13 v14 v15 v16 v17 _ wx => w = wx ∧ v9 = .bool false ∧ v13 = .bool false ∧ ∃ k : Nat, k + g = H.length ∧ v7 = .int .i64 (2 + k : Nat) ∧ v2 = .int .u64 (hfold (H.take k)).m ∧ v5 = .bool (hfold (H.take k)).tr ∧ v14 = .bool (decide (0 < k)) ∧ v15 = .int .i64 ((hfold (H.take k)).nd : Nat) ∧ v16 = .int .i64 ((hfold (H.take k)).nm : Nat) ∧ v17 = .int .i64 (-((hfold (H.take k)).z : Int)))
    case atStart => exact ⟨rfl, rfl, rfl, 0, by omega, rfl, rfl, rfl, rfl, rfl, rfl, rfl⟩
    case round =>
      obtain ⟨rfl, rfl, rfl, k, hkg, rfl, rfl, rfl, rfl, rfl, rfl, rfl⟩ := hrel
      by_cases hk : k < H.length
      · obtain ⟨g, rfl⟩ : ∃ g, gk = g + 1 := ⟨gk - 1, by omega⟩
        obtain ⟨c, hc⟩ : ∃ c, H[k]? = some c := ⟨_, List.getElem?_eq_getElem hk⟩
        obtain ⟨yk, hxc⟩ := byte_at (Hds.out k c hc)
        have hch := Hhex.out c (List.mem_of_getElem? hc)
        have hlt : (2 : Int) + (k : Int) < (x.size : Int) := by have := Hlen.out; omega
        have hst : hfold (H.take (k + 1)) = hstep (hfold (H.take k)) c := by
          obtain ⟨hk2, e⟩ := List.getElem?_eq_some_iff.1 hc
          rw [List.take_succ_eq_append_getElem hk2, hfold_snoc, e]
        obtain ⟨w1, w2, w3⟩ := hfold_inv (H.take k)
        have hkl : (H.take k).length ≤ k := List.length_take_le _ _
        have hkx : k ≤ 140737488355328 := by have := Hlen.out; omega
        generalize hfold (H.take k) = s at *
        obtain ⟨sm, snd, snm, sz, str⟩ := s
        simp only [] at w1 w2 w3 hst ⊢
        have Hst := Lib.hid hst
        clear hst hc
        cases hdg : isDig c
        · obtain ⟨lo, l1, l2, l3, l4, l5, l6⟩ := hex_letter c hch hdg
          have hlow : ∀ wx, Calls Tryz.prog 122 #[.int .u8 (c.toNat : Nat)] wx fun e w' => e = .returned (.int .u8 (lo : Nat)) ∧ wx = w' := by
            intro wx
            rw [← l1]
            exact lower_ _ wx
          have Hlow := Lib.hid hlow
          have HL1 := Lib.hid l1
          have r1 : ((c.toNat : Int) == 95) = false := beq_eq_false_iff_ne.2 l5
          have r2 : ((c.toNat : Int) == 46) = false := beq_eq_false_iff_ne.2 l6
          have r3 : (48 : Int) ≤ (c.toNat : Int) := by omega
          have r4 : ¬ (c.toNat : Int) ≤ 57 := by omega
          have Hdg := Lib.hid hdg
          clear hlow l1 l4 l5 l6 hch hdg
          by_cases h16 : snm < 16
          · have h16' : (snm : Int) < 16 := by omega
            go_wp2_with (go_at_call 122; refine (Hlow.out _).mono ?_; rintro e w' ⟨rfl, rfl⟩)
            go_roundg g
            case measure => omega
            case rel =>
              refine ⟨rfl, rfl, rfl, k + 1, by omega, by go_num, ?_⟩
              rw [Hst.out, hstep, Hdg.out, if_neg (by decide), if_pos h16]
              refine ⟨?_, rfl, by simp, by show Value.int .i64 ((snd : Int) + 1) = .int .i64 ((snd + 1 : Nat) : Int); go_num, by show Value.int .i64 ((snm : Int) + 1) = .int .i64 ((snm + 1 : Nat) : Int); go_num, rfl⟩
              show _ = Value.int .u64 (IntKind.u64.wrap (IntKind.u64.wrap (sm * 16) + (hlow c - 97 + 10)))
              rw [HL1.out]
          · have h16' : ¬ (snm : Int) < 16 := by omega
            go_wp2_with (go_at_call 122; refine (Hlow.out _).mono ?_; rintro e w' ⟨rfl, rfl⟩)
            go_roundg g
            case measure => omega
            case rel =>
              refine ⟨rfl, rfl, rfl, k + 1, by omega, by go_num, ?_⟩
              rw [Hst.out, hstep, Hdg.out, if_neg (by decide), if_neg h16]
              exact ⟨rfl, rfl, by simp, by show Value.int .i64 ((snd : Int) + 1) = .int .i64 ((snd + 1 : Nat) : Int); go_num, rfl, rfl⟩
        · obtain ⟨q1, q2⟩ := (isDig_iff c).1 hdg
          have r1 : ((c.toNat : Int) == 95) = false := beq_eq_false_iff_ne.2 (by omega)
          have r2 : ((c.toNat : Int) == 46) = false := beq_eq_false_iff_ne.2 (by omega)
          clear hch
          by_cases hz : c = 48 ∧ snd = 0
          · obtain ⟨hz1, rfl⟩ := hz
            have c48 : ((c.toNat : Int) == 48) = true := by rw [hz1]; rfl
            have Hz := Lib.hid hz1
            have Hdg := Lib.hid hdg
            have k0 : ((0 : Int) == 0) = true := rfl
            clear hz1 hdg
            go_wp2
            go_roundg g
            case measure => omega
            case rel =>
              refine ⟨rfl, rfl, rfl, k + 1, by omega, by go_num, ?_⟩
              rw [Hst.out, hstep, if_pos Hdg.out, if_pos ⟨Hz.out, rfl⟩]
              exact ⟨rfl, rfl, by simp, rfl, rfl, by show Value.int .i64 (-(sz : Int) - 1) = .int .i64 (-((sz + 1 : Nat) : Int)); exact congrArg _ (by omega)⟩
          · have hk0 : (((c.toNat : Int) == 48) && ((snd : Int) == 0)) = false := by
              rw [Bool.and_eq_false_iff]
              by_cases h : snd = 0
              · exact Or.inl (beq_eq_false_iff_ne.2 (fun h5 => hz ⟨byte_of (n := 48) (by decide) h5, h⟩))
              · exact Or.inr (beq_eq_false_iff_ne.2 (by omega))
            have Hdg := Lib.hid hdg
            have Hz := Lib.hid hz
            clear hdg hz
            by_cases h16 : snm < 16
            · have h16' : (snm : Int) < 16 := by omega
              cases c48 : ((c.toNat : Int) == 48)
              all_goals
                (have hk1 : ((c.toNat : Int) == 48) = true → ((snd : Int) == 0) = false := fun h => by rw [h, Bool.true_and] at hk0; exact hk0)
                (try have hk2 := hk1 c48)
                clear hk0 hk1
                go_wp2
                go_roundg g
                case measure => omega
                case rel =>
                  refine ⟨rfl, rfl, rfl, k + 1, by omega, by go_num, ?_⟩
                  rw [Hst.out, hstep, if_pos Hdg.out, if_neg Hz.out, if_pos h16]
                  exact ⟨rfl, rfl, by simp, by show Value.int .i64 ((snd : Int) + 1) = .int .i64 ((snd + 1 : Nat) : Int); go_num, by show Value.int .i64 ((snm : Int) + 1) = .int .i64 ((snm + 1 : Nat) : Int); go_num, rfl⟩
            · have h16' : ¬ (snm : Int) < 16 := by omega
              have hcb : (c != 48) = ((c.toNat : Int) != 48) := by
                rw [bne, bne]
                congr 1
                rw [Bool.eq_iff_iff, beq_iff_eq, beq_iff_eq]
                exact ⟨fun h => by rw [h]; rfl, fun h => byte_of (n := 48) (by decide) h⟩
              cases c48 : ((c.toNat : Int) == 48)
              · have c49 : ((c.toNat : Int) != 48) = true := by rw [bne, c48]; rfl
                have HCB := Lib.hid (hcb.trans c49)
                clear hk0 hcb
                go_wp2
                go_roundg g
                case measure => omega
                case rel =>
                  refine ⟨rfl, rfl, rfl, k + 1, by omega, by go_num, ?_⟩
                  rw [Hst.out, hstep, if_pos Hdg.out, if_neg Hz.out, if_neg h16]
                  exact ⟨rfl, by show Value.bool true = .bool (str || (c != 48)); rw [HCB.out, Bool.or_true], by simp, by show Value.int .i64 ((snd : Int) + 1) = .int .i64 ((snd + 1 : Nat) : Int); go_num, rfl, rfl⟩
              · have c49 : ((c.toNat : Int) != 48) = false := by rw [bne, c48]; rfl
                have HCB := Lib.hid (hcb.trans c49)
                have hk2 : ((snd : Int) == 0) = false := by rw [c48, Bool.true_and] at hk0; exact hk0
                clear hk0 hcb
                go_wp2
                go_roundg g
                case measure => omega
                case rel =>
                  refine ⟨rfl, rfl, rfl, k + 1, by omega, by go_num, ?_⟩
                  rw [Hst.out, hstep, if_pos Hdg.out, if_neg Hz.out, if_neg h16]
                  exact ⟨rfl, by show Value.bool str = .bool (str || (c != 48)); rw [HCB.out, Bool.or_false], by simp, by show Value.int .i64 ((snd : Int) + 1) = .int .i64 ((snd + 1 : Nat) : Int); go_num, rfl, rfl⟩
      · obtain rfl : k = H.length := by omega
        rw [List.take_length]
        obtain ⟨yk, hxc⟩ := byte_at Hend.out
        obtain ⟨c, hc⟩ : ∃ c, x[2 + H.length] = c := ⟨_, rfl⟩
        rw [hc] at hxc
        have hci : (c.toNat : Int) = 112 := by rw [hxc]; rfl
        have hlow := fun wx => lower_at c 112 112 hci (by decide) wx
        have Hlow := Lib.hid hlow
        have r1 : ((c.toNat : Int) == 95) = false := beq_eq_false_iff_ne.2 (by omega)
        have r2 : ((c.toNat : Int) == 46) = false := beq_eq_false_iff_ne.2 (by omega)
        have r3 : (48 : Int) ≤ (c.toNat : Int) := by omega
        have r4 : ¬ (c.toNat : Int) ≤ 57 := by omega
        have hlt : (2 : Int) + (H.length : Int) < (x.size : Int) := by omega
        rw [HM1.out, HN1.out, HN2.out, HM3.out]
        clear hci hxc hlow
        go_wp2_with (go_at_call 122; refine (Hlow.out _).mono ?_; rintro e w' ⟨rfl, rfl⟩)
        go_meet
        exact ⟨rfl, rfl, rfl, rfl, rfl, rfl, by rw [decide_eq_true (show 0 < H.length by omega)], rfl, rfl, _, rfl⟩
  case rest =>
    obtain ⟨rfl, rfl, rfl, rfl, rfl, rfl, rfl, rfl, rfl, z, rfl⟩ := hcut
    obtain ⟨yk, hxc⟩ := byte_at HX.out.p
    obtain ⟨yz, hxz⟩ := byte_at HX.out.z
    obtain ⟨c, hc⟩ : ∃ c, x[2 + H.length] = c := ⟨_, rfl⟩
    obtain ⟨cz, hcz⟩ : ∃ c, x[2 + H.length + 1] = c := ⟨_, rfl⟩
    rw [hc] at hxc
    rw [hcz] at hxz
    have hci : (c.toNat : Int) = 112 := by rw [hxc]; rfl
    have hczi : (cz.toNat : Int) = 48 := by rw [hxz]; rfl
    have hlow := fun wx => lower_at c 112 112 hci (by decide) wx
    have Hlow := Lib.hid hlow
    have i1 : (2 : Int) + (H.length : Int) < (x.size : Int) := by have := Hlen.out; omega
    have i2 : (2 : Int) + (H.length : Int) + 1 < (x.size : Int) := by have := Hlen.out; omega
    have i3 : ¬ (2 : Int) + (H.length : Int) + 1 + 1 < (x.size : Int) := by have := Hlen.out; omega
    have q1 : ((cz.toNat : Int) == 43) = false := by rw [hczi]; rfl
    have q2 : ((cz.toNat : Int) == 45) = false := by rw [hczi]; rfl
    have q3 : ¬ (cz.toNat : Int) < 48 := by omega
    have q4 : ¬ (57 : Int) < (cz.toNat : Int) := by omega
    have q5 : ((cz.toNat : Int) == 95) = false := by rw [hczi]; rfl
    have Hczi := Lib.hid hczi
    clear hxc hxz hci hczi hlow
    by_cases hm0 : m1 = 0
    · have hm0' : (m1 != 0) = false := by rw [hm0]; rfl
      have hpe : pE = 0 := by rw [← HpE.out, if_pos hm0]
      subst hpe
      clear hm0
      go_wp2_with (go_at_call 122; refine (Hlow.out _).mono ?_; rintro e w' ⟨rfl, rfl⟩)
      go_loopg [7, 9, 20] 1 (fun g v7 v9 v20 wx => w = wx ∧ v9 = .bool false ∧ v20 = .int .i64 0 ∧ ((g = 1 ∧ v7 = .int .i64 ((2 : Int) + (H.length : Int) + 1)) ∨ (g = 0 ∧ v7 = .int .i64 ((2 : Int) + (H.length : Int) + 1 + 1))))
      case atStart => exact ⟨rfl, rfl, rfl, Or.inl ⟨rfl, rfl⟩⟩
      case round =>
        obtain ⟨rfl, rfl, rfl, ⟨rfl, rfl⟩ | ⟨rfl, rfl⟩⟩ := hrel
        · have r3 : (48 : Int) ≤ (cz.toNat : Int) := by omega
          have r4 : (cz.toNat : Int) ≤ 57 := by omega
          go_wp2
          go_roundg 0
          case measure => omega
          case rel => exact ⟨rfl, rfl, congrArg _ (by have := Hczi.out; omega), Or.inr ⟨rfl, rfl⟩⟩
        · go_wp2
          exact bodyPost_ret (v := .tuple #[.int .u64 m1, .int .i64 0, .bool false, .bool m3, .bool true, .int .i64 x.size, .bool true]) (by simp [results, Tryz.results101, go_sem]; have := Hlen.out; omega) rfl ⟨rfl, rfl⟩
    · have hm0' : (m1 != 0) = true := by rw [bne_iff_ne]; exact hm0
      have hpe := HpE.out
      rw [if_neg hm0] at hpe
      have Hpe := Lib.hid hpe
      clear hpe hm0
      go_wp2_with (go_at_call 122; refine (Hlow.out _).mono ?_; rintro e w' ⟨rfl, rfl⟩)
      go_loopg [7, 9, 20] 1 (fun g v7 v9 v20 wx => w = wx ∧ v9 = .bool false ∧ v20 = .int .i64 0 ∧ ((g = 1 ∧ v7 = .int .i64 ((2 : Int) + (H.length : Int) + 1)) ∨ (g = 0 ∧ v7 = .int .i64 ((2 : Int) + (H.length : Int) + 1 + 1))))
      case atStart => exact ⟨rfl, rfl, rfl, Or.inl ⟨rfl, rfl⟩⟩
      case round =>
        obtain ⟨rfl, rfl, rfl, ⟨rfl, rfl⟩ | ⟨rfl, rfl⟩⟩ := hrel
        · have r3 : (48 : Int) ≤ (cz.toNat : Int) := by omega
          have r4 : (cz.toNat : Int) ≤ 57 := by omega
          go_wp2
          go_roundg 0
          case measure => omega
          case rel => exact ⟨rfl, rfl, congrArg _ (by have := Hczi.out; omega), Or.inr ⟨rfl, rfl⟩⟩
        · go_wp2
          exact bodyPost_ret (v := .tuple #[.int .u64 m1, .int .i64 pE, .bool false, .bool m3, .bool true, .int .i64 x.size, .bool true]) (by simp [results, Tryz.results101, go_sem]; have h1 := Hlen.out; have h2 := Hpe.out; constructor <;> omega) rfl ⟨rfl, rfl⟩
end Go.Proofs.YtmfnkilohicapaaGreatDoor
