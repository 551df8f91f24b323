/- Bytes that a slice of the call's own holds: its string; one byte more. -/
import Derived.Test.YtmfnkilohicapaaGreatDoorU
import Derived.Lib.BufferRead
namespace Go.Proofs.YtmfnkilohicapaaGreatDoor
open Go.RowKit

/-- A slice of bytes that the call itself made holds just these. -/
def Row (B : Nat) (v : Value) (l : List UInt8) (w : World) : Prop := w.ownsRow B 5 1 v l.length (Lib.byteCells l)
theorem Row.nil (B : Nat) (w : World) : Row B (.slice none 0 0) [] w := World.ownsRow_nil _ _ _ _
theorem Row.below {B : Nat} {v : Value} {l : List UInt8} {w w' : World} (h : Row B v l w) (hb : Below w.heap.size w w') : Row B v l w' := own_below h hb
theorem Row.form {B : Nat} {v : Value} {l : List UInt8} {w : World} (h : Row B v l w) : ∃ a c, v = .slice a l.length c := by
  rcases h.2 with ⟨h1, h2⟩ | ⟨g, cap, cur, hv, _⟩
  · rw [h2]; exact ⟨none, 0, h1⟩
  · exact ⟨_, _, hv⟩
theorem Row.string {B : Nat} {v : Value} {l : List UInt8} {w : World} (h : Row B v l w) : (convert 49 9 v).run Tryz.prog w = .ok (.string ⟨l.toArray⟩) w := by
  rcases h.2 with ⟨h1, h2⟩ | ⟨g, cap, cur, hv, hB, hg, rest⟩
  · obtain rfl := List.length_eq_zero_iff.1 h2
    rw [h1]
    exact Lib.run_convert_nil_bytes w 49 9 5 0 Tryz.underlying49 Tryz.underlying5 Tryz.underlying9
  · have hc := World.ownsRow.cells h (g := g) (by rw [hv]; rfl)
    rw [hv]
    exact run_convert_bytes_back w 49 9 5 ⟨g, 0, none⟩ cap l Tryz.underlying49 Tryz.underlying5 Tryz.underlying9 (fun j hj => hc j _ (by simp [Lib.byteCells, hj]))
theorem Row.drew {B : Nat} {v : Value} {l : List UInt8} {w : World} (h : Row B v l w) (q : Nat) : Row B v l (w.drewN q) := own_below h (below_drewN_ (Below.refl _ _) _)
theorem Row.snoc {B : Nat} {v' : Value} {l : List UInt8} {w' : World} {x : Int} (hx0 : 0 ≤ x) (hx1 : x ≤ 255) (h : w'.ownsRow B 5 1 v' (l.length + 1) (Lib.byteCells l ++ [.int .u8 x])) : Row B v' (l ++ [x.toNat.toUInt8]) w' := by
  unfold Row
  rw [List.length_append, List.length_singleton]
  obtain ⟨n, rfl⟩ := Int.eq_ofNat_of_zero_le hx0
  rw [show ((n : Int).toNat) = n from rfl, Lib.byteCells_snoc _ (by omega)]
  exact h
theorem Row.snocB {B : Nat} {v' : Value} {l : List UInt8} {w' : World} {c : UInt8} (h : w'.ownsRow B 5 1 v' (l.length + 1) (Lib.byteCells l ++ [.int .u8 (c.toNat : Int)])) : Row B v' (l ++ [c]) w' := by
  have := Row.snoc (x := (c.toNat : Int)) (by omega) (by have := c.toNat_lt; omega) h
  rwa [show ((c.toNat : Int).toNat) = c.toNat from rfl, show c.toNat.toUInt8 = c from by simp] at this
theorem grown_below {B : Nat} {v : Value} {l : List UInt8} {w wr w1 : World} {x : Value} (hb : Below B w wr) (hB : B ≤ wr.heap.size) (h : Row B v l wr) (hg : (wr.alloc (.cells #[x] 5)).grownBy w1 v.ownBlock) : Below B w w1 :=
  (hb.alloc hB _).grown hg (by rw [World.size_alloc]; omega) (fun k hk => (h.lt k hk).1)
end Go.Proofs.YtmfnkilohicapaaGreatDoor

/- The reference's 'text': it answers, and what was there stays. -/
namespace Go.Proofs.YtmfnkilohicapaaGreatDoor
open Go.RowKit

def TextTriple (e : Ending) : Prop := ∃ (t : ByteArray) (k : Int) (b : Bool), e = .returned (.tuple #[.string t, .int .i64 k, .bool b])
theorem TextTriple.mk (t : ByteArray) (k : Int) (b : Bool) : TextTriple (.returned (.tuple #[.string t, .int .i64 k, .bool b])) := ⟨t, k, b, rfl⟩
theorem quiet_left {P : Program} {f : FuncId} {args : Array Value} {w : World} {n : Nat} {v : Value}
    (h : Calls P f args (w.drewN n) fun e w' => e = .returned v ∧ w.drewN n = w') :
    Calls P f args (w.drewN n) fun e w'' => e = .returned v ∧ ∃ m, w'' = w.drewN m :=
  h.mono fun _ _ ⟨he, hm⟩ => ⟨he, n, hm.symm⟩
theorem two_hex (s : ByteArray) (a : Nat) (h2 : a + 1 < s.size) (ha : isHex s[a] = true) (hb : isHex s[a + 1] = true) : ∀ k (h : k < (s.extract a (a + 2)).size), isHex (s.extract a (a + 2))[k] = true := by
  intro k h
  have hl := get_list (s.extract a (a + 2)) k h
  rw [Lib.extract_data] at hl
  rw [ByteArray.size_extract] at h
  rcases (show k = 0 ∨ k = 1 by omega) with rfl | rfl
  · rw [List.getElem?_take_of_lt (by omega), List.getElem?_drop, Nat.add_zero, get_list s a (by omega)] at hl
    injection hl with hl; rw [← hl]; exact ha
  · rw [List.getElem?_take_of_lt (by omega), List.getElem?_drop, get_list s (a + 1) h2] at hl
    injection hl with hl; rw [← hl]; exact hb
theorem row_one (w : World) (x : Value) : ∀ j u, [x][j]? = some u → (w.alloc (.cells #[x] 5)).cell? ((⟨w.heap.size, 0, none⟩ : Addr).add j) = some u := by
  intro j u hj
  match j, hj with
  | 0, hj => simp at hj; subst hj; simp [Addr.add]
theorem one_cell (x : Int) : ∀ u ∈ [Value.int .u8 x], u.oneCell' = true := by intro u hu; simp at hu; subst hu; rfl
set_option maxHeartbeats 8000000 in
set_option maxRecDepth 100000 in
theorem ref_text (s : ByteArray) (h1 : 1 ≤ s.size) (hs : s.size ≤ 140737488351232) (w : World) :
    Calls Tryz.prog 65 #[.string s, .int .i64 0] w fun e w' => TextTriple e ∧ Below w.heap.size w w' := by
  have h1' : (0 : Int) < (s.size : Int) := by omega
  have h1n : 0 < s.size := by omega
  obtain ⟨i0, hi, hz0, hz1, hz2⟩ := info_parts infoByte
  obtain ⟨q, hq⟩ : ∃ q, s[0] = q := ⟨_, rfl⟩
  have hq256 : (q.toNat : Int) ≤ 255 := by have := q.toNat_lt; omega
  go_enter Tryz.func65, Tryz.ntmps65
  go_wp2
  have HB := Lib.hid (Below.refl w.heap.size w)
  have HR := Lib.hid (Row.nil w.heap.size w)
  go_loopw [8, 9] (fun v8 v9 wr => ∃ (p : Nat) (l : List UInt8), 1 ≤ p ∧ p ≤ s.size ∧ l.length ≤ p ∧ v9 = .int .i64 p ∧ Hid (Row w.heap.size v8 l wr) ∧ Hid (Below w.heap.size w wr)) (fun _ v9 _ => s.size - (intOf v9).toNat)
  case atStart => exact ⟨1, [], by omega, by omega, by simp, rfl, HR, HB⟩
  case round =>
    clear HR HB
    rename_i wr
    obtain ⟨p, l, hp1, hp, hlp, rfl, HR, HB⟩ := hrel
    obtain ⟨a0, c0, rfl⟩ := HR.out.form
    by_cases hlt : p < s.size
    · have hlt' : (p : Int) < (s.size : Int) := by omega
      obtain ⟨c, hc⟩ : ∃ c, s[p] = c := ⟨_, rfl⟩
      have hc256 : (c.toNat : Int) ≤ 255 := by have := c.toNat_lt; omega
      cases e1 : ((c.toNat : Int) == (q.toNat : Int))
      · cases e2 : ((c.toNat : Int) == 10)
        · cases e3 : ((c.toNat : Int) == 92)
          · have e4 : ((c.toNat : Int) != 92) = true := by rw [bne, e3]; rfl
            go_wp2_with (at_builtin; refine wpList_append_own _ rfl _ _ 49 rfl w.heap.size 5 i0 (.int .u8 0) 1 1 Tryz.underlying49 hi hz0 hz1 hz2 rfl (by decide) _ _ _ rfl (World.ownsRow.alloc HR.out _) ⟨wr.heap.size, 0, none⟩ 1 1 [.int .u8 (c.toNat : Int)] rfl rfl (row_one _ _) (one_cell _) (by unfold maxLen; omega) (by omega) (by have := HB.out.size; rw [World.size_alloc]; omega) ?_; intro v' w1 hown' hgrow _; have HR1 := Lib.hid (Row.snocB hown'); have HB1 := Lib.hid (grown_below HB.out HB.out.size HR.out hgrow); clear hown' hgrow)
            go_roundw
            case rel => exact ⟨p + 1, _, by omega, by omega, by rw [List.length_append, List.length_singleton]; omega, by go_num, HR1, HB1⟩
            case measure => (simp [intOf] <;> omega)
          · have e4 : ((c.toNat : Int) != 92) = false := by rw [bne, e3]; rfl
            by_cases hp2 : p + 1 < s.size
            · have hp2' : ¬ ((p : Int) + 1 ≥ (s.size : Int)) := by omega
              have hp3 : ((p : Int) + 1).toNat = p + 1 := by omega
              obtain ⟨d, hd⟩ : ∃ d, s[p + 1] = d := ⟨_, rfl⟩
              have hd256 : (d.toNat : Int) ≤ 255 := by have := d.toNat_lt; omega
              cases d1 : ((d.toNat : Int) == 92)
              · cases d2 : ((d.toNat : Int) == 34)
                · cases d3 : ((d.toNat : Int) == 39)
                  · cases d4 : ((d.toNat : Int) == 110)
                    · cases d5 : ((d.toNat : Int) == 116)
                      · cases d6 : ((d.toNat : Int) == 114)
                        · cases d7 : ((d.toNat : Int) == 120)
                          · go_wp2
                            go_ret3
                            exact ⟨TextTriple.mk _ _ _, HB.out⟩
                          · by_cases hp4 : p + 3 < s.size
                            · have hp4' : ¬ ((p : Int) + 1 + 2 ≥ (s.size : Int)) := by omega
                              have hp42 : decide ((p : Int) + 1 + 2 ≥ (s.size : Int)) = false := decide_eq_false hp4'
                              have hp5 : ((p : Int) + 1 + 1).toNat = p + 2 := by omega
                              have hp6 : ((p : Int) + 1 + 2).toNat = p + 3 := by omega
                              have hp7 : p + 2 < s.size := by omega
                              cases ha : isHex s[p + 2] <;> cases hb : isHex s[p + 3]
                              case true.true =>
                                have hsz : (s.extract (p + 2) (p + 4)).size = 2 := by rw [ByteArray.size_extract]; omega
                                have hxx : ∀ k (h : k < (s.extract (p + 2) (p + 4)).size), isHex (s.extract (p + 2) (p + 4))[k] = true := two_hex s (p + 2) hp4 ha hb
                                obtain ⟨g1, hg1⟩ : ∃ g1, s[p + 2] = g1 := ⟨_, rfl⟩
                                obtain ⟨g2, hg2⟩ : ∃ g2, s[p + 3] = g2 := ⟨_, rfl⟩
                                rw [hg1] at ha
                                rw [hg2] at hb
                                have Ha := Lib.hid ha
                                have Hb := Lib.hid hb
                                have Hs := Lib.hid hsz
                                have Hxx := Lib.hid hxx
                                clear ha hb hsz hxx
                                cases h55 : decide ((g1.toNat : Int) > 55)
                                · go_wp2_with (first
                                    | (go_at_call 90; refine (ref_hex _ _).mono ?_; rintro e w' ⟨rfl, rfl⟩; first | rw [Ha.out] | rw [Hb.out])
                                    | (go_at_call 91; refine (sc_ParseUint_hex _ Hs.out Hxx.out _).mono ?_; rintro e w2 ⟨n, hn0, hn1, rfl, hb⟩; have HR2 := Lib.hid (Row.below HR.out hb); have HB2 := Lib.hid (HB.out.trans (hb.mono HB.out.size)); clear hb)
                                    | (at_builtin; refine wpList_append_own _ rfl _ _ 49 rfl w.heap.size 5 i0 (.int .u8 0) 1 1 Tryz.underlying49 hi hz0 hz1 hz2 rfl (by decide) _ _ _ rfl (World.ownsRow.alloc HR2.out _) ⟨w2.heap.size, 0, none⟩ 1 1 [.int .u8 n] rfl rfl (row_one _ _) (one_cell _) (by unfold maxLen; omega) (by omega) (by have := HB2.out.size; rw [World.size_alloc]; omega) ?_; intro v' w1 hown' hgrow _; have HR1 := Lib.hid (Row.snoc hn0 hn1 hown'); have HB1 := Lib.hid (grown_below HB2.out HB2.out.size HR2.out hgrow); clear hown' hgrow))
                                  go_roundw
                                  case rel => exact ⟨p + 4, _, by omega, by omega, by rw [List.length_append, List.length_singleton]; omega, by go_num, HR1, HB1⟩
                                  case measure => (simp [intOf] <;> omega)
                                · go_wp2_with (go_at_call 90; refine (ref_hex _ _).mono ?_; rintro e w' ⟨rfl, rfl⟩; first | rw [Ha.out] | rw [Hb.out])
                                  go_ret3
                                  exact ⟨TextTriple.mk _ _ _, HB.out⟩
                              all_goals
                                have Ha := Lib.hid ha
                                have Hb := Lib.hid hb
                                clear ha hb
                                go_wp2_with (go_at_call 90; refine (ref_hex _ _).mono ?_; rintro e w' ⟨rfl, rfl⟩; first | rw [Ha.out] | rw [Hb.out])
                                go_ret3
                                exact ⟨TextTriple.mk _ _ _, HB.out⟩
                            · have hp4' : (p : Int) + 1 + 2 ≥ (s.size : Int) := by omega
                              go_wp2
                              go_ret3
                              exact ⟨TextTriple.mk _ _ _, HB.out⟩
                        · go_wp2_with (at_builtin; refine wpList_append_own _ rfl _ _ 49 rfl w.heap.size 5 i0 (.int .u8 0) 1 1 Tryz.underlying49 hi hz0 hz1 hz2 rfl (by decide) _ _ _ rfl (World.ownsRow.alloc HR.out _) ⟨wr.heap.size, 0, none⟩ 1 1 [.int .u8 13] rfl rfl (row_one _ _) (one_cell _) (by unfold maxLen; omega) (by omega) (by have := HB.out.size; rw [World.size_alloc]; omega) ?_; intro v' w1 hown' hgrow _; have HR1 := Lib.hid (Row.snoc (by decide) (by decide) hown'); have HB1 := Lib.hid (grown_below HB.out HB.out.size HR.out hgrow); clear hown' hgrow)
                          go_roundw
                          case rel => exact ⟨p + 2, _, by omega, by omega, by rw [List.length_append, List.length_singleton]; omega, by go_num, HR1, HB1⟩
                          case measure => (simp [intOf] <;> omega)
                      · go_wp2_with (at_builtin; refine wpList_append_own _ rfl _ _ 49 rfl w.heap.size 5 i0 (.int .u8 0) 1 1 Tryz.underlying49 hi hz0 hz1 hz2 rfl (by decide) _ _ _ rfl (World.ownsRow.alloc HR.out _) ⟨wr.heap.size, 0, none⟩ 1 1 [.int .u8 9] rfl rfl (row_one _ _) (one_cell _) (by unfold maxLen; omega) (by omega) (by have := HB.out.size; rw [World.size_alloc]; omega) ?_; intro v' w1 hown' hgrow _; have HR1 := Lib.hid (Row.snoc (by decide) (by decide) hown'); have HB1 := Lib.hid (grown_below HB.out HB.out.size HR.out hgrow); clear hown' hgrow)
                        go_roundw
                        case rel => exact ⟨p + 2, _, by omega, by omega, by rw [List.length_append, List.length_singleton]; omega, by go_num, HR1, HB1⟩
                        case measure => (simp [intOf] <;> omega)
                    · go_wp2_with (at_builtin; refine wpList_append_own _ rfl _ _ 49 rfl w.heap.size 5 i0 (.int .u8 0) 1 1 Tryz.underlying49 hi hz0 hz1 hz2 rfl (by decide) _ _ _ rfl (World.ownsRow.alloc HR.out _) ⟨wr.heap.size, 0, none⟩ 1 1 [.int .u8 10] rfl rfl (row_one _ _) (one_cell _) (by unfold maxLen; omega) (by omega) (by have := HB.out.size; rw [World.size_alloc]; omega) ?_; intro v' w1 hown' hgrow _; have HR1 := Lib.hid (Row.snoc (by decide) (by decide) hown'); have HB1 := Lib.hid (grown_below HB.out HB.out.size HR.out hgrow); clear hown' hgrow)
                      go_roundw
                      case rel => exact ⟨p + 2, _, by omega, by omega, by rw [List.length_append, List.length_singleton]; omega, by go_num, HR1, HB1⟩
                      case measure => (simp [intOf] <;> omega)
                  · go_wp2_with (at_builtin; refine wpList_append_own _ rfl _ _ 49 rfl w.heap.size 5 i0 (.int .u8 0) 1 1 Tryz.underlying49 hi hz0 hz1 hz2 rfl (by decide) _ _ _ rfl (World.ownsRow.alloc HR.out _) ⟨wr.heap.size, 0, none⟩ 1 1 [.int .u8 (d.toNat : Int)] rfl rfl (row_one _ _) (one_cell _) (by unfold maxLen; omega) (by omega) (by have := HB.out.size; rw [World.size_alloc]; omega) ?_; intro v' w1 hown' hgrow _; have HR1 := Lib.hid (Row.snocB hown'); have HB1 := Lib.hid (grown_below HB.out HB.out.size HR.out hgrow); clear hown' hgrow)
                    go_roundw
                    case rel => exact ⟨p + 2, _, by omega, by omega, by rw [List.length_append, List.length_singleton]; omega, by go_num, HR1, HB1⟩
                    case measure => (simp [intOf] <;> omega)
                · go_wp2_with (at_builtin; refine wpList_append_own _ rfl _ _ 49 rfl w.heap.size 5 i0 (.int .u8 0) 1 1 Tryz.underlying49 hi hz0 hz1 hz2 rfl (by decide) _ _ _ rfl (World.ownsRow.alloc HR.out _) ⟨wr.heap.size, 0, none⟩ 1 1 [.int .u8 (d.toNat : Int)] rfl rfl (row_one _ _) (one_cell _) (by unfold maxLen; omega) (by omega) (by have := HB.out.size; rw [World.size_alloc]; omega) ?_; intro v' w1 hown' hgrow _; have HR1 := Lib.hid (Row.snocB hown'); have HB1 := Lib.hid (grown_below HB.out HB.out.size HR.out hgrow); clear hown' hgrow)
                  go_roundw
                  case rel => exact ⟨p + 2, _, by omega, by omega, by rw [List.length_append, List.length_singleton]; omega, by go_num, HR1, HB1⟩
                  case measure => (simp [intOf] <;> omega)
              · go_wp2_with (at_builtin; refine wpList_append_own _ rfl _ _ 49 rfl w.heap.size 5 i0 (.int .u8 0) 1 1 Tryz.underlying49 hi hz0 hz1 hz2 rfl (by decide) _ _ _ rfl (World.ownsRow.alloc HR.out _) ⟨wr.heap.size, 0, none⟩ 1 1 [.int .u8 (d.toNat : Int)] rfl rfl (row_one _ _) (one_cell _) (by unfold maxLen; omega) (by omega) (by have := HB.out.size; rw [World.size_alloc]; omega) ?_; intro v' w1 hown' hgrow _; have HR1 := Lib.hid (Row.snocB hown'); have HB1 := Lib.hid (grown_below HB.out HB.out.size HR.out hgrow); clear hown' hgrow)
                go_roundw
                case rel => exact ⟨p + 2, _, by omega, by omega, by rw [List.length_append, List.length_singleton]; omega, by go_num, HR1, HB1⟩
                case measure => (simp [intOf] <;> omega)
            · have hp2' : (p : Int) + 1 ≥ (s.size : Int) := by omega
              go_wp2
              go_ret3
              exact ⟨TextTriple.mk _ _ _, HB.out⟩
        · go_wp2
          go_ret3
          exact ⟨TextTriple.mk _ _ _, HB.out⟩
      · have hconv0 := fun q => (HR.out.drew q).string
        have hconv1 := HR.out.string
        have hsz : (⟨l.toArray⟩ : ByteArray).size = l.length := by simp [ByteArray.size]
        obtain ⟨L, hL⟩ : ∃ L : ByteArray, (⟨l.toArray⟩ : ByteArray) = L := ⟨_, rfl⟩
        rw [hL] at hconv1 hsz
        simp only [hL] at hconv0
        have hLs : L.size ≤ 140737488355328 := by omega
        have hxs : (s.extract 0 p).size ≤ 140737488355328 := by rw [ByteArray.size_extract]; omega
        have hu1 := fun wx => ref_Utf8 L hLs wx
        have hu2 := fun wx => ref_Utf8 (s.extract 0 p) hxs wx
        obtain ⟨b2, hb2⟩ : ∃ b2, u8ok (s.extract 0 p) = b2 := ⟨_, rfl⟩
        obtain ⟨b1, hb1⟩ : ∃ b1, u8ok L = b1 := ⟨_, rfl⟩
        rw [hb1] at hu1
        rw [hb2] at hu2
        have Hu1 := Lib.hid hu1
        have Hu2 := Lib.hid hu2
        have hp1 : IntKind.i64.wrap ((p : Int) + 1) = (p : Int) + 1 := IntWalk.i64_in _ ⟨by omega, by omega⟩
        clear hu1 hu2 hL hsz hLs hxs hb1 hb2
        cases b1
        all_goals
          go_wp2
          go_quiet (first | (go_at_call 89; with_reducible exact quiet_left (Hu1.out _)) | (go_at_call 89; with_reducible exact quiet_left (Hu2.out _)))
          go_wp2
          go_ret3
          exact ⟨TextTriple.mk _ _ _, below_drewN_ HB.out _⟩
    · have hlt' : ¬ (p : Int) < (s.size : Int) := by omega
      go_wp2
      go_ret3
      exact ⟨TextTriple.mk _ _ _, HB.out⟩
end Go.Proofs.YtmfnkilohicapaaGreatDoor
