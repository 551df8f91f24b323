/- What the listed tables hold, in the words of the walks; and that it stays behind whatever leaves the old memory alone. -/
import Derived.Test.YtmfnkilohicapaaGreatDoorL
import GoSem.PinnedTables
namespace Go.Proofs.YtmfnkilohicapaaGreatDoor
open Go.RowKit

def powtabL : List Nat := [1, 3, 6, 9, 13, 16, 19, 23, 26]
def f64powL : List Nat := [4607182418800017408, 4621819117588971520, 4636737291354636288, 4652007308841189376, 4666723172467343360, 4681608360884174848, 4696837146684686336, 4711630319722168320, 4726483295884279808, 4741671816366391296, 4756540486875873280, 4771362005757984768, 4786511204640096256, 4801453603149578240, 4816244402031689728, 4831355200913801216, 4846369599423283200, 4861130398305394688, 4876203697187506176, 4891288408196988160, 4906019910204099648, 4921056587992461136, 4936209963552724370]
structure Tabs (w : World) : Prop where
  utf8 : Lib.Utf8Tabs 8 9 w
  pow10 : Lib.TabIs Tryz.prog w "internal/strconv.uint64pow10" .u64 Lib.pow10Tab
  mant : w.cell? ⟨6, 0, none⟩ = some (.int .u64 52)
  expb : w.cell? ⟨6, 1, none⟩ = some (.int .u64 11)
  bias : w.cell? ⟨6, 2, none⟩ = some (.int .i64 (-1023))
  opt : w.cell? ⟨5, 0, none⟩ = some (.bool true)
  powtab : ∃ b off c, w.cell? ⟨11, 0, none⟩ = some (.slice (some ⟨b, off, none⟩) 9 c) ∧ ∀ (i : Nat) v, powtabL[i]? = some v → w.cell? ⟨b, off + i, none⟩ = some (.int .i64 (v : Nat))
  f64pow : ∃ b off c, w.cell? ⟨12, 0, none⟩ = some (.slice (some ⟨b, off, none⟩) 23 c) ∧ ∀ (i : Nat) v, f64powL[i]? = some v → w.cell? ⟨b, off + i, none⟩ = some (.float .f64 v)
  cheats : ∃ b off c, w.cell? ⟨16, 0, none⟩ = some (.slice (some ⟨b, off, none⟩) 61 c) ∧ ∀ (i : Nat) d s, Pinned.cheatRows[i]? = some (d, s) → w.cell? ⟨b, off + i * 2, none⟩ = some (.int .i64 d) ∧ w.cell? ⟨b, off + i * 2 + 1, none⟩ = some (.string ⟨s.toArray⟩)
  p10 : ∀ (i : Nat) h l, Pinned.pow10Rows[i]? = some (h, l) → w.cell? ⟨15, i * 2, none⟩ = some (.int .u64 h) ∧ w.cell? ⟨15, i * 2 + 1, none⟩ = some (.int .u64 l)
  err : ∃ tp p, w.cell? ⟨2, 0, none⟩ = some (.iface tp p)
  hap4 : ∃ c t, w.heap[4]? = some (.cells c t (0, 0))
  hap6 : ∃ c t, w.heap[6]? = some (.cells c t (0, 0))
/-- .. in whatever world leaves what is there alone. -/
def Laid (w : World) : Prop := ∀ w', Below w.heap.size w w' → Tabs w'
theorem Laid.here {w : World} (h : Laid w) : Tabs w := h w (Below.refl _ _)
theorem Laid.below {w w' : World} (h : Laid w) (hb : Below w.heap.size w w') : Laid w' := fun w2 h2 => h w2 (hb.trans (h2.mono hb.size))
theorem Laid.at_ {w w' : World} (h : Laid w) (hb : Below w.heap.size w w') : Tabs w' := h w' hb
end Go.Proofs.YtmfnkilohicapaaGreatDoor
