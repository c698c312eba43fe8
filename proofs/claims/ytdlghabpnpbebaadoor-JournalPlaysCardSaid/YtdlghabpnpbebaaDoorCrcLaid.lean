/- The table of package crc as it is laid: what the row's condition gives the walks; a world that meets it. -/
import Derived.Test.YtdlghabpnpbebaaDoorRows
import Derived.Test.YtdlghabpnpbebaaDoorCrcWalks
import Derived.Lib.LaidTab
import Derived.LaidMore
import Derived.Stop.Joined
import Derived.KernelRfl
namespace Go.Proofs.YtdlghabpnpbebaaDoor
open Go.RowKit Go.Proofs.YtdlghabpnpbebaaDoor.Crc

def tabZ : List Int := [0, 498536548, 997073096, 651767980, 1994146192, 1802195444, 1303535960, 1342533948, 3988292384, 4027552580, 3604390888, 3412177804, 2607071920, 2262029012, 2685067896, 3183342108]
theorem doorMet (os : Os) (args : Array Value) : laidMetH Tryd.prog [("epitaph/crc.four", Rows.laid_epitaph_crc_four)] ((World.doorLaid Tryd.prog 400 os).forCall (fun _ _ => 0) ⟨#[], args, []⟩).memory :=
  laidMetH_of_parts3 (fuel := 8) (laidMet_of_run' 8 (by kernel_rfl) (by kernel_rfl)) (by kernel_rfl) (by kernel_rfl)
theorem gFour : Tryd.prog.globalNamed "epitaph/crc.four" = some 0 := by kernel_rfl
theorem tFour : (Tryd.prog.globals[0]?).map (·.type) = some 70 := by kernel_rfl
theorem tab_of_laid {W : World} (h : laidMetH Tryd.prog [("epitaph/crc.four", Rows.laid_epitaph_crc_four)] W) : Tab W := by
  rw [MakeChecks.laidMetH_plain _ _ _ (by kernel_rfl)] at h
  have ht : Lib.TabIs Tryd.prog W "epitaph/crc.four" .u32 tabZ := Lib.tabIs_of_head gFour tFour Tryd.underlying70 Tryd.underlying24 (by kernel_rfl) (by kernel_rfl) (rest := []) h
  have hc : ∀ i, i < 16 → W.cell? ⟨0, i, none⟩ = some (.int .u32 (tab i : Int)) := by
    intro i hi
    rw [ht.cell gFour i hi]
    have e : ∀ i, i < 16 → tabZ.getD i 0 = (tab i : Int) := by decide
    rw [e i hi]
  exact ⟨Nat.lt_of_le_of_lt (Nat.zero_le _) (World.block_lt_of_cell? W _ (hc 0 (by decide))), hc⟩
end Go.Proofs.YtdlghabpnpbebaaDoor
