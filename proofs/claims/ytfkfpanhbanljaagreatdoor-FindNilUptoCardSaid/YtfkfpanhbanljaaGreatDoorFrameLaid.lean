/- A world in which the library's tables of letters lie: for the frames' witnesses. -/
import Derived.Test.YtfkfpanhbanljaaGreatDoorProg
import Derived.LaidMore
import Derived.Lib.LaidU8
import Derived.KernelRfl
namespace Go.Proofs.YtfkfpanhbanljaaGreatDoor
open Go.RowKit
noncomputable def laidWorld (os : Os) : World :=
  let w0 := World.holding Tryz.prog os ⟨#[], #[], []⟩
  let put (h : Array Obj) (g : Nat) (cs : Array Value) : Array Obj := h.modify g fun
    | .cells _ t frozen => .cells cs t frozen
    | o => o
  let h1 := put w0.heap 1 (Lib.firstTab.map fun z => Value.int .u8 z).toArray
  let h2 := put h1 2 ((List.range 16).flatMap fun i => [Value.int .u8 (Lib.accLo i), Value.int .u8 (Lib.accHi i)]).toArray
  { w0 with heap := h2 }
end Go.Proofs.YtfkfpanhbanljaaGreatDoor
