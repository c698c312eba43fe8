/- The walk of layer 5's Open. -/
import Derived.Test.YtpckfnafcmifpaaSealWalksC
import Derived.Deep.QuietTactic
import Derived.BigQuiet
import Derived.Deep.RegionWith
import Derived.Deep.RegionHeld3
import Derived.Deep.DeepCutAuto
namespace Go.Proofs.Ytpckfnafcmifpaa.Seal
open Go.RowKit Go.Proofs.Ytpckfnafcmifpaa.Mem Go.Proofs.Ytpckfnafcmifpaa.Crc

theorem parts_drew {w : World} {B : Nat} {X : Option Addr} {ps : List Part} (h : RdParts w B X ps) : RdParts w.drew B X ps := h
theorem parts_alloc {w : World} {B : Nat} {X : Option Addr} {ps : List Part} (h : RdParts w B X ps) (hB : B ≤ w.heap.size) (o : Obj) : RdParts (w.alloc o) B X ps :=
  ⟨h.1.alloc hB o, fun p hp => ⟨(h.2 p hp).1.alloc hB o, (h.2 p hp).2⟩⟩
/-- an array of the call's own holds the four bytes -/
def Arr (wr : World) (g s : Nat) : Prop := Rd wr wr.heap.size (some ⟨g, 0, none⟩) (BB (le4 s))
theorem with_below {W w0 : World} {f : FuncId} {args : Array Value} {v : Value} (h : Calls Try.prog f args W fun e w' => e = .returned v ∧ Below W.heap.size W w') (hb : Below w0.heap.size w0 W) :
    Calls Try.prog f args W fun e w' => e = .returned v ∧ Below W.heap.size W w' ∧ Below w0.heap.size w0 w' := h.mono fun _ _ h => ⟨h.1, h.2, hb.trans (h.2.mono hb.size)⟩
theorem below_set4 {w w1 : World} {g : Nat} (h : Below w.heap.size w w1) (hg : w.heap.size ≤ g) (a0 a1 a2 a3 : Value) :
    Below w.heap.size w ((((w1.setCell ⟨g, 0, none⟩ a0).setCell ⟨g, 1, none⟩ a1).setCell ⟨g, 2, none⟩ a2).setCell ⟨g, 3, none⟩ a3) :=
  (((h.setCell (p := ⟨g, 0, none⟩) hg a0).setCell (p := ⟨g, 1, none⟩) hg a1).setCell (p := ⟨g, 2, none⟩) hg a2).setCell (p := ⟨g, 3, none⟩) hg a3
/-- what Open gives of bytes that are long enough -/
def Opens (w : World) (l : List Nat) (N : Nat) (e : Ending) (w' : World) : Prop :=
  if le4 (more 0 (l.take N)) = l.drop N then ∃ A c, e = .returned (.tuple #[.int .u8 (l.getD 0 0 : Int), .slice A (N - 1) c, .int .i64 0]) ∧ Own w' w.heap.size 5 (.slice A (N - 1) c) (BB ((l.drop 1).take (N - 1))) ∧ Below w.heap.size w w'
  else e = .returned (.tuple #[.int .u8 0, .slice none 0 0, .int .i64 5]) ∧ Below w.heap.size w w'
end Go.Proofs.Ytpckfnafcmifpaa.Seal
