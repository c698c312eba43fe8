/- Lines and cards compared, continued: the reference's Lines, Same, All. -/
import Derived.Test.YtpimncboebggkaaDoorCardSame
import Derived.Deep.RegionWith
namespace Go.Proofs.YtpimncboebggkaaDoor.Card
open Go.RowKit Go.Proofs.YtpimncboebggkaaDoor.Mem

theorem int_bne (a b : Nat) : ((a : Int) != (b : Int)) = !decide (a = b) := by rw [bne, int_beq]
theorem RdLines.drewN {w : World} {B : Nat} {X : Option Addr} {ls : List LineM} (h : RdLines w B X ls) (q : Nat) : RdLines (w.drewN q) B X ls := h.keep fun _ _ => rfl
end Go.Proofs.YtpimncboebggkaaDoor.Card
