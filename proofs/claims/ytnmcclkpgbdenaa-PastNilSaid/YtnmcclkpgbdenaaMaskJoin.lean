/- The walks of layer 40, continued: Join, Meet, Minus, Same, of the package and of its reference. -/
import Derived.Test.YtnmcclkpgbdenaaMaskEach
namespace Go.Proofs.Ytnmcclkpgbdenaa.Mask
open Go.RowKit Go.Proofs.Ytnmcclkpgbdenaa.Mem

theorem join_any (A A' : Option Addr) (n m c c' : Nat) (a b : List Nat) (w : World) (hn : n = a.length) (hm : m = b.length) (ha : AllW a) (hb : AllW b) (h1 : Rd w w.heap.size A (WB a)) (h2 : Rd w w.heap.size A' (WB b)) (hsz : a.length ≤ 17592186044416) (hsz2 : b.length ≤ 17592186044416) :
    Calls Try.prog 61 #[.slice A n c, .slice A' m c'] w (GivesW w (joinN a b)) := by
  have C := Lib.hid (eachJ_any A A' n m c c' a b w hn hm ha hb h1 h2 hsz hsz2)
  clear hn hm
  go_enter Try.func61, Try.ntmps61
  go_wp2_with fail
  refine C.out.mono ?_
  rintro e w1 ⟨A1, c1, rfl, hown, hc1, hb1⟩
  go_wp2
  go_ret
  exact ⟨A1, c1, rfl, hown, hc1, hb1⟩
end Go.Proofs.Ytnmcclkpgbdenaa.Mask
