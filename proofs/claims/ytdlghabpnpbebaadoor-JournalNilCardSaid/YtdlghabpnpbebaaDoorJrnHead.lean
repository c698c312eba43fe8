/- The walks of layer 24: a head's bytes; what a file tells. -/
import Derived.Test.YtdlghabpnpbebaaDoorJrnMath
import Derived.Test.YtdlghabpnpbebaaDoorPackWrite
import Derived.Test.YtdlghabpnpbebaaDoorPackReadB
import Derived.Test.YtdlghabpnpbebaaDoorWalPut
import Derived.Test.YtdlghabpnpbebaaDoorWalScan
import Derived.Test.YtdlghabpnpbebaaDoorBlkOps
namespace Go.Proofs.YtdlghabpnpbebaaDoor.Jrn
open Go.RowKit Go.Proofs.YtdlghabpnpbebaaDoor.Mem Go.Proofs.YtdlghabpnpbebaaDoor.Num Go.Proofs.YtdlghabpnpbebaaDoor.Wal Go.Proofs.YtdlghabpnpbebaaDoor.Disk Go.Proofs.YtdlghabpnpbebaaDoor.Pack Go.Proofs.YtdlghabpnpbebaaDoor.Crc Go.Proofs.YtdlghabpnpbebaaDoor.Shift

theorem below_c {w w1 w2 : World} (h : Below w.heap.size w w1) (h2 : Below w1.heap.size w1 w2) : Below w.heap.size w w2 := h.trans (h2.mono h.size)
theorem head_any (gen : Nat) (X : Option Addr) (m c : Nat) (l : List Nat) (w : World) (hm : m = l.length) (hT : Tab w) (hg : gen < 18446744073709551616) (hl : AllB l) (hr : Rd w w.heap.size X (BB l)) (hsz : l.length ≤ 140737488354000) :
    Calls Tryd.prog 36 #[.int .u64 (gen : Int), .slice X m c] w (Gives w (headN gen l)) := by
  subst hm
  have hW := Wtr.new w
  have hb0 : Below w.heap.size w (w.alloc (.cells #[.slice none 0 0] 101)) := (Below.refl _ _).alloc (Nat.le_refl _) _
  have CN := kept (wnum_any (fun k => k = w.heap.size) w.heap.size [] gen _ hW hg (by simp))
  have HR := kept (fun (W : World) (h : Below w.heap.size w W) => hr.next h)
  have HT := kept (fun (W : World) (h : Below w.heap.size w W) => hT.next h)
  have hn9 : (numB gen).length ≤ 9 := by have := numB_length gen; have := lenB_le gen; omega
  have hna : AllB (numB gen) := numB_all gen
  clear hW hr hT
  go_enter Tryd.func36, Tryd.ntmps36
  go_wp2_with fail
  refine CN.out.mono ?_
  rintro e w1 ⟨rfl, S1, hW1, hG1⟩
  rw [List.nil_append] at hW1
  have hb1 : Below w.heap.size w w1 := hb0.trans (hG1.below (B := w.heap.size) (by simp) (fun i hi => by omega))
  have CB := kept (wbytes_any S1 w.heap.size (numB gen) w1 hW1 (by omega))
  clear hW1 hG1 CN hb0
  go_wp2_with fail
  refine CB.out.mono ?_
  rintro e w2 ⟨A2, c2, rfl, hown2, hc2, hb2⟩
  have hbase := hb2.size
  have hb2 := below_c hb1 hb2
  have hr2 := HR.out _ hb2
  have hsz2 : (numB gen).length + l.length ≤ 140737488355328 := by omega
  clear CB
  go_wp2_with (at_builtin; refine wpl_app rfl (.tmp 8) (.tmp 9) rfl w1.heap.size _ (numB gen) rfl hown2 _ _ _ _ l rfl rfl hr2 hsz2 hbase ?_; intro A3 c3 w3 r3 hr3 hown3 hg3 hb3)
  obtain rfl : r3 = numB gen ++ l := hr3.out
  have hb3 : Below w.heap.size w w3 := hb2.trans (hb3.mono hb1.size)
  have hT3 := HT.out _ hb3
  have CP := kept (put_any A3 (numB gen ++ l).length c3 (numB gen ++ l) w3 rfl hT3 (fun x hx => (List.mem_append.1 hx).elim (hna x) (hl x)) hown3.rd (by rw [List.length_append]; omega))
  clear hr3 hown3 hg3 hr2 hown2 hT3
  go_wp2_with fail
  refine CP.out.mono ?_
  rintro e w4 ⟨A4, c4, rfl, hown4, hc4, hb4⟩
  have hbz := hb3.size
  have hb4 := below_c hb3 hb4
  go_wp2_with fail
  go_ret
  exact ⟨A4, c4, rfl, hown4.mono hbz, hc4, hb4⟩
end Go.Proofs.YtdlghabpnpbebaaDoor.Jrn
