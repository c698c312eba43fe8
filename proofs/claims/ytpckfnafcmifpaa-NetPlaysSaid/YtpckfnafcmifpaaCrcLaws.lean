/- The laws of layer 2, as walks. -/
import Derived.Test.YtpckfnafcmifpaaCrcOf
import Derived.Test.YtpckfnafcmifpaaTurned
import Derived.OpenShut
import Derived.Lib.SlBytesConst
namespace Go.Proofs.Ytpckfnafcmifpaa.Crc
open Go.RowKit Go.Proofs.Ytpckfnafcmifpaa.Mem

theorem wf_u32 {a : Int} (h : (Lit.int .u32 a).wf = true) : ∃ v : Nat, a = (v : Int) ∧ v < 4294967296 := by
  have := bounds_u32 h
  exact ⟨a.toNat, by omega, by omega⟩
theorem wf_u16 {a : Int} (h : (Lit.int .u16 a).wf = true) : ∃ v : Nat, a = (v : Int) ∧ v < 65536 := by
  have := bounds_u16 h
  exact ⟨a.toNat, by omega, by omega⟩
theorem all_lit {l : List Nat} (h : l.all (fun x => decide (x < 256)) = true) : AllB l := fun x hx => by simpa using List.all_eq_true.1 h x hx
theorem below_next {w w1 w2 : World} (h : Below w.heap.size w w1) (h2 : Below w1.heap.size w1 w2) : Below w.heap.size w w2 := h.trans (h2.mono h.size)
theorem below_new {w w1 : World} (h : Below w.heap.size w w1) (o : Obj) : Below w.heap.size w (w1.alloc o) := h.alloc h.size o
theorem sum9 : more 0 [49, 50, 51, 52, 53, 54, 55, 56, 57] = 3421780262 := by decide +kernel
def dig9 : List Value := [.int .u8 49, .int .u8 50, .int .u8 51, .int .u8 52, .int .u8 53, .int .u8 54, .int .u8 55, .int .u8 56, .int .u8 57]
end Go.Proofs.Ytpckfnafcmifpaa.Crc
