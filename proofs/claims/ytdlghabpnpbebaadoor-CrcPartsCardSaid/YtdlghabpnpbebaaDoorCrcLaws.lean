/- The laws of layer 2, as walks. -/
import Derived.Test.YtdlghabpnpbebaaDoorCrcOf
import Derived.Test.YtdlghabpnpbebaaDoorTurned
import Derived.OpenShut
import Derived.Lib.SlBytesConst
namespace Go.Proofs.YtdlghabpnpbebaaDoor.Crc
open Go.RowKit Go.Proofs.YtdlghabpnpbebaaDoor.Mem

theorem wf_u32 {a : Int} (h : (Lit.int .u32 a).wf = true) : ∃ v : Nat, a = (v : Int) ∧ v < 4294967296 := by
  have := bounds_u32 h
  exact ⟨a.toNat, by omega, by omega⟩
theorem wf_u16 {a : Int} (h : (Lit.int .u16 a).wf = true) : ∃ v : Nat, a = (v : Int) ∧ v < 65536 := by
  have := bounds_u16 h
  exact ⟨a.toNat, by omega, by omega⟩
theorem all_lit {l : List Nat} (h : l.all (fun x => decide (x < 256)) = true) : AllB l := fun x hx => by simpa using List.all_eq_true.1 h x hx
theorem below_next {w w1 w2 : World} (h : Below w.heap.size w w1) (h2 : Below w1.heap.size w1 w2) : Below w.heap.size w w2 := h.trans (h2.mono h.size)
theorem below_new {w w1 : World} (h : Below w.heap.size w w1) (o : Obj) : Below w.heap.size w (w1.alloc o) := h.alloc h.size o
theorem sum9 : more 0 [49, 50, 51, 52, 53, 54, 55, 56, 57] = 3421780262 := by decide +kernel
def dig9 : List Value := [.int .u8 49, .int .u8 50, .int .u8 51, .int .u8 52, .int .u8 53, .int .u8 54, .int .u8 55, .int .u8 56, .int .u8 57]
theorem works_any (w : World) (hT : Tab w) : Calls Tryd.prog 10 #[] w fun e w' => e = .returned (.bool true) ∧ Below w.heap.size w w' := by
  have kc := fun (w : World) (C : Array Value) (n c : Nat) => Lib.run_convert_bytes_const (P := Tryd.prog) w 22 5 C n c Tryd.underlying22 Tryd.underlying5
  have h9 : Ok (w.alloc (.cells dig9.toArray 5 (9, 10))) (some ⟨w.heap.size, 0, none⟩) [49, 50, 51, 52, 53, 54, 55, 56, 57] :=
    ⟨(Rd.marked w dig9 5 (9, 10)).more (by simp), all_lit (by decide), by simp⟩
  have hT1 := hT.alloc (.cells dig9.toArray 5 (9, 10))
  have hb1 := (Below.refl w.heap.size w).alloc (Nat.le_refl _) (.cells dig9.toArray 5 (9, 10))
  have e9 : Obj.cells dig9.toArray 5 (9, 10) = .cells #[.int .u8 49, .int .u8 50, .int .u8 51, .int .u8 52, .int .u8 53, .int .u8 54, .int .u8 55, .int .u8 56, .int .u8 57] 5 (9, 10) := rfl
  rw [e9] at h9 hT1 hb1
  clear e9
  go_enter Tryd.func10, Tryd.ntmps10
  go_wp2_with fail
  have hws : (w.alloc (.cells #[.int .u8 49, .int .u8 50, .int .u8 51, .int .u8 52, .int .u8 53, .int .u8 54, .int .u8 55, .int .u8 56, .int .u8 57] 5 (9, 10))).heap.size = w.heap.size + 1 := by simp
  generalize hW : w.alloc (.cells #[.int .u8 49, .int .u8 50, .int .u8 51, .int .u8 52, .int .u8 53, .int .u8 54, .int .u8 55, .int .u8 56, .int .u8 57] 5 (9, 10)) = W at *
  rw [← hws]
  have c1 := of1 _ _ _ 9 hT1 h9
  rw [sum9] at c1
  refine c1.mono ?_
  rintro e w2 ⟨rfl, hb2⟩
  have hb3 := below_next hb1 hb2
  have hT2 := hT.next hb3
  clear c1 hb2 hb1 hT1 h9 hW hws kc
  go_wp2_with fail
  refine (of0 _ hT2).mono ?_
  rintro e w' ⟨rfl, rfl⟩
  go_wp2_with fail
  go_ret
  exact ⟨rfl, hb3⟩
end Go.Proofs.YtdlghabpnpbebaaDoor.Crc
