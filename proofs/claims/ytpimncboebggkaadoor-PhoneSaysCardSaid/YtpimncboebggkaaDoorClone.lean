/- Texts and lines copied: the library's slices.Clone. -/
import Derived.Test.YtpimncboebggkaaDoorCardRef
import Derived.Test.YtpimncboebggkaaDoorMemK
namespace Go.Proofs.YtpimncboebggkaaDoor.Card
open Go.RowKit Go.Proofs.YtpimncboebggkaaDoor.Mem

theorem str_info : (Tryd.prog.info? 9).map (fun i => (i.zero, i.size, i.bytes)) = some (some (.string ByteArray.empty), 1, 16) := by kernel_rfl
def strE : Elem ByteArray := ⟨fun s => [.string s], 1, by decide, fun _ => rfl, fun _ u hu => by rcases List.mem_singleton.1 hu with rfl; rfl⟩
def lineE : Elem LineM := ⟨LineM.cells, 3, by decide, fun _ => rfl, fun x u hu => by
  simp only [LineM.cells, List.mem_cons, List.not_mem_nil, or_false] at hu
  rcases hu with rfl | rfl | rfl <;> rfl⟩
def cardE : Elem CardM := ⟨CardM.cells, 2, by decide, fun _ => rfl, fun x u hu => by
  simp only [CardM.cells, List.mem_cons, List.not_mem_nil, or_false] at hu
  rcases hu with rfl | rfl <;> rfl⟩
theorem strE_cells (l : List ByteArray) : strE.cells l = SB l := by
  unfold Elem.cells SB
  induction l with
  | nil => rfl
  | cons x l ih => rw [List.flatMap_cons, ih]; rfl
theorem strE_rd {w : World} {B : Nat} {A : Option Addr} {l : List ByteArray} : strE.Rd w B A l ↔ Rd w B A (SB l) := by unfold Elem.Rd; rw [strE_cells]
end Go.Proofs.YtpimncboebggkaaDoor.Card
