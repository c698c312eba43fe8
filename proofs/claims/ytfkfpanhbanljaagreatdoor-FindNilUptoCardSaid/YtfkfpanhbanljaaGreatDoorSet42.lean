import Derived.Test.YtfkfpanhbanljaaGreatDoorSet9
import Derived.Test.YtfkfpanhbanljaaGreatDoorSet12
import Derived.Test.YtfkfpanhbanljaaGreatDoorMemK
import Derived.Test.YtfkfpanhbanljaaGreatDoorSet16
import Derived.Deep.QuietTactic
import Derived.BigQuiet
import Derived.Deep.DeepCutAuto
import Derived.Test.YtfkfpanhbanljaaGreatDoorSet17
/- slices.insertionSortOrdered, and Sort of at most twelve numbers (bytes), in a row of the call's own. -/
namespace Go.Proofs.YtfkfpanhbanljaaGreatDoor.SortY
open Go.Proofs.YtfkfpanhbanljaaGreatDoor.SortW Go.RowKit Go.Proofs.YtfkfpanhbanljaaGreatDoor.Mem

/-- a row of words of one's own: one of them, and a store there -/
theorem byte_spot {w : World} {base : Nat} {A : Option Addr} {n c : Nat} {xs : List Nat} (h : Own w base 5 (.slice A n c) (BB xs)) {k : Nat} (hk : k < xs.length) :
    ∃ g, A = some ⟨g, 0, none⟩ ∧ base ≤ g ∧ w.cell? ⟨g, k, none⟩ = some (.int .u8 ((xs.getD k 0 : Nat) : Int)) ∧ w.frozen? ⟨g, k, none⟩ = false ∧ ∀ v : Nat, Own (w.setCell ⟨g, k, none⟩ (.int .u8 (v : Int))) base 5 (.slice (some ⟨g, 0, none⟩) n c) (BB (xs.set k v)) := by
  have hu : (BB xs)[k]? = some (.int .u8 ((xs.getD k 0 : Nat) : Int)) := by simp [BB, List.getD, hk]
  obtain ⟨g, h1, h2, h3, h4, h5, h6⟩ := OwnK.spot h hu
  refine ⟨g, h1, h2, h4, h5, fun v => ?_⟩
  have := (h6 (.int .u8 (v : Int))).1
  have e : (BB xs).set k (.int .u8 (v : Int)) = BB (xs.set k v) := by simp [BB, List.map_set]
  rw [e] at this
  have hl : (BB (xs.set k v)).length = (BB xs).length := by simp [BB]
  unfold Own
  rw [hl]
  exact this
end Go.Proofs.YtfkfpanhbanljaaGreatDoor.SortY

/- slices.Sort of at most twelve bytes. (printed by tools/genby.py) -/
namespace Go.Proofs.YtfkfpanhbanljaaGreatDoor.SortY
open Go.Proofs.YtfkfpanhbanljaaGreatDoor.SortW Go.RowKit Go.Proofs.YtfkfpanhbanljaaGreatDoor.Mem

end Go.Proofs.YtfkfpanhbanljaaGreatDoor.SortY
