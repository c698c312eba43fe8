/- Layer 22 (disk): the walks of the document's Sync, Cut, Append. -/
import Derived.Test.YtenkccfglmkdmaaDiskRef
namespace Go.Proofs.Ytenkccfglmkdmaa.Disk
open Go.RowKit Go.Proofs.Ytenkccfglmkdmaa.Mem

theorem strB_size (l : List Nat) : (strB l).size = l.length := by simp [strB, ByteArray.size]
theorem rburn_ds (d : DS) (w : World) (h : d.Ok) : Calls Try.prog 32 #[rV d] w (RGives w (.tuple #[rV d.burn, .bool d.burn.down])) := by
  obtain ⟨b0, s0, b1, s1, room, fuse, down⟩ := d
  have hf : -1 ≤ fuse ∧ fuse ≤ 9223372036854775807 := ⟨h.2.2.2.2.2.2.1, h.2.2.2.2.2.2.2⟩
  have e := rburn_any (strB b0) (strB b1) s0 s1 room fuse down w hf
  unfold DS.burn
  dsimp only
  by_cases h0 : fuse = 0
  · subst h0
    rw [if_pos rfl]
    simpa [rV] using e
  · rw [if_neg h0]
    cases down with
    | true => simpa [rV, h0] using e
    | false => simpa [rV, h0] using e
theorem facts7 {W : World} {g : Nat} {a b c d e f h : Value} (k : Blk W g [a, b, c, d, e, f, h] 42) :
    (W.cell? ⟨g, 0, none⟩ = some a ∧ W.cell? ⟨g, 1, none⟩ = some b ∧ W.cell? ⟨g, 2, none⟩ = some c ∧ W.cell? ⟨g, 3, none⟩ = some d ∧ W.cell? ⟨g, 4, none⟩ = some e ∧ W.cell? ⟨g, 5, none⟩ = some f ∧ W.cell? ⟨g, 6, none⟩ = some h) ∧
    (W.frozen? ⟨g, 0, none⟩ = false ∧ W.frozen? ⟨g, 1, none⟩ = false ∧ W.frozen? ⟨g, 2, none⟩ = false ∧ W.frozen? ⟨g, 3, none⟩ = false ∧ W.frozen? ⟨g, 4, none⟩ = false ∧ W.frozen? ⟨g, 5, none⟩ = false ∧ W.frozen? ⟨g, 6, none⟩ = false) ∧ g < W.heap.size :=
  ⟨⟨k.cell (j := 0) rfl, k.cell (j := 1) rfl, k.cell (j := 2) rfl, k.cell (j := 3) rfl, k.cell (j := 4) rfl, k.cell (j := 5) rfl, k.cell (j := 6) rfl⟩, ⟨k.frozen 0, k.frozen 1, k.frozen 2, k.frozen 3, k.frozen 4, k.frozen 5, k.frozen 6⟩, k.lt⟩
end Go.Proofs.Ytenkccfglmkdmaa.Disk
