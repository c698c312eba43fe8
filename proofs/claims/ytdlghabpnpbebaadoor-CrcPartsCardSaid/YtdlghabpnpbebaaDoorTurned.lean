/- The walk of the reference's Turned: bytes of which the bits of a mask are turned, and whether there were any. -/
import Derived.Test.YtdlghabpnpbebaaDoorCrcOf
import Derived.Test.YtdlghabpnpbebaaDoorTurnMath
namespace Go.Proofs.YtdlghabpnpbebaaDoor.Crc
open Go.RowKit Go.Proofs.YtdlghabpnpbebaaDoor.Mem

theorem own_at {w : World} {base : Nat} {A : Option Addr} {c : Nat} {x : List Nat} (h : Own w base 5 (.slice A x.length c) (BB x)) {k : Nat} (hk : k < x.length) :
    ∃ g, A = some ⟨g, 0, none⟩ ∧ base ≤ g ∧ g < w.heap.size ∧ w.cell? ⟨g, k, none⟩ = some (.int .u8 (x.getD k 0 : Int)) ∧ w.frozen? ⟨g, k, none⟩ = false ∧
      ∀ y : Nat, Own (w.setCell ⟨g, k, none⟩ (.int .u8 (y : Int))) base 5 (.slice (some ⟨g, 0, none⟩) x.length c) (BB (x.set k y)) ∧ w.grownBy (w.setCell ⟨g, k, none⟩ (.int .u8 (y : Int))) (some g) := by
  obtain ⟨g, cap, hv, hbg, hgl⟩ := World.ownsRow.form h (by rw [BB_length]; omega)
  injection hv with h1 h2 h3
  subst h1 h3
  have h' : w.ownsRow base 5 1 (.slice (some ⟨g, 0, none⟩) x.length c) x.length (BB x) := by
    have := h
    unfold Own at this
    rwa [BB_length] at this
  refine ⟨g, rfl, hbg, hgl, ?_, h'.frozenAt k, fun y => ?_⟩
  · rw [h'.cellAt k (by omega), BB_get x k hk]
  · obtain ⟨s1, s2⟩ := h'.stored k (.int .u8 (y : Int))
    refine ⟨?_, s2⟩
    unfold Own
    rw [BB_length, List.length_set]
    have e : BB (x.set k y) = (BB x).set k (.int .u8 (y : Int)) := by simp [BB, List.map_set]
    rw [e]
    exact s1
theorem pow8_lt {r : Nat} (h : r < 8) : 2 ^ r < 256 := Nat.pow_lt_pow_right (n := 8) (by decide) h
/-- what Turned gives: the bytes, and a number that is 0 just if no bit was turned -/
def Turns (w : World) (l : List Nat) (k m : Nat) (en : Ending) (w' : World) : Prop :=
  ∃ A c n, en = .returned (.tuple #[.slice A l.length c, .int .i64 ((n : Nat) : Int)]) ∧ (n = 0 ↔ m % 2 ^ (8 * l.length - k) = 0) ∧ Own w' w.heap.size 5 (.slice A l.length c) (BB (spoilt l k m)) ∧ l.length ≤ c ∧ Below w.heap.size w w'
end Go.Proofs.YtdlghabpnpbebaaDoor.Crc
