/- The laws of layer 4: works, and PackReads. -/
import Derived.Test.YtmfclekjojninaaPackWrite
import Derived.Test.YtmfclekjojninaaPackRefB
import Derived.Deep.RegionWith
import Derived.Deep.RegionHeld3
import Derived.Deep.DeepCutAuto
import Derived.Deep.LoopGhost
import Derived.Deep.CutBlock
namespace Go.Proofs.Ytmfclekjojninaa.Pack
open Go.RowKit Go.Proofs.Ytmfclekjojninaa.Mem Go.Proofs.Ytmfclekjojninaa.Num Go.Proofs.Ytmfclekjojninaa.Shift

theorem below_next {w w1 w2 : World} (h : Below w.heap.size w w1) (h2 : Below w1.heap.size w1 w2) : Below w.heap.size w w2 := h.trans (h2.mono h.size)
theorem below_new {w w1 : World} (h : Below w.heap.size w w1) (o : Obj) : Below w.heap.size w (w1.alloc o) := h.alloc h.size o
theorem num258 : numB 258 = [2, 1, 2] := by decide
theorem num2 : numB 2 = [1, 2] := by decide
theorem text_ab : textB ⟨#[97, 98]⟩ = [1, 2, 97, 98] := by
  unfold textB
  rw [show (⟨#[97, 98]⟩ : ByteArray).size = 2 from rfl, num2]; rfl
/-- a call of a reader -/
structure ActR where
  k : Nat
  m : Int
def actE : Elem ActR := ⟨fun x => [.int .u8 (x.k : Int), .int .i64 x.m], 2, by decide, fun _ => rfl, fun x u hu => by
  simp only [List.mem_cons, List.not_mem_nil, or_false] at hu
  rcases hu with rfl | rfl <;> rfl⟩
instance : Inhabited ActR := ⟨⟨0, 0⟩⟩
def ActR.Ok (x : ActR) : Prop := x.k < 256 ∧ -9223372036854775808 ≤ x.m ∧ x.m ≤ 9223372036854775807
/-- the two readers, apart -/
def Both (w : World) (S T : Nat → Prop) (g h : Nat) (r : RS) : Prop := Rdr w S g r ∧ RRdr w T h r
/-- the answers agree, and both go on alike -/
def Went (base : World) (S T : Nat → Prop) (g h : Nat) (w : World) : Prop := (∃ r, Rdr w S g r ∧ RRdr w T h r) ∧ Below base.heap.size base w
theorem went_on {base w0 w2 w3 : World} {S T : Nat → Prop} {g h : Nat} {r : RS} (hb0 : Below base.heap.size base w0) (hg : base.heap.size ≤ g) (hh : base.heap.size ≤ h) (hSh : ¬ S h)
    (hR2 : Rdr w2 S g r) (hu2 : Upd (fun k => k = g) w0 w2) (hX3 : RRdr w3 T h r) (hu3 : Upd (fun k => k = h) w2 w3) : Went base S T g h w3 := by
  have hb2 : Below base.heap.size base w2 := hb0.trans (hu2.below hb0.size (fun i _ e => by omega))
  exact ⟨⟨r, hR2.upd hu3 (fun k hk e => hSh (e ▸ hk)), hX3⟩, hb2.trans (hu3.below hb2.size (fun i _ e => by omega))⟩
theorem went_on' {base w0 w2 w3 : World} {S T : Nat → Prop} {g h : Nat} {r : RS} (hb0 : Below base.heap.size base w0) (hg : base.heap.size ≤ g) (hh : base.heap.size ≤ h) (hTg : ¬ T g)
    (hX2 : RRdr w2 T h r) (hu2 : Upd (fun k => k = h) w0 w2) (hR3 : Rdr w3 S g r) (hu3 : Upd (fun k => k = g) w2 w3) : Went base S T g h w3 := by
  have hb2 : Below base.heap.size base w2 := hb0.trans (hu2.below hb0.size (fun i _ e => by omega))
  exact ⟨⟨r, hR3, hX2.upd hu3 (fun k hk e => hTg (e ▸ hk))⟩, hb2.trans (hu3.below hb2.size (fun i _ e => by omega))⟩
end Go.Proofs.Ytmfclekjojninaa.Pack
