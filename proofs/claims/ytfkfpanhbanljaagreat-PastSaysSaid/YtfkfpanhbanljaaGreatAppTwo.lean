/- A row that is copied, and one element behind it ('append(append([]T, x..), y)'): the shapes of memory in a region that draws its order, over any program. -/
import Derived.Test.YtfkfpanhbanljaaGreatElemU
import Derived.Test.YtfkfpanhbanljaaGreatMemK
namespace Go.Proofs.YtfkfpanhbanljaaGreat.Mem
open Go.RowKit

section
variable {α : Type} (E : Elem α) (e : TypeId)
theorem two_o1 (w : World) : E.Own (w.alloc (.cells #[] e)).drew w.heap.size e (.slice (some ⟨w.heap.size, 0, none⟩) 0 0) [] := Elem.Own.new E w w.heap.size e [] (Nat.le_refl _) (by simp)
theorem two_o2 (w : World) (O : Obj) : E.Own ((w.alloc (.cells #[] e)).alloc O).drew w.heap.size e (.slice (some ⟨w.heap.size, 0, none⟩) 0 0) [] := (Elem.Own.new E w w.heap.size e [] (Nat.le_refl _) (by simp)).alloc _
theorem two_o3 (w : World) (O : Obj) : E.Own ((w.alloc O).alloc (.cells #[] e)).drew w.heap.size e (.slice (some ⟨w.heap.size + 1, 0, none⟩) 0 0) [] := by
  have h : E.Own ((w.alloc O).alloc (.cells #[] e)) w.heap.size e (.slice (some ⟨(w.alloc O).heap.size, 0, none⟩) 0 0) [] := Elem.Own.new E (w.alloc O) w.heap.size e [] (by simp) (by simp)
  rw [show (w.alloc O).heap.size = w.heap.size + 1 by simp] at h
  exact h
variable {E e}
theorem two_1 {wr w2 : World} {A2 : Option Addr} {c2 : Nat} {r2 : List α} (q : α) (hown2 : E.Own w2 wr.heap.size e (.slice A2 r2.length c2) r2) (hu2 : ∀ S : Nat → Prop, (∀ k, (Value.slice (some ⟨wr.heap.size, 0, none⟩) 0 0).ownBlock = some k → S k) → Upd S (wr.alloc (.cells #[] e)).drew w2) :
    Below wr.heap.size wr w2 ∧ Below wr.heap.size wr (w2.alloc (.cells (E.g q).toArray e)) ∧ E.Own (w2.alloc (.cells (E.g q).toArray e)) wr.heap.size e (.slice A2 r2.length c2) r2 ∧ E.Rd (w2.alloc (.cells (E.g q).toArray e)) (w2.heap.size + 1) (some ⟨w2.heap.size, 0, none⟩) [q] ∧ wr.heap.size ≤ (w2.alloc (.cells (E.g q).toArray e)).heap.size := by
  have h0 : Below wr.heap.size wr (wr.alloc (.cells #[] e)).drew := ((Below.refl _ _).alloc (Nat.le_refl _) _).drew
  have h1 := h0.trans ((hu2 (fun k => k = wr.heap.size) (fun k hk => (Option.some.inj hk).symm)).below h0.size (fun i _ e => by omega))
  have h2 := h1.alloc h1.size (.cells (E.g q).toArray e)
  refine ⟨h1, h2, hown2.alloc _, ?_, h2.size⟩
  have := Rd.new w2 (E.g q) e
  unfold Elem.Rd Elem.cells
  rw [List.flatMap_singleton]
  exact this
theorem two_2 {wr w2 : World} (q : α) (hu2 : ∀ S : Nat → Prop, (∀ k, (Value.slice (some ⟨wr.heap.size, 0, none⟩) 0 0).ownBlock = some k → S k) → Upd S ((wr.alloc (.cells #[] e)).alloc (.cells (E.g q).toArray e)).drew w2) :
    Below wr.heap.size wr w2 ∧ E.Rd w2 (wr.heap.size + 2) (some ⟨wr.heap.size + 1, 0, none⟩) [q] := by
  have h0 : Below wr.heap.size wr ((wr.alloc (.cells #[] e)).alloc (.cells (E.g q).toArray e)).drew := (((Below.refl _ _).alloc (Nat.le_refl _) _).alloc (by simp) _).drew
  have hu := hu2 (fun k => k = wr.heap.size) (fun k hk => (Option.some.inj hk).symm)
  have hr : Rd ((wr.alloc (.cells #[] e)).alloc (.cells (E.g q).toArray e)).drew (wr.heap.size + 2) (some ⟨wr.heap.size + 1, 0, none⟩) (E.g q) := Rd.newAt (wr.alloc (.cells #[] e)) (E.g q) e (by simp) (by omega)
  refine ⟨h0.trans (hu.below h0.size (fun i _ e => by omega)), ?_⟩
  unfold Elem.Rd Elem.cells
  rw [List.flatMap_singleton]
  refine hr.updN hu (by simp) (fun x hx _ e => ?_)
  obtain rfl := Option.some.inj hx
  exact absurd e (by simp)
theorem two_3 {wr w2 : World} (q : α) (hu2 : ∀ S : Nat → Prop, (∀ k, (Value.slice (some ⟨wr.heap.size + 1, 0, none⟩) 0 0).ownBlock = some k → S k) → Upd S ((wr.alloc (.cells (E.g q).toArray e)).alloc (.cells #[] e)).drew w2) :
    Below wr.heap.size wr w2 ∧ E.Rd w2 (wr.heap.size + 1) (some ⟨wr.heap.size, 0, none⟩) [q] := by
  have h0 : Below wr.heap.size wr ((wr.alloc (.cells (E.g q).toArray e)).alloc (.cells #[] e)).drew := (((Below.refl _ _).alloc (Nat.le_refl _) _).alloc (by simp) _).drew
  have hu := hu2 (fun k => k = wr.heap.size + 1) (fun k hk => (Option.some.inj hk).symm)
  have hr : Rd ((wr.alloc (.cells (E.g q).toArray e)).alloc (.cells #[] e)).drew (wr.heap.size + 1) (some ⟨wr.heap.size, 0, none⟩) (E.g q) := (Rd.new wr (E.g q) e).alloc (by simp) (.cells #[] e)
  refine ⟨h0.trans (hu.below h0.size (fun i _ e => by omega)), ?_⟩
  unfold Elem.Rd Elem.cells
  rw [List.flatMap_singleton]
  refine hr.updN hu (by simp) (fun x hx _ e => ?_)
  obtain rfl := Option.some.inj hx
  exact absurd e (by simp)
theorem two_below {wr w w' : World} {v : Value} {r : List α} (hB : Below wr.heap.size wr w) (ho : E.Own w wr.heap.size e v r) (hu : ∀ S : Nat → Prop, (∀ k, v.ownBlock = some k → S k) → Upd S w w') : Below wr.heap.size wr w' :=
  hB.trans ((hu (fun k => v.ownBlock = some k) fun _ h => h).below hB.size fun i _ e => (World.ownsRow.lt ho i e).1)
end
end Go.Proofs.YtfkfpanhbanljaaGreat.Mem
