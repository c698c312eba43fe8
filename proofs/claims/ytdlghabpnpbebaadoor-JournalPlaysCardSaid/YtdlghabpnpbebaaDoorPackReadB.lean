/- The walks of layer 4: a reader's Text, and New. -/
import Derived.Test.YtdlghabpnpbebaaDoorPackRead
import Derived.IntWalk
namespace Go.Proofs.YtdlghabpnpbebaaDoor.Pack
open Go.RowKit Go.Proofs.YtdlghabpnpbebaaDoor.Mem Go.Proofs.YtdlghabpnpbebaaDoor.Num

/-- a reader of bytes, that shares nothing with them -/
def News (w : World) (l : List Nat) (e : Ending) (w' : World) : Prop :=
  ∃ (S : Nat → Prop) (g : Nat), e = .returned (.pointer (some ⟨g, 0, none⟩)) ∧ Rdr w' S g ⟨l, 0⟩ ∧ (∀ k, S k → w.heap.size ≤ k) ∧ Below w.heap.size w w'
theorem new_any (A : Option Addr) (n c : Nat) (l : List Nat) (w : World) (hn : n = l.length) (hl : AllB l) (hr : Rd w w.heap.size A (BB l)) (hsz : l.length ≤ 140737488355000) :
    Calls Tryd.prog 61 #[.slice A n c] w (News w l) := by
  subst hn
  have hz : ([] : List Nat).length + l.length ≤ 140737488355328 := by simp; omega
  go_enter Tryd.func61, Tryd.ntmps61
  go_wp2_with (at_builtin; refine wpl_app rfl (.const (.slice none 0 0)) (.tmp 3) rfl w.heap.size _ [] rfl (Own.nilv _ _ _) w.heap.size A _ c l rfl rfl hr hz (Nat.le_refl _) ?_; intro A2 c2 w2 r2 hr2 hown2 hg2 hb2)
  go_ret
  obtain rfl : r2 = l := hr2.out
  have hb3 := hb2.alloc hb2.size (.cells #[.slice A2 r2.length c2, .int .i64 0] 119)
  have hlt : ∀ x, A2 = some x → w.heap.size ≤ x.block ∧ x.block < w2.heap.size := fun x hx => by subst hx; exact hown2.lt x.block rfl
  have hc := hown2.form
  obtain ⟨_, _, he, hc1, hc2, _⟩ := hc
  injection he with _ _ he
  subst he
  rw [BB_length] at hc1
  unfold maxLen at hc2
  refine ⟨fun k => k = w2.heap.size ∨ ∃ x, A2 = some x ∧ x.block = k, w2.heap.size, rfl, ⟨RS.new hl (by omega), .inl rfl, ?_, A2, c2, Blk.new w2 [.slice A2 r2.length c2, .int .i64 0] _, (hown2.rd.alloc (Nat.le_refl _) _).more (by simp), hc1, hc2, fun x hx => ⟨.inr ⟨x, hx, rfl⟩, by have := hlt x hx; omega⟩⟩, ?_, hb3⟩
  · rintro k (rfl | ⟨x, hx, rfl⟩)
    · simp
    · have := hlt x hx; simp; omega
  · rintro k (rfl | ⟨x, hx, rfl⟩)
    · exact hb2.size
    · exact (hlt x hx).1
end Go.Proofs.YtdlghabpnpbebaaDoor.Pack
