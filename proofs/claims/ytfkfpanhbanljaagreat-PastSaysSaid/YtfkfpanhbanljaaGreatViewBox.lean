/- Layer 19 (view): a card that is being built, its lines the call's own. -/
import Derived.Test.YtfkfpanhbanljaaGreatSetAB
namespace Go.Proofs.YtfkfpanhbanljaaGreat.View
open Go.RowKit Go.Proofs.YtfkfpanhbanljaaGreat.Mem Go.Proofs.YtfkfpanhbanljaaGreat.Card

/-- a card that is being built: its box, its lines, their more texts -/
structure LS (wa wi : World) (cid : Nat) (A : Option Addr) (c : Nat) (ms : List LineM) : Prop where
  below : Below wa.heap.size wa wi
  box : Blk wi wa.heap.size [.int .u64 (cid : Int), .slice A ms.length c] 77
  own : lineE.Own wi (wa.heap.size + 1) 92 (.slice A ms.length c) ms
  more : ∀ z ∈ ms, z.f < 256 ∧ z.m.length ≤ 8796093022208 ∧ strE.Own wi (wa.heap.size + 1) 9 (.slice z.A z.m.length z.c) z.m
section
variable {wa wi w' w5 : World} {cid c c5 : Nat} {A A5 : Option Addr} {ms r5 : List LineM} {z : LineM}
theorem LS.start (wa : World) (cid : Nat) : LS wa (wa.alloc (.cells #[.int .u64 (cid : Int), .slice none 0 0] 77)) cid none 0 [] :=
  ⟨(Below.refl _ _).alloc (Nat.le_refl _) _, Blk.new wa [.int .u64 (cid : Int), .slice none 0 0] _, Elem.Own.nilv _ _ _ _, fun z hz => by cases hz⟩
theorem LS.next (h : LS wa wi cid A c ms) (hb : Below wi.heap.size wi w') : LS wa w' cid A c ms :=
  ⟨h.below.trans (hb.mono h.below.size), h.box.next hb, h.own.next hb, fun z hz => ⟨(h.more z hz).1, (h.more z hz).2.1, (h.more z hz).2.2.next hb⟩⟩
theorem LS.fresh (h : LS wa wi cid A c ms) (hc : cid < 18446744073709551616) (hl : ms.length ≤ 2932031007402) : CardM.Fresh wi wa.heap.size ⟨cid, A, ms, c⟩ :=
  ⟨hc, h.own.mono (Nat.le_succ _), hl, fun z hz => ⟨(h.more z hz).1, (h.more z hz).2.1, (h.more z hz).2.2.mono (Nat.le_succ _)⟩⟩
theorem LS.box5 (h : LS wa wi cid A c ms) (hu : Upd (fun k => (Value.slice A ms.length c).ownBlock = some k) wi w5) : Blk w5 wa.heap.size [.int .u64 (cid : Int), .slice A ms.length c] 77 :=
  h.box.upd hu fun e => by have := (OwnK.under h.own _ e).1; omega
theorem LS.app (h : LS wa wi cid A c ms) (hz : z.f < 256 ∧ z.m.length ≤ 8796093022208 ∧ strE.Own wi (wa.heap.size + 1) 9 (.slice z.A z.m.length z.c) z.m) (hr : r5 = ms ++ [z])
    (ho : lineE.Own w5 (wa.heap.size + 1) 92 (.slice A5 r5.length c5) r5) (hu : Upd (fun k => (Value.slice A ms.length c).ownBlock = some k) wi w5) :
    LS wa (w5.setCell ⟨wa.heap.size, 1, none⟩ (.slice A5 r5.length c5)) cid A5 c5 r5 := by
  refine ⟨(h.below.trans (hu.below h.below.size fun k _ e => by have := (OwnK.under h.own _ e).1; omega)).setCell (p := ⟨wa.heap.size, 1, none⟩) (Nat.le_refl _) _, (h.box5 hu).set 1 _, OwnK.low ho (p := ⟨wa.heap.size, 1, none⟩) (Nat.lt_succ_self _) _, fun y hy => ?_⟩
  have h2 : y.f < 256 ∧ y.m.length ≤ 8796093022208 ∧ strE.Own wi (wa.heap.size + 1) 9 (.slice y.A y.m.length y.c) y.m := by
    rw [hr] at hy
    rcases List.mem_append.1 hy with h3 | h3
    · exact h.more y h3
    · rw [List.mem_singleton.1 h3]; exact hz
  exact ⟨h2.1, h2.2.1, OwnK.low (h2.2.2.upd hu fun k hk e => Mem.own_apart h2.2.2 h.own (by decide) k hk e) (p := ⟨wa.heap.size, 1, none⟩) (Nat.lt_succ_self _) _⟩
end
end Go.Proofs.YtfkfpanhbanljaaGreat.View
