/- Layer 41 (past): the law's state: the past and the document's facts side by side. -/
import Derived.Test.YtfkfpanhbanljaaGreatRPastAdd
import Derived.Test.YtfkfpanhbanljaaGreatSetY
import Derived.Test.YtfkfpanhbanljaaGreatSetF
namespace Go.Proofs.YtfkfpanhbanljaaGreat.Past
open Go.RowKit Go.Proofs.YtfkfpanhbanljaaGreat.Mem Go.Proofs.YtfkfpanhbanljaaGreat.Mask

set_option maxRecDepth 100000 in
theorem event_out (S : Nat → Prop) (g : Nat) (fs : List FactM) (k : Int) (w : World) (h : Pst w S g fs) (hk : ¬ (0 ≤ k ∧ k < (fs.length : Int))) : Calls Tryz.prog 10 #[.pointer (some ⟨g, 0, none⟩), .int .i64 k] w fun e w' => e = .returned (.tuple #[.agg #[.int .u16 0, .int .u64 0, .int .u8 0, .int .u64 0, .int .u8 0, .string ⟨#[]⟩, .slice none 0 0], .bool false]) ∧ Below w.heap.size w w' := by
  have CI : Kept (∀ W, Below w.heap.size w W → Calls Tryz.prog 24 #[.pointer (some ⟨g, 0, none⟩), .int .i64 k] W fun e w' => e = .returned (.bool false) ∧ W = w') := ⟨fun W hb => by
    have := is_any _ fs.length k W (h.next hb).len
    rwa [decide_eq_false hk] at this⟩
  clear h hk
  go_enter Tryz.func10, Tryz.ntmps10
  go_wp2_with fail
  refine (CI.out _ ((Below.refl _ _).alloc (Nat.le_refl _) _)).mono ?_
  rintro e w1 ⟨rfl, hw1⟩
  subst hw1
  go_wp2_with fail
  exact bodyPost_ret (res_cell_tmp rfl _ w.heap.size _ [.int .u16 0, .int .u64 0, .int .u8 0, .int .u64 0, .int .u8 0, .string ⟨#[]⟩, .slice none 0 0] _ rfl (Blk.new w _ _) rfl rfl rfl) rfl ⟨rfl, (Below.refl _ _).alloc (Nat.le_refl _) _⟩
/-- the past at g, on the ground S, and the document's facts -/
structure PSt (w wr : World) (g : Nat) (S : Nat → Prop) (fs rs : List FactM) (X : Option Addr) : Prop where
  pst : Pst wr S g fs
  hi : ∀ k, S k → w.heap.size ≤ k
  rd : RdF wr X rs
  offX : ∀ x, X = some x → ¬ S x.block ∧ x.block < wr.heap.size
  offA : ∀ f ∈ rs, ∀ x, f.A = some x → ¬ S x.block ∧ x.block < wr.heap.size
  q : fs.map FactM.q = rs.map FactM.q
  evs : ∀ f ∈ fs, f.e.cid < 18446744073709551616 ∧ f.e.field < 256
  tr : ∀ f ∈ fs, trim f.m = f.m
  below : Below w.heap.size w wr
section
variable {w wr w' : World} {g : Nat} {S S' : Nat → Prop} {fs rs : List FactM} {X X2 : Option Addr}
theorem PSt.next (h : PSt w wr g S fs rs X) (hb : Below wr.heap.size wr w') : PSt w w' g S fs rs X :=
  ⟨h.pst.next hb, h.hi, h.rd.next hb, fun x hx => ⟨(h.offX x hx).1, Nat.lt_of_lt_of_le (h.offX x hx).2 hb.size⟩, fun f hf x hx => ⟨(h.offA f hf x hx).1, Nat.lt_of_lt_of_le (h.offA f hf x hx).2 hb.size⟩, h.q, h.evs, h.tr, bnx h.below hb⟩
theorem PSt.len (h : PSt w wr g S fs rs X) : fs.length = rs.length := q_len h.q
/-- behind the past's Add: the document's facts lie as they lay -/
theorem PSt.goes (h : PSt w wr g S fs rs X) (hG : Goes S wr S' w') : RdF w' X rs ∧ (∀ x, X = some x → ¬ S' x.block ∧ x.block < w'.heap.size) ∧ (∀ f ∈ rs, ∀ x, f.A = some x → ¬ S' x.block ∧ x.block < w'.heap.size) ∧ (∀ k, S' k → w.heap.size ≤ k) ∧ Below w.heap.size w w' := by
  have hoff : ∀ k, ¬ S k → k < wr.heap.size → ¬ S' k := fun k h1 h2 h3 => by
    rcases hG.2 k h3 with h4 | h4
    · exact h1 h4
    · omega
  refine ⟨⟨?_, fun f hf => ?_⟩, fun x hx => ⟨hoff _ (h.offX x hx).1 (h.offX x hx).2, Nat.lt_of_lt_of_le (h.offX x hx).2 hG.1.size⟩, fun f hf x hx => ⟨hoff _ (h.offA f hf x hx).1 (h.offA f hf x hx).2, Nat.lt_of_lt_of_le (h.offA f hf x hx).2 hG.1.size⟩, hG.base h.below.size h.hi, h.below.trans (hG.below h.below.size h.hi)⟩
  · exact Elem.Rd.more (Rd.upd h.rd.1 hG.1 (Nat.le_refl _) fun x hx => (h.offX x hx).1) hG.1.size
  · obtain ⟨h1, h2, h3⟩ := h.rd.2 f hf
    exact ⟨h1, (Rd.upd h2 hG.1 (Nat.le_refl _) fun x hx => (h.offA f hf x hx).1).more hG.1.size, h3⟩
/-- a fact more on both sides -/
theorem PSt.both {w1 : World} {e : EvM} {m : List Nat} {A A2 : Option Addr} {c c2 : Nat} (h : PSt w wr g S fs rs X) (hP : Pst w1 S' g (addF fs e m A c)) (hG : Goes S wr S' w1) (hb : Below w1.heap.size w1 w')
    (hR : RdF w' X2 (rs ++ [⟨⟨e.dev, e.n, e.kind, e.cid, e.field, e.text, none, 0, 0⟩, A2, belowM m rs.length, c2⟩])) (hX2 : ∀ x, X2 = some x → w1.heap.size ≤ x.block) (hA2 : ∀ x, A2 = some x → w1.heap.size ≤ x.block)
    (hX3 : ∀ x, X2 = some x → x.block < w'.heap.size) (hA3 : ∀ x, A2 = some x → x.block < w'.heap.size) (hc : e.cid < 18446744073709551616) (hf : e.field < 256) :
    PSt w w' g S' (addF fs e m A c) (rs ++ [⟨⟨e.dev, e.n, e.kind, e.cid, e.field, e.text, none, 0, 0⟩, A2, belowM m rs.length, c2⟩]) X2 := by
  obtain ⟨h1, h2, h3, h4, h5⟩ := h.goes hG
  have hS1 : ∀ k, S' k → k < w1.heap.size := hP.2.1
  refine ⟨hP.next hb, h4, hR, fun x hx => ⟨fun hs => ?_, hX3 x hx⟩, fun f hf x hx => ?_, ?_, fun f hf' => ?_, fun f hf' => ?_, h5.trans (hb.mono h5.size)⟩
  · have a := hS1 _ hs
    have b := hX2 x hx
    omega
  · rcases List.mem_append.1 hf with h6 | h6
    · exact ⟨(h3 f h6 x hx).1, Nat.lt_of_lt_of_le (h3 f h6 x hx).2 hb.size⟩
    · rw [List.mem_singleton.1 h6] at hx
      refine ⟨fun hs => ?_, hA3 x hx⟩
      have a := hS1 _ hs
      have b := hA2 x hx
      omega
  · unfold addF
    rw [List.map_append, List.map_append, h.q, h.len, ← below_there]
    rfl
  · unfold addF at hf'
    rcases List.mem_append.1 hf' with h6 | h6
    · exact h.evs f h6
    · rw [List.mem_singleton.1 h6]; exact ⟨hc, hf⟩
  · unfold addF at hf'
    rcases List.mem_append.1 hf' with h6 | h6
    · exact h.tr f h6
    · rw [List.mem_singleton.1 h6]; exact there_trim _ _
end
end Go.Proofs.YtfkfpanhbanljaaGreat.Past
