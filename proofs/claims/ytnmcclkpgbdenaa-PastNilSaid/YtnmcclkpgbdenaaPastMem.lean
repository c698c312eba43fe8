/- Layer 41 (past): facts, and how a past lies in memory. -/
import Derived.Test.YtnmcclkpgbdenaaSet13
import Derived.Test.YtnmcclkpgbdenaaMaskAll
import Derived.Test.YtnmcclkpgbdenaaMaskSize
namespace Go.Proofs.Ytnmcclkpgbdenaa.Past
open Go.RowKit Go.Proofs.Ytnmcclkpgbdenaa.Mem Go.Proofs.Ytnmcclkpgbdenaa.Mask

/-- an event -/
structure EvM where
  dev : Nat
  n : Nat
  kind : Nat
  cid : Nat
  field : Nat
  text : ByteArray
  kA : Option Addr
  kn : Nat
  kc : Nat
def EvM.cells (e : EvM) : List Value := [.int .u16 (e.dev : Int), .int .u64 (e.n : Int), .int .u8 (e.kind : Int), .int .u64 (e.cid : Int), .int .u8 (e.field : Int), .string e.text, .slice e.kA e.kn e.kc]
/-- a fact: an event, and what it saw -/
structure FactM where
  e : EvM
  A : Option Addr
  m : List Nat
  c : Nat
instance : Inhabited EvM := ⟨⟨0, 0, 0, 0, 0, ⟨#[]⟩, none, 0, 0⟩⟩
instance : Inhabited FactM := ⟨⟨default, none, [], 0⟩⟩
def FactM.cells (f : FactM) : List Value := [.int .u16 (f.e.dev : Int), .int .u64 (f.e.n : Int), .int .u8 (f.e.kind : Int), .int .u64 (f.e.cid : Int), .int .u8 (f.e.field : Int), .string f.e.text, .slice f.e.kA f.e.kn f.e.kc, .slice f.A f.m.length f.c]
def factE : Elem FactM := ⟨FactM.cells, 8, by decide, fun _ => rfl, fun x u hu => by
  simp only [FactM.cells, List.mem_cons, List.not_mem_nil, or_false] at hu
  rcases hu with rfl | rfl | rfl | rfl | rfl | rfl | rfl | rfl <;> rfl⟩
theorem fact_info : (Try.prog.info? 103).map (fun i => (i.zero, i.size, i.bytes)) = some (some (.agg #[.int .u16 0, .int .u64 0, .int .u8 0, .int .u64 0, .int .u8 0, .string ByteArray.empty, .slice none 0 0, .slice none 0 0]), 8, 104) := by kernel_rfl
/-- a fact that is kept: its event has no kills, what it saw is words of the past's own -/
def FactM.Ok (w : World) (f : FactM) : Prop := (f.e.kA = none ∧ f.e.kn = 0 ∧ f.e.kc = 0) ∧ Own w 0 35 (.slice f.A f.m.length f.c) (WB f.m) ∧ AllW f.m ∧ f.m.length ≤ 16
/-- a past on the ground S, its object in block g -/
def Pst (w : World) (S : Nat → Prop) (g : Nat) (fs : List FactM) : Prop :=
  S g ∧ (∀ k, S k → k < w.heap.size) ∧ fs.length ≤ 1024 ∧ (∀ f ∈ fs, f.Ok w) ∧ ∃ X c, Blk w g [.slice X fs.length c] 101 ∧ factE.Own w 0 103 (.slice X fs.length c) fs ∧ ∀ x, X = some x → S x.block ∧ x.block ≠ g
section
variable {w w' : World} {S T : Nat → Prop} {g : Nat} {fs : List FactM}
theorem FactM.Ok.next {f : FactM} (h : f.Ok w) (hb : Below w.heap.size w w') : f.Ok w' := ⟨h.1, h.2.1.next hb, h.2.2⟩
theorem Pst.next (h : Pst w S g fs) (hb : Below w.heap.size w w') : Pst w' S g fs := by
  obtain ⟨h1, h2, h3, h4, X, c, h5, h6, h7⟩ := h
  exact ⟨h1, fun k hk => Nat.lt_of_lt_of_le (h2 k hk) hb.size, h3, fun f hf => (h4 f hf).next hb, X, c, h5.next hb, h6.next hb, h7⟩
theorem Pst.drewN (h : Pst w S g fs) (q : Nat) : Pst (w.drewN q) S g fs := h
/-- what a past is asked for -/
def PLen (w : World) (p : Value) (N : Nat) : Prop := (p = .pointer none ∧ N = 0) ∨ ∃ g X c t, p = .pointer (some ⟨g, 0, none⟩) ∧ Blk w g [.slice X N c] t
theorem PLen.next {p : Value} {N : Nat} (h : PLen w p N) (hb : Below w.heap.size w w') : PLen w' p N := by
  rcases h with h | ⟨g, X, c, t, h1, h2⟩
  · exact .inl h
  · exact .inr ⟨g, X, c, t, h1, h2.next hb⟩
theorem Pst.len (h : Pst w S g fs) : PLen w (.pointer (some ⟨g, 0, none⟩)) fs.length := by
  obtain ⟨h1, h2, h3, h4, X, c, h5, h6, h7⟩ := h
  exact .inr ⟨g, X, c, _, rfl, h5⟩
/-- the cells of a fact -/
theorem Pst.spot (h : Pst w S g fs) {i : Nat} {f : FactM} (hi : fs[i]? = some f) : ∃ X c b o, X = some ⟨b, o, none⟩ ∧ w.cell? ⟨g, 0, none⟩ = some (.slice X fs.length c) ∧ b < w.heap.size ∧ g < w.heap.size ∧
    (w.cell? ⟨b, o + i * 8, none⟩ = some (.int .u16 (f.e.dev : Int)) ∧ w.cell? ⟨b, o + i * 8 + 1, none⟩ = some (.int .u64 (f.e.n : Int)) ∧ w.cell? ⟨b, o + i * 8 + 2, none⟩ = some (.int .u8 (f.e.kind : Int)) ∧ w.cell? ⟨b, o + i * 8 + 3, none⟩ = some (.int .u64 (f.e.cid : Int)) ∧
      w.cell? ⟨b, o + i * 8 + 4, none⟩ = some (.int .u8 (f.e.field : Int)) ∧ w.cell? ⟨b, o + i * 8 + 5, none⟩ = some (.string f.e.text) ∧ w.cell? ⟨b, o + i * 8 + 6, none⟩ = some (.slice none 0 0) ∧ w.cell? ⟨b, o + i * 8 + 7, none⟩ = some (.slice f.A f.m.length f.c)) ∧ f.Ok w := by
  obtain ⟨h1, h2, h3, h4, X, c, h5, h6, h7⟩ := h
  have hok := h4 f (List.mem_of_getElem? hi)
  obtain ⟨b, o, hX, hb, hc⟩ := h6.rd.at_ hi
  obtain ⟨e, A, m, c2⟩ := f
  obtain ⟨dev, n, kind, cid, field, text, kA, kn, kc⟩ := e
  obtain ⟨⟨rfl, rfl, rfl⟩, ho⟩ := hok
  exact ⟨X, c, b, o, hX, h5.cell rfl, hb, h5.lt, ⟨hc 0 _ rfl, hc 1 _ rfl, hc 2 _ rfl, hc 3 _ rfl, hc 4 _ rfl, hc 5 _ rfl, hc 6 _ rfl, hc 7 _ rfl⟩, ⟨rfl, rfl, rfl⟩, ho⟩
end
/-- the facts of a set that are there; which fact puts out another one; which are live -/
def thereM (N : Nat) (set : List Nat) : List Nat := ofI ((allI set).filter fun n => decide (n < (N : Int)))
def outsM (fs : List FactM) (n k : Int) : Bool :=
  if (0 ≤ n ∧ n < fs.length) ∧ (0 ≤ k ∧ k < fs.length) then
    hasI (fs.getD n.toNat default).m k && (decide ((fs.getD k.toNat default).e.kind = 1) && (decide ((fs.getD n.toNat default).e.cid = (fs.getD k.toNat default).e.cid) && (decide ((fs.getD n.toNat default).e.kind = 2) || decide ((fs.getD n.toNat default).e.field = (fs.getD k.toNat default).e.field))))
  else false
def deadM (fs : List FactM) (set : List Nat) (k : Int) : Bool := (allI set).any fun n => outsM fs n k
def keepM (fs : List FactM) (set : List Nat) (k : Int) : Bool := decide ((fs.getD k.toNat default).e.kind = 1) && !deadM fs set k
def liveM (fs : List FactM) (set : List Nat) : List Nat := ofI ((allI (thereM fs.length set)).filter fun k => keepM fs (thereM fs.length set) k)
end Go.Proofs.Ytnmcclkpgbdenaa.Past
