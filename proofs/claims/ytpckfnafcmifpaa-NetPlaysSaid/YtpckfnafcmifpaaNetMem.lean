/- Layer 36 (net): messages under way, and how a net lies in memory. -/
import Derived.Test.YtpckfnafcmifpaaElemU
import Derived.Test.YtpckfnafcmifpaaSpoil
namespace Go.Proofs.Ytpckfnafcmifpaa.Net
open Go.RowKit Go.Proofs.Ytpckfnafcmifpaa.Mem

/-- a message under way -/
structure OneM where
  to : Int
  A : Option Addr
  b : List Nat
  c : Nat
  bad : Bool
instance : Inhabited OneM := ⟨⟨0, none, [], 0, false⟩⟩
def OneM.cells (x : OneM) : List Value := [.int .i64 x.to, .slice x.A x.b.length x.c, .bool x.bad]
def oneE : Elem OneM := ⟨OneM.cells, 3, by decide, fun _ => rfl, fun x u hu => by
  simp only [OneM.cells, List.mem_cons, List.not_mem_nil, or_false] at hu
  rcases hu with rfl | rfl | rfl <;> rfl⟩
theorem one_info : (Try.prog.info? 98).map (fun i => (i.zero, i.size, i.bytes)) = some (some (.agg #[.int .i64 0, .slice none 0 0, .bool false]), 3, 40) := by kernel_rfl
/-- append to bytes of the call's own, told with the capacity -/
theorem wpl_appC {w : World} {ops : Array Oper} {rest : List Oper} {o : Oper} {a : Act} {Q : Exit → Act → World → Prop} (hgd : o.guard = none) (s x : Operand)
    (ho : o.op = .call { callee := .builtin .append, args := #[s, x], argTypes := #[54, 54] })
    (base : Nat) (v : Value) (l : List Nat) (hs : a.eval s = v) (hown : Own w base 5 v (BB l))
    (B : Nat) (A : Option Addr) (m c : Nat) (news : List Nat) (hx : a.eval x = .slice A m c) (hm : m = news.length) (hr : Rd w B A (BB news))
    (hsz : l.length + news.length ≤ 140737488355328) (hbase : base ≤ w.heap.size)
    (h : ∀ A' c' w' r, Kept (r = l ++ news) → Own w' base 5 (.slice A' r.length c') (BB r) → r.length ≤ c' → Below base w w' → wpList Try.prog ops Q rest (a.put o.dst (.slice A' r.length c')) w') : wpList Try.prog ops Q (o :: rest) a w := by
  obtain ⟨i0, hi0, hz0, hz1, hz2⟩ := info_parts u8_info
  refine wpl_append_rd w hgd s x 54 ho base 5 i0 _ 1 Try.underlying54 hi0 hz0 hz1 hz2 rfl v (BB l) hs hown B A m c (BB news) hx (by rw [BB_length, hm]) hr (BB_one _) (by rw [BB_length, hm]; omega) (Nat.le_refl _) hbase ?_
  intro A' c' w' h1 h2 h3
  rw [BB_length, hm, ← BB_append] at h1
  rw [BB_length, hm]
  have h4 : (l ++ news).length ≤ c' := by
    obtain ⟨A2, c2, he, h5, _⟩ := h1.form
    injection he with _ e2 e3
    rw [BB_length] at h5
    omega
  have := h A' c' w' (l ++ news) ⟨rfl⟩ (by rw [List.length_append]; exact h1) h4 h3
  rw [List.length_append] at this
  exact this
/-- what a message says, without where its bytes lie -/
structure MsgM where
  to : Int
  b : List Nat
  bad : Bool
def OneM.msg (x : OneM) : MsgM := ⟨x.to, x.b, x.bad⟩
def MsgM.Ok (m : MsgM) : Prop := AllB m.b ∧ m.b.length ≤ 140737488351232 ∧ -9223372036854775808 ≤ m.to ∧ m.to ≤ 9223372036854775807
/-- a message's bytes lie on the ground S, apart from the object's own block and from the row -/
def OneM.Lies (x : OneM) (w : World) (S : Nat → Prop) (g : Nat) (X : Option Addr) : Prop :=
  x.msg.Ok ∧ Rd w w.heap.size x.A (BB x.b) ∧ (BB x.b ≠ [] → ∀ a, x.A = some a → S a.block ∧ a.block ≠ g ∧ ∀ y, X = some y → a.block ≠ y.block)
/-- a net on the ground S, its object in block g; the messages xs -/
def Nst (w : World) (S : Nat → Prop) (g : Nat) (xs : List OneM) : Prop :=
  S g ∧ (∀ k, S k → k < w.heap.size) ∧ xs.length ≤ 512 ∧ ∃ X c, Blk w g [.slice X xs.length c] 80 ∧ oneE.Own w 0 98 (.slice X xs.length c) xs ∧ (∀ x, X = some x → S x.block ∧ x.block ≠ g) ∧ ∀ x ∈ xs, x.Lies w S g X
section
variable {w w' : World} {S T : Nat → Prop} {g : Nat} {xs : List OneM}
theorem Nst.upd (h : Nst w S g xs) (hu : Upd T w w') (hd : ∀ k, S k → ¬ T k) : Nst w' S g xs := by
  obtain ⟨h1, h2, h3, X, c, h5, h6, h7, h8⟩ := h
  refine ⟨h1, fun k hk => Nat.lt_of_lt_of_le (h2 k hk) hu.size, h3, X, c, h5.upd hu (hd g h1), h6.upd hu fun k hk => ?_, h7, fun x hx => ?_⟩
  · obtain ⟨y, hy, rfl⟩ := ob_some' hk
    exact hd _ (h7 y hy).1
  · obtain ⟨a1, a2, a3⟩ := h8 x hx
    exact ⟨a1, (a2.updN hu (Nat.le_refl _) fun y hy hne => hd _ (a3 hne y hy).1).more hu.size, a3⟩
theorem Nst.next (h : Nst w S g xs) (hb : Below w.heap.size w w') : Nst w' S g xs := h.upd (Upd.of_below (S := fun _ => False) hb) fun _ _ e => e
theorem Nst.drewN (h : Nst w S g xs) (q : Nat) : Nst (w.drewN q) S g xs := h
/-- the cells of a message -/
theorem Nst.spot (h : Nst w S g xs) {i : Nat} {x : OneM} (hi : xs[i]? = some x) : ∃ X c r, X = some ⟨r, 0, none⟩ ∧ w.cell? ⟨g, 0, none⟩ = some (.slice X xs.length c) ∧ r < w.heap.size ∧ g < w.heap.size ∧ r ≠ g ∧
    (w.cell? ⟨r, i * 3, none⟩ = some (.int .i64 x.to) ∧ w.cell? ⟨r, i * 3 + 1, none⟩ = some (.slice x.A x.b.length x.c) ∧ w.cell? ⟨r, i * 3 + 2, none⟩ = some (.bool x.bad)) ∧ x.Lies w S g X := by
  obtain ⟨h1, h2, h3, X, c, h5, h6, h7, h8⟩ := h
  obtain ⟨to, A, b, cc, bad⟩ := x
  have q0 := h6.spot (j := 0) hi rfl
  have q1 := h6.spot (j := 1) hi rfl
  have q2 := h6.spot (j := 2) hi rfl
  obtain ⟨r, rfl, -, hr, c0, -⟩ := q0
  obtain ⟨r1, e1, -, -, c1, -⟩ := q1
  obtain ⟨r2, e2, -, -, c2, -⟩ := q2
  obtain rfl : r = r1 := congrArg Addr.block (Option.some.inj e1)
  obtain rfl : r = r2 := congrArg Addr.block (Option.some.inj e2)
  exact ⟨_, c, r, rfl, h5.cell rfl, hr, h5.lt, (h7 _ rfl).2, ⟨c0, c1, c2⟩, h8 _ (List.mem_of_getElem? hi)⟩
/-- how long a net is -/
def NLen (w : World) (p : Value) (N : Nat) : Prop := (p = .pointer none ∧ N = 0) ∨ ∃ g X c t, p = .pointer (some ⟨g, 0, none⟩) ∧ Blk w g [.slice X N c] t
theorem NLen.next {p : Value} {N : Nat} (h : NLen w p N) (hb : Below w.heap.size w w') : NLen w' p N := by
  rcases h with h | ⟨g, X, c, t, h1, h2⟩
  · exact .inl h
  · exact .inr ⟨g, X, c, t, h1, h2.next hb⟩
theorem Nst.len (h : Nst w S g xs) : NLen w (.pointer (some ⟨g, 0, none⟩)) xs.length := by
  obtain ⟨h1, h2, h3, X, c, h5, -⟩ := h
  exact .inr ⟨g, X, c, _, rfl, h5⟩
end
/-- the place of a pick -/
def atI (N : Nat) (pick : Int) : Int := if N = 0 then -1 else pick % (N : Int)
theorem at_range {N : Nat} (pick : Int) (h : 0 < N) : 0 ≤ atI N pick ∧ atI N pick < N := by
  unfold atI
  rw [if_neg (by omega)]
  exact ⟨Int.emod_nonneg _ (by omega), Int.emod_lt_of_pos _ (by omega)⟩
/-- the document's acts -/
def sendM (l : List MsgM) (to : Int) (b : List Nat) : List MsgM × Nat := if 512 ≤ l.length then (l, 8) else (l ++ [⟨to, b, false⟩], 0)
def twiceM (l : List MsgM) (pick : Int) : List MsgM × Nat :=
  match l[(atI l.length pick).toNat]? with
  | none => (l, 6)
  | some m => if 512 ≤ l.length then (l, 8) else (l ++ [⟨m.to, m.b, m.bad⟩], 0)
/-- what spoiling makes of bytes; of none there is nothing to spoil -/
def spoilB (b : List Nat) (at_ : Int) (m : Nat) : List Nat := if b.length = 0 then [] else Crc.spoilt b (Seal.firstBit b at_) m
def spoilM (l : List MsgM) (pick at_ : Int) (m : Nat) : List MsgM × Nat :=
  match l[(atI l.length pick).toNat]? with
  | none => (l, 6)
  | some x => if x.bad = true then (l, 7) else (l.set (atI l.length pick).toNat ⟨x.to, spoilB x.b at_ m, decide (x.b ≠ spoilB x.b at_ m)⟩, 0)
end Go.Proofs.Ytpckfnafcmifpaa.Net
