/- Words for objects that a call turns, over any program: 'Upd S w w'': but for the blocks of S, what was there in w is in w' as it was. An object says by a set of blocks (its ground) where it lies. -/
import Derived.Test.YtfkfpanhbanljaaGreatMemK
namespace Go.Proofs.YtfkfpanhbanljaaGreat.Mem
open Go.RowKit

structure Upd (S : Nat → Prop) (w w' : World) : Prop where
  os : w'.os = w.os
  tape : w'.tape = w.tape
  output : w'.output = w.output
  size : w.heap.size ≤ w'.heap.size
  block : ∀ k, k < w.heap.size → ¬ S k → w'.heap[k]? = w.heap[k]?
section
variable {S T : Nat → Prop} {a b w w' w1 w2 : World}
theorem Upd.refl (S : Nat → Prop) (w : World) : Upd S w w := ⟨rfl, rfl, rfl, Nat.le_refl _, fun _ _ _ => rfl⟩
theorem Upd.join (h : Upd S w w1) (k : Upd T w1 w2) (hT : ∀ i, i < w.heap.size → T i → S i) : Upd S w w2 :=
  ⟨k.os.trans h.os, k.tape.trans h.tape, k.output.trans h.output, Nat.le_trans h.size k.size, fun i hi hs => (k.block i (Nat.lt_of_lt_of_le hi h.size) (fun e => hs (hT i hi e))).trans (h.block i hi hs)⟩
theorem Upd.trans (h : Upd S w w1) (k : Upd S w1 w2) : Upd S w w2 := h.join k fun _ _ e => e
theorem Upd.mono (h : Upd S w w') (hT : ∀ i, i < w.heap.size → S i → T i) : Upd T w w' := ⟨h.os, h.tape, h.output, h.size, fun i hi hs => h.block i hi (fun e => hs (hT i hi e))⟩
theorem Upd.of_below (h : Below w.heap.size w w') : Upd S w w' := ⟨h.os, h.tape, h.output, h.size, fun i hi _ => h.block i hi⟩
theorem Upd.below {B : Nat} (h : Upd S w w') (hB : B ≤ w.heap.size) (hS : ∀ i, i < w.heap.size → S i → B ≤ i) : Below B w w' :=
  ⟨h.os, h.tape, h.output, h.size, fun i hi => h.block i (by omega) (fun e => by have := hS i (by omega) e; omega)⟩
theorem Upd.next (h : Upd S w w1) (k : Below w1.heap.size w1 w2) : Upd S w w2 := h.trans (Upd.of_below k)
theorem Upd.drew (h : Upd S a w) : Upd S a w.drew := ⟨h.os, h.tape, h.output, h.size, h.block⟩
theorem Upd.drewN (h : Upd S a w) (q : Nat) : Upd S a (w.drewN q) := ⟨h.os, h.tape, h.output, h.size, h.block⟩
theorem Upd.alloc (h : Upd S a w) (o : Obj) : Upd S a (w.alloc o) := h.next ((Below.refl _ _).alloc (Nat.le_refl _) o)
theorem Upd.setCell (h : Upd S a w) {p : Addr} (hp : S p.block ∨ a.heap.size ≤ p.block) (u : Value) : Upd S a (w.setCell p u) :=
  ⟨h.os, h.tape, h.output, by simpa [World.setCell] using h.size, fun k hk hs => (Below.heap_setCell w p u k (fun e => by subst e; rcases hp with h1 | h1; exact hs h1; omega)).trans (h.block k hk hs)⟩
theorem Upd.grown (h : Upd S a w) {row : Option Nat} (hg : w.grownBy w' row) (hr : ∀ k, row = some k → S k ∨ a.heap.size ≤ k) : Upd S a w' :=
  ⟨hg.os.trans h.os, hg.tape.trans h.tape, hg.output.trans h.output, Nat.le_trans h.size hg.size, fun k hk hs => (hg.block k (Nat.lt_of_lt_of_le hk h.size) (fun e => by rcases hr k e.symm with h1 | h1; exact hs h1; omega)).trans (h.block k hk hs)⟩
theorem Upd.cell (h : Upd S w w') {p : Addr} (hp : p.block < w.heap.size) (hs : ¬ S p.block) : w'.cell? p = w.cell? p := World.cell?_of_block (w := w) (h.block p.block hp hs)
theorem Upd.frozen (h : Upd S w w') {p : Addr} (hp : p.block < w.heap.size) (hs : ¬ S p.block) : w'.frozen? p = w.frozen? p := World.frozen?_of_block (w := w) (h.block p.block hp hs)
/-- what lies in blocks that are not S's stays -/
theorem Blk.upd {g : Nat} {cs : List Value} {t : TypeId} (h : Blk w g cs t) (hu : Upd S w w') (hs : ¬ S g) : Blk w' g cs t := (hu.block g h.lt hs).trans h
theorem Rd.upd {B : Nat} {A : Option Addr} {xs : List Value} (h : Rd w B A xs) (hu : Upd S w w') (hB : B ≤ w.heap.size) (hs : ∀ x, A = some x → ¬ S x.block) : Rd w' B A xs := fun hne => by
  obtain ⟨b, o, e, hb, hc⟩ := h hne
  exact ⟨b, o, e, hb, fun j u hu' => (hu.cell (p := ⟨b, o + j, none⟩) (by show b < _; omega) (show ¬ S b from hs _ e)).trans (hc j u hu')⟩
theorem Rd.updN {B : Nat} {A : Option Addr} {xs : List Value} (h : Rd w B A xs) (hu : Upd S w w') (hB : B ≤ w.heap.size) (hs : ∀ x, A = some x → xs ≠ [] → ¬ S x.block) : Rd w' B A xs := fun hne => by
  obtain ⟨b, o, e, hb, hc⟩ := h hne
  exact ⟨b, o, e, hb, fun j u hu' => (hu.cell (p := ⟨b, o + j, none⟩) (by show b < _; omega) (show ¬ S b from hs _ e hne)).trans (hc j u hu')⟩
theorem OwnK.upd {size base : Nat} {e : TypeId} {v : Value} {n : Nat} {xs : List Value} (h : OwnK size w base e v n xs) (hu : Upd S w w') (hs : ∀ k, v.ownBlock = some k → ¬ S k) : OwnK size w' base e v n xs := by
  refine ⟨h.1, ?_⟩
  rcases h.2 with h1 | ⟨g, cap, cur, hv, hb, hg, r⟩
  · exact .inl h1
  · refine .inr ⟨g, cap, cur, hv, hb, (hu.block g (Array.getElem?_eq_some_iff.1 hg).1 (hs g ?_)).trans hg, r⟩
    subst hv; rfl
theorem Own.upd {base : Nat} {e : TypeId} {v : Value} {xs : List Value} (h : Own w base e v xs) (hu : Upd S w w') (hs : ∀ k, v.ownBlock = some k → ¬ S k) : Own w' base e v xs := OwnK.upd h hu hs
/-- a row of the call's own is no block of another type -/
theorem Own.apart {base g : Nat} {e t : TypeId} {v : Value} {xs cs : List Value} (h : Own w base e v xs) (hk : Blk w g cs t) (hne : e ≠ t) : ∀ k, v.ownBlock = some k → k ≠ g := by
  intro k hv hkg
  rcases OwnK.apartB h hk hne with h1 | h1
  · rw [h1] at hv; cases hv
  · rw [hv] at h1; exact h1 (by rw [hkg])
theorem Own.lt {base : Nat} {e : TypeId} {v : Value} {xs : List Value} (h : Own w base e v xs) : ∀ k, v.ownBlock = some k → base ≤ k ∧ k < w.heap.size := OwnK.under h
/-- how an object's ground goes on: what it is behind a call lies where it lay, or in new blocks -/
def Goes (S : Nat → Prop) (w : World) (S' : Nat → Prop) (w' : World) : Prop := Upd S w w' ∧ ∀ k, S' k → S k ∨ w.heap.size ≤ k
theorem Goes.refl (S : Nat → Prop) (w : World) : Goes S w S w := ⟨Upd.refl S w, fun _ h => .inl h⟩
theorem Goes.trans {S1 S2 : Nat → Prop} (h : Goes S w S1 w1) (k : Goes S1 w1 S2 w2) : Goes S w S2 w2 :=
  ⟨h.1.join k.1 fun i hi e => (h.2 i e).elim id (fun h2 => by omega), fun i e => (k.2 i e).elim (fun e1 => h.2 i e1) (fun h2 => .inr (by have := h.1.size; omega))⟩
theorem Goes.below {B : Nat} (h : Goes S w T w') (hB : B ≤ w.heap.size) (hS : ∀ i, S i → B ≤ i) : Below B w w' := h.1.below hB fun i _ e => hS i e
theorem Goes.base {B : Nat} (h : Goes S w T w') (hB : B ≤ w.heap.size) (hS : ∀ i, S i → B ≤ i) : ∀ i, T i → B ≤ i := fun i e => (h.2 i e).elim (hS i) (fun h2 => by omega)
/-- another ground that lay apart lies apart -/
theorem Goes.apart {R : Nat → Prop} (h : Goes S w T w') (hR : ∀ i, R i → i < w.heap.size) (hd : ∀ i, R i → ¬ S i) : ∀ i, R i → ¬ T i := fun i hr ht => (h.2 i ht).elim (hd i hr) (fun h2 => by have := hR i hr; omega)
end
section
variable {P : Program} (w : World)
/-- append to a row of the call's own, told with where the new row lies -/
theorem wp_append_at {o : Oper} {a : Act} {K : Act → World → Prop} {Q : Exit → Act → World → Prop} (s x : Operand) (t : TypeId)
    (ho : o.op = .call { callee := .builtin .append, args := #[s, x], argTypes := #[t, t] })
    (size base : Nat) (e : TypeId) (i : TypeInfo) (z : Value) (bytes : Nat) (ht : P.underlying t = some (.slice e)) (hi : P.info? e = some i) (hz : i.zero = some z)
    (hsize : i.size = size) (hby : i.bytes = bytes) (hzs : z.cells.size = size) (hsz : 0 < size)
    (v : Value) (n : Nat) (xs : List Value) (hs : a.eval s = v) (hown : OwnK size w base e v n xs)
    (B : Nat) (A : Option Addr) (m c : Nat) (news : List Value) (hx : a.eval x = .slice A m c) (hm : news.length = m * size) (hr : Rd w B A news) (h1 : ∀ u ∈ news, u.oneCell' = true)
    (hbytes : (n + m) * bytes ≤ 140737488355328) (hb1 : 1 ≤ bytes) (hbase : base ≤ w.heap.size)
    (h : ∀ A' c' w', OwnK size w' base e (.slice A' (n + m) c') (n + m) (xs ++ news) → (∀ S : Nat → Prop, (∀ k, v.ownBlock = some k → S k) → Upd S w w') → (∀ x, A' = some x → v.ownBlock = some x.block ∨ w.heap.size ≤ x.block) → K (a.put o.dst (.slice A' (n + m) c')) w') : o.wp P a w K Q := by
  obtain ⟨A', c', w', hrun, h2, h3, h4⟩ := run_append_rdk (P := P) w size base t o.type e i z bytes ht hi hz hsize hby hzs hsz v n xs hown B A m c news hm hr h1 hbytes hb1 hbase
  unfold Oper.wp execOp
  simp only [ho, resolve, invoke, builtin, Sem.run_bind, Sem.run_pure, Result.andThen_ok, List.map_toArray, List.map_cons, List.map_nil, hs, hx, hrun]
  refine h A' c' w' h2 (fun S hS => (Upd.refl S w).grown h3 fun k hk => .inl (hS k hk)) fun x hx => ?_
  subst hx
  rcases h4 with h4 | h4
  · exact .inl h4.symm
  · exact .inr (Nat.le_of_eq (Option.some.inj h4).symm)
end
end Go.Proofs.YtfkfpanhbanljaaGreat.Mem
