import Derived.Test.YtfkfpanhbanljaaGreatDoorSet12
import Derived.Laws.Tables
import Derived.Laws.Rows
import Derived.Test.YtfkfpanhbanljaaGreatDoorCardCopy
import Derived.Test.YtfkfpanhbanljaaGreatDoorSet9
/- Append to a row of elements of the call's own, told with where the new row lies, over any program. -/
namespace Go.Proofs.YtfkfpanhbanljaaGreatDoor.Mem
open Go.RowKit

section
variable {P : Program} (w : World) {α : Type} (E : Elem α)
theorem wp_appEU {o : Oper} {a : Act} {K : Act → World → Prop} {Q : Exit → Act → World → Prop} (s x : Operand) (t : TypeId)
    (ho : o.op = .call { callee := .builtin .append, args := #[s, x], argTypes := #[t, t] })
    (base : Nat) (e : TypeId) {z : Value} {bytes : Nat} (ht : P.underlying t = some (.slice e)) (hinfo : (P.info? e).map (fun i => (i.zero, i.size, i.bytes)) = some (some z, E.k, bytes)) (hzs : z.cells.size = E.k)
    (v : Value) (l : List α) (hs : a.eval s = v) (hown : E.Own w base e v l)
    (B : Nat) (A : Option Addr) (m c : Nat) (news : List α) (hx : a.eval x = .slice A m c) (hm : m = news.length) (hr : E.Rd w B A news)
    (hbytes : (l.length + news.length) * bytes ≤ 140737488355328) (hb1 : 1 ≤ bytes) (hbase : base ≤ w.heap.size)
    (h : ∀ A' c' w' r, Kept (r = l ++ news) → E.Own w' base e (.slice A' r.length c') r → (∀ S : Nat → Prop, (∀ k, v.ownBlock = some k → S k) → Upd S w w') → (∀ x, A' = some x → v.ownBlock = some x.block ∨ w.heap.size ≤ x.block) → K (a.put o.dst (.slice A' r.length c')) w') : o.wp P a w K Q := by
  obtain ⟨i0, hi0, hz0, hz1, hz2⟩ := info_parts hinfo
  subst hm
  refine wp_append_at w s x t ho E.k base e i0 z bytes ht hi0 hz0 hz1 hz2 hzs E.pos v l.length (E.cells l) hs hown B A news.length c (E.cells news) hx (E.cells_length news) hr (E.cells_one _) hbytes hb1 hbase ?_
  intro A' c' w' h1 h2 h3
  rw [← E.cells_append, ← List.length_append] at h1
  have := h A' c' w' (l ++ news) ⟨rfl⟩ h1 h2 h3
  rwa [List.length_append] at this
theorem wpl_appEU {ops : Array Oper} {rest : List Oper} {o : Oper} {a : Act} {Q : Exit → Act → World → Prop} (hgd : o.guard = none) (s x : Operand) (t : TypeId)
    (ho : o.op = .call { callee := .builtin .append, args := #[s, x], argTypes := #[t, t] })
    (base : Nat) (e : TypeId) {z : Value} {bytes : Nat} (ht : P.underlying t = some (.slice e)) (hinfo : (P.info? e).map (fun i => (i.zero, i.size, i.bytes)) = some (some z, E.k, bytes)) (hzs : z.cells.size = E.k)
    (v : Value) (l : List α) (hs : a.eval s = v) (hown : E.Own w base e v l)
    (B : Nat) (A : Option Addr) (m c : Nat) (news : List α) (hx : a.eval x = .slice A m c) (hm : m = news.length) (hr : E.Rd w B A news)
    (hbytes : (l.length + news.length) * bytes ≤ 140737488355328) (hb1 : 1 ≤ bytes) (hbase : base ≤ w.heap.size)
    (h : ∀ A' c' w' r, Kept (r = l ++ news) → E.Own w' base e (.slice A' r.length c') r → (∀ S : Nat → Prop, (∀ k, v.ownBlock = some k → S k) → Upd S w w') → (∀ x, A' = some x → v.ownBlock = some x.block ∨ w.heap.size ≤ x.block) → wpList P ops Q rest (a.put o.dst (.slice A' r.length c')) w') : wpList P ops Q (o :: rest) a w :=
  wpList_plain hgd fun _ hK => wp_appEU w E s x t ho base e ht hinfo hzs v l hs hown B A m c news hx hm hr hbytes hb1 hbase fun A' c' w' r h1 h2 h3 h4 => hK _ _ (h A' c' w' r h1 h2 h3 h4)
/-- the same inside a region that draws its order -/
theorem step_appEU {ops : Array Oper} {o : Oper} {a : Act} {K : Act → World → Prop} {Q : Exit → Act → World → Prop} {F : Prop} (hgd : o.guard = none) (s x : Operand) (t : TypeId)
    (ho : o.op = .call { callee := .builtin .append, args := #[s, x], argTypes := #[t, t] })
    (base : Nat) (e : TypeId) {z : Value} {bytes : Nat} (ht : P.underlying t = some (.slice e)) (hinfo : (P.info? e).map (fun i => (i.zero, i.size, i.bytes)) = some (some z, E.k, bytes)) (hzs : z.cells.size = E.k)
    (v : Value) (l : List α) (hs : a.eval s = v) (hown : E.Own w base e v l)
    (B : Nat) (A : Option Addr) (m c : Nat) (news : List α) (hx : a.eval x = .slice A m c) (hm : m = news.length) (hr : E.Rd w B A news)
    (hbytes : (l.length + news.length) * bytes ≤ 140737488355328) (hb1 : 1 ≤ bytes) (hbase : base ≤ w.heap.size)
    (h : ∀ A' c' w' r, Kept (r = l ++ news) → E.Own w' base e (.slice A' r.length c') r → (∀ S : Nat → Prop, (∀ k, v.ownBlock = some k → S k) → Upd S w w') → (∀ x, A' = some x → v.ownBlock = some x.block ∨ w.heap.size ≤ x.block) → K (a.put o.dst (.slice A' r.length c')) w') :
    if Region.wanted o (yielded ops a.tmps) = true then Oper.wp P o a w K Q else F := by
  have hw : Region.wanted o (yielded ops a.tmps) = true := by simp [Region.wanted, hgd]
  rw [if_pos hw]
  exact wp_appEU w E s x t ho base e ht hinfo hzs v l hs hown B A m c news hx hm hr hbytes hb1 hbase h
end
section
variable {α : Type} {E : Elem α} {w w' : World} {S : Nat → Prop}
theorem Elem.Own.upd {base : Nat} {e : TypeId} {v : Value} {l : List α} (h : E.Own w base e v l) (hu : Upd S w w') (hs : ∀ k, v.ownBlock = some k → ¬ S k) : E.Own w' base e v l := OwnK.upd h hu hs
theorem Elem.Own.next {base : Nat} {e : TypeId} {v : Value} {l : List α} (h : E.Own w base e v l) (hb : Below w.heap.size w w') : E.Own w' base e v l := OwnK.below h hb (Nat.le_refl _)
theorem Elem.Own.lt {base : Nat} {e : TypeId} {v : Value} {l : List α} (h : E.Own w base e v l) : ∀ k, v.ownBlock = some k → base ≤ k ∧ k < w.heap.size := OwnK.under h
theorem ob_some' {A : Option Addr} {n c k : Nat} (h : (Value.slice A n c).ownBlock = some k) : ∃ x, A = some x ∧ x.block = k := by
  rcases A with _ | a
  · cases h
  · exact ⟨a, rfl, Option.some.inj h⟩
theorem Own.next {base : Nat} {e : TypeId} {v : Value} {xs : List Value} (h : Own w base e v xs) (hb : Below w.heap.size w w') : Own w' base e v xs := h.below hb (Nat.le_refl _)
/-- rows of unlike types lie apart -/
theorem own_apart {s1 s2 b1 b2 n1 n2 : Nat} {e1 e2 : TypeId} {v1 v2 : Value} {xs1 xs2 : List Value} (h1 : OwnK s1 w b1 e1 v1 n1 xs1) (h2 : OwnK s2 w b2 e2 v2 n2 xs2) (hne : e1 ≠ e2) : ∀ k, v1.ownBlock = some k → ¬ v2.ownBlock = some k := by
  intro k hk1 hk2
  rcases h2.2 with ⟨rfl, _⟩ | ⟨g, cap, cur, rfl, _⟩
  · cases hk2
  · obtain rfl : g = k := Option.some.inj hk2
    rcases OwnK.apart h1 h2 hne with h3 | h3
    · rw [h3] at hk1; cases hk1
    · exact h3 hk1
theorem own_off {s b n g : Nat} {e t : TypeId} {v : Value} {xs cs : List Value} (h : OwnK s w b e v n xs) (hk : Blk w g cs t) (hne : e ≠ t) : ∀ k, v.ownBlock = some k → k ≠ g := by
  intro k hv hkg
  rcases OwnK.apartB h hk hne with h1 | h1
  · rw [h1] at hv; cases hv
  · rw [hv] at h1; exact h1 (by rw [hkg])
end
end Go.Proofs.YtfkfpanhbanljaaGreatDoor.Mem

/- Words for a whole struct in a block of its own, over any program: loaded, stored and handed back as one step. -/
namespace Go.Proofs.YtfkfpanhbanljaaGreatDoor.Mem
open Go.RowKit

theorem bnext {w w1 w2 : World} (h : Below w.heap.size w w1) (h2 : Below w1.heap.size w1 w2) : Below w.heap.size w w2 := h.trans (h2.mono h.size)
theorem bnew {w w1 : World} (h : Below w.heap.size w w1) (o : Obj) : Below w.heap.size w (w1.alloc o) := h.alloc h.size o
section
variable {P : Program} {w : World}
theorem blk_setRow {g : Nat} {old cs : List Value} {t : TypeId} (h : Blk w g old t) : Blk (w.setRow g cs.toArray) g cs t := setRow_heap w g old.toArray cs.toArray t (0, 0) h
theorem upd_setRow (g : Nat) (cs : Array Value) : Upd (fun k => k = g) w (w.setRow g cs) :=
  ⟨setRow_os w g cs, setRow_tape w g cs, setRow_output w g cs, by rw [setRow_size]; exact Nat.le_refl _, fun k _ hk => setRow_other w g k cs hk⟩
theorem wpl_loadB {ops : Array Oper} {rest : List Oper} {o : Oper} {a : Act} {Q : Exit → Act → World → Prop} (hgd : o.guard = none) (ty : TypeId) (x : Operand) (ho : o.op = .load ty x)
    (g : Nat) (hx : a.eval x = .pointer (some ⟨g, 0, none⟩)) (t : TypeId) (cs : List Value) (hk : Blk w g cs t) (d : TypeDesc)
    (hu : P.underlying ty = some d) (hd : (match d with | .struct _ | .array _ _ => true | _ => false) = true) (hi : (P.info? ty).map (·.size) = some cs.length)
    (h : wpList P ops Q rest (a.put o.dst (.agg cs.toArray)) w) : wpList P ops Q (o :: rest) a w :=
  wpList_load_row hgd ty x ho g hx t cs.toArray (0, 0) d hk hu hd (by simpa using hi) h
theorem wpl_storeB {ops : Array Oper} {rest : List Oper} {o : Oper} {a : Act} {Q : Exit → Act → World → Prop} (hgd : o.guard = none) (ty : TypeId) (x y : Operand) (ho : o.op = .store ty x y)
    (g : Nat) (cells : List Value) (hx : a.eval x = .pointer (some ⟨g, 0, none⟩)) (hy : a.eval y = .agg cells.toArray)
    (t : TypeId) (old : List Value) (hk : Blk w g old t) (hi : (P.info? ty).map (·.size) = some cells.length)
    (hold : old.length = cells.length) (h1 : cells.all (·.oneCell') = true)
    (h : ∀ w', Blk w' g cells t → Upd (fun k => k = g) w w' → wpList P ops Q rest (a.put o.dst undef) w') : wpList P ops Q (o :: rest) a w :=
  wpList_store_row hgd ty x y ho g cells.toArray hx hy t old.toArray hk (by simpa using hi) (by simpa using hold) (by simpa using h1) (h _ (blk_setRow hk) (upd_setRow g _))
/-- the same where the operation is guarded, and is wanted -/
theorem wpl_loadBG {ops : Array Oper} {rest : List Oper} {o : Oper} {a : Act} {Q : Exit → Act → World → Prop} (hw : Region.wanted o (yielded ops a.tmps) = true) (ty : TypeId) (x : Operand) (ho : o.op = .load ty x)
    (g : Nat) (hx : a.eval x = .pointer (some ⟨g, 0, none⟩)) (t : TypeId) (cs : List Value) (hk : Blk w g cs t) (d : TypeDesc)
    (hu : P.underlying ty = some d) (hd : (match d with | .struct _ | .array _ _ => true | _ => false) = true) (hi : (P.info? ty).map (·.size) = some cs.length)
    (h : wpList P ops Q rest (a.put o.dst (.agg cs.toArray)) w) : wpList P ops Q (o :: rest) a w :=
  wpList_step fun K hK => by
    rw [if_pos hw]
    exact wp_load_row ty x ho g hx t cs.toArray (0, 0) d hk hu hd (by simpa using hi) (hK _ _ h)
/-- the same inside a region that draws its order -/
theorem step_loadB {ops : Array Oper} {o : Oper} {a : Act} {K : Act → World → Prop} {Q : Exit → Act → World → Prop} {F : Prop} (hgd : o.guard = none) (ty : TypeId) (x : Operand) (ho : o.op = .load ty x)
    (g : Nat) (hx : a.eval x = .pointer (some ⟨g, 0, none⟩)) (t : TypeId) (cs : List Value) (hk : Blk w g cs t) (d : TypeDesc)
    (hu : P.underlying ty = some d) (hd : (match d with | .struct _ | .array _ _ => true | _ => false) = true) (hi : (P.info? ty).map (·.size) = some cs.length)
    (h : K (a.put o.dst (.agg cs.toArray)) w) : if Region.wanted o (yielded ops a.tmps) = true then Oper.wp P o a w K Q else F := by
  rw [if_pos (by simp [Region.wanted, hgd])]
  exact wp_load_row ty x ho g hx t cs.toArray (0, 0) d hk hu hd (by simpa using hi) h
/-- a struct, and a number beside it, handed back -/
theorem res_cell_tmp {fn : Func} {p q : Tmp} {ty : TypeId} (h : fn.results = #[.cell p ty, .tmp q]) (tmps : Array Value) (g : Nat) (t : TypeId) (cs : List Value) (d : TypeDesc)
    (hp : tmps.getD p undef = .pointer (some ⟨g, 0, none⟩)) (hk : Blk w g cs t)
    (hu : P.underlying ty = some d) (hd : (match d with | .struct _ | .array _ _ => true | _ => false) = true) (hi : (P.info? ty).map (·.size) = some cs.length) :
    (results fn tmps).run P w = .ok (.tuple #[.agg cs.toArray, tmps.getD q undef]) w := by
  have hp' : tmps[p]?.getD undef = .pointer (some ⟨g, 0, none⟩) := by simpa using hp
  simp [results, h, hp', asAddr, run_loadVar_row w g t ty cs.toArray (0, 0) d hk hu hd (by simpa using hi)]
theorem res_cell_one {fn : Func} {p : Tmp} {ty : TypeId} (h : fn.results = #[.cell p ty]) (tmps : Array Value) (g : Nat) (t : TypeId) (cs : List Value) (d : TypeDesc)
    (hp : tmps.getD p undef = .pointer (some ⟨g, 0, none⟩)) (hk : Blk w g cs t)
    (hu : P.underlying ty = some d) (hd : (match d with | .struct _ | .array _ _ => true | _ => false) = true) (hi : (P.info? ty).map (·.size) = some cs.length) :
    (results fn tmps).run P w = .ok (.agg cs.toArray) w :=
  results_cell_row h tmps w g t cs.toArray (0, 0) d hp hk hu hd (by simpa using hi)
end
end Go.Proofs.YtfkfpanhbanljaaGreatDoor.Mem

/- Layer 50 (change): changes in memory; what the law's lists say. -/
namespace Go.Proofs.YtfkfpanhbanljaaGreatDoor.Chg
open Go.RowKit Go.Proofs.YtfkfpanhbanljaaGreatDoor.Mem Go.Proofs.YtfkfpanhbanljaaGreatDoor.Card

abbrev PLine : Type := Nat × ByteArray × List ByteArray
abbrev PCard : Type := Nat × List PLine
abbrev PCh : Type := Nat × PCard × PLine
/-- a change where it lies -/
structure ChM where
  k : Nat
  card : CardM
  line : LineM
def ChM.cells (x : ChM) : List Value := [.int .u8 (x.k : Int), .int .u64 (x.card.cid : Int), .slice x.card.X x.card.ls.length x.card.c, .int .u8 (x.line.f : Int), .string x.line.t, .slice x.line.A x.line.m.length x.line.c]
def ChM.val (x : ChM) : Value := .agg #[.int .u8 (x.k : Int), .int .u64 (x.card.cid : Int), .slice x.card.X x.card.ls.length x.card.c, .int .u8 (x.line.f : Int), .string x.line.t, .slice x.line.A x.line.m.length x.line.c]
def ChM.p (x : ChM) : PCh := (x.k, x.card.p, x.line.p)
def chE : Elem ChM := ⟨ChM.cells, 6, by decide, fun _ => rfl, fun x u hu => by
  simp only [ChM.cells, List.mem_cons, List.not_mem_nil, or_false] at hu
  rcases hu with rfl | rfl | rfl | rfl | rfl | rfl <;> rfl⟩
theorem card_info : (Tryz.prog.info? 31).map (fun i => (i.zero, i.size, i.bytes)) = some (some (.agg #[.int .u64 0, .slice none 0 0]), 2, 32) := by kernel_rfl
/-- it reads below block B -/
def ChM.Ok (w : World) (B : Nat) (x : ChM) : Prop := x.k < 256 ∧ x.card.Ok w B ∧ x.line.Ok w B
def RdChs (w : World) (B : Nat) (A : Option Addr) (cs : List ChM) : Prop := chE.Rd w B A cs ∧ ∀ x ∈ cs, x.Ok w B
section
variable {w w' : World} {B B' : Nat}
theorem ChM.Ok.keep {x : ChM} (h : x.Ok w B) (hk : ∀ p : Addr, p.block < B → w'.cell? p = w.cell? p) : x.Ok w' B := ⟨h.1, h.2.1.keep hk, h.2.2.keep hk⟩
theorem ChM.Ok.more {x : ChM} (h : x.Ok w B) (hB : B ≤ B') : x.Ok w B' := ⟨h.1, h.2.1.more hB, h.2.2.more hB⟩
theorem ChM.Ok.below {x : ChM} (h : x.Ok w B) (hb : Below B w w') : x.Ok w' B := h.keep fun _ hp => hb.cell hp
theorem RdChs.below {A : Option Addr} {cs : List ChM} (h : RdChs w B A cs) (hb : Below B w w') : RdChs w' B A cs := ⟨h.1.below hb, fun x hx => (h.2 x hx).below hb⟩
theorem RdChs.more {A : Option Addr} {cs : List ChM} (h : RdChs w B A cs) (hB : B ≤ B') : RdChs w B' A cs := ⟨h.1.more hB, fun x hx => (h.2 x hx).more hB⟩
theorem RdChs.next {A : Option Addr} {cs : List ChM} (h : RdChs w w.heap.size A cs) (hb : Below w.heap.size w w') : RdChs w' w'.heap.size A cs := (h.below hb).more hb.size
end
/-! a call's own changes: rows, cards and lines of its own -/
def LineM.Own (w : World) (base : Nat) (z : LineM) : Prop := z.f < 256 ∧ z.m.length ≤ 8796093022208 ∧ strE.Own w base 9 (.slice z.A z.m.length z.c) z.m
def ChM.Own (w : World) (base : Nat) (x : ChM) : Prop := x.k < 256 ∧ x.card.Fresh w base ∧ LineM.Own w base x.line
section
variable {w w' : World} {base : Nat}
theorem LineM.Own.ok {z : LineM} (h : LineM.Own w base z) : z.Ok w w.heap.size := ⟨strE_rd.1 h.2.2.rd, h.1, h.2.2.cap, h.2.1⟩
theorem LineM.Own.next {z : LineM} (h : LineM.Own w base z) (hb : Below w.heap.size w w') : LineM.Own w' base z := ⟨h.1, h.2.1, h.2.2.below hb (Nat.le_refl _)⟩
theorem LineM.Own.mono {b' : Nat} {z : LineM} (h : LineM.Own w base z) (hb : b' ≤ base) : LineM.Own w b' z := ⟨h.1, h.2.1, h.2.2.mono hb⟩
theorem ChM.Own.ok {x : ChM} (h : x.Own w base) : x.Ok w w.heap.size := ⟨h.1, h.2.1.ok, h.2.2.ok⟩
theorem ChM.Own.next {x : ChM} (h : x.Own w base) (hb : Below w.heap.size w w') : x.Own w' base := ⟨h.1, h.2.1.below hb (Nat.le_refl _), h.2.2.next hb⟩
theorem ChM.Own.mono {b' : Nat} {x : ChM} (h : x.Own w base) (hb : b' ≤ base) : x.Own w b' := ⟨h.1, h.2.1.mono hb, h.2.2.mono hb⟩
/-- a row of another type is another block -/
theorem own_apart {s1 s2 : Nat} {b1 b2 : Nat} {e1 e2 : TypeId} {v1 v2 : Value} {n1 n2 : Nat} {xs1 xs2 : List Value} (h : OwnK s1 w b1 e1 v1 n1 xs1) (h2 : OwnK s2 w b2 e2 v2 n2 xs2) (hne : e1 ≠ e2) : ∀ k, v1.ownBlock = some k → v2.ownBlock ≠ some k := by
  intro k hk hk2
  rcases h2.2 with ⟨e, _⟩ | ⟨g2, cap2, cur2, e, _, _⟩
  · subst e; cases hk2
  · subst e
    have : g2 = k := Option.some.inj hk2
    subst this
    rcases h.apart h2 hne with h3 | h3
    · rw [h3] at hk; cases hk
    · exact h3 hk
end
end Go.Proofs.YtfkfpanhbanljaaGreatDoor.Chg

/- Whether a card may be: the document's Good. -/
namespace Go.Proofs.YtfkfpanhbanljaaGreatDoor.Card
open Go.RowKit Go.Proofs.YtfkfpanhbanljaaGreatDoor.Mem Go.Proofs.YtfkfpanhbanljaaGreatDoor.Shift

end Go.Proofs.YtfkfpanhbanljaaGreatDoor.Card
