/- Append to a row of elements of the call's own, told with where the new row lies, over any program. -/
import Derived.Test.YtfkfpanhbanljaaGreatHold
namespace Go.Proofs.YtfkfpanhbanljaaGreat.Mem
open Go.RowKit

section
variable {P : Program} (w : World) {α : Type} (E : Elem α)
theorem wp_appEU {o : Oper} {a : Act} {K : Act → World → Prop} {Q : Exit → Act → World → Prop} (s x : Operand) (t : TypeId)
    (ho : o.op = .call { callee := .builtin .append, args := #[s, x], argTypes := #[t, t] })
    (base : Nat) (e : TypeId) {z : Value} {bytes : Nat} (ht : P.underlying t = some (.slice e)) (hinfo : (P.info? e).map (fun i => (i.zero, i.size, i.bytes)) = some (some z, E.k, bytes)) (hzs : z.cells.size = E.k)
    (v : Value) (l : List α) (hs : a.eval s = v) (hown : E.Own w base e v l)
    (B : Nat) (A : Option Addr) (m c : Nat) (news : List α) (hx : a.eval x = .slice A m c) (hm : m = news.length) (hr : E.Rd w B A news)
    (hbytes : (l.length + news.length) * bytes ≤ 140737488355328) (hb1 : 1 ≤ bytes) (hbase : base ≤ w.heap.size)
    (h : ∀ A' c' w' r, Kept (r = l ++ news) → E.Own w' base e (.slice A' r.length c') r → (∀ S : Nat → Prop, (∀ k, v.ownBlock = some k → S k) → Upd S w w') → (∀ x, A' = some x → v.ownBlock = some x.block ∨ w.heap.size ≤ x.block) → K (a.put o.dst (.slice A' r.length c')) w') : o.wp P a w K Q := by
  obtain ⟨i0, hi0, hz0, hz1, hz2⟩ := info_parts hinfo
  subst hm
  refine wp_append_at w s x t ho E.k base e i0 z bytes ht hi0 hz0 hz1 hz2 hzs E.pos v l.length (E.cells l) hs hown B A news.length c (E.cells news) hx (E.cells_length news) hr (E.cells_one _) hbytes hb1 hbase ?_
  intro A' c' w' h1 h2 h3
  rw [← E.cells_append, ← List.length_append] at h1
  have := h A' c' w' (l ++ news) ⟨rfl⟩ h1 h2 h3
  rwa [List.length_append] at this
theorem wpl_appEU {ops : Array Oper} {rest : List Oper} {o : Oper} {a : Act} {Q : Exit → Act → World → Prop} (hgd : o.guard = none) (s x : Operand) (t : TypeId)
    (ho : o.op = .call { callee := .builtin .append, args := #[s, x], argTypes := #[t, t] })
    (base : Nat) (e : TypeId) {z : Value} {bytes : Nat} (ht : P.underlying t = some (.slice e)) (hinfo : (P.info? e).map (fun i => (i.zero, i.size, i.bytes)) = some (some z, E.k, bytes)) (hzs : z.cells.size = E.k)
    (v : Value) (l : List α) (hs : a.eval s = v) (hown : E.Own w base e v l)
    (B : Nat) (A : Option Addr) (m c : Nat) (news : List α) (hx : a.eval x = .slice A m c) (hm : m = news.length) (hr : E.Rd w B A news)
    (hbytes : (l.length + news.length) * bytes ≤ 140737488355328) (hb1 : 1 ≤ bytes) (hbase : base ≤ w.heap.size)
    (h : ∀ A' c' w' r, Kept (r = l ++ news) → E.Own w' base e (.slice A' r.length c') r → (∀ S : Nat → Prop, (∀ k, v.ownBlock = some k → S k) → Upd S w w') → (∀ x, A' = some x → v.ownBlock = some x.block ∨ w.heap.size ≤ x.block) → wpList P ops Q rest (a.put o.dst (.slice A' r.length c')) w') : wpList P ops Q (o :: rest) a w :=
  wpList_plain hgd fun _ hK => wp_appEU w E s x t ho base e ht hinfo hzs v l hs hown B A m c news hx hm hr hbytes hb1 hbase fun A' c' w' r h1 h2 h3 h4 => hK _ _ (h A' c' w' r h1 h2 h3 h4)
/-- the same inside a region that draws its order -/
theorem step_appEU {ops : Array Oper} {o : Oper} {a : Act} {K : Act → World → Prop} {Q : Exit → Act → World → Prop} {F : Prop} (hgd : o.guard = none) (s x : Operand) (t : TypeId)
    (ho : o.op = .call { callee := .builtin .append, args := #[s, x], argTypes := #[t, t] })
    (base : Nat) (e : TypeId) {z : Value} {bytes : Nat} (ht : P.underlying t = some (.slice e)) (hinfo : (P.info? e).map (fun i => (i.zero, i.size, i.bytes)) = some (some z, E.k, bytes)) (hzs : z.cells.size = E.k)
    (v : Value) (l : List α) (hs : a.eval s = v) (hown : E.Own w base e v l)
    (B : Nat) (A : Option Addr) (m c : Nat) (news : List α) (hx : a.eval x = .slice A m c) (hm : m = news.length) (hr : E.Rd w B A news)
    (hbytes : (l.length + news.length) * bytes ≤ 140737488355328) (hb1 : 1 ≤ bytes) (hbase : base ≤ w.heap.size)
    (h : ∀ A' c' w' r, Kept (r = l ++ news) → E.Own w' base e (.slice A' r.length c') r → (∀ S : Nat → Prop, (∀ k, v.ownBlock = some k → S k) → Upd S w w') → (∀ x, A' = some x → v.ownBlock = some x.block ∨ w.heap.size ≤ x.block) → K (a.put o.dst (.slice A' r.length c')) w') :
    if Region.wanted o (yielded ops a.tmps) = true then Oper.wp P o a w K Q else F := by
  have hw : Region.wanted o (yielded ops a.tmps) = true := by simp [Region.wanted, hgd]
  rw [if_pos hw]
  exact wp_appEU w E s x t ho base e ht hinfo hzs v l hs hown B A m c news hx hm hr hbytes hb1 hbase h
end
section
variable {α : Type} {E : Elem α} {w w' : World} {S : Nat → Prop}
theorem Elem.Own.upd {base : Nat} {e : TypeId} {v : Value} {l : List α} (h : E.Own w base e v l) (hu : Upd S w w') (hs : ∀ k, v.ownBlock = some k → ¬ S k) : E.Own w' base e v l := OwnK.upd h hu hs
theorem Elem.Own.next {base : Nat} {e : TypeId} {v : Value} {l : List α} (h : E.Own w base e v l) (hb : Below w.heap.size w w') : E.Own w' base e v l := OwnK.below h hb (Nat.le_refl _)
theorem Elem.Own.lt {base : Nat} {e : TypeId} {v : Value} {l : List α} (h : E.Own w base e v l) : ∀ k, v.ownBlock = some k → base ≤ k ∧ k < w.heap.size := OwnK.under h
theorem ob_some' {A : Option Addr} {n c k : Nat} (h : (Value.slice A n c).ownBlock = some k) : ∃ x, A = some x ∧ x.block = k := by
  rcases A with _ | a
  · cases h
  · exact ⟨a, rfl, Option.some.inj h⟩
theorem Own.next {base : Nat} {e : TypeId} {v : Value} {xs : List Value} (h : Own w base e v xs) (hb : Below w.heap.size w w') : Own w' base e v xs := h.below hb (Nat.le_refl _)
/-- rows of unlike types lie apart -/
theorem own_apart {s1 s2 b1 b2 n1 n2 : Nat} {e1 e2 : TypeId} {v1 v2 : Value} {xs1 xs2 : List Value} (h1 : OwnK s1 w b1 e1 v1 n1 xs1) (h2 : OwnK s2 w b2 e2 v2 n2 xs2) (hne : e1 ≠ e2) : ∀ k, v1.ownBlock = some k → ¬ v2.ownBlock = some k := by
  intro k hk1 hk2
  rcases h2.2 with ⟨rfl, _⟩ | ⟨g, cap, cur, rfl, _⟩
  · cases hk2
  · obtain rfl : g = k := Option.some.inj hk2
    rcases OwnK.apart h1 h2 hne with h3 | h3
    · rw [h3] at hk1; cases hk1
    · exact h3 hk1
theorem own_off {s b n g : Nat} {e t : TypeId} {v : Value} {xs cs : List Value} (h : OwnK s w b e v n xs) (hk : Blk w g cs t) (hne : e ≠ t) : ∀ k, v.ownBlock = some k → k ≠ g := by
  intro k hv hkg
  rcases OwnK.apartB h hk hne with h1 | h1
  · rw [h1] at hv; cases hv
  · rw [hv] at h1; exact h1 (by rw [hkg])
end
end Go.Proofs.YtfkfpanhbanljaaGreat.Mem
