/- A slice of byte slices of the call's own: rows, append; over any seat. -/
import Derived.Test.YtdlghabpnpbebaaDoorCrcOf
import Derived.Test.YtdlghabpnpbebaaDoorHold
namespace Go.Proofs.YtdlghabpnpbebaaDoor.Crc
open Go.RowKit Go.Proofs.YtdlghabpnpbebaaDoor.Mem

instance : Inhabited Part := ⟨⟨none, [], 0⟩⟩
def partE : Elem Part := ⟨fun p => [p.val], 1, by decide, fun _ => rfl, fun p u hu => by rcases List.mem_singleton.1 hu with rfl; rfl⟩
theorem partE_cells (ps : List Part) : partE.cells ps = ps.map Part.val := by
  unfold Elem.cells
  induction ps with
  | nil => rfl
  | cons p ps ih => rw [List.flatMap_cons, ih]; rfl
theorem partE_rd {w : World} {B : Nat} {X : Option Addr} {ps : List Part} : partE.Rd w B X ps ↔ Rd w B X (ps.map Part.val) := by unfold Elem.Rd; rw [partE_cells]
theorem bytes_info : (Tryd.prog.info? 22).map (fun i => (i.zero, i.size, i.bytes)) = some (some (.slice none 0 0), 1, 24) := by kernel_rfl
/-- a row of parts, and each of its bytes, of the call's own -/
def OwnParts (w : World) (base : Nat) (X : Option Addr) (c : Nat) (ps : List Part) : Prop :=
  partE.Own w base 22 (.slice X ps.length c) ps ∧ ∀ p ∈ ps, Own w base 5 p.val (BB p.l) ∧ AllB p.l ∧ p.l.length ≤ 140737488355328
theorem OwnParts.nil (w : World) (base : Nat) : OwnParts w base none 0 [] := ⟨Elem.Own.nilv _ _ _ _, fun p hp => by cases hp⟩
theorem OwnParts.next {w w' : World} {base : Nat} {X : Option Addr} {c : Nat} {ps : List Part} (h : OwnParts w base X c ps) (hb : Below w.heap.size w w') : OwnParts w' base X c ps :=
  ⟨OwnK.below h.1 hb (Nat.le_refl _), fun p hp => ⟨(h.2 p hp).1.below hb (Nat.le_refl _), (h.2 p hp).2⟩⟩
theorem OwnParts.rd {w : World} {base : Nat} {X : Option Addr} {c : Nat} {ps : List Part} (h : OwnParts w base X c ps) : RdParts w w.heap.size X ps :=
  ⟨partE_rd.1 h.1.rd, fun p hp => ⟨Own.rd (h.2 p hp).1, (h.2 p hp).2.1, by have := (h.2 p hp).2.2; omega⟩⟩
theorem OwnParts.mono {w : World} {base b' : Nat} {X : Option Addr} {c : Nat} {ps : List Part} (h : OwnParts w base X c ps) (hb : b' ≤ base) : OwnParts w b' X c ps :=
  ⟨h.1.mono hb, fun p hp => ⟨(h.2 p hp).1.mono hb, (h.2 p hp).2⟩⟩
/-- a row's new block is none of the bytes' blocks -/
theorem part_apart {w : World} {base base2 : Nat} {X : Option Addr} {n c : Nat} {ps : List Part} {p : Part} (h : partE.Own w base 22 (.slice X n c) ps) (hp : Own w base2 5 p.val (BB p.l)) : ∀ k, p.val.ownBlock = some k → ¬ (Value.slice X n c).ownBlock = some k := by
  intro k hk hx
  rcases X with _ | a
  · cases hx
  · obtain rfl : a.block = k := Option.some.inj hx
    obtain ⟨b, o, s⟩ := a
    have h2 : OwnK 1 w base2 5 p.val (BB p.l).length (BB p.l) := hp
    rcases h.2 with ⟨hv, _⟩ | ⟨g1, cap, cur, hv, _, hg1, _⟩
    · cases hv
    · injection hv with hv1 _ _
      have hgb : b = g1 := congrArg Addr.block (Option.some.inj hv1)
      rcases OwnK.apartB (w := w) (g := b) (cs := cur.toList) (t := 22) h2 (by unfold Blk; rw [hgb]; simpa using hg1) (by decide) with h3 | h3
      · rw [h3] at hk; cases hk
      · exact h3 hk
/-- append of one part's slice -/
theorem wpl_appP {w : World} {ops : Array Oper} {rest : List Oper} {o : Oper} {a : Act} {Q : Exit → Act → World → Prop} (hgd : o.guard = none) (s x : Operand)
    (ho : o.op = .call { callee := .builtin .append, args := #[s, x], argTypes := #[38, 38] })
    (base : Nat) (X : Option Addr) (c0 : Nat) (ps : List Part) (hs : a.eval s = .slice X ps.length c0) (hown : OwnParts w base X c0 ps) (p : Part) (hp : Own w base 5 p.val (BB p.l)) (hpa : AllB p.l) (hpl : p.l.length ≤ 140737488355328)
    (B : Nat) (A : Option Addr) (c : Nat) (hx : a.eval x = .slice A 1 c) (hr : Rd w B A [p.val])
    (hbytes : (ps.length + 1) * 24 ≤ 140737488355328) (hbase : base ≤ w.heap.size)
    (h : ∀ A' c' w' r, Kept (r = ps ++ [p]) → OwnParts w' base A' c' r → Below base w w' → wpList Tryd.prog ops Q rest (a.put o.dst (.slice A' r.length c')) w') : wpList Tryd.prog ops Q (o :: rest) a w := by
  obtain ⟨i0, hi0, hz0, hz1, hz2⟩ := info_parts bytes_info
  have hcells : partE.cells [p] = [p.val] := partE_cells [p]
  refine wpList_plain hgd fun K hK => wp_append_at w s x 38 ho 1 base 22 i0 _ 24 Tryd.underlying38 hi0 hz0 hz1 hz2 rfl (by decide) (.slice X ps.length c0) ps.length (partE.cells ps) hs hown.1 B A 1 c [p.val] hx rfl hr (by intro u hu; rcases List.mem_singleton.1 hu with rfl; rfl) hbytes (by decide) hbase ?_
  intro A' c' w' h1 h2 h3
  rw [← hcells, ← partE.cells_append] at h1
  have hl : ps.length + 1 = (ps ++ [p]).length := by simp
  rw [hl] at h1
  refine hK _ _ ?_
  rw [hl]
  have hu := h2 (fun k => (Value.slice X ps.length c0).ownBlock = some k) (fun k hk => hk)
  have hlow := OwnK.under hown.1
  refine h A' c' w' (ps ++ [p]) ⟨rfl⟩ ⟨h1, fun q hq => ?_⟩ (hu.below hbase (fun i _ e => (hlow i e).1))
  rcases List.mem_append.1 hq with hq | hq
  · obtain ⟨q1, q2, q3⟩ := hown.2 q hq
    exact ⟨q1.upd hu (part_apart hown.1 q1), q2, q3⟩
  · rcases List.mem_singleton.1 hq with rfl
    exact ⟨hp.upd hu (part_apart hown.1 hp), hpa, hpl⟩
/-- the first parts -/
theorem RdParts.take {w : World} {B : Nat} {X : Option Addr} {ps : List Part} (h : RdParts w B X ps) (k : Nat) : RdParts w B X (ps.take k) :=
  ⟨by have := h.1.take k; rwa [← List.map_take] at this, fun p hp => h.2 p (List.mem_of_mem_take hp)⟩
theorem RdParts.next {w w' : World} {X : Option Addr} {ps : List Part} (h : RdParts w w.heap.size X ps) (hb : Below w.heap.size w w') : RdParts w' w'.heap.size X ps := (h.below hb).more hb.size
/-- a part: where its slice lies -/
theorem RdParts.at_ {w : World} {B : Nat} {X : Option Addr} {ps : List Part} (h : RdParts w B X ps) {j : Nat} {p : Part} (hp : ps[j]? = some p) : ∃ b o, X = some ⟨b, o, none⟩ ∧ b < B ∧ w.cell? ⟨b, o + j, none⟩ = some p.val ∧ Rd w B p.A (BB p.l) ∧ AllB p.l ∧ p.l.length ≤ 9223372036854775807 := by
  obtain ⟨b, o, e, hb, hc⟩ := Rd.at_ h.1 (k := j) (u := p.val) (by rw [List.getElem?_map, hp]; rfl)
  obtain ⟨h1, h2, h3⟩ := h.2 p (List.mem_of_getElem? hp)
  exact ⟨b, o, e, hb, hc, h1, h2, h3⟩
end Go.Proofs.YtdlghabpnpbebaaDoor.Crc
