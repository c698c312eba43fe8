import Derived.Test.YtfkfpanhbanljaaGreatDoorSet13
import Derived.Test.YtfkfpanhbanljaaGreatDoorMemK
import Derived.Test.YtfkfpanhbanljaaGreatDoorSet70
import Derived.Laws.IdiomRangeMap
import Derived.BigQuiet
import Derived.Deep.DeepCutAuto
import Derived.Test.YtfkfpanhbanljaaGreatDoorSet30
import Derived.Test.YtfkfpanhbanljaaGreatDoorSet71
import Derived.Test.YtfkfpanhbanljaaGreatDoorListRSort
import Derived.Test.YtfkfpanhbanljaaGreatDoorHeldCall
import Derived.Deep.RegionLaw
/- A row that is copied, and one element behind it ('append(append([]T, x..), y)'): the shapes of memory in a region that draws its order, over any program. -/
namespace Go.Proofs.YtfkfpanhbanljaaGreatDoor.Mem
open Go.RowKit

section
variable {α : Type} (E : Elem α) (e : TypeId)
theorem two_o1 (w : World) : E.Own (w.alloc (.cells #[] e)).drew w.heap.size e (.slice (some ⟨w.heap.size, 0, none⟩) 0 0) [] := Elem.Own.new E w w.heap.size e [] (Nat.le_refl _) (by simp)
theorem two_o2 (w : World) (O : Obj) : E.Own ((w.alloc (.cells #[] e)).alloc O).drew w.heap.size e (.slice (some ⟨w.heap.size, 0, none⟩) 0 0) [] := (Elem.Own.new E w w.heap.size e [] (Nat.le_refl _) (by simp)).alloc _
theorem two_o3 (w : World) (O : Obj) : E.Own ((w.alloc O).alloc (.cells #[] e)).drew w.heap.size e (.slice (some ⟨w.heap.size + 1, 0, none⟩) 0 0) [] := by
  have h : E.Own ((w.alloc O).alloc (.cells #[] e)) w.heap.size e (.slice (some ⟨(w.alloc O).heap.size, 0, none⟩) 0 0) [] := Elem.Own.new E (w.alloc O) w.heap.size e [] (by simp) (by simp)
  rw [show (w.alloc O).heap.size = w.heap.size + 1 by simp] at h
  exact h
variable {E e}
theorem two_1 {wr w2 : World} {A2 : Option Addr} {c2 : Nat} {r2 : List α} (q : α) (hown2 : E.Own w2 wr.heap.size e (.slice A2 r2.length c2) r2) (hu2 : ∀ S : Nat → Prop, (∀ k, (Value.slice (some ⟨wr.heap.size, 0, none⟩) 0 0).ownBlock = some k → S k) → Upd S (wr.alloc (.cells #[] e)).drew w2) :
    Below wr.heap.size wr w2 ∧ Below wr.heap.size wr (w2.alloc (.cells (E.g q).toArray e)) ∧ E.Own (w2.alloc (.cells (E.g q).toArray e)) wr.heap.size e (.slice A2 r2.length c2) r2 ∧ E.Rd (w2.alloc (.cells (E.g q).toArray e)) (w2.heap.size + 1) (some ⟨w2.heap.size, 0, none⟩) [q] ∧ wr.heap.size ≤ (w2.alloc (.cells (E.g q).toArray e)).heap.size := by
  have h0 : Below wr.heap.size wr (wr.alloc (.cells #[] e)).drew := ((Below.refl _ _).alloc (Nat.le_refl _) _).drew
  have h1 := h0.trans ((hu2 (fun k => k = wr.heap.size) (fun k hk => (Option.some.inj hk).symm)).below h0.size (fun i _ e => by omega))
  have h2 := h1.alloc h1.size (.cells (E.g q).toArray e)
  refine ⟨h1, h2, hown2.alloc _, ?_, h2.size⟩
  have := Rd.new w2 (E.g q) e
  unfold Elem.Rd Elem.cells
  rw [List.flatMap_singleton]
  exact this
theorem two_2 {wr w2 : World} (q : α) (hu2 : ∀ S : Nat → Prop, (∀ k, (Value.slice (some ⟨wr.heap.size, 0, none⟩) 0 0).ownBlock = some k → S k) → Upd S ((wr.alloc (.cells #[] e)).alloc (.cells (E.g q).toArray e)).drew w2) :
    Below wr.heap.size wr w2 ∧ E.Rd w2 (wr.heap.size + 2) (some ⟨wr.heap.size + 1, 0, none⟩) [q] := by
  have h0 : Below wr.heap.size wr ((wr.alloc (.cells #[] e)).alloc (.cells (E.g q).toArray e)).drew := (((Below.refl _ _).alloc (Nat.le_refl _) _).alloc (by simp) _).drew
  have hu := hu2 (fun k => k = wr.heap.size) (fun k hk => (Option.some.inj hk).symm)
  have hr : Rd ((wr.alloc (.cells #[] e)).alloc (.cells (E.g q).toArray e)).drew (wr.heap.size + 2) (some ⟨wr.heap.size + 1, 0, none⟩) (E.g q) := Rd.newAt (wr.alloc (.cells #[] e)) (E.g q) e (by simp) (by omega)
  refine ⟨h0.trans (hu.below h0.size (fun i _ e => by omega)), ?_⟩
  unfold Elem.Rd Elem.cells
  rw [List.flatMap_singleton]
  refine hr.updN hu (by simp) (fun x hx _ e => ?_)
  obtain rfl := Option.some.inj hx
  exact absurd e (by simp)
theorem two_3 {wr w2 : World} (q : α) (hu2 : ∀ S : Nat → Prop, (∀ k, (Value.slice (some ⟨wr.heap.size + 1, 0, none⟩) 0 0).ownBlock = some k → S k) → Upd S ((wr.alloc (.cells (E.g q).toArray e)).alloc (.cells #[] e)).drew w2) :
    Below wr.heap.size wr w2 ∧ E.Rd w2 (wr.heap.size + 1) (some ⟨wr.heap.size, 0, none⟩) [q] := by
  have h0 : Below wr.heap.size wr ((wr.alloc (.cells (E.g q).toArray e)).alloc (.cells #[] e)).drew := (((Below.refl _ _).alloc (Nat.le_refl _) _).alloc (by simp) _).drew
  have hu := hu2 (fun k => k = wr.heap.size + 1) (fun k hk => (Option.some.inj hk).symm)
  have hr : Rd ((wr.alloc (.cells (E.g q).toArray e)).alloc (.cells #[] e)).drew (wr.heap.size + 1) (some ⟨wr.heap.size, 0, none⟩) (E.g q) := (Rd.new wr (E.g q) e).alloc (by simp) (.cells #[] e)
  refine ⟨h0.trans (hu.below h0.size (fun i _ e => by omega)), ?_⟩
  unfold Elem.Rd Elem.cells
  rw [List.flatMap_singleton]
  refine hr.updN hu (by simp) (fun x hx _ e => ?_)
  obtain rfl := Option.some.inj hx
  exact absurd e (by simp)
theorem two_below {wr w w' : World} {v : Value} {r : List α} (hB : Below wr.heap.size wr w) (ho : E.Own w wr.heap.size e v r) (hu : ∀ S : Nat → Prop, (∀ k, v.ownBlock = some k → S k) → Upd S w w') : Below wr.heap.size wr w' :=
  hB.trans ((hu (fun k => v.ownBlock = some k) fun _ h => h).below hB.size fun i _ e => (World.ownsRow.lt ho i e).1)
end
end Go.Proofs.YtfkfpanhbanljaaGreatDoor.Mem

/- Layer 45 (find): what FindNil's loops keep. -/
namespace Go.Proofs.YtfkfpanhbanljaaGreatDoor.Find
open Go.RowKit Go.Proofs.YtfkfpanhbanljaaGreatDoor.Mem Go.Proofs.YtfkfpanhbanljaaGreatDoor.Card Go.Proofs.YtfkfpanhbanljaaGreatDoor.Laid Go.Proofs.YtfkfpanhbanljaaGreatDoor.Fold Go.Proofs.YtfkfpanhbanljaaGreatDoor.Twin Go.Proofs.YtfkfpanhbanljaaGreatDoor.List44

/-- an index that lies, with all it holds, from block 'base' on -/
structure IxS (w : World) (base g : Nat) (A : Option Addr) (c : Nat) (ys : List CardM) (B b : Nat) : Prop where
  box : Blk w g [.slice A ys.length c, .map (some b)] 42
  row : RowF w base A c ys
  map : MapG w B b (pairsK ys ys.length)
  ap : g < B
  hg : base ≤ g
  hb : base ≤ b
section
variable {w w' : World} {base g c B b : Nat} {A : Option Addr} {ys : List CardM}
theorem IxS.at_ (h : IxS w base g A c ys B b) : IxAt w g A c ys B b := ⟨h.box, h.row.rd, h.map, h.ap⟩
theorem MapG.low {G : List (ByteArray × Nat)} (h : MapG w B b G) {p : Addr} (hp : p.block < b) (hpB : p.block < B) (u : Value) : MapG (w.setCell p u) B b G := by
  obtain ⟨D, ho, ht⟩ := h
  have hg : w.grownBy (w.setCell p u) (some p.block) := ⟨rfl, rfl, rfl, by simp [World.setCell], fun k _ hk => Below.heap_setCell _ _ _ _ (fun e => hk (by rw [e]))⟩
  exact ⟨D, ho.kept hg (fun e => by have := Option.some.inj e; omega) (ho.rowsAbove fun j hj => by have := Option.some.inj hj; omega), ht⟩
theorem IxS.low (h : IxS w base g A c ys B b) {p : Addr} (hp : p.block < base) (u : Value) : IxS (w.setCell p u) base g A c ys B b :=
  ⟨h.box.other (by have := h.hg; omega) u, ⟨OwnK.low h.row.1 hp u, fun y hy => (h.row.2 y hy).low hp u⟩, h.map.low (by have := h.hb; omega) (by have := h.hg; have := h.ap; omega) u, h.ap, h.hg, h.hb⟩
end
/-- rows of cards whose texts may be written over: headers stay, text cells are there -/
def Zap (lo hi : Nat) (W : World) (A : Option Addr) (l : List CardM) : Prop := ∀ i x, l[i]? = some x → ∃ b, A = some ⟨b, 0, none⟩ ∧ b < hi ∧ W.cell? ⟨b, i * 2 + 1, none⟩ = some (.slice x.X x.ls.length x.c) ∧
  ∀ k, k < x.ls.length → ∃ g, x.X = some ⟨g, 0, none⟩ ∧ lo ≤ g ∧ g < hi ∧ g ≠ b ∧ (∃ v, W.cell? ⟨g, k * 3 + 1, none⟩ = some v) ∧ W.frozen? ⟨g, k * 3 + 1, none⟩ = false
section
variable {w w' W : World} {base lo hi c : Nat} {A : Option Addr} {l : List CardM}
theorem Zap.start (h : RowF w base A c l) : Zap base w.heap.size w A l := fun i x hx => by
  obtain ⟨b, h1, h2, h3, h4, -, -⟩ := Elem.Own.spot (j := 1) h.1 hx rfl
  refine ⟨b, h1, h3, h4, fun k hk => ?_⟩
  obtain ⟨z, hz⟩ : ∃ z, x.ls[k]? = some z := ⟨_, List.getElem?_eq_getElem hk⟩
  have hf := (h.2 x (List.mem_of_getElem? hx)).2.1
  obtain ⟨g, g1, g2, g3, g4, g5, -⟩ := Elem.Own.spot (j := 1) hf hz rfl
  refine ⟨g, g1, g2, g3, fun e => ?_, ⟨_, g4⟩, g5⟩
  have h5 := h.1
  rw [h1] at h5
  rcases OwnK.apart hf h5 (by decide) with h6 | h6
  · rw [g1] at h6; cases h6
  · rw [g1, e] at h6; exact h6 rfl
theorem Zap.below (h : Zap lo hi W A l) (hb : Below hi W w') : Zap lo hi w' A l := fun i x hx => by
  obtain ⟨b, h1, h2, h3, h4⟩ := h i x hx
  refine ⟨b, h1, h2, (hb.cell (p := ⟨b, i * 2 + 1, none⟩) h2).trans h3, fun k hk => ?_⟩
  obtain ⟨g, g1, g2, g3, g4, ⟨v, g5⟩, g6⟩ := h4 k hk
  refine ⟨g, g1, g2, g3, g4, ⟨v, (hb.cell (p := ⟨g, k * 3 + 1, none⟩) g3).trans g5⟩, ?_⟩
  have e := hb.block g g3
  simp only [World.frozen?, e] at g6 ⊢
  exact g6
theorem Zap.store (h : Zap lo hi W A l) {i k g : Nat} {x : CardM} (hx : l[i]? = some x) (hk : k < x.ls.length) (hg : x.X = some ⟨g, 0, none⟩) (u : Value) : Zap lo hi (W.setCell ⟨g, k * 3 + 1, none⟩ u) A l := fun j y hy => by
  obtain ⟨b0, e0, -, -, f0⟩ := h i x hx
  obtain ⟨g', e1, -, -, hne, -, -⟩ := f0 k hk
  obtain rfl : g = g' := by rw [hg] at e1; exact congrArg Addr.block (Option.some.inj e1)
  obtain ⟨b, h1, h2, h3, h4⟩ := h j y hy
  obtain rfl : b0 = b := by rw [e0] at h1; exact congrArg Addr.block (Option.some.inj h1)
  refine ⟨b0, h1, h2, ?_, fun m hm => ?_⟩
  · rw [← h3]
    have e := Below.heap_setCell W ⟨g, k * 3 + 1, none⟩ u b0 (fun e => hne e.symm)
    simp only [World.cell?, e]
  · obtain ⟨g9, g1, g2, g3, g4, ⟨v, g5⟩, g6⟩ := h4 m hm
    refine ⟨g9, g1, g2, g3, g4, cell?_setCell_some g5, ?_⟩
    rw [← g6]
    simp
end
/-- a card that is being built: its box, its lines, their more texts -/
structure LS (wa wi : World) (cid : Nat) (A : Option Addr) (c : Nat) (ms : List LineM) : Prop where
  below : Below wa.heap.size wa wi
  box : Blk wi wa.heap.size [.int .u64 (cid : Int), .slice A ms.length c] 31
  own : lineE.Own wi (wa.heap.size + 1) 44 (.slice A ms.length c) ms
  more : ∀ z ∈ ms, z.f < 256 ∧ z.m.length ≤ 8796093022208 ∧ strE.Own wi (wa.heap.size + 1) 9 (.slice z.A z.m.length z.c) z.m
section
variable {wa wi w' w5 : World} {cid c c5 : Nat} {A A5 : Option Addr} {ms r5 : List LineM} {z : LineM}
theorem LS.start (wa : World) (cid : Nat) : LS wa (wa.alloc (.cells #[.int .u64 (cid : Int), .slice none 0 0] 31)) cid none 0 [] :=
  ⟨(Below.refl _ _).alloc (Nat.le_refl _) _, Blk.new wa [.int .u64 (cid : Int), .slice none 0 0] _, Elem.Own.nilv _ _ _ _, fun z hz => by cases hz⟩
theorem LS.next (h : LS wa wi cid A c ms) (hb : Below wi.heap.size wi w') : LS wa w' cid A c ms :=
  ⟨h.below.trans (hb.mono h.below.size), h.box.next hb, h.own.next hb, fun z hz => ⟨(h.more z hz).1, (h.more z hz).2.1, (h.more z hz).2.2.next hb⟩⟩
theorem LS.fresh (h : LS wa wi cid A c ms) (hc : cid < 18446744073709551616) (hl : ms.length ≤ 2932031007402) : CardM.Fresh wi wa.heap.size ⟨cid, A, ms, c⟩ :=
  ⟨hc, h.own.mono (Nat.le_succ _), hl, fun z hz => ⟨(h.more z hz).1, (h.more z hz).2.1, (h.more z hz).2.2.mono (Nat.le_succ _)⟩⟩
theorem LS.box5 (h : LS wa wi cid A c ms) (hu : Upd (fun k => (Value.slice A ms.length c).ownBlock = some k) wi w5) : Blk w5 wa.heap.size [.int .u64 (cid : Int), .slice A ms.length c] 31 :=
  h.box.upd hu fun e => by have := (OwnK.under h.own _ e).1; omega
theorem LS.app (h : LS wa wi cid A c ms) (hz : z.f < 256 ∧ z.m.length ≤ 8796093022208 ∧ strE.Own wi (wa.heap.size + 1) 9 (.slice z.A z.m.length z.c) z.m) (hr : r5 = ms ++ [z])
    (ho : lineE.Own w5 (wa.heap.size + 1) 44 (.slice A5 r5.length c5) r5) (hu : Upd (fun k => (Value.slice A ms.length c).ownBlock = some k) wi w5) :
    LS wa (w5.setCell ⟨wa.heap.size, 1, none⟩ (.slice A5 r5.length c5)) cid A5 c5 r5 := by
  refine ⟨(h.below.trans (hu.below h.below.size fun k _ e => by have := (OwnK.under h.own _ e).1; omega)).setCell (p := ⟨wa.heap.size, 1, none⟩) (Nat.le_refl _) _, (h.box5 hu).set 1 _, OwnK.low ho (p := ⟨wa.heap.size, 1, none⟩) (Nat.lt_succ_self _) _, fun y hy => ?_⟩
  have h2 : y.f < 256 ∧ y.m.length ≤ 8796093022208 ∧ strE.Own wi (wa.heap.size + 1) 9 (.slice y.A y.m.length y.c) y.m := by
    rw [hr] at hy
    rcases List.mem_append.1 hy with h3 | h3
    · exact h.more y h3
    · rw [List.mem_singleton.1 h3]; exact hz
  exact ⟨h2.1, h2.2.1, OwnK.low (h2.2.2.upd hu fun k hk e => Mem.own_apart h2.2.2 h.own (by decide) k hk e) (p := ⟨wa.heap.size, 1, none⟩) (Nat.lt_succ_self _) _⟩
end
end Go.Proofs.YtfkfpanhbanljaaGreatDoor.Find

/- Layer 45 (find): of nil, and of an empty index, nothing is found. -/
namespace Go.Proofs.YtfkfpanhbanljaaGreatDoor.Find
open Go.RowKit Go.Proofs.YtfkfpanhbanljaaGreatDoor.Mem Go.Proofs.YtfkfpanhbanljaaGreatDoor.Card Go.Proofs.YtfkfpanhbanljaaGreatDoor.Laid Go.Proofs.YtfkfpanhbanljaaGreatDoor.Fold Go.Proofs.YtfkfpanhbanljaaGreatDoor.Twin Go.Proofs.YtfkfpanhbanljaaGreatDoor.List44

theorem ffind_nil (q : ByteArray) (w : World) : Calls Tryz.prog 13 #[.pointer none, .string q] w fun e w' => e = .returned (.slice none 0 0) ∧ w = w' := by
  go_enter Tryz.func13, Tryz.ntmps13
  go_wp2_with fail
  go_ret
  exact ⟨rfl, rfl⟩
theorem fwds_nil (w : World) : Calls Tryz.prog 16 #[.pointer none] w fun e w' => e = .returned (.slice none 0 0) ∧ w = w' := by
  go_enter Tryz.func16, Tryz.ntmps16
  go_wp2_with fail
  go_ret
  exact ⟨rfl, rfl⟩
theorem hits_zero (hd : ByteArray) (P : ByteArray → Bool) : hitsL (pairsK [] 0) hd P 0 = [] := rfl
set_option maxRecDepth 100000 in
set_option maxHeartbeats 4000000 in
theorem fwith_empty (g : Nat) (hd : ByteArray) (w : World) (hx : Blk w g [.slice none 0 0, .map none] 42) :
    Calls Tryz.prog 36 #[.pointer (some ⟨g, 0, none⟩), .string hd] w fun e w' => e = .returned (.slice (some ⟨w.heap.size, 0, none⟩) 0 0) ∧ WS w w' 0 [] := by
  obtain ⟨w1, hmk, hown1, hb1⟩ := make_bools w 0 (by omega)
  have hmk : (Instr.makeSlice 59 (.int .i64 0) (.int .i64 0)).run Tryz.prog w = .ok (.slice (some ⟨w.heap.size, 0, none⟩) 0 0) w1 := hmk
  have a0 := hx.cell (j := 0) rfl
  have a1 : w1.cell? ⟨g, 1, none⟩ = some (.map none) := (hx.next hb1).cell (j := 1) rfl
  have hrg := run_range_nilMap (P := Tryz.prog) w1 40 9 53 Tryz.underlying40
  have hnx : ∀ ty, (Instr.next (.pointer (some ⟨w1.heap.size, 0, none⟩)) false ty).run Tryz.prog (w1.alloc (.mapIter none 0 #[] 0)) = _ := fun ty => run_next_nilMap _ ty 0 0 #[]
  have hbA : Below w1.heap.size w1 (w1.alloc (.mapIter none 0 #[] 0)) := (Below.refl _ _).alloc (Nat.le_refl _) _
  have HS : Kept (WS w (w1.alloc (.mapIter none 0 #[] 0)) 0 []) := ⟨⟨hb1.trans (hbA.mono hb1.size), by
    have h := hown1.next hbA
    exact h⟩⟩
  clear hown1 hb1 hx hbA
  go_enter Tryz.func36, Tryz.ntmps36
  go_wp2_with fail
  refine wp_loop_rounds 1 ?_
  rw [rounds_succ]
  go_wp2_with fail
  go_ret
  exact ⟨rfl, HS.out⟩
theorem ixw_empty (g : Nat) (w : World) (hx : Blk w g [.slice none 0 0, .map none] 42) : IxW w g none 0 [] :=
  ⟨hx.lt, hx.cell (j := 0) rfl, ⟨fun h => absurd rfl h, (fun x hx => by cases hx)⟩, fun W hd hb => fwith_empty g hd W (hx.next hb)⟩
theorem ffind_empty (g : Nat) (q : ByteArray) (w : World) (hx : Blk w g [.slice none 0 0, .map none] 42) (hq : q.size ≤ 2000000) (hm : ML w) :
    Calls Tryz.prog 13 #[.pointer (some ⟨g, 0, none⟩), .string q] w fun e w' => ∃ A c, e = .returned (.slice A 0 c) ∧ Below w.heap.size w w' :=
  (ffindW_any g none 0 [] q w (ixw_empty g w hx) (Nat.zero_le _) hq hm).mono fun e w' ⟨A, c, ys, he, hp, _, hb⟩ => by
    have hl : ys.length = 0 := by
      have := congrArg List.length hp
      rw [List.length_map] at this
      exact this
    rw [hl] at he
    exact ⟨A, c, he, hb⟩
end Go.Proofs.YtfkfpanhbanljaaGreatDoor.Find

/- Layer 45 (find): all words of a card (the document's). -/
namespace Go.Proofs.YtfkfpanhbanljaaGreatDoor.Find
open Go.RowKit Go.Proofs.YtfkfpanhbanljaaGreatDoor.Mem Go.Proofs.YtfkfpanhbanljaaGreatDoor.Card Go.Proofs.YtfkfpanhbanljaaGreatDoor.Laid Go.Proofs.YtfkfpanhbanljaaGreatDoor.Fold Go.Proofs.YtfkfpanhbanljaaGreatDoor.Twin

set_option maxRecDepth 100000 in
set_option maxHeartbeats 4000000 in
theorem rfwords_any (x : CardM) (w : World) (hx : x.Ok w w.heap.size) (ht : Tame x.ls) :
    Calls Tryz.prog 32 #[x.val] w (strE.Gives 9 w (wordsC x.ls)) := by
  obtain ⟨xcid, xX, xls, xc⟩ := x
  have HX := kept hx
  have HT := kept ht
  dsimp only at ht
  have hl := ht.1
  have h0 : Below w.heap.size w (w.alloc (.cells #[.int .u64 (xcid : Int), .slice xX xls.length xc] 31)) := (Below.refl _ _).alloc (Nat.le_refl _) _
  have HS0 : Kept (TxSt w (w.alloc (.cells #[.int .u64 (xcid : Int), .slice xX xls.length xc] 31)) ⟨xcid, xX, xls, xc⟩ none 0 []) := ⟨⟨h0, Blk.new w _ _, Elem.Own.nilv _ _ _ _⟩⟩
  clear h0 hx ht
  unfold CardM.val
  dsimp only
  go_enter Tryz.func32, Tryz.ntmps32
  go_wp2_with fail
  go_loopw [3, 4] (fun s i wr => ∃ (k : Nat) (A : Option Addr) (c : Nat) (out : List ByteArray), k ≤ xls.length ∧ i = .int .i64 (k : Int) ∧ s = .slice A out.length c ∧ Kept (out = wordsC (xls.take k)) ∧ Kept (TxSt w wr ⟨xcid, xX, xls, xc⟩ A c out)) (fun _ i _ => xls.length - (intOf i).toNat)
  case atStart => exact ⟨0, none, 0, [], Nat.zero_le _, rfl, rfl, ⟨rfl⟩, HS0⟩
  case round =>
    clear HS0
    obtain ⟨k, A, c, out, hk, rfl, rfl, HO, HS⟩ := hrel
    have k1 := HS.out.2.1.cell (j := 1) rfl
    by_cases hlt : k < xls.length
    · obtain ⟨⟨zf, zt, zA, zm, zc⟩, hz⟩ : ∃ z, xls[k]? = some z := ⟨_, List.getElem?_eq_getElem hlt⟩
      obtain ⟨b1, o1, rfl, hbB, x0, x1, x2, hzo⟩ := HX.out.2.1.at_ hz
      have hkn : (k : Int) < (xls.length : Int) := by omega
      have HTZ := kept (HT.out.2 _ (List.mem_of_getElem? hz))
      have HNX := kept (wordsC_next hz)
      have x1w := x1
      have HX2 : Kept (w.cell? ⟨b1, o1 + k * 3 + 2, none⟩ = some (.slice zA zm.length zc)) := ⟨x2⟩
      have x1 := (HS.out.1.cell (p := ⟨b1, o1 + k * 3 + 1, none⟩) hbB).trans x1w
      dsimp only at x1
      have HZR := kept (fun (W : World) (hb : Below w.heap.size w W) => strE_rd.2 ((hzo.1.keep fun _ hp => hb.cell hp).more hb.size))
      clear hz hzo x0 x2 x1w
      have CW := kept (rwords_any zt wr (by have := HTZ.out.1; dsimp only at this; omega))
      have HWL := kept (words_few HTZ.out.1)
      have hzm : zm.length ≤ 10 := HTZ.out.2.1
      go_wp2_with fail
      refine CW.out.mono ?_
      rintro e w2 ⟨Aw, cw, rfl, hownw, hcw, hb⟩
      have HS2 := kept (HS.out.next hb)
      have hrd := hownw.rd
      have hz1 : (out.length + (wordsB zt).length) * 16 ≤ 140737488355328 := size_few (sum3_few (c := 0) (by rw [HO.out]; exact wordsC_few HT.out k) HWL.out (Nat.zero_le _))
      have hbase : w.heap.size + 1 ≤ w2.heap.size := HS2.out.2.1.lt
      clear hb HS x1 k1 CW hownw
      go_wp2_with (at_builtin; refine wpl_appEU _ strE rfl (.tmp 13) (.tmp 20) 36 rfl (w.heap.size + 1) 9 Tryz.underlying36 str_info rfl _ out rfl HS2.out.2.2 _ Aw _ cw (wordsB zt) rfl rfl hrd hz1 (by decide) hbase ?_; intro A9 c9 w9 r9 hr9 hown9 hu9 hx9; have HS9 := kept (HS2.out.app hown9 hu9); have HR9 := kept hr9; clear hr9 hown9 hu9 hx9)
      have HO9 : Kept (r9 = wordsC (xls.take k) ++ wordsB zt ++ (zm.take 0).flatMap wordsB) := ⟨by rw [HR9.out.out, ← HO.out]; exact (List.append_nil _).symm⟩
      clear HR9 hz1 hrd HS2 HO
      go_loopw [3, 5] (fun s i wi => ∃ (j : Nat) (A : Option Addr) (c : Nat) (out : List ByteArray), j ≤ zm.length ∧ i = .int .i64 (j : Int) ∧ s = .slice A out.length c ∧ Kept (out = wordsC (xls.take k) ++ wordsB zt ++ (zm.take j).flatMap wordsB) ∧ Kept (TxSt w wi ⟨xcid, some ⟨b1, o1, none⟩, xls, xc⟩ A c out)) (fun _ i _ => zm.length - (intOf i).toNat)
      case atStart => exact ⟨0, A9, c9, r9, Nat.zero_le _, rfl, rfl, HO9, HS9⟩
      case round =>
        clear HS9 HO9
        obtain ⟨j, A, c, out, hj, rfl, rfl, HO, HS⟩ := hrel
        have k1 := HS.out.2.1.cell (j := 1) rfl
        have x2 := (HS.out.1.cell (p := ⟨b1, o1 + k * 3 + 2, none⟩) hbB).trans HX2.out
        by_cases hjl : j < zm.length
        · obtain ⟨q, hq⟩ : ∃ q, zm[j]? = some q := ⟨_, List.getElem?_eq_getElem hjl⟩
          have hjn : (j : Int) < (zm.length : Int) := by omega
          have hrz := strE_rd.1 (HZR.out _ HS.out.1)
          obtain ⟨b2, o2, rfl, hb2, hc2⟩ := hrz (by intro e; rw [List.map_eq_nil_iff.1 e] at hjl; exact absurd hjl (Nat.not_lt_zero _))
          have y0 := hc2 j (.string q) (by unfold SB; rw [List.getElem?_map, hq]; rfl)
          have hqs : q.size ≤ 2000000 := HTZ.out.2.2 q (List.mem_of_getElem? hq)
          have HQN := kept (wordsM_next hq)
          have CW := kept (rwords_any q wr (by omega))
          have HWL2 := kept (words_few hqs)
          clear hrz hc2 hq
          go_wp2_with fail
          refine CW.out.mono ?_
          rintro e w2 ⟨Aw, cw, rfl, hownw, hcw, hb⟩
          have HS2 := kept (HS.out.next hb)
          have hrd := hownw.rd
          have hz1 : (out.length + (wordsB q).length) * 16 ≤ 140737488355328 := size_few (by
            rw [← List.length_append, HO.out, List.append_assoc, ← HQN.out, List.length_append, List.length_append]
            exact sum3_few (wordsC_few HT.out k) HWL.out (more_few (Nat.le_trans (List.length_take_le' _ _) hzm) fun y hy => HTZ.out.2.2 y (List.mem_of_mem_take hy)))
          have hbase : w.heap.size + 1 ≤ w2.heap.size := HS2.out.2.1.lt
          clear hb y0 CW hownw HS k1 x2
          go_wp2_with (at_builtin; refine wpl_appEU _ strE rfl (.tmp 33) (.tmp 43) 36 rfl (w.heap.size + 1) 9 Tryz.underlying36 str_info rfl _ out rfl HS2.out.2.2 _ Aw _ cw (wordsB q) rfl rfl hrd hz1 (by decide) hbase ?_; intro A9 c9 w9 r9 hr9 hown9 hu9 hx9; have HS9 := kept (HS2.out.app hown9 hu9); have HR9 := kept hr9; clear hr9 hown9 hu9 hx9)
          have HO9 : Kept (r9 = wordsC (xls.take k) ++ wordsB zt ++ (zm.take (j + 1)).flatMap wordsB) := ⟨by rw [HR9.out.out, HQN.out, HO.out]; exact List.append_assoc _ _ _⟩
          clear HR9 hz1 hrd HS2 HO HQN
          go_roundw
          case rel => exact ⟨j + 1, A9, c9, r9, by omega, by go_num, rfl, HO9, HS9⟩
          case measure => simp [intOf]; omega
        · obtain rfl : j = zm.length := by omega
          have HO4 : Kept (out = wordsC (xls.take (k + 1))) := ⟨by rw [HO.out, HNX.out, List.take_length]; exact List.append_assoc _ _ _⟩
          clear HO HNX
          go_wp2_with fail
          go_roundw
          case rel => exact ⟨k + 1, A, c, out, by omega, by go_num, rfl, HO4, HS⟩
          case measure => simp [intOf]; omega
    · obtain rfl : k = xls.length := by omega
      rw [List.take_length] at HO
      have HG : Kept (∀ q, q = out → strE.Gives 9 w (wordsC xls) (.returned (.slice A q.length c)) wr) := ⟨fun q hq => by
        subst hq
        exact Elem.gives HO.out (HS.out.2.2.mono (by omega)) HS.out.1⟩
      go_wp2_with fail
      go_ret
      exact HG.out out rfl
end Go.Proofs.YtfkfpanhbanljaaGreatDoor.Find

/- Layer 45 (find): Words (the document's). -/
namespace Go.Proofs.YtfkfpanhbanljaaGreatDoor.Find
open Go.RowKit Go.Proofs.YtfkfpanhbanljaaGreatDoor.Mem Go.Proofs.YtfkfpanhbanljaaGreatDoor.Card Go.Proofs.YtfkfpanhbanljaaGreatDoor.Laid Go.Proofs.YtfkfpanhbanljaaGreatDoor.Fold Go.Proofs.YtfkfpanhbanljaaGreatDoor.Twin

def wordsL (l : List CardM) : List ByteArray := l.flatMap fun y => wordsC y.ls
theorem wordsL_next {l : List CardM} {k : Nat} {x : CardM} (hx : l[k]? = some x) : wordsL (l.take (k + 1)) = wordsL (l.take k) ++ wordsC x.ls := by
  obtain ⟨h1, h2⟩ := List.getElem?_eq_some_iff.1 hx
  unfold wordsL
  rw [List.take_succ_eq_append_getElem h1, h2, List.flatMap_append]
  simp
theorem wordsL_few {l : List CardM} (hn : l.length ≤ 100) (ht : ∀ x ∈ l, Tame x.ls) : (wordsL l).length ≤ 26400013200 := by
  have := flat_le (fun y : CardM => wordsC y.ls) 264000132 l fun x hx => by
    have := wordsC_few (ht x hx) x.ls.length
    rwa [List.take_length] at this
  unfold wordsL
  exact Nat.le_trans this (Nat.le_trans (Nat.mul_le_mul_right _ hn) (by decide))
theorem wordsL_take (l : List CardM) (k : Nat) : (wordsL (l.take k)).length ≤ (wordsL l).length := by
  conv => rhs; rw [← List.take_append_drop k l]
  unfold wordsL
  rw [List.flatMap_append, List.length_append]
  exact Nat.le_add_right _ _
set_option maxRecDepth 100000 in
set_option maxHeartbeats 8000000 in
theorem rwds_any (A : Option Addr) (l : List CardM) (c : Nat) (w : World) (hr : RdCards w w.heap.size A l) (hn : l.length ≤ 100) (ht : ∀ x ∈ l, Tame x.ls) :
    Calls Tryz.prog 17 #[.slice A l.length c] w (strE.Gives 9 w (putsF (wordsL l))) := by
  have HL := kept hr
  have HT := kept ht
  have HFW := kept (wordsL_few hn ht)
  clear hr ht
  go_enter Tryz.func17, Tryz.ntmps17
  go_wp2_with fail
  go_loopw [3, 4] (fun sv iv wr => ∃ (i : Nat) (A : Option Addr) (c : Nat) (out : List ByteArray), i ≤ l.length ∧ iv = .int .i64 (i : Int) ∧ sv = .slice A out.length c ∧ Kept (out = putsF (wordsL (l.take i))) ∧ Kept (strE.Own wr w.heap.size 9 (.slice A out.length c) out) ∧ Kept (Below w.heap.size w wr)) (fun _ iv _ => l.length - (intOf iv).toNat)
  case atStart => exact ⟨0, none, 0, [], Nat.zero_le _, rfl, rfl, ⟨rfl⟩, ⟨Elem.Own.nilv _ _ _ _⟩, ⟨Below.refl _ _⟩⟩
  case round =>
    obtain ⟨i, A0, c0, out0, hi, rfl, rfl, HO0, HW0, HB0⟩ := hrel
    by_cases hlt : i < l.length
    · obtain ⟨⟨zcid, zX, zls, zc⟩, hx⟩ : ∃ x, l[i]? = some x := ⟨_, List.getElem?_eq_getElem hlt⟩
      have hin : (i : Int) < (l.length : Int) := by omega
      obtain ⟨b1, o1, rfl, hbB, u0, u1, hxo⟩ := HL.out.at_ hx
      have hbw := HB0.out
      have q0 := (hbw.cell (p := ⟨b1, o1 + i * 2, none⟩) hbB).trans u0
      have q1 := (hbw.cell (p := ⟨b1, o1 + i * 2 + 1, none⟩) hbB).trans u1
      have CM := rfwords_any ⟨zcid, zX, zls, zc⟩ wr (hxo.next hbw) (HT.out _ (List.mem_of_getElem? hx))
      have HNX := kept (wordsL_next hx)
      have HL1 := kept (wordsL_take l (i + 1))
      unfold CardM.val at CM
      dsimp only at q0 q1 HNX CM
      have CM := kept CM
      clear hx u0 u1 hxo
      go_wp2_with fail
      refine CM.out.mono ?_
      rintro e w3 ⟨Aw, cw, rfl, hown, hcw, hb3⟩
      obtain ⟨ws, hws⟩ : ∃ ws, wordsC zls = ws := ⟨_, rfl⟩
      rw [hws] at hown HNX ⊢
      have HB3 := kept (hbw.trans (hb3.mono hbw.size))
      have HR3 := kept hown.rd
      have HW3 := kept (HW0.out.next hb3)
      obtain ⟨pre, hpre⟩ : ∃ pre, wordsL (l.take i) = pre := ⟨_, rfl⟩
      rw [hpre] at HNX HO0
      have HLP : Kept (pre.length + ws.length ≤ 26400013200) := ⟨by
        have h1 := HL1.out
        rw [HNX.out, List.length_append] at h1
        exact Nat.le_trans h1 HFW.out⟩
      have HOS : Kept (out0 = putsF (pre ++ ws.take 0)) := ⟨by rw [List.take_zero, List.append_nil]; exact HO0.out⟩
      clear hown hb3 hws hpre HL1 CM q0 q1 HB0 hbw HW0 HO0 hcw
      go_wp2_with fail
      go_loopw [3, 6] (fun sv kv wq => ∃ (k : Nat) (A : Option Addr) (c : Nat) (out : List ByteArray), k ≤ ws.length ∧ kv = .int .i64 (k : Int) ∧ sv = .slice A out.length c ∧ Kept (out = putsF (pre ++ ws.take k)) ∧ Kept (strE.Own wq w.heap.size 9 (.slice A out.length c) out) ∧ Kept (strE.Rd wq wq.heap.size Aw ws) ∧ Kept (Below w.heap.size w wq)) (fun _ kv _ => ws.length - (intOf kv).toNat)
      case atStart => exact ⟨0, A0, c0, out0, Nat.zero_le _, rfl, rfl, HOS, HW3, HR3, HB3⟩
      case round =>
        clear HOS HW3 HR3 HB3
        obtain ⟨k, A1, c1, out, hk, rfl, rfl, HO, HW, HR, HB⟩ := hrel
        rename World => wq
        by_cases hkl : k < ws.length
        · obtain ⟨s, hs⟩ : ∃ s, ws[k]? = some s := ⟨_, List.getElem?_eq_getElem hkl⟩
          have hkn : (k : Int) < (ws.length : Int) := by omega
          obtain ⟨b2, o2, rfl, hb2, hc2⟩ := (strE_rd.1 HR.out) (by intro e; rw [List.map_eq_nil_iff.1 e] at hkl; exact absurd hkl (Nat.not_lt_zero _))
          have y0 := hc2 k (.string s) (by unfold SB; rw [List.getElem?_map, hs]; rfl)
          have HY := kept (fun (W : World) (hb : Below wq.heap.size wq W) => (hb.cell (p := ⟨b2, o2 + k, none⟩) hb2).trans y0)
          have HNS : Kept (putF out s = putsF (pre ++ ws.take (k + 1))) := ⟨by
            obtain ⟨h1, h2⟩ := List.getElem?_eq_some_iff.1 hs
            rw [List.take_succ_eq_append_getElem h1, h2, ← List.append_assoc, putsF_snoc, HO.out]⟩
          have hol : out.length ≤ 26400013200 := by
            have h1 := putsF_length (pre ++ ws.take k)
            rw [← HO.out, List.length_append, List.length_take] at h1
            have := HLP.out
            omega
          have hwl : ws.length ≤ 26400013200 := by have := HLP.out; omega
          have HP : Kept (putF out s = out.filter (fun x => Op.bytesLess x.toList s.toList) ++ s :: out.filter (fun x => Op.bytesLess s.toList x.toList)) := ⟨rfl⟩
          have HOR := kept (fun (W : World) (hb : Below wq.heap.size wq W) => (HW.out.rd.next hb))
          clear hc2 hs y0 HO
          go_wp2_with fail
          go_loopw [7, 8] (fun tv jv wi => ∃ (j : Nat) (rs : List ByteArray) (A' : Option Addr) (c' : Nat), j ≤ out.length ∧ jv = .int .i64 (j : Int) ∧ tv = .slice A' rs.length c' ∧ rs.length ≤ j ∧ Kept (rs = (out.take j).filter fun x => Op.bytesLess x.toList s.toList) ∧ Kept (strE.Own wi wq.heap.size 9 (.slice A' rs.length c') rs) ∧ Kept (Below wq.heap.size wq wi)) (fun _ jv _ => out.length - (intOf jv).toNat)
          case atStart => exact ⟨0, [], none, 0, Nat.zero_le _, rfl, rfl, Nat.zero_le _, ⟨rfl⟩, ⟨Elem.Own.nilv _ _ _ _⟩, ⟨Below.refl _ _⟩⟩
          case round =>
            obtain ⟨j, rs, A', c', hj, rfl, rfl, hrl, hrs, hown, hb⟩ := hrel
            rename World => wi
            have s0 := HY.out _ hb.out
            by_cases hjl : j < out.length
            · obtain ⟨x, hx⟩ : ∃ x, out[j]? = some x := ⟨_, List.getElem?_eq_getElem hjl⟩
              have hjn : (j : Int) < (out.length : Int) := by omega
              obtain ⟨b3, o3, rfl, hb3, hc3⟩ := (strE_rd.1 (HOR.out _ hb.out)) (by intro e; rw [List.map_eq_nil_iff.1 e] at hjl; exact absurd hjl (Nat.not_lt_zero _))
              have x0 := hc3 j (.string x) (by unfold SB; rw [List.getElem?_map, hx]; rfl)
              have HN := kept (filterF_snoc (fun x => Op.bytesLess x.toList s.toList) hx)
              rw [← hrs.out] at HN
              clear hx hc3 hrs
              cases hp : Op.bytesLess x.toList s.toList with
              | true =>
                rw [hp] at HN
                go_wp2_with fail
                go_quiet (fail)
                have hbq := hb.out.trans (below_draw _ wi nq)
                have hoq := hown.out.next (below_draw _ wi nq)
                have xq : (wi.drewN nq).cell? ⟨b3, o3 + j, none⟩ = some (.string x) := x0
                clear hb hown x0 s0
                generalize wi.drewN nq = wd at *
                have hbA : Below wd.heap.size wd (wd.alloc (.cells #[.string x] 9)) := (Below.refl _ _).alloc (Nat.le_refl _) _
                have hbB := hbq.trans (hbA.mono hbq.size)
                have hoB := hoq.next hbA
                have hrn : strE.Rd (wd.alloc (.cells #[.string x] 9)) (wd.heap.size + 1) (some ⟨wd.heap.size, 0, none⟩) [x] := Rd.new _ [.string x] 9
                have hz : (rs.length + [x].length) * 16 ≤ 140737488355328 := by simp; omega
                have hbase : wq.heap.size ≤ (wd.alloc (.cells #[.string x] 9)).heap.size := hbB.size
                go_wp2_with (at_builtin; refine wpl_appEU _ strE rfl (.tmp 42) (.tmp 47) 36 rfl wq.heap.size 9 Tryz.underlying36 str_info rfl _ rs rfl hoB _ _ _ _ [x] rfl rfl hrn hz (by decide) hbase ?_; intro A9 c9 w9 r9 hr9 hown9 hu9 hx9)
                have HB9 : Kept (Below wq.heap.size wq w9) := ⟨hbB.trans ((hu9 _ fun _ e => e).below hbase fun k _ e => (hoB.lt k e).1)⟩
                have HW9 := kept hown9
                have HL9 : Kept (r9.length ≤ j + 1) := ⟨by rw [hr9.out, List.length_append, List.length_singleton]; omega⟩
                have HN9 : Kept (r9 = (out.take (j + 1)).filter fun x => Op.bytesLess x.toList s.toList) := ⟨by rw [hr9.out, HN.out]; rfl⟩
                clear hr9 hown9 hu9 hx9 hrn hz hbase hbA hbB hoB xq HN hp hbq hoq
                go_wp2_with fail
                go_roundw
                case rel => exact ⟨j + 1, r9, A9, c9, by omega, by go_num, rfl, HL9.out, HN9, HW9, HB9⟩
                case measure => simp [intOf]; omega
              | false =>
                rw [hp] at HN
                have HN2 : Kept (rs = (out.take (j + 1)).filter fun x => Op.bytesLess x.toList s.toList) := ⟨by rw [HN.out]; simp⟩
                clear HN
                go_wp2_with fail
                go_quiet (fail)
                have hbq := hb.out.trans (below_draw _ wi nq)
                have hoq := hown.out.next (below_draw _ wi nq)
                have xq : (wi.drewN nq).cell? ⟨b3, o3 + j, none⟩ = some (.string x) := x0
                clear hb hown x0 s0
                generalize wi.drewN nq = wd at *
                go_wp2_with fail
                go_roundw
                case rel => exact ⟨j + 1, rs, A', c', by omega, by go_num, rfl, by omega, HN2, ⟨hoq⟩, ⟨hbq⟩⟩
                case measure => simp [intOf]; omega
            · obtain rfl : j = out.length := by omega
              rw [List.take_length] at hrs
              have hbA : Below wi.heap.size wi (wi.alloc (.cells #[.string s] 9)) := (Below.refl _ _).alloc (Nat.le_refl _) _
              have hbB := hb.out.trans (hbA.mono hb.out.size)
              have hoB := hown.out.next hbA
              have hrn : strE.Rd (wi.alloc (.cells #[.string s] 9)) (wi.heap.size + 1) (some ⟨wi.heap.size, 0, none⟩) [s] := Rd.new _ [.string s] 9
              have hz : (rs.length + [s].length) * 16 ≤ 140737488355328 := by simp; omega
              have hbase : wq.heap.size ≤ (wi.alloc (.cells #[.string s] 9)).heap.size := hbB.size
              clear hown hb
              go_wp2_with (at_builtin; refine wpl_appEU _ strE rfl (.tmp 49) (.tmp 54) 36 rfl wq.heap.size 9 Tryz.underlying36 str_info rfl _ rs rfl hoB _ _ _ _ [s] rfl rfl hrn hz (by decide) hbase ?_; intro A2 c2 w9 r2 hr9 hown9 hu9 hx9)
              have HB9 : Kept (Below wq.heap.size wq w9) := ⟨hbB.trans ((hu9 _ fun _ e => e).below hbase fun k _ e => (hoB.lt k e).1)⟩
              have HW9 := kept hown9
              have hl2 : r2.length ≤ out.length + 1 := by rw [hr9.out, List.length_append, List.length_singleton]; omega
              have HR2 : Kept (r2 = out.filter (fun x => Op.bytesLess x.toList s.toList) ++ [s]) := ⟨by rw [hr9.out, hrs.out]⟩
              clear hr9 hown9 hu9 hx9 hrn hz hbase hbA hbB hoB s0 hrs
              go_wp2_with fail
              go_loopw [7, 9] (fun tv jv wi => ∃ (j : Nat) (rs : List ByteArray) (A' : Option Addr) (c' : Nat), j ≤ out.length ∧ jv = .int .i64 (j : Int) ∧ tv = .slice A' rs.length c' ∧ rs.length ≤ out.length + 1 + j ∧ Kept (rs = r2 ++ (out.take j).filter fun x => Op.bytesLess s.toList x.toList) ∧ Kept (strE.Own wi wq.heap.size 9 (.slice A' rs.length c') rs) ∧ Kept (Below wq.heap.size wq wi)) (fun _ jv _ => out.length - (intOf jv).toNat)
              case atStart => exact ⟨0, r2, A2, c2, Nat.zero_le _, rfl, rfl, by omega, ⟨by simp⟩, HW9, HB9⟩
              case round =>
                clear HW9 HB9
                obtain ⟨j, rs, A', c', hj, rfl, rfl, hrl, hrs, hown, hb⟩ := hrel
                rename World => wi
                have s0 := HY.out _ hb.out
                by_cases hjl : j < out.length
                · obtain ⟨x, hx⟩ : ∃ x, out[j]? = some x := ⟨_, List.getElem?_eq_getElem hjl⟩
                  have hjn : (j : Int) < (out.length : Int) := by omega
                  obtain ⟨b3, o3, rfl, hb3, hc3⟩ := (strE_rd.1 (HOR.out _ hb.out)) (by intro e; rw [List.map_eq_nil_iff.1 e] at hjl; exact absurd hjl (Nat.not_lt_zero _))
                  have x0 := hc3 j (.string x) (by unfold SB; rw [List.getElem?_map, hx]; rfl)
                  have HN := kept (filterF_snoc (fun x => Op.bytesLess s.toList x.toList) hx)
                  clear hx hc3
                  cases hp : Op.bytesLess s.toList x.toList with
                  | true =>
                    obtain ⟨hp1, hp2⟩ := gtF_yes hp
                    have HN0 : Kept (rs ++ [x] = r2 ++ (out.take (j + 1)).filter fun x => Op.bytesLess s.toList x.toList) := ⟨by rw [HN.out, hrs.out, hp, List.append_assoc]; rfl⟩
                    clear HN hrs
                    go_wp2_with fail
                    go_quiet (fail)
                    have hbq := hb.out.trans (below_draw _ wi nq)
                    have hoq := hown.out.next (below_draw _ wi nq)
                    have xq : (wi.drewN nq).cell? ⟨b3, o3 + j, none⟩ = some (.string x) := x0
                    clear hb hown x0 s0
                    generalize wi.drewN nq = wd at *
                    have hbA : Below wd.heap.size wd (wd.alloc (.cells #[.string x] 9)) := (Below.refl _ _).alloc (Nat.le_refl _) _
                    have hbB := hbq.trans (hbA.mono hbq.size)
                    have hoB := hoq.next hbA
                    have hrn : strE.Rd (wd.alloc (.cells #[.string x] 9)) (wd.heap.size + 1) (some ⟨wd.heap.size, 0, none⟩) [x] := Rd.new _ [.string x] 9
                    have hz : (rs.length + [x].length) * 16 ≤ 140737488355328 := by simp; omega
                    have hbase : wq.heap.size ≤ (wd.alloc (.cells #[.string x] 9)).heap.size := hbB.size
                    go_wp2_with (at_builtin; refine wpl_appEU _ strE rfl (.tmp 71) (.tmp 76) 36 rfl wq.heap.size 9 Tryz.underlying36 str_info rfl _ rs rfl hoB _ _ _ _ [x] rfl rfl hrn hz (by decide) hbase ?_; intro A9 c9 w9 r9 hr9 hown9 hu9 hx9)
                    have HB9 : Kept (Below wq.heap.size wq w9) := ⟨hbB.trans ((hu9 _ fun _ e => e).below hbase fun k _ e => (hoB.lt k e).1)⟩
                    have HW9 := kept hown9
                    have HL9 : Kept (r9.length ≤ out.length + 1 + (j + 1)) := ⟨by rw [hr9.out, List.length_append, List.length_singleton]; omega⟩
                    have HN9 : Kept (r9 = r2 ++ (out.take (j + 1)).filter fun x => Op.bytesLess s.toList x.toList) := ⟨by rw [hr9.out, HN0.out]⟩
                    clear hr9 hown9 hu9 hx9 hrn hz hbase hbA hbB hoB xq HN0 hp hp1 hp2 hbq hoq
                    go_wp2_with fail
                    go_roundw
                    case rel => exact ⟨j + 1, r9, A9, c9, by omega, by go_num, rfl, HL9.out, HN9, HW9, HB9⟩
                    case measure => simp [intOf]; omega
                  | false =>
                    have HN2 : Kept (rs = r2 ++ (out.take (j + 1)).filter fun x => Op.bytesLess s.toList x.toList) := ⟨by rw [HN.out, hrs.out, hp]; simp⟩
                    clear HN hrs
                    rcases gtF_no hp with hp1 | ⟨hp1, hp2⟩
                    all_goals
                      go_wp2_with fail
                      go_quiet (fail)
                      have hbq := hb.out.trans (below_draw _ wi nq)
                      have hoq := hown.out.next (below_draw _ wi nq)
                      have xq : (wi.drewN nq).cell? ⟨b3, o3 + j, none⟩ = some (.string x) := x0
                      clear hb hown x0 s0
                      generalize wi.drewN nq = wd at *
                      go_wp2_with fail
                      go_roundw
                      case rel => exact ⟨j + 1, rs, A', c', by omega, by go_num, rfl, by omega, HN2, ⟨hoq⟩, ⟨hbq⟩⟩
                      case measure => simp [intOf]; omega
                · obtain rfl : j = out.length := by omega
                  have HOE : Kept (rs = putsF (pre ++ ws.take (k + 1))) := ⟨by rw [← HNS.out, HP.out, hrs.out, List.take_length, HR2.out, List.append_assoc]; rfl⟩
                  have HWE : Kept (strE.Own wi w.heap.size 9 (.slice A' rs.length c') rs) := ⟨hown.out.mono HB.out.size⟩
                  have HRE := kept (HR.out.next hb.out)
                  have HBE := kept (HB.out.trans (hb.out.mono HB.out.size))
                  clear hrs hown hb s0
                  go_wp2_with fail
                  go_roundw
                  case rel => exact ⟨k + 1, A', c', rs, by omega, by go_num, rfl, HOE, HWE, HRE, HBE⟩
                  case measure => simp [intOf]; omega
        · obtain rfl : k = ws.length := by omega
          have HOE : Kept (out = putsF (wordsL (l.take (i + 1)))) := ⟨by rw [HNX.out, HO.out, List.take_length]⟩
          clear HO HR
          go_wp2_with fail
          go_roundw
          case rel => exact ⟨i + 1, A1, c1, out, by omega, by go_num, rfl, HOE, HW, HB⟩
          case measure => simp [intOf]; omega
    · obtain rfl : i = l.length := by omega
      rw [List.take_length] at HO0
      have HG := kept (Elem.gives HO0.out HW0.out HB0.out)
      clear HO0 HW0 HB0
      go_wp2_with fail
      go_ret
      exact HG.out
end Go.Proofs.YtfkfpanhbanljaaGreatDoor.Find

/- Layer 45 (find): plain words for FindSays. -/
namespace Go.Proofs.YtfkfpanhbanljaaGreatDoor.Stab
section
variable {α : Type} {lt : α → α → Bool}
theorem ins_nilS (x : α) : ins lt [] x = [x] := rfl
theorem ins_consS (y : α) (l : List α) (x : α) : ins lt (y :: l) x = if lt x y = true then x :: y :: l else y :: ins lt l x := rfl
theorem filter_ins (h : SWO lt) (p : α → Bool) : ∀ (l : List α) (x : α), Srt lt l → (ins lt l x).filter p = if p x = true then ins lt (l.filter p) x else l.filter p
  | [], x, _ => by
    rw [ins_nilS, List.filter_nil, ins_nilS, List.filter_cons, List.filter_nil]
  | y :: l, x, hs => by
    obtain ⟨h1, h2⟩ := List.pairwise_cons.1 hs
    have ih := filter_ins h p l x h2
    rw [ins_consS]
    by_cases hxy : lt x y = true
    · rw [if_pos hxy, List.filter_cons]
      cases e : p x with
      | false => rw [if_neg Bool.false_ne_true, if_neg Bool.false_ne_true]
      | true =>
        rw [if_pos rfl, if_pos rfl]
        have hall : ∀ z ∈ (y :: l).filter p, lt x z = true := fun z hz => by
          rcases List.mem_cons.1 (List.mem_filter.1 hz).1 with rfl | hz2
          · exact hxy
          · exact h.lt_of hxy (h1 z hz2)
        cases e2 : (y :: l).filter p with
        | nil => rfl
        | cons z r => rw [ins_consS, if_pos (hall z (by rw [e2]; exact List.mem_cons_self))]
    · rw [if_neg hxy, List.filter_cons, List.filter_cons, ih]
      cases e : p y with
      | false => rw [if_neg Bool.false_ne_true, if_neg Bool.false_ne_true]
      | true =>
        rw [if_pos rfl, if_pos rfl]
        cases e2 : p x with
        | false => rw [if_neg Bool.false_ne_true, if_neg Bool.false_ne_true]
        | true => rw [if_pos rfl, if_pos rfl, ins_consS, if_neg hxy]
theorem filter_stab (h : SWO lt) (p : α → Bool) (l : List α) : (stab lt l).filter p = stab lt (l.filter p) := by
  have hg : ∀ (r a : List α), Srt lt a → (r.foldl (ins lt) a).filter p = (r.filter p).foldl (ins lt) (a.filter p) := by
    intro r
    induction r with
    | nil => intro a _; rfl
    | cons x r ih =>
      intro a ha
      rw [List.foldl_cons, ih _ (ins_srt h a x ha), filter_ins h p a x ha, List.filter_cons]
      cases e : p x with
      | true => rw [if_pos rfl, if_pos rfl, List.foldl_cons]
      | false => rw [if_neg Bool.false_ne_true, if_neg Bool.false_ne_true]
  exact hg l [] List.Pairwise.nil
end
end Go.Proofs.YtfkfpanhbanljaaGreatDoor.Stab
namespace Go.Proofs.YtfkfpanhbanljaaGreatDoor.Find
open Go.RowKit Go.Proofs.YtfkfpanhbanljaaGreatDoor.Mem Go.Proofs.YtfkfpanhbanljaaGreatDoor.Card Go.Proofs.YtfkfpanhbanljaaGreatDoor.Laid Go.Proofs.YtfkfpanhbanljaaGreatDoor.Fold Go.Proofs.YtfkfpanhbanljaaGreatDoor.Twin Go.Proofs.YtfkfpanhbanljaaGreatDoor.List44 Go.Proofs.YtfkfpanhbanljaaGreatDoor.Stab

theorem found_stab (l : List CardM) (hs : List ByteArray) : foundL (stab ltC l) hs = stab ltC (foundL l hs) := filter_stab swoC _ l
theorem says_found {ys l : List CardM} (h : ys.map CardM.p = (stab ltC l).map CardM.p) (hs : List ByteArray) : (foundL ys hs).map CardM.p = (stab ltC (foundL l hs)).map CardM.p := by rw [found_p hs h, found_stab]
theorem mem_pairs {ys : List CardM} {s : ByteArray} : (∃ i, (s, i) ∈ pairsK ys ys.length) ↔ ∃ y ∈ ys, s ∈ wordsC y.ls := by
  refine ⟨fun ⟨i, h⟩ => pairs_mem h, fun ⟨y, hy, hs⟩ => ?_⟩
  obtain ⟨i, hi, e⟩ := List.mem_iff_getElem.1 hy
  refine ⟨i, List.mem_flatMap.2 ⟨i, List.mem_range.2 hi, List.mem_map.2 ⟨s, ?_, rfl⟩⟩⟩
  have e2 : ys.getD i ⟨0, none, [], 0⟩ = y := by simp [List.getD, hi, e]
  rw [e2]
  exact hs
theorem says_words {ys l : List CardM} (h : ys.map CardM.p = (stab ltC l).map CardM.p) (s : ByteArray) : (∃ i, (s, i) ∈ pairsK ys ys.length) ↔ s ∈ wordsL l := by
  rw [mem_pairs]
  unfold wordsL
  rw [List.mem_flatMap]
  constructor
  · rintro ⟨y, hy, hs⟩
    have h2 : y.p ∈ (stab ltC l).map CardM.p := by rw [← h]; exact List.mem_map_of_mem hy
    obtain ⟨x, hx, e⟩ := List.mem_map.1 h2
    exact ⟨x, (stab_perm l).mem_iff.1 hx, by rw [wordsC_p (congrArg Prod.snd e)]; exact hs⟩
  · rintro ⟨x, hx, hs⟩
    have h2 : x.p ∈ ys.map CardM.p := by rw [h]; exact List.mem_map_of_mem ((stab_perm l).mem_iff.2 hx)
    obtain ⟨y, hy, e⟩ := List.mem_map.1 h2
    exact ⟨y, hy, by rw [wordsC_p (congrArg Prod.snd e)]; exact hs⟩
theorem says_texts {ys l : List CardM} {ws : List ByteArray} (h : ys.map CardM.p = (stab ltC l).map CardM.p) (hi : IncF ws) (hm : ∀ s, s ∈ ws ↔ ∃ i, (s, i) ∈ pairsK ys ys.length) : ws = putsF (wordsL l) :=
  incF_ext hi (putsF_inc _) fun s => ((hm s).trans (says_words h s)).trans putsF_mem.symm
end Go.Proofs.YtfkfpanhbanljaaGreatDoor.Find

/- Layer 45 (find): begins, Match, Find (the document's). -/
namespace Go.Proofs.YtfkfpanhbanljaaGreatDoor.Find
open Go.RowKit Go.Proofs.YtfkfpanhbanljaaGreatDoor.Mem Go.Proofs.YtfkfpanhbanljaaGreatDoor.Card Go.Proofs.YtfkfpanhbanljaaGreatDoor.Laid Go.Proofs.YtfkfpanhbanljaaGreatDoor.Fold Go.Proofs.YtfkfpanhbanljaaGreatDoor.Twin Go.Proofs.YtfkfpanhbanljaaGreatDoor.List44

theorem hasP_ext {x h : ByteArray} (_hle : h.size ≤ x.size) : ((x.extract 0 h.size).toList == h.toList) = hasP x h := by
  rw [str_beq]
  have e : (x.extract 0 h.size).data.toList = x.data.toList.take h.data.toList.length := by
    rw [ByteArray.data_extract]
    simp
  unfold hasP Lib.hasPrefix
  rw [Bool.eq_iff_iff, decide_eq_true_iff, List.isPrefixOf_iff_prefix, List.prefix_iff_eq_take, ← e]
  exact ⟨fun h2 => by rw [h2], fun h2 => (Go.WideShapes.bytes_inj h2.symm)⟩
theorem hasP_long {x h : ByteArray} (hle : ¬ h.size ≤ x.size) : hasP x h = false := by
  unfold hasP Lib.hasPrefix
  cases e : h.data.toList.isPrefixOf x.data.toList with
  | false => rfl
  | true =>
    have h2 := (List.isPrefixOf_iff_prefix.1 e).length_le
    exact absurd (by simpa using h2) hle
set_option maxRecDepth 100000 in
set_option maxHeartbeats 4000000 in
theorem begins_any (A : Option Addr) (c : Nat) (l : List ByteArray) (h : ByteArray) (w : World) (hr : strE.Rd w w.heap.size A l) (hsz : l.length ≤ 9223372036854775806) :
    Calls Tryz.prog 34 #[.slice A l.length c, .string h] w fun e w' => e = .returned (.bool (l.any fun x => hasP x h)) ∧ w = w' := by
  have HR := kept hr
  clear hr
  go_enter Tryz.func34, Tryz.ntmps34
  go_wp2_with fail
  go_loopw [5] (fun i wr => ∃ k : Nat, k ≤ l.length ∧ i = .int .i64 (k : Int) ∧ Kept ((l.take k).any (fun x => hasP x h) = false) ∧ w = wr) (fun i _ => l.length - (intOf i).toNat)
  case atStart => exact ⟨0, Nat.zero_le _, rfl, ⟨rfl⟩, rfl⟩
  case round =>
    obtain ⟨k, hk, rfl, HN, rfl⟩ := hrel
    by_cases hlt : k < l.length
    · obtain ⟨x, hx⟩ : ∃ x, l[k]? = some x := ⟨_, List.getElem?_eq_getElem hlt⟩
      have hkn : (k : Int) < (l.length : Int) := by omega
      obtain ⟨b2, o2, rfl, hb2, hc2⟩ := (strE_rd.1 HR.out) (by intro e; rw [List.map_eq_nil_iff.1 e] at hlt; exact absurd hlt (Nat.not_lt_zero _))
      have y0 := hc2 k (.string x) (by unfold SB; rw [List.getElem?_map, hx]; rfl)
      have HT : Kept ((l.take (k + 1)).any (fun x => hasP x h) = hasP x h) := ⟨by
        obtain ⟨h1, h2⟩ := List.getElem?_eq_some_iff.1 hx
        rw [List.take_succ_eq_append_getElem h1, h2, List.any_append, HN.out]
        simp⟩
      have HIN := kept (List.mem_of_getElem? hx)
      clear hc2 hx
      by_cases hle : h.size ≤ x.size
      · have hli : (h.size : Int) ≤ (x.size : Int) := by omega
        have hd := hasP_ext hle
        cases hp : hasP x h with
        | true =>
          rw [hp] at hd
          have HA : Kept ((l.any fun x => hasP x h) = true) := ⟨List.any_eq_true.2 ⟨x, HIN.out, hp⟩⟩
          clear HT HIN hp
          go_wp2_with fail
          go_ret
          exact ⟨by rw [HA.out]; rfl, rfl⟩
        | false =>
          rw [hp] at hd HT
          clear HIN hp
          go_wp2_with fail
          go_roundw
          case rel => exact ⟨k + 1, by omega, by go_num, HT, trivial⟩
          case measure => simp [intOf]; omega
      · have hli : ¬ (h.size : Int) ≤ (x.size : Int) := by omega
        rw [hasP_long hle] at HT
        clear HIN
        go_wp2_with fail
        go_roundw
        case rel => exact ⟨k + 1, by omega, by go_num, HT, trivial⟩
        case measure => simp [intOf]; omega
    · obtain rfl : k = l.length := by omega
      rw [List.take_length] at HN
      go_wp2_with fail
      go_ret
      exact ⟨by rw [HN.out]; rfl, rfl⟩
set_option maxRecDepth 100000 in
set_option maxHeartbeats 4000000 in
theorem rfmatch_any (x : CardM) (q : ByteArray) (w : World) (hx : x.Ok w w.heap.size) (ht : Tame x.ls) (hq : q.size ≤ 2000000) :
    Calls Tryz.prog 11 #[x.val, .string q] w fun e w' => e = .returned (.bool (fitsL x.ls (wordsB q))) ∧ Below w.heap.size w w' := by
  obtain ⟨xcid, xX, xls, xc⟩ := x
  have hb0 : Below w.heap.size w (w.alloc (.cells #[.int .u64 (xcid : Int), .slice xX xls.length xc] 31)) := (Below.refl _ _).alloc (Nat.le_refl _) _
  have CW := kept (rfwords_any ⟨xcid, xX, xls, xc⟩ _ (hx.next hb0) ht)
  have HB0 := kept hb0
  have HTM : Kept (Tame xls) := ⟨ht⟩
  have hwq := words_few hq
  clear hb0 hx ht
  unfold CardM.val at CW ⊢
  dsimp only at CW ⊢
  go_enter Tryz.func11, Tryz.ntmps11
  go_wp2_with fail
  refine CW.out.mono ?_
  rintro e w1 ⟨Aw, cw, rfl, hown, hcw, hb1⟩
  have HB1 := kept (HB0.out.trans (hb1.mono HB0.out.size))
  have CQ := kept (rwords_any q w1 (by omega))
  have HW1 := kept hown
  have hwl : (wordsC xls).length ≤ 264000132 := by have := wordsC_few HTM.out xls.length; rwa [List.take_length] at this
  clear hown hb1 CW HB0
  go_wp2_with fail
  refine CQ.out.mono ?_
  rintro e w2 ⟨Ah, ch, rfl, hown, hch, hb2⟩
  have HB2 := kept (HB1.out.trans (hb2.mono HB1.out.size))
  have HW2 := kept (HW1.out.next hb2)
  have HH2 := kept hown
  clear hown hb2 CQ HB1 HW1
  obtain ⟨ws, hws⟩ : ∃ ws, wordsC xls = ws := ⟨_, rfl⟩
  obtain ⟨hs, hhs⟩ : ∃ hs, wordsB q = hs := ⟨_, rfl⟩
  have HFIN : Kept (fitsL xls (wordsB q) = hs.all fun h => ws.any fun x => hasP x h) := ⟨by rw [← hws, ← hhs]; rfl⟩
  rw [hws] at HW2 hwl ⊢
  rw [hhs] at HH2 hwq ⊢
  clear hws hhs
  generalize (w.alloc (.cells #[.int .u64 (xcid : Int), .slice xX xls.length xc] 31)).heap.size = bw at *
  generalize w1.heap.size = bh at *
  go_wp2_with fail
  go_loopw [7] (fun i wr => ∃ k : Nat, k ≤ hs.length ∧ i = .int .i64 (k : Int) ∧ Kept ((hs.take k).all (fun h => ws.any fun x => hasP x h) = true) ∧ Kept (Below w.heap.size w wr) ∧ Kept (strE.Own wr bw 9 (.slice Aw ws.length cw) ws) ∧ Kept (strE.Own wr bh 9 (.slice Ah hs.length ch) hs)) (fun i _ => hs.length - (intOf i).toNat)
  case atStart => exact ⟨0, Nat.zero_le _, rfl, ⟨rfl⟩, HB2, HW2, HH2⟩
  case round =>
    clear HB2 HW2 HH2
    obtain ⟨k, hk, rfl, HA, HB, HW, HH⟩ := hrel
    by_cases hlt : k < hs.length
    · obtain ⟨h, hh⟩ : ∃ h, hs[k]? = some h := ⟨_, List.getElem?_eq_getElem hlt⟩
      have hkn : (k : Int) < (hs.length : Int) := by omega
      obtain ⟨b2, o2, rfl, hb2, hc2⟩ := (strE_rd.1 HH.out.rd) (by intro e; rw [List.map_eq_nil_iff.1 e] at hlt; exact absurd hlt (Nat.not_lt_zero _))
      have y0 := hc2 k (.string h) (by unfold SB; rw [List.getElem?_map, hh]; rfl)
      have CC := kept (begins_any Aw cw ws h wr HW.out.rd (by omega))
      have HT : Kept ((hs.take (k + 1)).all (fun h => ws.any fun x => hasP x h) = ws.any fun x => hasP x h) := ⟨by
        obtain ⟨h1, h2⟩ := List.getElem?_eq_some_iff.1 hh
        rw [List.take_succ_eq_append_getElem h1, h2, List.all_append, HA.out]
        simp⟩
      have HIN := kept (List.mem_of_getElem? hh)
      clear hc2 hh
      generalize hq9 : (ws.any fun x => hasP x h) = d at CC HT
      have HQ9 := kept hq9
      clear hq9
      go_wp2_with fail
      refine CC.out.mono ?_
      rintro e w3 ⟨rfl, rfl⟩
      cases d with
      | true =>
        go_wp2_with fail
        go_roundw
        case rel => exact ⟨k + 1, by omega, by go_num, HT, HB, HW, HH⟩
        case measure => simp [intOf]; omega
      | false =>
        have HF : Kept ((hs.all fun h => ws.any fun x => hasP x h) = false) := ⟨List.all_eq_false.2 ⟨h, HIN.out, by rw [HQ9.out]; decide⟩⟩
        go_wp2_with fail
        go_ret
        exact ⟨by rw [HFIN.out, HF.out]; rfl, HB.out⟩
    · obtain rfl : k = hs.length := by omega
      rw [List.take_length] at HA
      go_wp2_with fail
      go_ret
      exact ⟨by rw [HFIN.out, HA.out]; rfl, HB.out⟩
end Go.Proofs.YtfkfpanhbanljaaGreatDoor.Find

/- Layer 45 (find): Find (the document's). -/
namespace Go.Proofs.YtfkfpanhbanljaaGreatDoor.Find
open Go.RowKit Go.Proofs.YtfkfpanhbanljaaGreatDoor.Mem Go.Proofs.YtfkfpanhbanljaaGreatDoor.Card Go.Proofs.YtfkfpanhbanljaaGreatDoor.Laid Go.Proofs.YtfkfpanhbanljaaGreatDoor.Fold Go.Proofs.YtfkfpanhbanljaaGreatDoor.Twin Go.Proofs.YtfkfpanhbanljaaGreatDoor.List44 Go.Proofs.YtfkfpanhbanljaaGreatDoor.Stab

theorem found_mem {l : List CardM} {hs : List ByteArray} {x : CardM} (h : x ∈ foundL l hs) : x ∈ l := (List.mem_filter.1 h).1
set_option maxRecDepth 100000 in
set_option maxHeartbeats 4000000 in
theorem rfind_any (A : Option Addr) (l : List CardM) (c : Nat) (q : ByteArray) (w : World) (hr : RdCards w w.heap.size A l) (hn : l.length ≤ 100) (hs : Short l) (ht : ∀ x ∈ l, Tame x.ls) (hq : q.size ≤ 2000000) :
    Calls Tryz.prog 14 #[.slice A l.length c, .string q] w (GivesC w (stab ltC (foundL l (wordsB q)))) := by
  have HL := kept hr
  have HT := kept ht
  have CS := kept (fun (q2 : List CardM) (A' : Option Addr) (c' : Nat) (W : World) (e : q2 = foundL l (wordsB q)) (h1 : RdCards W W.heap.size A' q2) => rsort_any A' q2 c' W h1 (by rw [e]; have := found_le l (wordsB q); omega) (fun x hx => hs x (by rw [e] at hx; exact found_mem hx)))
  have HR : Kept (∀ (q2 : List CardM) (w1 w2 : World) (e : Ending), q2 = foundL l (wordsB q) → Below w.heap.size w w1 → GivesC w1 (stab ltC q2) e w2 → GivesC w (stab ltC (foundL l (wordsB q))) e w2) := ⟨fun q2 w1 w2 e e2 hb h => by
    subst e2
    obtain ⟨A', c', rfl, h1, h2⟩ := h
    exact ⟨A', c', rfl, h1, hb.trans (h2.mono hb.size)⟩⟩
  obtain ⟨T, hT⟩ : ∃ T, stab ltC (foundL l (wordsB q)) = T := ⟨_, rfl⟩
  rw [hT] at HR ⊢
  clear hr hs ht hT
  obtain ⟨hs, hhs⟩ : ∃ hs, wordsB q = hs := ⟨_, rfl⟩
  rw [hhs] at HR CS
  have HHS := kept hhs
  clear hhs
  go_enter Tryz.func14, Tryz.ntmps14
  go_wp2_with fail
  go_loopw [5, 6] (fun mv iv wr => ∃ (k : Nat) (A2 : Option Addr) (cm : Nat) (m : List CardM), k ≤ l.length ∧ mv = .slice A2 m.length cm ∧ iv = .int .i64 (k : Int) ∧ m.length ≤ k ∧ Kept (m = foundL (l.take k) hs) ∧ Kept (cardE.Own wr w.heap.size 31 (.slice A2 m.length cm) m ∧ Below w.heap.size w wr)) (fun _ iv _ => l.length - (intOf iv).toNat)
  case atStart => exact ⟨0, none, 0, [], Nat.zero_le _, rfl, rfl, Nat.le_refl _, ⟨rfl⟩, ⟨Elem.Own.nilv _ _ _ _, Below.refl _ _⟩⟩
  case round =>
    obtain ⟨k, A2, cm, m, hk, rfl, rfl, hmk, HMT, HMO⟩ := hrel
    have HMK := kept hmk
    clear hmk
    by_cases hlt : k < l.length
    · have hin : (k : Int) < (l.length : Int) := by omega
      obtain ⟨⟨zcid, zX, zls, zc⟩, hx⟩ : ∃ x, l[k]? = some x := ⟨_, List.getElem?_eq_getElem hlt⟩
      have HNX := kept (found_next hx hs)
      obtain ⟨b2, o, rfl, hbB, u0, u1, hxo⟩ := HL.out.at_ hx
      have hbw := HMO.out.2
      have q0 := (hbw.cell (p := ⟨b2, o + k * 2, none⟩) hbB).trans u0
      have q1 := (hbw.cell (p := ⟨b2, o + k * 2 + 1, none⟩) hbB).trans u1
      have CM := rfmatch_any ⟨zcid, zX, zls, zc⟩ q wr (hxo.next hbw) (HT.out _ (List.mem_of_getElem? hx)) (by omega)
      rw [HHS.out] at CM
      unfold CardM.val at CM
      dsimp only at q0 q1 HNX CM
      have CM := kept CM
      have HU0 := kept u0
      have HU1 := kept u1
      clear hx u0 u1 hxo
      cases hfit : fitsL zls hs with
      | false =>
        rw [hfit] at CM
        have HM9 : Kept (m = foundL (l.take (k + 1)) hs) := ⟨by rw [HNX.out, hfit, if_neg Bool.false_ne_true, List.append_nil]; exact HMT.out⟩
        clear HNX hfit HMT
        go_wp2_with fail
        refine CM.out.mono ?_
        rintro e w3 ⟨rfl, hb3⟩
        have HMO3 : Kept (cardE.Own w3 w.heap.size 31 (.slice A2 m.length cm) m ∧ Below w.heap.size w w3) := ⟨HMO.out.1.next hb3, hbw.trans (hb3.mono hbw.size)⟩
        clear hb3 HMO q0 q1 hbw CM HU0 HU1
        go_wp2_with fail
        go_roundw
        case rel => exact ⟨k + 1, A2, cm, m, by omega, rfl, by go_num, Nat.le_succ_of_le HMK.out, HM9, HMO3⟩
        case measure => simp [intOf]; omega
      | true =>
        rw [hfit] at CM
        have HM9 : Kept (m ++ [(⟨zcid, zX, zls, zc⟩ : CardM)] = foundL (l.take (k + 1)) hs) := ⟨by rw [HNX.out, hfit, if_pos rfl, HMT.out]⟩
        clear HNX hfit HMT
        go_wp2_with fail
        refine CM.out.mono ?_
        rintro e w3 ⟨rfl, hb3⟩
        have hbw3 := hbw.trans (hb3.mono hbw.size)
        have p0 := (hbw3.cell (p := ⟨b2, o + k * 2, none⟩) hbB).trans HU0.out
        have p1 := (hbw3.cell (p := ⟨b2, o + k * 2 + 1, none⟩) hbB).trans HU1.out
        have HMO3 := kept (HMO.out.1.next hb3)
        clear hb3 HMO q0 q1 hbw CM HU0 HU1
        have hrn : cardE.Rd (w3.alloc (.cells #[.int .u64 (zcid : Int), .slice zX zls.length zc] 31)) (w3.heap.size + 1) (some ⟨w3.heap.size, 0, none⟩) [⟨zcid, zX, zls, zc⟩] := Mem.Rd.new w3 [.int .u64 (zcid : Int), .slice zX zls.length zc] 31
        have hzz : (m.length + [(⟨zcid, zX, zls, zc⟩ : CardM)].length) * 32 ≤ 140737488355328 := by have := HMK.out; simp; omega
        have hnb : Below w3.heap.size w3 (w3.alloc (.cells #[.int .u64 (zcid : Int), .slice zX zls.length zc] 31)) := (Below.refl _ _).alloc (Nat.le_refl _) _
        have hoB := HMO3.out.next hnb
        have hbase : w.heap.size ≤ (w3.alloc (.cells #[.int .u64 (zcid : Int), .slice zX zls.length zc] 31)).heap.size := Nat.le_trans hbw3.size hnb.size
        go_wp2_with (at_builtin; refine wpl_appEU _ cardE rfl (.tmp 19) (.tmp 24) 22 rfl w.heap.size 31 Tryz.underlying22 Chg.card_info rfl _ m rfl hoB _ _ _ _ [⟨zcid, zX, zls, zc⟩] rfl rfl hrn hzz (by decide) hbase ?_; intro A9 c9 w9 r9 hr9 hown9 hu9 hx9)
        have HB9 : Kept (Below w.heap.size w w9) := ⟨(hbw3.trans (hnb.mono hbw3.size)).trans ((hu9 _ fun _ e => e).below hbase fun k _ e => (hoB.lt k e).1)⟩
        have HO9 := kept hown9
        have HR9 : Kept (r9 = foundL (l.take (k + 1)) hs) := ⟨by rw [hr9.out, HM9.out]⟩
        have HL9 : Kept (r9.length ≤ k + 1) := ⟨by have := HMK.out; rw [hr9.out, List.length_append, List.length_singleton]; omega⟩
        clear hr9 hown9 hu9 hx9 hrn hzz hnb hoB hbase hbw3 p0 p1 HMO3 HM9
        go_wp2_with fail
        go_roundw
        case rel => exact ⟨k + 1, A9, c9, r9, by omega, rfl, by go_num, HL9.out, HR9, ⟨HO9.out, HB9.out⟩⟩
        case measure => simp [intOf]; omega
    · obtain rfl : k = l.length := by omega
      rw [List.take_length] at HMT
      have CC := kept (CS.out m A2 cm wr HMT.out ⟨HMO.out.1.rd, fun x hx => (HL.out.2 x (by rw [HMT.out] at hx; exact found_mem hx)).next HMO.out.2⟩)
      have HR2 := kept (fun e w2 h => HR.out m wr w2 e HMT.out HMO.out.2 h)
      clear CS HR HMO HMT
      go_wp2_with fail
      refine CC.out.mono ?_
      rintro e w2 hg
      have HG := kept (HR2.out e w2 hg)
      obtain ⟨A', c', rfl, -, -⟩ := hg
      clear CC HR2
      go_wp2_with fail
      go_ret
      exact HG.out
end Go.Proofs.YtfkfpanhbanljaaGreatDoor.Find

/- Layer 45 (find): the law FindNil. -/
namespace Go.Proofs.YtfkfpanhbanljaaGreatDoor.Find
open Go.RowKit Go.Proofs.YtfkfpanhbanljaaGreatDoor.Mem Go.Proofs.YtfkfpanhbanljaaGreatDoor.Card Go.Proofs.YtfkfpanhbanljaaGreatDoor.Laid Go.Proofs.YtfkfpanhbanljaaGreatDoor.Fold Go.Proofs.YtfkfpanhbanljaaGreatDoor.Twin Go.Proofs.YtfkfpanhbanljaaGreatDoor.List44 Go.Proofs.YtfkfpanhbanljaaGreatDoor.Stab

theorem tameN_few {l : List CardM} (h : Chg.fewC l) (ht : ∀ y ∈ l, ∀ u ∈ y.ls, ∀ s ∈ u.m, s.size ≤ 1048576) : ∀ x ∈ l, Tame x.ls := fun x hx =>
  ⟨(h.2 x hx).1, fun z hz => ⟨Nat.le_trans ((h.2 x hx).2 z hz).1 (by decide), ((h.2 x hx).2 z hz).2, fun s hs => Nat.le_trans (ht x hx z hz s hs) (by decide)⟩⟩
set_option maxRecDepth 100000 in
set_option maxHeartbeats 16000000 in
theorem fnil_law (X : Option Addr) (l : List CardM) (c : Nat) (q : ByteArray) (w : World) (hr : RdCards w w.heap.size X l) (hc : l.length ≤ c) (hb : c ≤ 4398046511104) (ht : ∀ y ∈ l, ∀ u ∈ y.ls, ∀ s ∈ u.m, s.size ≤ 1048576) (hm : ML w) (hqs : q.size ≤ 1048576) :
    Calls Tryz.prog 4 #[.slice X l.length c, .string q] w fun e w' => e = .returned (.bool true) ∧ Below w.heap.size w w' := by
  have CF := kept (Chg.few_any X l c w hr (by omega))
  have HM := kept hm
  by_cases hfw : Chg.fewC l
  · rw [decide_eq_true hfw] at CF
    by_cases hq2 : q.size ≤ 200
    · have hn : l.length ≤ 25 := hfw.1
      have hq3 : ¬ (200 : Int) < (q.size : Int) := by omega
      have HL := kept hr
      have HTA := kept (tameN_few hfw ht)
      have HSH := kept (short_few hfw)
      have CN1 := kept (ffind_nil q w)
      have CN2 := kept (fwds_nil w)
      have HKE := Blk.new w [.slice none 0 0, .map none] 42
      have hbE : Below w.heap.size w (w.alloc (.cells #[.slice none 0 0, .map none] 42)) := (Below.refl _ _).alloc (Nat.le_refl _) _
      have CN3 := kept (ffind_empty w.heap.size q _ HKE (by omega) (hm.next hbE))
      have HBE := kept hbE
      clear hr hm hfw ht hc hb HKE hbE
      go_enter Tryz.func4, Tryz.ntmps4
      go_wp2_with fail
      refine CF.out.mono ?_
      rintro e w0 ⟨rfl, rfl⟩
      clear CF
      go_wp2_with fail
      refine CN1.out.mono ?_
      rintro e w0 ⟨rfl, rfl⟩
      clear CN1
      go_wp2_with fail
      refine CN2.out.mono ?_
      rintro e w0 ⟨rfl, rfl⟩
      clear CN2
      go_wp2_with fail
      refine CN3.out.mono ?_
      rintro e w1 ⟨Ae, ce, rfl, hb1⟩
      have HB1 := kept (HBE.out.trans (hb1.mono HBE.out.size))
      clear hb1 CN3 HBE
      go_wp2_with fail
      go_loopw [6, 7] (fun sv iv wr => ∃ (i : Nat) (A : Option Addr) (c : Nat) (own : List CardM), i ≤ l.length ∧ iv = .int .i64 (i : Int) ∧ sv = .slice A own.length c ∧ own.length = i ∧ Kept (own.map CardM.p = (l.take i).map CardM.p) ∧ Kept (RowF wr w.heap.size A c own) ∧ Kept (Below w.heap.size w wr)) (fun _ iv _ => l.length - (intOf iv).toNat)
      case atStart => exact ⟨0, none, 0, [], Nat.zero_le _, rfl, rfl, rfl, ⟨rfl⟩, ⟨RowF.nil _ _⟩, HB1⟩
      case round =>
        clear HB1
        obtain ⟨i, A0, c0, own, hi, rfl, rfl, hol, HP0, HR0, HB0⟩ := hrel
        rename World => wr
        have HOL := kept hol
        clear hol
        by_cases hlt : i < l.length
        · obtain ⟨⟨xcid, xX, xls, xc⟩, hx⟩ : ∃ x, l[i]? = some x := ⟨_, List.getElem?_eq_getElem hlt⟩
          have hin : (i : Int) < (l.length : Int) := by omega
          obtain ⟨b1, o1, rfl, hbB, u0, u1, hxo⟩ := HL.out.at_ hx
          have HTX := kept (HTA.out _ (List.mem_of_getElem? hx))
          have HU1 := kept (fun (W : World) (hb : Below w.heap.size w W) => (hb.cell (p := ⟨b1, o1 + i * 2 + 1, none⟩) hbB).trans u1)
          have q0 := (HB0.out.cell (p := ⟨b1, o1 + i * 2, none⟩) hbB).trans u0
          dsimp only at HU1 q0
          have HTK : Kept ((l.take (i + 1)).map CardM.p = (l.take i).map CardM.p ++ [(xcid, xls.map LineM.p)]) := ⟨by
            obtain ⟨e1, e2⟩ := List.getElem?_eq_some_iff.1 hx
            rw [List.take_succ_eq_append_getElem e1, e2, List.map_append]; rfl⟩
          have HXO := kept hxo
          have hxl : xls.length ≤ 12 := HTX.out.1
          have HS0 := kept (LS.start wr xcid)
          clear hx hxo u0 u1
          go_upto_region 12 with fail
          generalize wr.alloc (.cells #[.int .u64 (xcid : Int), .slice none 0 0] 31) = wi0 at *
          go_loopw [9] (fun kv wi => ∃ (k : Nat) (A4 : Option Addr) (c4 : Nat) (ms : List LineM), k ≤ xls.length ∧ kv = .int .i64 (k : Int) ∧ Kept (ms.length = k) ∧ Kept (ms.map LineM.p = (xls.take k).map LineM.p) ∧ Kept (LS wr wi xcid A4 c4 ms)) (fun kv _ => xls.length - (intOf kv).toNat)
          case atStart => exact ⟨0, none, 0, [], Nat.zero_le _, rfl, ⟨rfl⟩, ⟨rfl⟩, HS0⟩
          case round =>
            clear HS0
            obtain ⟨k, A4, c4, ms, hk, rfl, HKL, HMP, HS⟩ := hrel
            rename World => wi
            have hbw := HB0.out.trans (HS.out.below.mono HB0.out.size)
            have q1 := HU1.out wi hbw
            by_cases hkl : k < xls.length
            · obtain ⟨⟨zf, zt, zA, zm, zc⟩, hz⟩ : ∃ z, xls[k]? = some z := ⟨_, List.getElem?_eq_getElem hkl⟩
              obtain ⟨b2, o2, rfl, hb2, y0, y1, y2, hzo⟩ := HXO.out.2.1.at_ hz
              have hkn : (k : Int) < (xls.length : Int) := by omega
              have y0 := (hbw.cell (p := ⟨b2, o2 + k * 3, none⟩) hb2).trans y0
              have y1 := (hbw.cell (p := ⟨b2, o2 + k * 3 + 1, none⟩) hb2).trans y1
              have y2 := (hbw.cell (p := ⟨b2, o2 + k * 3 + 2, none⟩) hb2).trans y2
              dsimp only at y0 y1 y2
              have hzm : zm.length ≤ 10 := (HTX.out.2 _ (List.mem_of_getElem? hz)).2.1
              have hzf : zf < 256 := hzo.2.1
              have HZR := kept (fun (W : World) (hb : Below w.heap.size w W) => strE_rd.2 ((hzo.1.keep fun _ hp => hb.cell hp).more hb.size))
              have HTK2 : Kept ((xls.take (k + 1)).map LineM.p = (xls.take k).map LineM.p ++ [(zf, zt, zm)]) := ⟨by
                obtain ⟨e1, e2⟩ := List.getElem?_eq_some_iff.1 hz
                rw [List.take_succ_eq_append_getElem e1, e2, List.map_append]; rfl⟩
              have hbA : Below wi.heap.size wi (wi.alloc (.cells #[.int .u8 (zf : Int), .string zt, .slice zA zm.length zc] 44)) := (Below.refl _ _).alloc (Nat.le_refl _) _
              have HSY := kept (HS.out.next hbA)
              have HBY := kept (hbw.trans (hbA.mono hbw.size))
              have HGY : Kept (∀ b, (Value.slice A4 ms.length c4).ownBlock = some b → b < wi.heap.size) := ⟨fun b e => (OwnK.under HS.out.own b e).2⟩
              have HNE : Kept (wr.heap.size ≠ wi.heap.size) := ⟨by have := HS.out.box.lt; omega⟩
              have HKY := kept (Blk.new wi [.int .u8 (zf : Int), .string zt, .slice zA zm.length zc] 44)
              clear hz hzo hbA
              go_upto_region 15 with fail
              clear y0 y1 y2 q1 HS hbw
              generalize wi.alloc (.cells #[.int .u8 (zf : Int), .string zt, .slice zA zm.length zc] 44) = wy at *
              generalize wi.heap.size = gy at *
              have HSC : Kept (∀ W, Below wy.heap.size wy W → W.cell? ⟨gy, 0, none⟩ = some (.int .u8 (zf : Int)) ∧ W.cell? ⟨gy, 1, none⟩ = some (.string zt) ∧ W.cell? ⟨gy, 2, none⟩ = some (.slice zA zm.length zc)) := ⟨fun W hb => ⟨(HKY.out.next hb).cell (j := 0) rfl, (HKY.out.next hb).cell (j := 1) rfl, (HKY.out.next hb).cell (j := 2) rfl⟩⟩
              have O1 := kept (two_o1 strE 9 wy)
              have R1 := kept ((HZR.out wy HBY.out).alloc (Nat.le_refl _) (.cells #[] 9))
              have bw0 := Below.refl wy.heap.size wy
              have pa_o := HSY.out.box.cell (j := 1) rfl
              have pb_o := (HSY.out.box.next (bw0.alloc (Nat.le_refl _) (.cells #[] 9))).cell (j := 1) rfl
              have hz1 : (([] : List ByteArray).length + zm.length) * 16 ≤ 140737488355328 := by simp only [List.length_nil]; omega
              have hz2 : ∀ z : LineM, (ms.length + [z].length) * 48 ≤ 140737488355328 := fun z => by have := HKL.out; rw [List.length_singleton]; omega
              have HBA : Kept (Below wy.heap.size wy (wy.alloc (.cells #[] 9)).drew) := ⟨(bw0.alloc (Nat.le_refl _) (.cells #[] 9)).drew⟩
              have HT1 := kept (fun (w2 : World) (hu2 : ∀ S : Nat → Prop, (∀ k, (Value.slice (some ⟨wy.heap.size, 0, none⟩) 0 0).ownBlock = some k → S k) → Upd S (wy.alloc (.cells #[] 9)).drew w2) => two_below HBA.out O1.out hu2)
              have HZ2 := kept hz2
              clear bw0 hz2
              refine wp_region_noPanic ?_
              refine wp_region_held_drew (S := fun W => W.cell? ⟨gy, 0, none⟩ = some (.int .u8 (zf : Int)) ∧ W.cell? ⟨gy, 1, none⟩ = some (.string zt) ∧ W.cell? ⟨gy, 2, none⟩ = some (.slice zA zm.length zc)) (by kernel_rfl) (HSC.out _ (Below.refl wy.heap.size wy).drew) (fun hS0 => ?_)
              refine wpAnyH_take (i := 0) (v := ?_) rfl (by kernel_rfl) (by kernel_rfl) (by kernel_rfl) (fun _ _ _ h => h) (Or.inl ⟨by rfl, ?_⟩) hS0 ?_
              case refine_2 => (intro W hSW; go_simp; try with_reducible rfl)
              try simp only [Act.put, List.setIfInBounds_toArray, List.set_cons_zero, List.set_cons_succ, List.getElem_toArray, List.getElem_cons_zero, List.getElem_cons_succ]
              refine wpAnyH_take (i := 2) (v := ?_) rfl (by kernel_rfl) (by kernel_rfl) (by kernel_rfl) (fun _ _ _ h => h) (Or.inl ⟨by rfl, ?_⟩) hS0 ?_
              case refine_2 => (intro W hSW; go_simp; try with_reducible rfl)
              try simp only [Act.put, List.setIfInBounds_toArray, List.set_cons_zero, List.set_cons_succ, List.getElem_toArray, List.getElem_cons_zero, List.getElem_cons_succ]
              refine wpAnyH_take (i := 3) (v := ?_) rfl (by kernel_rfl) (by kernel_rfl) (by kernel_rfl) (fun _ _ _ h => h) (Or.inl ⟨by rfl, ?_⟩) hS0 ?_
              case refine_2 => (intro W hSW; obtain ⟨z0, z1, z2⟩ := hSW; go_simp; try with_reducible rfl)
              try simp only [Act.put, List.setIfInBounds_toArray, List.set_cons_zero, List.set_cons_succ, List.getElem_toArray, List.getElem_cons_zero, List.getElem_cons_succ]
              refine wpAnyH_take (i := 4) (v := ?_) rfl (by kernel_rfl) (by kernel_rfl) (by kernel_rfl) (fun _ _ _ h => h) (Or.inl ⟨by rfl, ?_⟩) hS0 ?_
              case refine_2 => (intro W hSW; go_simp; try with_reducible rfl)
              try simp only [Act.put, List.setIfInBounds_toArray, List.set_cons_zero, List.set_cons_succ, List.getElem_toArray, List.getElem_cons_zero, List.getElem_cons_succ]
              refine wpAnyH_take (i := 5) (v := ?_) rfl (by kernel_rfl) (by kernel_rfl) (by kernel_rfl) (fun _ _ _ h => h) (Or.inl ⟨by rfl, ?_⟩) hS0 ?_
              case refine_2 => (intro W hSW; obtain ⟨z0, z1, z2⟩ := hSW; go_simp; try with_reducible rfl)
              try simp only [Act.put, List.setIfInBounds_toArray, List.set_cons_zero, List.set_cons_succ, List.getElem_toArray, List.getElem_cons_zero, List.getElem_cons_succ]
              refine wpAnyH_take (i := 7) (v := ?_) rfl (by kernel_rfl) (by kernel_rfl) (by kernel_rfl) (fun _ _ _ h => h) (Or.inl ⟨by rfl, ?_⟩) hS0 ?_
              case refine_2 => (intro W hSW; go_simp; try with_reducible rfl)
              try simp only [Act.put, List.setIfInBounds_toArray, List.set_cons_zero, List.set_cons_succ, List.getElem_toArray, List.getElem_cons_zero, List.getElem_cons_succ]
              refine wpAnyH_take (i := 8) (v := ?_) rfl (by kernel_rfl) (by kernel_rfl) (by kernel_rfl) (fun _ _ _ h => h) (Or.inl ⟨by rfl, ?_⟩) hS0 ?_
              case refine_2 => (intro W hSW; obtain ⟨z0, z1, z2⟩ := hSW; go_simp; try with_reducible rfl)
              try simp only [Act.put, List.setIfInBounds_toArray, List.set_cons_zero, List.set_cons_succ, List.getElem_toArray, List.getElem_cons_zero, List.getElem_cons_succ]
              refine wpAnyH_ready (rs := [1, 6]) (by kernel_rfl) (by simp) ?_
              refine AllReadyH.cons rfl (fun K' hK => ?_) (AllReadyH.cons rfl (fun K' hK => ?_) AllReadyH.nil)
              · go_simp
                try simp only [Act.put, List.setIfInBounds_toArray, List.set_cons_zero, List.set_cons_succ, List.getElem_toArray, List.getElem_cons_zero, List.getElem_cons_succ]
                refine hK.out _ _ (HSC.out _ (Below.refl wy.heap.size wy).drew) (fun hS0 => ?_)
                refine wpAnyH_ready (rs := [6]) (by kernel_rfl) (by simp) ?_
                refine AllReadyH.cons rfl (fun K' hK => ?_) AllReadyH.nil
                go_simp
                try simp only [Act.put, List.setIfInBounds_toArray, List.set_cons_zero, List.set_cons_succ, List.getElem_toArray, List.getElem_cons_zero, List.getElem_cons_succ]
                refine hK.out _ _ (HSC.out _ HBA.out) (fun hS0 => ?_)
                refine wpAnyH_ready (rs := [9]) (by kernel_rfl) (by simp) ?_
                refine AllReadyH.cons rfl (fun K' hK => ?_) AllReadyH.nil
                refine step_appEU _ strE (by rfl) (.tmp 77) (.tmp 79) 36 (by rfl) wy.heap.size 9 Tryz.underlying36 str_info (by rfl) _ [] (by rfl) O1.out _ zA _ zc zm (by rfl) rfl R1.out hz1 (by decide) (by simp) ?_
                intro A2 c2 w2 r2 hr2 hown2 hu2 hx2
                have HB2 := kept (HT1.out w2 hu2)
                have HO2 := kept hown2
                clear hown2 hu2 hx2
                have HS2 := kept (HSY.out.next HB2.out)
                have hbC := (Below.refl w2.heap.size w2).alloc (Nat.le_refl _) (.cells #[.int .u8 (zf : Int), .string zt, .slice A2 r2.length c2] 44)
                have HS3 := kept (HS2.out.next hbC)
                have HB3 := kept (HB2.out.trans (hbC.mono HB2.out.size))
                have HOB := kept ((HO2.out.next hbC).mono HSY.out.box.lt)
                clear hbC
                have HRN := kept (show lineE.Rd (w2.alloc (.cells #[.int .u8 (zf : Int), .string zt, .slice A2 r2.length c2] 44)) (w2.heap.size + 1) (some ⟨w2.heap.size, 0, none⟩) [⟨zf, zt, A2, r2, c2⟩] from Mem.Rd.new w2 [.int .u8 (zf : Int), .string zt, .slice A2 r2.length c2] 44)
                have HZ3 := HZ2.out ⟨zf, zt, A2, r2, c2⟩
                have hzw : wr.heap.size + 1 ≤ (w2.alloc (.cells #[.int .u8 (zf : Int), .string zt, .slice A2 r2.length c2] 44)).heap.size := HS3.out.box.lt
                have da_o := HS2.out.box.cell (j := 1) rfl
                have ca_o := HS3.out.box.cell (j := 1) rfl
                try simp only [Act.put, List.setIfInBounds_toArray, List.set_cons_zero, List.set_cons_succ, List.getElem_toArray, List.getElem_cons_zero, List.getElem_cons_succ]
                refine hK.out _ _ (HSC.out _ HB2.out) (fun hS0 => ?_)
                refine wpAnyH_take (i := 10) (v := ?_) rfl (by kernel_rfl) (by kernel_rfl) (by kernel_rfl) (fun _ _ _ h => h) (Or.inl ⟨by rfl, ?_⟩) hS0 ?_
                case refine_2 => (intro W hSW; go_simp; try with_reducible rfl)
                try simp only [Act.put, List.setIfInBounds_toArray, List.set_cons_zero, List.set_cons_succ, List.getElem_toArray, List.getElem_cons_zero, List.getElem_cons_succ]
                refine wpAnyH_ready (rs := [11]) (by kernel_rfl) (by simp) ?_
                refine AllReadyH.cons rfl (fun K' hK => ?_) AllReadyH.nil
                go_simp
                try simp only [Act.put, List.setIfInBounds_toArray, List.set_cons_zero, List.set_cons_succ, List.getElem_toArray, List.getElem_cons_zero, List.getElem_cons_succ]
                refine hK.out _ _ (HSC.out _ HB3.out) (fun hS0 => ?_)
                refine wpAnyH_ready (rs := [12]) (by kernel_rfl) (by simp) ?_
                refine AllReadyH.cons rfl (fun K' hK => ?_) AllReadyH.nil
                refine step_appEU _ lineE (by rfl) (.tmp 72) (.tmp 82) 29 (by rfl) (wr.heap.size + 1) 44 Tryz.underlying29 line_info (by rfl) _ ms (by rfl) HS3.out.own _ _ _ _ [⟨zf, zt, A2, r2, c2⟩] (by rfl) rfl HRN.out HZ3 (by decide) hzw ?_
                intro A5 c5 w5 r5 hr5 hown5 hu5 hx5
                have HU5 := kept (hu5 _ fun _ e => e)
                have HO5 := kept hown5
                clear hown5 hu5 hx5
                have HK5 := kept ((HKY.out.next HB3.out).upd HU5.out fun e => by have := HGY.out _ e; omega)
                have ea_o := (HS3.out.box5 HU5.out).cell (j := 1) rfl
                have ea_f := (HS3.out.box5 HU5.out).frozen 1
                try simp only [Act.put, List.setIfInBounds_toArray, List.set_cons_zero, List.set_cons_succ, List.getElem_toArray, List.getElem_cons_zero, List.getElem_cons_succ]
                refine hK.out _ _ (⟨HK5.out.cell (j := 0) rfl, HK5.out.cell (j := 1) rfl, HK5.out.cell (j := 2) rfl⟩) (fun hS0 => ?_)
                refine wpAnyH_take (i := 13) (v := ?_) rfl (by kernel_rfl) (by kernel_rfl) (by kernel_rfl) (fun _ _ _ h => h) (Or.inl ⟨by rfl, ?_⟩) hS0 ?_
                case refine_2 => (intro W hSW; go_simp; try with_reducible rfl)
                try simp only [Act.put, List.setIfInBounds_toArray, List.set_cons_zero, List.set_cons_succ, List.getElem_toArray, List.getElem_cons_zero, List.getElem_cons_succ]
                refine wpAnyH_ready (rs := [14]) (by kernel_rfl) (by simp) ?_
                refine AllReadyH.cons rfl (fun K' hK => ?_) AllReadyH.nil
                go_simp
                have HK6 := kept (HK5.out.other (p := ⟨wr.heap.size, 1, none⟩) HNE.out (.slice A5 r5.length c5))
                try simp only [Act.put, List.setIfInBounds_toArray, List.set_cons_zero, List.set_cons_succ, List.getElem_toArray, List.getElem_cons_zero, List.getElem_cons_succ]
                refine hK.out _ _ (⟨HK6.out.cell (j := 0) rfl, HK6.out.cell (j := 1) rfl, HK6.out.cell (j := 2) rfl⟩) (fun hS0 => ?_)
                refine wpAnyH_done (by kernel_rfl) (NoPanic.normal ?_) _
                have hrr : r2 = zm := by rw [hr2.out, List.nil_append]
                have HN1 : Kept (r5.length = k + 1) := ⟨by rw [hr5.out, List.length_append, HKL.out]; rfl⟩
                have HN2 : Kept (r5.map LineM.p = (xls.take (k + 1)).map LineM.p) := ⟨by rw [hr5.out, List.map_append, HMP.out, HTK2.out]; show _ ++ [(zf, zt, r2)] = _; rw [hrr]⟩
                have HN3 : Kept (LS wr (w5.setCell ⟨wr.heap.size, 1, none⟩ (.slice A5 r5.length c5)) xcid A5 c5 r5) := ⟨HS3.out.app (z := ⟨zf, zt, A2, r2, c2⟩) ⟨hzf, by show r2.length ≤ _; rw [hrr]; omega, HOB.out⟩ hr5.out HO5.out HU5.out⟩
                clear hr2 hr5 hrr HS2 HS3 HO2 HOB HB2 HB3 HRN HZ3 hzw da_o ca_o ea_o ea_f HO5 HU5 HK5 HK6 O1 R1 HZ2 HT1 HSC HBA
                go_wp2_with fail
                go_roundw
                case rel => exact ⟨k + 1, A5, c5, r5, by omega, by go_num, HN1, HN2, HN3⟩
                case measure => simp [intOf]; omega
              · go_simp
                try simp only [Act.put, List.setIfInBounds_toArray, List.set_cons_zero, List.set_cons_succ, List.getElem_toArray, List.getElem_cons_zero, List.getElem_cons_succ]
                refine hK.out _ _ (HSC.out _ HBA.out) (fun hS0 => ?_)
                refine wpAnyH_ready (rs := [1, 9]) (by kernel_rfl) (by simp) ?_
                refine AllReadyH.cons rfl (fun K' hK => ?_) (AllReadyH.cons rfl (fun K' hK => ?_) AllReadyH.nil)
                · go_simp
                  try simp only [Act.put, List.setIfInBounds_toArray, List.set_cons_zero, List.set_cons_succ, List.getElem_toArray, List.getElem_cons_zero, List.getElem_cons_succ]
                  refine hK.out _ _ (HSC.out _ HBA.out) (fun hS0 => ?_)
                  refine wpAnyH_ready (rs := [9]) (by kernel_rfl) (by simp) ?_
                  refine AllReadyH.cons rfl (fun K' hK => ?_) AllReadyH.nil
                  refine step_appEU _ strE (by rfl) (.tmp 77) (.tmp 79) 36 (by rfl) wy.heap.size 9 Tryz.underlying36 str_info (by rfl) _ [] (by rfl) O1.out _ zA _ zc zm (by rfl) rfl R1.out hz1 (by decide) (by simp) ?_
                  intro A2 c2 w2 r2 hr2 hown2 hu2 hx2
                  have HB2 := kept (HT1.out w2 hu2)
                  have HO2 := kept hown2
                  clear hown2 hu2 hx2
                  have HS2 := kept (HSY.out.next HB2.out)
                  have hbC := (Below.refl w2.heap.size w2).alloc (Nat.le_refl _) (.cells #[.int .u8 (zf : Int), .string zt, .slice A2 r2.length c2] 44)
                  have HS3 := kept (HS2.out.next hbC)
                  have HB3 := kept (HB2.out.trans (hbC.mono HB2.out.size))
                  have HOB := kept ((HO2.out.next hbC).mono HSY.out.box.lt)
                  clear hbC
                  have HRN := kept (show lineE.Rd (w2.alloc (.cells #[.int .u8 (zf : Int), .string zt, .slice A2 r2.length c2] 44)) (w2.heap.size + 1) (some ⟨w2.heap.size, 0, none⟩) [⟨zf, zt, A2, r2, c2⟩] from Mem.Rd.new w2 [.int .u8 (zf : Int), .string zt, .slice A2 r2.length c2] 44)
                  have HZ3 := HZ2.out ⟨zf, zt, A2, r2, c2⟩
                  have hzw : wr.heap.size + 1 ≤ (w2.alloc (.cells #[.int .u8 (zf : Int), .string zt, .slice A2 r2.length c2] 44)).heap.size := HS3.out.box.lt
                  have da_o := HS2.out.box.cell (j := 1) rfl
                  have ca_o := HS3.out.box.cell (j := 1) rfl
                  try simp only [Act.put, List.setIfInBounds_toArray, List.set_cons_zero, List.set_cons_succ, List.getElem_toArray, List.getElem_cons_zero, List.getElem_cons_succ]
                  refine hK.out _ _ (HSC.out _ HB2.out) (fun hS0 => ?_)
                  refine wpAnyH_take (i := 10) (v := ?_) rfl (by kernel_rfl) (by kernel_rfl) (by kernel_rfl) (fun _ _ _ h => h) (Or.inl ⟨by rfl, ?_⟩) hS0 ?_
                  case refine_2 => (intro W hSW; go_simp; try with_reducible rfl)
                  try simp only [Act.put, List.setIfInBounds_toArray, List.set_cons_zero, List.set_cons_succ, List.getElem_toArray, List.getElem_cons_zero, List.getElem_cons_succ]
                  refine wpAnyH_ready (rs := [11]) (by kernel_rfl) (by simp) ?_
                  refine AllReadyH.cons rfl (fun K' hK => ?_) AllReadyH.nil
                  go_simp
                  try simp only [Act.put, List.setIfInBounds_toArray, List.set_cons_zero, List.set_cons_succ, List.getElem_toArray, List.getElem_cons_zero, List.getElem_cons_succ]
                  refine hK.out _ _ (HSC.out _ HB3.out) (fun hS0 => ?_)
                  refine wpAnyH_ready (rs := [12]) (by kernel_rfl) (by simp) ?_
                  refine AllReadyH.cons rfl (fun K' hK => ?_) AllReadyH.nil
                  refine step_appEU _ lineE (by rfl) (.tmp 72) (.tmp 82) 29 (by rfl) (wr.heap.size + 1) 44 Tryz.underlying29 line_info (by rfl) _ ms (by rfl) HS3.out.own _ _ _ _ [⟨zf, zt, A2, r2, c2⟩] (by rfl) rfl HRN.out HZ3 (by decide) hzw ?_
                  intro A5 c5 w5 r5 hr5 hown5 hu5 hx5
                  have HU5 := kept (hu5 _ fun _ e => e)
                  have HO5 := kept hown5
                  clear hown5 hu5 hx5
                  have HK5 := kept ((HKY.out.next HB3.out).upd HU5.out fun e => by have := HGY.out _ e; omega)
                  have ea_o := (HS3.out.box5 HU5.out).cell (j := 1) rfl
                  have ea_f := (HS3.out.box5 HU5.out).frozen 1
                  try simp only [Act.put, List.setIfInBounds_toArray, List.set_cons_zero, List.set_cons_succ, List.getElem_toArray, List.getElem_cons_zero, List.getElem_cons_succ]
                  refine hK.out _ _ (⟨HK5.out.cell (j := 0) rfl, HK5.out.cell (j := 1) rfl, HK5.out.cell (j := 2) rfl⟩) (fun hS0 => ?_)
                  refine wpAnyH_take (i := 13) (v := ?_) rfl (by kernel_rfl) (by kernel_rfl) (by kernel_rfl) (fun _ _ _ h => h) (Or.inl ⟨by rfl, ?_⟩) hS0 ?_
                  case refine_2 => (intro W hSW; go_simp; try with_reducible rfl)
                  try simp only [Act.put, List.setIfInBounds_toArray, List.set_cons_zero, List.set_cons_succ, List.getElem_toArray, List.getElem_cons_zero, List.getElem_cons_succ]
                  refine wpAnyH_ready (rs := [14]) (by kernel_rfl) (by simp) ?_
                  refine AllReadyH.cons rfl (fun K' hK => ?_) AllReadyH.nil
                  go_simp
                  have HK6 := kept (HK5.out.other (p := ⟨wr.heap.size, 1, none⟩) HNE.out (.slice A5 r5.length c5))
                  try simp only [Act.put, List.setIfInBounds_toArray, List.set_cons_zero, List.set_cons_succ, List.getElem_toArray, List.getElem_cons_zero, List.getElem_cons_succ]
                  refine hK.out _ _ (⟨HK6.out.cell (j := 0) rfl, HK6.out.cell (j := 1) rfl, HK6.out.cell (j := 2) rfl⟩) (fun hS0 => ?_)
                  refine wpAnyH_done (by kernel_rfl) (NoPanic.normal ?_) _
                  have hrr : r2 = zm := by rw [hr2.out, List.nil_append]
                  have HN1 : Kept (r5.length = k + 1) := ⟨by rw [hr5.out, List.length_append, HKL.out]; rfl⟩
                  have HN2 : Kept (r5.map LineM.p = (xls.take (k + 1)).map LineM.p) := ⟨by rw [hr5.out, List.map_append, HMP.out, HTK2.out]; show _ ++ [(zf, zt, r2)] = _; rw [hrr]⟩
                  have HN3 : Kept (LS wr (w5.setCell ⟨wr.heap.size, 1, none⟩ (.slice A5 r5.length c5)) xcid A5 c5 r5) := ⟨HS3.out.app (z := ⟨zf, zt, A2, r2, c2⟩) ⟨hzf, by show r2.length ≤ _; rw [hrr]; omega, HOB.out⟩ hr5.out HO5.out HU5.out⟩
                  clear hr2 hr5 hrr HS2 HS3 HO2 HOB HB2 HB3 HRN HZ3 hzw da_o ca_o ea_o ea_f HO5 HU5 HK5 HK6 O1 R1 HZ2 HT1 HSC HBA
                  go_wp2_with fail
                  go_roundw
                  case rel => exact ⟨k + 1, A5, c5, r5, by omega, by go_num, HN1, HN2, HN3⟩
                  case measure => simp [intOf]; omega
                · refine step_appEU _ strE (by rfl) (.tmp 77) (.tmp 79) 36 (by rfl) wy.heap.size 9 Tryz.underlying36 str_info (by rfl) _ [] (by rfl) O1.out _ zA _ zc zm (by rfl) rfl R1.out hz1 (by decide) (by simp) ?_
                  intro A2 c2 w2 r2 hr2 hown2 hu2 hx2
                  have HB2 := kept (HT1.out w2 hu2)
                  have HO2 := kept hown2
                  clear hown2 hu2 hx2
                  have HS2 := kept (HSY.out.next HB2.out)
                  have hbC := (Below.refl w2.heap.size w2).alloc (Nat.le_refl _) (.cells #[.int .u8 (zf : Int), .string zt, .slice A2 r2.length c2] 44)
                  have HS3 := kept (HS2.out.next hbC)
                  have HB3 := kept (HB2.out.trans (hbC.mono HB2.out.size))
                  have HOB := kept ((HO2.out.next hbC).mono HSY.out.box.lt)
                  clear hbC
                  have HRN := kept (show lineE.Rd (w2.alloc (.cells #[.int .u8 (zf : Int), .string zt, .slice A2 r2.length c2] 44)) (w2.heap.size + 1) (some ⟨w2.heap.size, 0, none⟩) [⟨zf, zt, A2, r2, c2⟩] from Mem.Rd.new w2 [.int .u8 (zf : Int), .string zt, .slice A2 r2.length c2] 44)
                  have HZ3 := HZ2.out ⟨zf, zt, A2, r2, c2⟩
                  have hzw : wr.heap.size + 1 ≤ (w2.alloc (.cells #[.int .u8 (zf : Int), .string zt, .slice A2 r2.length c2] 44)).heap.size := HS3.out.box.lt
                  have da_o := HS2.out.box.cell (j := 1) rfl
                  have ca_o := HS3.out.box.cell (j := 1) rfl
                  try simp only [Act.put, List.setIfInBounds_toArray, List.set_cons_zero, List.set_cons_succ, List.getElem_toArray, List.getElem_cons_zero, List.getElem_cons_succ]
                  refine hK.out _ _ (HSC.out _ HB2.out) (fun hS0 => ?_)
                  refine wpAnyH_take (i := 10) (v := ?_) rfl (by kernel_rfl) (by kernel_rfl) (by kernel_rfl) (fun _ _ _ h => h) (Or.inl ⟨by rfl, ?_⟩) hS0 ?_
                  case refine_2 => (intro W hSW; go_simp; try with_reducible rfl)
                  try simp only [Act.put, List.setIfInBounds_toArray, List.set_cons_zero, List.set_cons_succ, List.getElem_toArray, List.getElem_cons_zero, List.getElem_cons_succ]
                  refine wpAnyH_ready (rs := [1, 11]) (by kernel_rfl) (by simp) ?_
                  refine AllReadyH.cons rfl (fun K' hK => ?_) (AllReadyH.cons rfl (fun K' hK => ?_) AllReadyH.nil)
                  · go_simp
                    try simp only [Act.put, List.setIfInBounds_toArray, List.set_cons_zero, List.set_cons_succ, List.getElem_toArray, List.getElem_cons_zero, List.getElem_cons_succ]
                    refine hK.out _ _ (HSC.out _ HB2.out) (fun hS0 => ?_)
                    refine wpAnyH_ready (rs := [11]) (by kernel_rfl) (by simp) ?_
                    refine AllReadyH.cons rfl (fun K' hK => ?_) AllReadyH.nil
                    go_simp
                    try simp only [Act.put, List.setIfInBounds_toArray, List.set_cons_zero, List.set_cons_succ, List.getElem_toArray, List.getElem_cons_zero, List.getElem_cons_succ]
                    refine hK.out _ _ (HSC.out _ HB3.out) (fun hS0 => ?_)
                    refine wpAnyH_ready (rs := [12]) (by kernel_rfl) (by simp) ?_
                    refine AllReadyH.cons rfl (fun K' hK => ?_) AllReadyH.nil
                    refine step_appEU _ lineE (by rfl) (.tmp 72) (.tmp 82) 29 (by rfl) (wr.heap.size + 1) 44 Tryz.underlying29 line_info (by rfl) _ ms (by rfl) HS3.out.own _ _ _ _ [⟨zf, zt, A2, r2, c2⟩] (by rfl) rfl HRN.out HZ3 (by decide) hzw ?_
                    intro A5 c5 w5 r5 hr5 hown5 hu5 hx5
                    have HU5 := kept (hu5 _ fun _ e => e)
                    have HO5 := kept hown5
                    clear hown5 hu5 hx5
                    have HK5 := kept ((HKY.out.next HB3.out).upd HU5.out fun e => by have := HGY.out _ e; omega)
                    have ea_o := (HS3.out.box5 HU5.out).cell (j := 1) rfl
                    have ea_f := (HS3.out.box5 HU5.out).frozen 1
                    try simp only [Act.put, List.setIfInBounds_toArray, List.set_cons_zero, List.set_cons_succ, List.getElem_toArray, List.getElem_cons_zero, List.getElem_cons_succ]
                    refine hK.out _ _ (⟨HK5.out.cell (j := 0) rfl, HK5.out.cell (j := 1) rfl, HK5.out.cell (j := 2) rfl⟩) (fun hS0 => ?_)
                    refine wpAnyH_take (i := 13) (v := ?_) rfl (by kernel_rfl) (by kernel_rfl) (by kernel_rfl) (fun _ _ _ h => h) (Or.inl ⟨by rfl, ?_⟩) hS0 ?_
                    case refine_2 => (intro W hSW; go_simp; try with_reducible rfl)
                    try simp only [Act.put, List.setIfInBounds_toArray, List.set_cons_zero, List.set_cons_succ, List.getElem_toArray, List.getElem_cons_zero, List.getElem_cons_succ]
                    refine wpAnyH_ready (rs := [14]) (by kernel_rfl) (by simp) ?_
                    refine AllReadyH.cons rfl (fun K' hK => ?_) AllReadyH.nil
                    go_simp
                    have HK6 := kept (HK5.out.other (p := ⟨wr.heap.size, 1, none⟩) HNE.out (.slice A5 r5.length c5))
                    try simp only [Act.put, List.setIfInBounds_toArray, List.set_cons_zero, List.set_cons_succ, List.getElem_toArray, List.getElem_cons_zero, List.getElem_cons_succ]
                    refine hK.out _ _ (⟨HK6.out.cell (j := 0) rfl, HK6.out.cell (j := 1) rfl, HK6.out.cell (j := 2) rfl⟩) (fun hS0 => ?_)
                    refine wpAnyH_done (by kernel_rfl) (NoPanic.normal ?_) _
                    have hrr : r2 = zm := by rw [hr2.out, List.nil_append]
                    have HN1 : Kept (r5.length = k + 1) := ⟨by rw [hr5.out, List.length_append, HKL.out]; rfl⟩
                    have HN2 : Kept (r5.map LineM.p = (xls.take (k + 1)).map LineM.p) := ⟨by rw [hr5.out, List.map_append, HMP.out, HTK2.out]; show _ ++ [(zf, zt, r2)] = _; rw [hrr]⟩
                    have HN3 : Kept (LS wr (w5.setCell ⟨wr.heap.size, 1, none⟩ (.slice A5 r5.length c5)) xcid A5 c5 r5) := ⟨HS3.out.app (z := ⟨zf, zt, A2, r2, c2⟩) ⟨hzf, by show r2.length ≤ _; rw [hrr]; omega, HOB.out⟩ hr5.out HO5.out HU5.out⟩
                    clear hr2 hr5 hrr HS2 HS3 HO2 HOB HB2 HB3 HRN HZ3 hzw da_o ca_o ea_o ea_f HO5 HU5 HK5 HK6 O1 R1 HZ2 HT1 HSC HBA
                    go_wp2_with fail
                    go_roundw
                    case rel => exact ⟨k + 1, A5, c5, r5, by omega, by go_num, HN1, HN2, HN3⟩
                    case measure => simp [intOf]; omega
                  · go_simp
                    try simp only [Act.put, List.setIfInBounds_toArray, List.set_cons_zero, List.set_cons_succ, List.getElem_toArray, List.getElem_cons_zero, List.getElem_cons_succ]
                    refine hK.out _ _ (HSC.out _ HB3.out) (fun hS0 => ?_)
                    refine wpAnyH_ready (rs := [1]) (by kernel_rfl) (by simp) ?_
                    refine AllReadyH.cons rfl (fun K' hK => ?_) AllReadyH.nil
                    go_simp
                    try simp only [Act.put, List.setIfInBounds_toArray, List.set_cons_zero, List.set_cons_succ, List.getElem_toArray, List.getElem_cons_zero, List.getElem_cons_succ]
                    refine hK.out _ _ (HSC.out _ HB3.out) (fun hS0 => ?_)
                    refine wpAnyH_ready (rs := [12]) (by kernel_rfl) (by simp) ?_
                    refine AllReadyH.cons rfl (fun K' hK => ?_) AllReadyH.nil
                    refine step_appEU _ lineE (by rfl) (.tmp 72) (.tmp 82) 29 (by rfl) (wr.heap.size + 1) 44 Tryz.underlying29 line_info (by rfl) _ ms (by rfl) HS3.out.own _ _ _ _ [⟨zf, zt, A2, r2, c2⟩] (by rfl) rfl HRN.out HZ3 (by decide) hzw ?_
                    intro A5 c5 w5 r5 hr5 hown5 hu5 hx5
                    have HU5 := kept (hu5 _ fun _ e => e)
                    have HO5 := kept hown5
                    clear hown5 hu5 hx5
                    have HK5 := kept ((HKY.out.next HB3.out).upd HU5.out fun e => by have := HGY.out _ e; omega)
                    have ea_o := (HS3.out.box5 HU5.out).cell (j := 1) rfl
                    have ea_f := (HS3.out.box5 HU5.out).frozen 1
                    try simp only [Act.put, List.setIfInBounds_toArray, List.set_cons_zero, List.set_cons_succ, List.getElem_toArray, List.getElem_cons_zero, List.getElem_cons_succ]
                    refine hK.out _ _ (⟨HK5.out.cell (j := 0) rfl, HK5.out.cell (j := 1) rfl, HK5.out.cell (j := 2) rfl⟩) (fun hS0 => ?_)
                    refine wpAnyH_take (i := 13) (v := ?_) rfl (by kernel_rfl) (by kernel_rfl) (by kernel_rfl) (fun _ _ _ h => h) (Or.inl ⟨by rfl, ?_⟩) hS0 ?_
                    case refine_2 => (intro W hSW; go_simp; try with_reducible rfl)
                    try simp only [Act.put, List.setIfInBounds_toArray, List.set_cons_zero, List.set_cons_succ, List.getElem_toArray, List.getElem_cons_zero, List.getElem_cons_succ]
                    refine wpAnyH_ready (rs := [14]) (by kernel_rfl) (by simp) ?_
                    refine AllReadyH.cons rfl (fun K' hK => ?_) AllReadyH.nil
                    go_simp
                    have HK6 := kept (HK5.out.other (p := ⟨wr.heap.size, 1, none⟩) HNE.out (.slice A5 r5.length c5))
                    try simp only [Act.put, List.setIfInBounds_toArray, List.set_cons_zero, List.set_cons_succ, List.getElem_toArray, List.getElem_cons_zero, List.getElem_cons_succ]
                    refine hK.out _ _ (⟨HK6.out.cell (j := 0) rfl, HK6.out.cell (j := 1) rfl, HK6.out.cell (j := 2) rfl⟩) (fun hS0 => ?_)
                    refine wpAnyH_done (by kernel_rfl) (NoPanic.normal ?_) _
                    have hrr : r2 = zm := by rw [hr2.out, List.nil_append]
                    have HN1 : Kept (r5.length = k + 1) := ⟨by rw [hr5.out, List.length_append, HKL.out]; rfl⟩
                    have HN2 : Kept (r5.map LineM.p = (xls.take (k + 1)).map LineM.p) := ⟨by rw [hr5.out, List.map_append, HMP.out, HTK2.out]; show _ ++ [(zf, zt, r2)] = _; rw [hrr]⟩
                    have HN3 : Kept (LS wr (w5.setCell ⟨wr.heap.size, 1, none⟩ (.slice A5 r5.length c5)) xcid A5 c5 r5) := ⟨HS3.out.app (z := ⟨zf, zt, A2, r2, c2⟩) ⟨hzf, by show r2.length ≤ _; rw [hrr]; omega, HOB.out⟩ hr5.out HO5.out HU5.out⟩
                    clear hr2 hr5 hrr HS2 HS3 HO2 HOB HB2 HB3 HRN HZ3 hzw da_o ca_o ea_o ea_f HO5 HU5 HK5 HK6 O1 R1 HZ2 HT1 HSC HBA
                    go_wp2_with fail
                    go_roundw
                    case rel => exact ⟨k + 1, A5, c5, r5, by omega, by go_num, HN1, HN2, HN3⟩
                    case measure => simp [intOf]; omega
            · obtain rfl : k = xls.length := by omega
              have HMS : Kept (ms.map LineM.p = xls.map LineM.p) := ⟨by rw [HMP.out, List.take_length]⟩
              have hml : ms.length = xls.length := HKL.out
              have hcid : xcid < 18446744073709551616 := HXO.out.1
              have HF := kept (HS.out.fresh hcid (by omega))
              have HBX := kept HS.out.box
              have HR1 := kept (HR0.out.next HS.out.below)
              have HBI := kept hbw
              have hwz : w.heap.size ≤ wr.heap.size := HB0.out.size
              have hbA : Below wi.heap.size wi (wi.alloc (.cells #[.int .u64 (xcid : Int), .slice A4 ms.length c4] 31)) := (Below.refl _ _).alloc (Nat.le_refl _) _
              have HR2 := kept (HR1.out.next hbA)
              have HF2 := kept ((HF.out.below hbA (Nat.le_refl _)).mono hwz)
              have hrn : cardE.Rd (wi.alloc (.cells #[.int .u64 (xcid : Int), .slice A4 ms.length c4] 31)) (wi.heap.size + 1) (some ⟨wi.heap.size, 0, none⟩) [⟨xcid, A4, ms, c4⟩] := Mem.Rd.new wi [.int .u64 (xcid : Int), .slice A4 ms.length c4] 31
              have HBJ := kept (HBI.out.trans (hbA.mono HBI.out.size))
              have hz : (own.length + [(⟨xcid, A4, ms, c4⟩ : CardM)].length) * 32 ≤ 140737488355328 := by have := HOL.out; rw [List.length_singleton]; omega
              have hbase := HBJ.out.size
              have HPN : Kept (∀ r : List CardM, r = own ++ [⟨xcid, A4, ms, c4⟩] → r.length = i + 1 ∧ r.map CardM.p = (l.take (i + 1)).map CardM.p) := ⟨fun r h => by
                subst h
                refine ⟨by rw [List.length_append, HOL.out]; rfl, ?_⟩
                rw [List.map_append, HP0.out, HTK.out]
                show _ ++ [(xcid, ms.map LineM.p)] = _
                rw [HMS.out]⟩
              clear HS HKL HMP HMS HF HR1 HBI hbA hbw hml
              go_wp2_with (first | (refine wpl_loadB rfl _ _ rfl wr.heap.size rfl _ _ HBX.out _ rfl rfl rfl ?_) | (at_builtin; refine wpl_appEU _ cardE rfl (.tmp 85) (.tmp 87) 22 rfl w.heap.size 31 Tryz.underlying22 Chg.card_info rfl _ own rfl HR2.out.1 _ _ _ _ [⟨xcid, A4, ms, c4⟩] rfl rfl hrn hz (by decide) hbase ?_; intro A9 c9 w9 r9 hr9 hown9 hu9 hx9))
              have HR9 := kept (HR2.out.app HF2.out hr9.out hown9 hu9)
              have HB9 := kept (HBJ.out.trans (HR2.out.under (hu9 _ fun _ e => e) hbase))
              obtain ⟨hl9, hp9⟩ := HPN.out r9 hr9.out
              clear hown9 hu9 hx9 hr9
              go_roundw
              case rel => exact ⟨i + 1, A9, c9, r9, by omega, by go_num, rfl, hl9, ⟨hp9⟩, HR9, HB9⟩
              case measure => simp [intOf]; omega
        · obtain rfl : i = l.length := by omega
          have HOP : Kept (own.map CardM.p = l.map CardM.p) := ⟨by rw [HP0.out, List.take_length]⟩
          have hol : own.length = l.length := HOL.out
          have HTO : Kept (∀ y ∈ own, Tame y.ls) := ⟨fun y hy => by
            have h2 : y.p ∈ l.map CardM.p := by rw [← HOP.out]; exact List.mem_map_of_mem hy
            obtain ⟨x, hx, e⟩ := List.mem_map.1 h2
            exact tame_p e (HTA.out x hx)⟩
          have HSO := kept (short_p HOP.out HSH.out)
          have hn2 : own.length ≤ 25 := by omega
          have CN := kept (fnew2_any A0 own c0 wr HR0.out.rd hn2 HSO.out HTO.out (HM.out.next HB0.out))
          have CR : Kept (∀ W : World, Below w.heap.size w W → Calls Tryz.prog 14 #[.slice X l.length c, .string q] W (GivesC W (stab ltC (foundL l (wordsB q))))) := ⟨fun (W : World) (hb : Below w.heap.size w W) => rfind_any X l c q W (HL.out.next hb) (by omega) HSH.out HTA.out (by omega)⟩
          have HRL : Kept ((stab ltC (foundL l (wordsB q))).length ≤ 25) := ⟨by rw [stab_len]; exact Nat.le_trans (found_le _ _) hn⟩
          have HZs := kept (Zap.start HR0.out)
          have HXF : Kept (∀ x ∈ own, x.ls.length ≤ 2932031007402) := ⟨fun x hx => (HR0.out.2 x hx).2.2.1⟩
          clear HSO HSH HTA HL HP0 HR0 hol
          go_wp2_with fail
          refine CN.out.mono ?_
          rintro e w2 ⟨g, A, c2, ys, B, b, rfl, hp, hix, hbb, hb2, hrow, hg⟩
          have HIX2 : Kept (IxS w2 wr.heap.size g A c2 ys B b) := ⟨⟨hix.box, hrow, hix.map, hix.ap, hg, hbb⟩⟩
          have HXZ0 := kept (HZs.out.below hb2)
          have HB2 := kept (HB0.out.trans (hb2.mono HB0.out.size))
          have hn3 : ys.length ≤ 25 := by
            have := congrArg List.length hp
            rw [List.length_map, List.length_map, stab_len] at this
            have h2 := HOL.out
            omega
          have HYP : Kept (ys.map CardM.p = (stab ltC l).map CardM.p) := ⟨hp.trans (stab_p HOP.out)⟩
          clear hp hix hbb hb2 hrow hg CN HZs HTO HOP HB0
          go_wp2_with fail
          go_loopw [93] (fun iv W => ∃ k : Nat, k ≤ own.length ∧ iv = .int .i64 (k : Int) ∧ Kept (Zap w.heap.size wr.heap.size W A0 own) ∧ Kept (IxS W wr.heap.size g A c2 ys B b) ∧ Kept (Below w.heap.size w W)) (fun iv _ => own.length - (intOf iv).toNat)
          case atStart => exact ⟨0, Nat.zero_le _, rfl, HXZ0, HIX2, HB2⟩
          case round =>
            clear HXZ0
            obtain ⟨k, hk, rfl, HZ, HXK0, HXK1⟩ := hrel
            rename World => wk
            by_cases hlt2 : k < own.length
            · obtain ⟨⟨xcid, xX, xls, xc⟩, hx⟩ : ∃ x, own[k]? = some x := ⟨_, List.getElem?_eq_getElem hlt2⟩
              obtain ⟨bo, e0, hbo, h3, -⟩ := HZ.out k _ hx
              subst e0
              dsimp only at h3
              have hxl : xls.length ≤ 2932031007402 := HXF.out _ (List.mem_of_getElem? hx)
              have hkn : (k : Int) < (own.length : Int) := by omega
              go_upto_region 22 with fail
              clear h3
              go_loopw [102] (fun jv W => ∃ j : Nat, j ≤ xls.length ∧ jv = .int .i64 (j : Int) ∧ Kept (Zap w.heap.size wr.heap.size W (some ⟨bo, 0, none⟩) own) ∧ Kept (IxS W wr.heap.size g A c2 ys B b) ∧ Kept (Below w.heap.size w W)) (fun jv _ => xls.length - (intOf jv).toNat)
              case atStart => exact ⟨0, Nat.zero_le _, rfl, HZ, HXK0, HXK1⟩
              case round =>
                clear HZ HXK0 HXK1
                obtain ⟨j, hj, rfl, HZ, HXK0, HXK1⟩ := hrel
                rename World => wj
                by_cases hlt3 : j < xls.length
                · obtain ⟨bp, e0, hbp, h3, h4⟩ := HZ.out k _ hx
                  obtain rfl : bo = bp := congrArg Addr.block (Option.some.inj e0)
                  obtain ⟨gg, e1, hlo, hhi, hne, ⟨v0, hv0⟩, hfr⟩ := h4 j hlt3
                  dsimp only at e1
                  subst e1
                  dsimp only at h3
                  have hjn : (j : Int) < (xls.length : Int) := by omega
                  have HZ3 := kept (HZ.out.store (k := j) (g := gg) hx hlt3 rfl (.string ⟨#[122, 122]⟩))
                  have HXL0 := kept (HXK0.out.low (p := ⟨gg, j * 3 + 1, none⟩) hhi (.string ⟨#[122, 122]⟩))
                  have HXL1 := kept (HXK1.out.setCell (p := ⟨gg, j * 3 + 1, none⟩) hlo (.string ⟨#[122, 122]⟩))
                  clear HXK0 HXK1
                  clear e0 h4 HZ
                  go_wp2_with fail
                  go_roundw
                  case rel => exact ⟨j + 1, by omega, by go_num, HZ3, HXL0, HXL1⟩
                  case measure => simp [intOf]; omega
                · have hjn : ¬ (j : Int) < (xls.length : Int) := by omega
                  go_wp2_with fail
                  go_roundw
                  case rel => exact ⟨k + 1, by omega, by go_num, HZ, HXK0, HXK1⟩
                  case measure => simp [intOf]; omega
            · have hkn : ¬ (k : Int) < (own.length : Int) := by omega
              clear HZ
              have HIF := kept HXK0.out.at_
              have HBF := HXK1
              have CP := kept (ffind_any g A c2 ys B b ⟨#[]⟩ wk HIF.out hn3 (by decide) (HM.out.next HBF.out))
              have HIX := HIF
              clear HXK0 HXK1 HIF
              go_wp2_with fail
              refine CP.out.mono ?_
              rintro e w5 ⟨A5, c5, s1, rfl, hp5, hro5, hb5⟩
              have HB5 := kept (HBF.out.trans (hb5.mono HBF.out.size))
              have HYZ0 := kept (Zap.start hro5)
              have HM0 := kept hb5
              have HYF : Kept (∀ x ∈ s1, x.ls.length ≤ 2932031007402) := ⟨fun x hx => (hro5.2 x hx).2.2.1⟩
              have hs1 : s1.length ≤ 25 := by
                have h1 := congrArg List.length hp5
                rw [List.length_map, List.length_map] at h1
                rw [h1]
                exact Nat.le_trans (found_le _ _) hn3
              clear hp5 hro5 hb5 CP
              go_wp2_with fail
              go_loopw [119] (fun iv W => ∃ k : Nat, k ≤ s1.length ∧ iv = .int .i64 (k : Int) ∧ Kept (Zap wk.heap.size w5.heap.size W A5 s1) ∧ Kept (Below wk.heap.size wk W) ∧ Kept (Below w.heap.size w W)) (fun iv _ => s1.length - (intOf iv).toNat)
              case atStart => exact ⟨0, Nat.zero_le _, rfl, HYZ0, HM0, HB5⟩
              case round =>
                clear HYZ0
                obtain ⟨k, hk, rfl, HZ, HYK0, HYK1⟩ := hrel
                rename World => wk2
                by_cases hlt2 : k < s1.length
                · obtain ⟨⟨xcid, xX, xls, xc⟩, hx⟩ : ∃ x, s1[k]? = some x := ⟨_, List.getElem?_eq_getElem hlt2⟩
                  obtain ⟨bo, e0, hbo, h3, -⟩ := HZ.out k _ hx
                  subst e0
                  dsimp only at h3
                  have hxl : xls.length ≤ 2932031007402 := HYF.out _ (List.mem_of_getElem? hx)
                  have hkn : (k : Int) < (s1.length : Int) := by omega
                  go_upto_region 32 with fail
                  clear h3
                  go_loopw [128] (fun jv W => ∃ j : Nat, j ≤ xls.length ∧ jv = .int .i64 (j : Int) ∧ Kept (Zap wk.heap.size w5.heap.size W (some ⟨bo, 0, none⟩) s1) ∧ Kept (Below wk.heap.size wk W) ∧ Kept (Below w.heap.size w W)) (fun jv _ => xls.length - (intOf jv).toNat)
                  case atStart => exact ⟨0, Nat.zero_le _, rfl, HZ, HYK0, HYK1⟩
                  case round =>
                    clear HZ HYK0 HYK1
                    obtain ⟨j, hj, rfl, HZ, HYK0, HYK1⟩ := hrel
                    rename World => wj
                    by_cases hlt3 : j < xls.length
                    · obtain ⟨bp, e0, hbp, h3, h4⟩ := HZ.out k _ hx
                      obtain rfl : bo = bp := congrArg Addr.block (Option.some.inj e0)
                      obtain ⟨gg, e1, hlo, hhi, hne, ⟨v0, hv0⟩, hfr⟩ := h4 j hlt3
                      dsimp only at e1
                      subst e1
                      dsimp only at h3
                      have hjn : (j : Int) < (xls.length : Int) := by omega
                      have HZ3 := kept (HZ.out.store (k := j) (g := gg) hx hlt3 rfl (.string ⟨#[121, 121]⟩))
                      have HYL0 := kept (HYK0.out.setCell (p := ⟨gg, j * 3 + 1, none⟩) hlo (.string ⟨#[121, 121]⟩))
                      have HYL1 := kept (HYK1.out.setCell (p := ⟨gg, j * 3 + 1, none⟩) (Nat.le_trans HBF.out.size hlo) (.string ⟨#[121, 121]⟩))
                      clear HYK0 HYK1
                      clear e0 h4 HZ
                      go_wp2_with fail
                      go_roundw
                      case rel => exact ⟨j + 1, by omega, by go_num, HZ3, HYL0, HYL1⟩
                      case measure => simp [intOf]; omega
                    · have hjn : ¬ (j : Int) < (xls.length : Int) := by omega
                      go_wp2_with fail
                      go_roundw
                      case rel => exact ⟨k + 1, by omega, by go_num, HZ, HYK0, HYK1⟩
                      case measure => simp [intOf]; omega
                · have hkn : ¬ (k : Int) < (s1.length : Int) := by omega
                  clear HZ
                  have HM1 := HYK0
                  have HBK := HYK1
                  clear HYK0 HYK1
                  go_wp2_with fail
                  have HIQ := kept (HIX.out.next HM1.out)
                  have CP := kept (ffind_any g A c2 ys B b q _ HIQ.out hn3 (by omega) (HM.out.next HBK.out))
                  refine CP.out.mono ?_
                  rintro e w6 ⟨A6, c6, s2, rfl, hp6, hro6, hb6⟩
                  have HB6 := kept (HBK.out.trans (hb6.mono HBK.out.size))
                  have HP6 : Kept (s2.map CardM.p = (stab ltC (foundL l (wordsB q))).map CardM.p) := ⟨hp6.trans (says_found HYP.out _)⟩
                  have HR6 := kept hro6.rd
                  clear hp6 hro6 hb6 CP HIQ
                  generalize stab ltC (foundL l (wordsB q)) = SL at *
                  go_wp2_with fail
                  refine (CR.out _ HB6.out).mono ?_
                  rintro e w7 ⟨A7, c7, rfl, hrd7, hb7⟩
                  have HB7 := kept (HB6.out.trans (hb7.mono HB6.out.size))
                  have hs2 : s2.length ≤ 25 := by have := congrArg List.length HP6.out; rw [List.length_map, List.length_map] at this; rw [this]; exact HRL.out
                  have CL := kept (rall_any A6 A7 s2.length SL.length c6 c7 s2 SL w7 rfl rfl (HR6.out.next hb7) hrd7 (by omega))
                  rw [decide_eq_true HP6.out] at CL
                  clear hrd7 hb7 HB6 HR6 HP6 CR hs2
                  go_wp2_with fail
                  refine CL.out.mono ?_
                  rintro e w8 ⟨rfl, hb8⟩
                  have HB8 := kept (HB7.out.trans (hb8.mono HB7.out.size))
                  clear hb8 CL HB7
                  go_wp2_with fail
                  refine (fworks_any _ (HM.out.next HB8.out)).mono ?_
                  rintro e w9 ⟨rfl, hb9⟩
                  have HB9 := kept (HB8.out.trans (hb9.mono HB8.out.size))
                  clear hb9 HB8
                  go_wp2_with fail
                  go_ret
                  exact ⟨rfl, HB9.out⟩
    · have hq3 : (200 : Int) < (q.size : Int) := by omega
      clear hr hm
      go_enter Tryz.func4, Tryz.ntmps4
      go_wp2_with fail
      refine CF.out.mono ?_
      rintro e w0 ⟨rfl, rfl⟩
      clear CF hfw
      go_wp2_with fail
      refine (fworks_any _ HM.out).mono ?_
      rintro e w9 ⟨rfl, hb9⟩
      go_wp2_with fail
      go_ret
      exact ⟨rfl, hb9⟩
  · rw [decide_eq_false hfw] at CF
    clear hr hm hfw
    go_enter Tryz.func4, Tryz.ntmps4
    go_wp2_with fail
    refine CF.out.mono ?_
    rintro e w0 ⟨rfl, rfl⟩
    clear CF
    go_wp2_with fail
    refine (fworks_any _ HM.out).mono ?_
    rintro e w9 ⟨rfl, hb9⟩
    go_wp2_with fail
    go_ret
    exact ⟨rfl, hb9⟩
end Go.Proofs.YtfkfpanhbanljaaGreatDoor.Find
