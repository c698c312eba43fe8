/- Layer 24 (journal): the state of the loop of the law JournalPlays. -/
import Derived.Test.YtdlghabpnpbebaaDoorJrnRefs
import Derived.Test.YtdlghabpnpbebaaDoorJrnGo
import Derived.Test.YtdlghabpnpbebaaDoorDiskIs
import Derived.Test.YtdlghabpnpbebaaDoorDiskMore
namespace Go.Proofs.YtdlghabpnpbebaaDoor.Jrn
open Go.RowKit Go.Proofs.YtdlghabpnpbebaaDoor.Mem Go.Proofs.YtdlghabpnpbebaaDoor.Num Go.Proofs.YtdlghabpnpbebaaDoor.Wal Go.Proofs.YtdlghabpnpbebaaDoor.Disk Go.Proofs.YtdlghabpnpbebaaDoor.Crc

/-- the program's journal, if it is open -/
def PJ (w W : World) (S : Nat → Prop) (g G ga : Nat) (up : Bool) (jp : Value) (pf : Int) (pg : Nat) : Prop :=
  (up = true ∧ ∃ gj, jp = .pointer (some ⟨gj, 0, none⟩) ∧ w.heap.size ≤ gj ∧ gj ≠ G ∧ gj ≠ ga ∧ ¬ S gj ∧ Blk W gj (JC g pf pg) 33 ∧ (pf = 0 ∨ pf = 1) ∧ pg < 18446744073709551616) ∨ (up = false ∧ jp = .pointer none)
/-- within a round: the program's disk d, its journal; the document's journal in block G; the act in block ga -/
def JPIn (w W : World) (S : Nat → Prop) (g G ga : Nat) (up : Bool) (jp : Value) (d : DS) (pf : Int) (pg : Nat) (d' : DS) (f : Int) (gn : Nat) (x : JActM) : Prop :=
  Below w.heap.size w W ∧ Dsk W S g d ∧ (∀ k, S k → w.heap.size ≤ k ∧ k ≠ G ∧ k ≠ ga) ∧ (w.heap.size ≤ G ∧ w.heap.size ≤ ga ∧ ga ≠ G) ∧ Blk W G (jL d' f gn) 57 ∧ Blk W ga x.cells 47 ∧ PJ w W S g G ga up jp pf pg
/-- at the loop's head -/
def JPSt (w W : World) (S : Nat → Prop) (g G : Nat) (up : Bool) (jp : Value) (d : DS) (f : Int) (gn : Nat) : Prop :=
  Below w.heap.size w W ∧ Dsk W S g d ∧ (∀ k, S k → w.heap.size ≤ k ∧ k ≠ G) ∧ w.heap.size ≤ G ∧ Blk W G (jL d f gn) 57 ∧ PJ w W S g G G up jp f gn
section
variable {w W W' : World} {S S' : Nat → Prop} {g G ga : Nat} {up : Bool} {jp : Value} {d d' d2 : DS} {pf f f2 : Int} {pg gn gn2 : Nat} {x : JActM} {j j2 : JS}
theorem PJ.goes (h : PJ w W S g G ga up jp pf pg) (hg : Goes S W S' W') : PJ w W' S' g G ga up jp pf pg := by
  rcases h with ⟨hu, gj, e, a, b, c, n, k, r⟩ | h
  · exact .inl ⟨hu, gj, e, a, b, c, fun hs => (hg.2 gj hs).elim n (fun h => by have := k.lt; omega), k.upd hg.1 n, r⟩
  · exact .inr h
theorem PJ.away (h : PJ w W S g G ga up jp pf pg) (hu : Upd (fun k => k = G) W W') : PJ w W' S g G ga up jp pf pg := by
  rcases h with ⟨hv, gj, e, a, b, c, n, k, r⟩ | h
  · exact .inl ⟨hv, gj, e, a, b, c, n, k.upd hu b, r⟩
  · exact .inr h
theorem JPIn.goes (h : JPIn w W S g G ga up jp d pf pg d' f gn x) (hd : Dsk W' S' g d2) (hg : Goes S W S' W') : JPIn w W' S' g G ga up jp d2 pf pg d' f gn x := by
  obtain ⟨h1, h2, h3, h4, h5, h6, h7⟩ := h
  refine ⟨h1.trans (hg.below h1.size fun i hi => (h3 i hi).1), hd, fun k hk => (hg.2 k hk).elim (h3 k) fun h7 => ⟨Nat.le_trans h1.size h7, ?_, ?_⟩, h4, h5.upd hg.1 fun e => (h3 G e).2.1 rfl, h6.upd hg.1 fun e => (h3 ga e).2.2 rfl, h7.goes hg⟩
  · have := h5.lt; omega
  · have := h6.lt; omega
theorem JPIn.upd (h : JPIn w W S g G ga up jp d pf pg d' f gn x) (hd : Dsk W' S g d2) (hu : Upd S W W') : JPIn w W' S g G ga up jp d2 pf pg d' f gn x := h.goes hd ⟨hu, fun _ e => .inl e⟩
theorem JPIn.next (h : JPIn w W S g G ga up jp d pf pg d' f gn x) (hb : Below W.heap.size W W') : JPIn w W' S g G ga up jp d pf pg d' f gn x := h.upd (dsk_next h.2.1 hb) (Upd.of_below hb)
theorem JPIn.drewN (h : JPIn w W S g G ga up jp d pf pg d' f gn x) (q : Nat) : JPIn w (W.drewN q) S g G ga up jp d pf pg d' f gn x := h.next (below_draw _ W q)
theorem JPIn.cell (h : JPIn w W S g G ga up jp d pf pg d' f gn x) {j : Nat} {u : Value} (hj : x.cells[j]? = some u) : W.cell? ⟨ga, j, none⟩ = some u := h.2.2.2.2.2.1.cell hj
theorem JPIn.store (h : JPIn w W S g G ga up jp d pf pg d' f gn x) (hk : Blk W' G (jL d2 f2 gn2) 57) (hu : Upd (fun k => k = G) W W') : JPIn w W' S g G ga up jp d pf pg d2 f2 gn2 x := by
  obtain ⟨h1, h2, h3, h4, h5, h6, h7⟩ := h
  exact ⟨h1.trans (hu.below h1.size fun i _ e => by omega), dsk_upd h2 hu fun k hk e => (h3 k hk).2.1 e, h3, h4, hk, h6.upd hu fun e => h4.2.2 e, h7.away hu⟩
theorem JPIn.jat (h : JPIn w W S g G ga true jp d pf pg d' f gn x) : ∃ gj, jp = .pointer (some ⟨gj, 0, none⟩) ∧ JrnAt W S g gj ⟨d, pf, pg⟩ := by
  obtain ⟨h1, h2, h3, h4, h5, h6, h7⟩ := h
  rcases h7 with ⟨hu, gj, e, a, b, c, n, k, r⟩ | ⟨h, _⟩
  · exact ⟨gj, e, h2, k, n, r⟩
  · cases h
theorem JPIn.shutp (h : JPIn w W S g G ga false jp d pf pg d' f gn x) : jp = .pointer none := by
  obtain ⟨h1, h2, h3, h4, h5, h6, h7⟩ := h
  rcases h7 with ⟨hu, _⟩ | ⟨_, h⟩
  · cases hu
  · exact h
theorem JPIn.turn {gj : Nat} (h : JPIn w W S g G ga true (.pointer (some ⟨gj, 0, none⟩)) d pf pg d' f gn x) (hj : JrnAt W' S' g gj j2) (hG : Goes (JG S gj) W (JG S' gj) W') : JPIn w W' S' g G ga true (.pointer (some ⟨gj, 0, none⟩)) j2.d j2.file j2.gen d' f gn x := by
  obtain ⟨h1, h2, h3, h4, h5, h6, h7⟩ := h
  rcases h7 with ⟨hu, gj', e, a, b, c, n, k, r⟩ | ⟨h, _⟩
  case inr => cases h
  obtain rfl : gj = gj' := congrArg Addr.block (Option.some.inj (Value.pointer.inj e))
  have hn : ∀ k', JG S gj k' → w.heap.size ≤ k' ∧ k' ≠ G ∧ k' ≠ ga := fun k' hk => hk.elim (h3 k') fun e => by rw [e]; exact ⟨a, b, c⟩
  obtain ⟨hd, hk, hs, r2⟩ := hj
  refine ⟨h1.trans (hG.below h1.size fun i hi => (hn i hi).1), hd, fun k' hk' => (hG.2 k' (.inl hk')).elim (hn k') fun h7 => ⟨Nat.le_trans h1.size h7, ?_, ?_⟩, h4, h5.upd hG.1 fun e => (hn G e).2.1 rfl, h6.upd hG.1 fun e => (hn ga e).2.2 rfl, .inl ⟨rfl, gj, rfl, a, b, c, hs, hk, r2⟩⟩
  · have := h5.lt; omega
  · have := h6.lt; omega
theorem JPIn.opened {gj : Nat} (h : JPIn w W S g G ga up jp d pf pg d' f gn x) (hj : JrnAt W' S' g gj j2) (hg : Goes S W S' W') (hgj : W.heap.size ≤ gj) : JPIn w W' S' g G ga true (.pointer (some ⟨gj, 0, none⟩)) j2.d j2.file j2.gen d' f gn x := by
  obtain ⟨h1, h2, h3, h4, h5, h6, h7⟩ := h.goes hj.1 hg
  have e5 := h.2.2.2.2.1.lt
  have e6 := h.2.2.2.2.2.1.lt
  have hz := h.1.size
  exact ⟨h1, h2, h3, h4, h5, h6, .inl ⟨rfl, gj, rfl, by omega, by omega, by omega, hj.2.2.1, hj.2.1, hj.2.2.2⟩⟩
theorem JPIn.shut (h : JPIn w W S g G ga up jp d pf pg d' f gn x) (hd : Dsk W' S' g d2) (hg : Goes S W S' W') (pf2 : Int) (pg2 : Nat) : JPIn w W' S' g G ga false (.pointer none) d2 pf2 pg2 d' f gn x := by
  obtain ⟨h1, h2, h3, h4, h5, h6, h7⟩ := h.goes hd hg
  exact ⟨h1, h2, h3, h4, h5, h6, .inr ⟨rfl, rfl⟩⟩
theorem JPSt.start (h : JPSt w W S g G up jp d f gn) (x : JActM) : JPIn w (W.alloc (.cells x.cells.toArray 47)) S g G W.heap.size up jp d f gn d f gn x := by
  obtain ⟨h1, h2, h3, h4, h5, h7⟩ := h
  have hb : Below W.heap.size W (W.alloc (.cells x.cells.toArray 47)) := (Below.refl _ _).alloc (Nat.le_refl _) _
  refine ⟨h1.trans (hb.mono h1.size), dsk_next h2 hb, fun k hk => ⟨(h3 k hk).1, (h3 k hk).2, ?_⟩, ⟨h4, h1.size, ?_⟩, h5.next hb, Blk.new W _ _, ?_⟩
  · have := h2.2.2.1 k hk; omega
  · have := h5.lt; omega
  · rcases h7 with ⟨hu, gj, e, a, b, c, n, k, r⟩ | h
    · exact .inl ⟨hu, gj, e, a, b, (by have := k.lt; omega), n, k.next hb, r⟩
    · exact .inr h
theorem JPIn.back (h : JPIn w W S g G ga up jp d f gn d f gn x) : JPSt w W S g G up jp d f gn := by
  obtain ⟨h1, h2, h3, h4, h5, h6, h7⟩ := h
  refine ⟨h1, h2, fun k hk => ⟨(h3 k hk).1, (h3 k hk).2.1⟩, h4.1, h5, ?_⟩
  rcases h7 with ⟨hu, gj, e, a, b, c, n, k, r⟩ | h
  · exact .inl ⟨hu, gj, e, a, b, b, n, k, r⟩
  · exact .inr h
end
/-- the document's journal holds no byte and no slice -/
theorem jl_off {W : World} {G o : Nat} {d : DS} {f : Int} {gn : Nat} {t : TypeId} {v : Value} (h : Blk W G (jL d f gn) t) (hc : W.cell? ⟨G, o, none⟩ = some v) : (∀ n, v ≠ .int .u8 n) ∧ (∀ A n c, v ≠ .slice A n c) := by
  rw [cell_of_row W G o _ t (0, 0) h] at hc
  have hm : v ∈ jL d f gn := List.mem_of_getElem? (by simpa using hc)
  simp only [jL, List.mem_cons, List.not_mem_nil, or_false] at hm
  rcases hm with rfl | rfl | rfl | rfl | rfl | rfl | rfl | rfl | rfl <;> exact ⟨(fun n e => by cases e), (fun A n c e => by cases e)⟩
theorem rd_store {W W' : World} {G : Nat} {d : DS} {f : Int} {gn : Nat} {t : TypeId} (hk : Blk W G (jL d f gn) t) (hu : Upd (fun k => k = G) W W') {A : Option Addr} {xs : List Value} (h : Rd W W.heap.size A xs) (hx : ∀ v ∈ xs, (∃ n, v = .int .u8 n) ∨ (∃ A n c, v = .slice A n c)) : Rd W' W'.heap.size A xs := by
  refine (h.updN hu (Nat.le_refl _) fun x hA hne e => ?_).more hu.size
  obtain ⟨b, o, e2, hb, hc⟩ := h hne
  rw [hA] at e2
  obtain rfl := Option.some.inj e2
  have e3 : b = G := e
  subst e3
  rcases xs with _ | ⟨v, r⟩
  · exact hne rfl
  · have h2 := jl_off hk (hc 0 v rfl)
    rcases hx v List.mem_cons_self with ⟨n, e⟩ | ⟨A', n, c, e⟩
    · exact h2.1 n e
    · exact h2.2 A' n c e
theorem bb_kind (l : List Nat) : ∀ v ∈ BB l, (∃ n, v = .int .u8 n) ∨ (∃ A n c, v = .slice A n c) := fun v hv => by
  obtain ⟨n, _, rfl⟩ := List.mem_map.1 hv
  exact .inl ⟨_, rfl⟩
theorem parts_store {W W' : World} {G : Nat} {d : DS} {f : Int} {gn : Nat} {t : TypeId} (hk : Blk W G (jL d f gn) t) (hu : Upd (fun k => k = G) W W') {X : Option Addr} {ps : List Part} (h : RdParts W W.heap.size X ps) : RdParts W' W'.heap.size X ps :=
  ⟨rd_store hk hu h.1 fun v hv => by
    obtain ⟨p, _, rfl⟩ := List.mem_map.1 hv
    exact .inr ⟨_, _, _, rfl⟩, fun p hp => ⟨rd_store hk hu (h.2 p hp).1 (bb_kind _), (h.2 p hp).2⟩⟩
theorem jroom_ds (d : DS) (n : Int) (w : World) : Calls Tryd.prog 28 #[rV d, .int .i64 n] w (RGives w (rV (d.roomM n))) := rsetroom_any _ _ _ _ _ _ _ n w
theorem jfuse_ds (d : DS) (n : Int) (w : World) : Calls Tryd.prog 26 #[rV d, .int .i64 n] w (RGives w (rV (d.fuseM n))) := by
  have h := rsetfuse_any (strB d.b0) (strB d.b1) d.s0 d.s1 d.room d.fuse d.down n w
  obtain ⟨b0, s0, b1, s1, room, fuse, down⟩ := d
  cases down with
  | true => exact h
  | false => exact h
end Go.Proofs.YtdlghabpnpbebaaDoor.Jrn
