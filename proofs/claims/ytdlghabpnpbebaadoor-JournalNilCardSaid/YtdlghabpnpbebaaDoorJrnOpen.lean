/- The walks of layer 24, continued: Open. -/
import Derived.Test.YtdlghabpnpbebaaDoorJrnLook
import Derived.Test.YtdlghabpnpbebaaDoorJrnCk
import Derived.Test.YtdlghabpnpbebaaDoorCrcOf
namespace Go.Proofs.YtdlghabpnpbebaaDoor.Jrn
open Go.RowKit Go.Proofs.YtdlghabpnpbebaaDoor.Mem Go.Proofs.YtdlghabpnpbebaaDoor.Num Go.Proofs.YtdlghabpnpbebaaDoor.Wal Go.Proofs.YtdlghabpnpbebaaDoor.Disk Go.Proofs.YtdlghabpnpbebaaDoor.Crc

/-- what a file told lies apart from the ground S -/
def FAt (w : World) (S : Nat → Prop) (A : Option Addr) (snap : List Nat) (X : Option Addr) (ps : List Part) : Prop :=
  Rd w w.heap.size A (BB snap) ∧ RdParts w w.heap.size X ps ∧ (∀ x, A = some x → BB snap ≠ [] → ¬ S x.block) ∧ (∀ x, X = some x → ps.map Part.val ≠ [] → ¬ S x.block) ∧ ∀ p ∈ ps, ∀ x, p.A = some x → BB p.l ≠ [] → ¬ S x.block
theorem rd_lt {w : World} {B : Nat} {A : Option Addr} {xs : List Value} (h : Rd w B A xs) {x : Addr} (hx : A = some x) (hn : xs ≠ []) : x.block < B := by
  obtain ⟨b, o, e, hb, _⟩ := h hn
  rw [hx] at e
  obtain rfl := Option.some.inj e
  exact hb
theorem FAt.goes {w w' : World} {S S1 : Nat → Prop} {A X : Option Addr} {snap : List Nat} {ps : List Part} (h : FAt w S A snap X ps) (hG : Goes S w S1 w') : FAt w' S1 A snap X ps := by
  obtain ⟨h1, h2, h3, h4, h5⟩ := h
  have ap : ∀ k, k < w.heap.size → ¬ S k → ¬ S1 k := fun k hk hs h1 => (hG.2 k h1).elim hs (fun h2 => by omega)
  refine ⟨(h1.updN hG.1 (Nat.le_refl _) h3).more hG.1.size, ⟨(h2.1.updN hG.1 (Nat.le_refl _) h4).more hG.1.size, fun p hp => ⟨((h2.2 p hp).1.updN hG.1 (Nat.le_refl _) (h5 p hp)).more hG.1.size, (h2.2 p hp).2⟩⟩, fun x hx hn => ap _ (rd_lt h1 hx hn) (h3 x hx hn), fun x hx hn => ap _ (rd_lt h2.1 hx hn) (h4 x hx hn), fun p hp x hx hn => ap _ (rd_lt (h2.2 p hp).1 hx hn) (h5 p hp x hx hn)⟩
theorem FAt.next {w w' : World} {S : Nat → Prop} {A X : Option Addr} {snap : List Nat} {ps : List Part} (h : FAt w S A snap X ps) (hb : Below w.heap.size w w') : FAt w' S A snap X ps := h.goes (goes_below hb)
theorem FAt.of_fresh {w : World} {S : Nat → Prop} {lo m gj : Nat} {A X : Option Addr} {snap : List Nat} {ps : List Part} (hm : m ≤ w.heap.size) (hj : m ≤ gj) (h1 : Rd w m A (BB snap)) (h2 : RdParts w m X ps) (h : Fresh lo A X ps) (hS : ∀ k, S k → k < lo) : FAt w (JG S gj) A snap X ps :=
  ⟨h1.more hm, h2.more hm, fun x hx hn hs => hs.elim (fun hs => by have := hS _ hs; have := h.1 x hx; omega) (fun e => by have := rd_lt h1 hx hn; omega), fun x hx hn hs => hs.elim (fun hs => by have := hS _ hs; have := h.2.1 x hx; omega) (fun e => by have := rd_lt h2.1 hx hn; omega), fun p hp x hx hn hs => hs.elim (fun hs => by have := hS _ hs; have := h.2.2 p hp x hx; omega) (fun e => by have := rd_lt (h2.2 p hp).1 hx hn; omega)⟩
/-- what Open gives -/
def OpenG (S : Nat → Prop) (g : Nat) (w : World) (d : DS) (e : Ending) (w' : World) : Prop :=
  ∃ S', Goes S w S' w' ∧ Dsk w' S' g (openM d).1.d ∧
    (((openM d).2 = 0 ∧ ∃ gj A c X c2 ps, e = .returned (.tuple #[.pointer (some ⟨gj, 0, none⟩), .slice A (pick d).2.snap.length c, .slice X (List.length ps) c2, .int .i64 0]) ∧ w.heap.size ≤ gj ∧ JrnAt w' S' g gj (openM d).1 ∧ bodies ps = (pick d).2.recs ∧ FAt w' (JG S' gj) A (pick d).2.snap X ps ∧ (pick d).2.snap.length ≤ c) ∨
     ((openM d).2 ≠ 0 ∧ e = .returned (.tuple #[.pointer none, .slice none 0 0, .slice none 0 0, .int .i64 ((openM d).2 : Int)])))
theorem open_nil (w : World) : Calls Tryd.prog 14 #[.pointer none] w fun e w' => e = .returned (.tuple #[.pointer none, .slice none 0 0, .slice none 0 0, .int .i64 1]) ∧ w' = w := by
  go_enter Tryd.func14, Tryd.ntmps14
  go_wp2_with fail
  exact bodyPost_ret (v := .tuple #[.pointer none, .slice none 0 0, .slice none 0 0, .int .i64 1]) (by simp [results, Tryd.results14, go_sem]) rfl ⟨rfl, rfl⟩
end Go.Proofs.YtdlghabpnpbebaaDoor.Jrn
