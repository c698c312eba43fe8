import Derived.Test.YtfkfpanhbanljaaGreatSetD
import Derived.Test.YtfkfpanhbanljaaGreatSetAB
import Derived.Test.YtfkfpanhbanljaaGreatSortC
import Derived.Maps.OwnSet
import Derived.Maps.Views
/- Plain words of layer 19 (view): what events show. No program in sight. -/
namespace Go.Proofs.YtfkfpanhbanljaaGreat.View
open Go.RowKit Go.Proofs.YtfkfpanhbanljaaGreat.Mem Go.Proofs.YtfkfpanhbanljaaGreat.Card Go.Proofs.YtfkfpanhbanljaaGreat.Past Go.Proofs.YtfkfpanhbanljaaGreat.Reg

def vOf (e : EvM) : ValM := ⟨e.dev, e.n, e.text⟩
def isV (cid f : Nat) (e : EvM) : Bool := decide (e.kind = 1) && (decide (e.cid = cid) && decide (e.field = f))
/-- what the edits of a contact wrote into a field -/
def valsV (es : List EvM) (cid f : Nat) : List ValM := (es.filter (isV cid f)).map vOf
/-- the fields of a contact that an edit wrote -/
def fldsV (es : List EvM) (cid : Nat) : List Nat := (List.range 256).filter fun f => !(valsV es cid f).isEmpty
def linesV (es : List EvM) (cid : Nat) : List (Nat × ByteArray × List ByteArray) := (fldsV es cid).map fun f => showM f (valsV es cid f)
def cardV (es : List EvM) (cid : Nat) : Nat × List (Nat × ByteArray × List ByteArray) := (cid, linesV es cid)
/-- a number more, in its place -/
def putU (l : List Nat) (s : Nat) : List Nat := l.filter (fun x => decide (x < s)) ++ s :: l.filter (fun x => decide (s < x))
def cidStep (l : List Nat) (e : EvM) : List Nat := if e.kind = 1 then putU l e.cid else l
def cidsV (es : List EvM) : List Nat := es.foldl cidStep []
def idsV (es : List EvM) : List Nat := (es.filter fun e => decide (e.kind = 1)).map EvM.cid
def viewV (es : List EvM) : List (Nat × List (Nat × ByteArray × List ByteArray)) := (cidsV es).map (cardV es)

theorem sub_len : ∀ (l a : List Nat), l.Nodup → (∀ x ∈ l, x ∈ a) → l.length ≤ a.length
  | [], _, _, _ => Nat.zero_le _
  | x :: l, a, hn, hs => by
    obtain ⟨h1, h2⟩ := List.nodup_cons.1 hn
    have hx := hs x List.mem_cons_self
    have h3 := sub_len l (a.erase x) h2 fun y hy => (List.mem_erase_of_ne (fun (e : y = x) => h1 (by rw [← e]; exact hy))).2 (hs y (List.mem_cons_of_mem _ hy))
    have h4 := List.length_erase_of_mem hx
    have h5 : 0 < a.length := List.length_pos_of_mem hx
    rw [List.length_cons]
    omega
theorem incU_ext : ∀ {a b : List Nat}, a.Pairwise (· < ·) → b.Pairwise (· < ·) → (∀ x, x ∈ a ↔ x ∈ b) → a = b
  | [], [], _, _, _ => rfl
  | [], y :: b, _, _, h => absurd ((h y).2 List.mem_cons_self) List.not_mem_nil
  | x :: a, [], _, _, h => absurd ((h x).1 List.mem_cons_self) List.not_mem_nil
  | x :: a, y :: b, ha, hb, h => by
    obtain ⟨h1, h2⟩ := List.pairwise_cons.1 ha
    obtain ⟨h3, h4⟩ := List.pairwise_cons.1 hb
    have e : x = y := by
      rcases List.mem_cons.1 ((h x).1 List.mem_cons_self) with e | e
      · exact e
      · rcases List.mem_cons.1 ((h y).2 List.mem_cons_self) with e2 | e2
        · exact e2.symm
        · have := h3 x e; have := h1 y e2; omega
    subst e
    rw [incU_ext h2 h4 fun z => ⟨fun hz => ?_, fun hz => ?_⟩]
    · rcases List.mem_cons.1 ((h z).1 (List.mem_cons_of_mem _ hz)) with e | e
      · have := h1 z hz; omega
      · exact e
    · rcases List.mem_cons.1 ((h z).2 (List.mem_cons_of_mem _ hz)) with e | e
      · have := h3 z hz; omega
      · exact e
theorem putU_inc {l : List Nat} (h : l.Pairwise (· < ·)) (s : Nat) : (putU l s).Pairwise (· < ·) := by
  unfold putU
  refine List.pairwise_append.2 ⟨List.Pairwise.sublist List.filter_sublist h, List.pairwise_cons.2 ⟨fun x hx => of_decide_eq_true (List.mem_filter.1 hx).2, List.Pairwise.sublist List.filter_sublist h⟩, fun a ha b hb => ?_⟩
  have h1 := of_decide_eq_true (List.mem_filter.1 ha).2
  rcases List.mem_cons.1 hb with rfl | hb
  · exact h1
  · have h2 := of_decide_eq_true (List.mem_filter.1 hb).2
    omega
theorem putU_mem {l : List Nat} {s x : Nat} : x ∈ putU l s ↔ x ∈ l ∨ x = s := by
  unfold putU
  simp only [List.mem_append, List.mem_cons, List.mem_filter, decide_eq_true_eq]
  constructor
  · rintro (h | h | h)
    · exact .inl h.1
    · exact .inr h
    · exact .inl h.1
  · rintro (h | h)
    · rcases Nat.lt_trichotomy x s with h1 | h1 | h1
      · exact .inl ⟨h, h1⟩
      · exact .inr (.inl h1)
      · exact .inr (.inr ⟨h, h1⟩)
    · exact .inr (.inl h)
theorem cids_from (es : List EvM) : ∀ a : List Nat, a.Pairwise (· < ·) → (es.foldl cidStep a).Pairwise (· < ·) ∧ ∀ x, x ∈ es.foldl cidStep a ↔ x ∈ a ∨ x ∈ idsV es := by
  induction es with
  | nil => exact fun a h => ⟨h, fun x => by simp [idsV]⟩
  | cons e es ih =>
    intro a h
    rw [List.foldl_cons]
    by_cases hk : e.kind = 1
    · have e1 : cidStep a e = putU a e.cid := by unfold cidStep; rw [if_pos hk]
      rw [e1]
      obtain ⟨h1, h2⟩ := ih _ (putU_inc h e.cid)
      refine ⟨h1, fun x => ?_⟩
      rw [h2 x, putU_mem]
      have e2 : idsV (e :: es) = e.cid :: idsV es := by unfold idsV; rw [List.filter_cons, if_pos (decide_eq_true hk), List.map_cons]
      rw [e2, List.mem_cons]
      exact or_assoc
    · have e1 : cidStep a e = a := by unfold cidStep; rw [if_neg hk]
      rw [e1]
      obtain ⟨h1, h2⟩ := ih a h
      refine ⟨h1, fun x => ?_⟩
      have e2 : idsV (e :: es) = idsV es := by unfold idsV; rw [List.filter_cons, if_neg (by simpa using hk)]
      rw [h2 x, e2]
theorem cids_inc (es : List EvM) : (cidsV es).Pairwise (· < ·) := (cids_from es [] List.Pairwise.nil).1
theorem cids_mem {es : List EvM} {x : Nat} : x ∈ cidsV es ↔ x ∈ idsV es := by
  have := (cids_from es [] List.Pairwise.nil).2 x
  rw [show (x ∈ cidsV es) = (x ∈ es.foldl cidStep []) from rfl, this]
  simp
theorem cids_next {es : List EvM} {k : Nat} {e : EvM} (h : es[k]? = some e) : cidsV (es.take (k + 1)) = cidStep (cidsV (es.take k)) e := by
  obtain ⟨h1, h2⟩ := List.getElem?_eq_some_iff.1 h
  unfold cidsV
  rw [List.take_succ_eq_append_getElem h1, h2, List.foldl_append]
  rfl
theorem ids_next {es : List EvM} {k : Nat} {e : EvM} (h : es[k]? = some e) : idsV (es.take (k + 1)) = idsV (es.take k) ++ if e.kind = 1 then [e.cid] else [] := by
  obtain ⟨h1, h2⟩ := List.getElem?_eq_some_iff.1 h
  unfold idsV
  rw [List.take_succ_eq_append_getElem h1, h2, List.filter_append, List.map_append]
  congr 1
  rw [List.filter_cons, List.filter_nil]
  by_cases hk : e.kind = 1
  · rw [if_pos (decide_eq_true hk), if_pos hk]; rfl
  · rw [if_neg (by simpa using hk), if_neg hk]; rfl
theorem ids_length (es : List EvM) : (idsV es).length ≤ es.length := by unfold idsV; rw [List.length_map]; exact List.length_filter_le _ _
theorem cids_length (es : List EvM) : (cidsV es).length ≤ es.length := by
  refine Nat.le_trans (sub_len _ _ ((cids_inc es).imp fun {a b} hab => Nat.ne_of_lt hab) fun x hx => cids_mem.1 hx) (ids_length es)
/-- sorted, each once: the contacts -/
theorem dd_cids {es : List EvM} {l : List Nat} (hp : l.Perm (idsV es)) (hs : l.Pairwise (· ≤ ·)) : SortW.dd l = cidsV es := by
  refine incU_ext (SortW.dd_rising l [] hs List.Pairwise.nil (fun a ha => by cases ha)) (cids_inc es) fun x => ?_
  have h := SortW.dd_mem l [] x
  rw [show (x ∈ SortW.dd l) = (x ∈ l.foldl SortW.ddStep []) from rfl, h, cids_mem, hp.mem_iff]
  simp
theorem flds_inc (es : List EvM) (cid : Nat) : (fldsV es cid).Pairwise (· < ·) := List.Pairwise.sublist List.filter_sublist List.pairwise_lt_range
theorem flds_mem {es : List EvM} {cid f : Nat} : f ∈ fldsV es cid ↔ f < 256 ∧ valsV es cid f ≠ [] := by
  unfold fldsV
  rw [List.mem_filter, List.mem_range, Bool.not_eq_true', List.isEmpty_eq_false_iff]
theorem vals_next {es : List EvM} {k : Nat} {e : EvM} (h : es[k]? = some e) (cid f : Nat) : valsV (es.take (k + 1)) cid f = valsV (es.take k) cid f ++ if isV cid f e then [vOf e] else [] := by
  obtain ⟨h1, h2⟩ := List.getElem?_eq_some_iff.1 h
  unfold valsV
  rw [List.take_succ_eq_append_getElem h1, h2, List.filter_append, List.map_append]
  congr 1
  rw [List.filter_cons, List.filter_nil]
  cases isV cid f e <;> rfl
theorem vals_length (es : List EvM) (cid f : Nat) : (valsV es cid f).length ≤ es.length := by unfold valsV; rw [List.length_map]; exact List.length_filter_le _ _
end Go.Proofs.YtfkfpanhbanljaaGreat.View

/- Layer 19 (view): a map of fields to rows of values that the call makes, as it lies in memory: which header stands at which field. -/
namespace Go.Proofs.YtfkfpanhbanljaaGreat.View
open Go.RowKit Go.Proofs.YtfkfpanhbanljaaGreat.Mem Go.Proofs.YtfkfpanhbanljaaGreat.Card Go.Proofs.YtfkfpanhbanljaaGreat.Past Go.Proofs.YtfkfpanhbanljaaGreat.Reg

def kU (f : Nat) : Lit := .int .u8 (f : Int)
theorem kU_inj {f g : Nat} (h : kU f = kU g) : f = g := by
  have h1 := (Lit.int.inj h).2
  omega
theorem kU_key (f : Nat) : WideAt.IsKeyLit (kU f) := trivial
/-- a row's header: its block and room, or none -/
def hdV : Option (Nat × Nat) → Nat → Value
  | none, _ => .slice none 0 0
  | some (g, c), n => .slice (some ⟨g, 0, none⟩) n c
def hdD : Option (Nat × Nat) → Nat → DataW Unit
  | none, _ => .nil
  | some (g, c), n => .slice [.lit (.int .i64 (g : Int)), .lit (.int .i64 (n : Int)), .lit (.int .i64 (c : Int))] []
def hdR : Value → Option (DataW Unit × List MemPlace)
  | .slice none 0 0 => some (.nil, [])
  | .slice (some ⟨g, 0, none⟩) n c => some (hdD (some (g, c)) n, [])
  | _ => none
theorem hdR_V (o : Option (Nat × Nat)) (n : Nat) : hdR (hdV o n) = some (hdD o n, []) := by
  rcases o with _ | ⟨g, c⟩ <;> rfl
theorem hdR_inv {v : Value} {o : Option (Nat × Nat)} {n : Nat} {ps : List MemPlace} (h : hdR v = some (hdD o n, ps)) : v = hdV o n := by
  unfold hdR at h
  split at h
  · rcases o with _ | ⟨g, c⟩
    · rfl
    · simp [hdD] at h
  · rename_i g m d
    rcases o with _ | ⟨g', c⟩
    · simp [hdD] at h
    · simp only [hdD, Option.some.injEq, Prod.mk.injEq, DataW.slice.injEq, List.cons.injEq, DataW.lit.injEq, Lit.int.injEq, true_and, and_true] at h
      obtain ⟨⟨h1, h2, h3⟩, -⟩ := h
      obtain rfl : g = g' := by omega
      obtain rfl : m = n := by omega
      obtain rfl : d = c := by omega
      rfl
  · cases h
theorem hdV_block (o : Option (Nat × Nat)) (n : Nat) : (hdV o n).ownBlock = o.map Prod.fst := by rcases o with _ | ⟨g, c⟩ <;> rfl
theorem lawU : Go.Maps.Keyed Tryz.prog 5 := Go.Maps.int_keyed Tryz.underlying5
theorem keyU {f : Nat} (hf : f < 256) : keyOf Tryz.prog 5 (.int .u8 (f : Int)) = some (kU f) := Go.Maps.keyOf_int_mk Tryz.underlying5 (by
  have h1 : IntKind.u8.min = 0 := by decide
  have h2 : IntKind.u8.max = 255 := by decide
  unfold Lit.wf
  rw [Bool.and_eq_true, decide_eq_true_iff, decide_eq_true_iff, h1, h2]
  omega)
theorem zeroV (w : World) : (zeroValue 97).run Tryz.prog w = .ok (.slice none 0 0) w := by kernel_rfl
/-- block b is a map that has at each field a row of these values; the rows lie from block 'base' on, each in a block of its own -/
structure MapVs (w : World) (base b n : Nat) (V : Nat → List ValM) (H : Nat → Option (Nat × Nat)) (D : DataW Unit) : Prop where
  own : w.ownsMap Tryz.prog 5 hdR b n D
  at_ : ∀ f, f < 256 → D.atKey (kU f) .nil = hdD (H f) (V f).length
  has_ : ∀ f, f < 256 → Go.Maps.has D (kU f) = (H f).isSome
  some_ : ∀ f, f < 256 → ((H f).isSome = true ↔ V f ≠ [])
  rows : ∀ f, f < 256 → valE.Own w base 99 (hdV (H f) (V f).length) (V f)
  apart : ∀ f g x y, f < 256 → g < 256 → H f = some x → H g = some y → f ≠ g → x.1 ≠ y.1
  off : ∀ f x, f < 256 → H f = some x → x.1 ≠ b
  hb : base ≤ b
def MapV (w : World) (base b n : Nat) (V : Nat → List ValM) : Prop := ∃ H D, MapVs w base b n V H D
theorem MapV.made (w : World) : MapV (w.alloc (.map #[] 0)) w.heap.size w.heap.size 0 (fun _ => []) :=
  ⟨fun _ => none, .map [], ⟨World.ownsMap_made w _ _ _, fun _ _ => rfl, fun _ _ => rfl, fun f _ => ⟨(fun h => by cases h), fun h => absurd rfl h⟩, fun f _ => Elem.Own.nilv _ _ _ _, (fun f g x y _ _ h => by cases h), (fun f x _ h => by cases h), Nat.le_refl _⟩⟩
section
variable {w w1 w' : World} {base b n f : Nat} {V : Nat → List ValM} {H : Nat → Option (Nat × Nat)} {D : DataW Unit}
theorem MapVs.next (h : MapVs w base b n V H D) (hb : Below w.heap.size w w') : MapVs w' base b n V H D := by
  refine ⟨?_, h.at_, h.has_, h.some_, fun f hf => (h.rows f hf).next hb, h.apart, h.off, h.hb⟩
  have hlt := h.own.lt
  obtain ⟨es, clock, h1, h2, h3, h4⟩ := h.own
  exact ⟨es, clock, (hb.block b hlt).trans h1, h2, h3, h4⟩
theorem MapVs.drew (h : MapVs w base b n V H D) : MapVs w.drew base b n V H D := h.next (Below.refl _ _).drew
theorem MapVs.drewN (h : MapVs w base b n V H D) (q : Nat) : MapVs (w.drewN q) base b n V H D := h.next (below_draw _ w q)
theorem MapV.next (h : MapV w base b n V) (hb : Below w.heap.size w w') : MapV w' base b n V := by
  obtain ⟨H, D, h⟩ := h
  exact ⟨H, D, h.next hb⟩
theorem MapVs.look (h : MapVs w base b n V H D) (hf : f < 256) : (Instr.lookup 96 (.map (some b)) (.int .u8 (f : Int)) false).run Tryz.prog w = .ok (hdV (H f) (V f).length) w := by
  obtain ⟨v, ps, hrun, hv⟩ := h.own.lookup (zd := .nil) (zp := []) lawU Tryz.underlying96 (zeroV w) rfl (keyU hf)
  rw [h.at_ f hf] at hv
  rw [hrun, hdR_inv hv]
theorem MapVs.len (h : MapVs w base b n V H D) (ty : TypeId) : (Builtin.len_ #[96] ty #[.map (some b)]).run Tryz.prog w = .ok (.int .i64 (Go.Maps.size D)) w := h.own.len Tryz.underlying96 ty
/-- behind an append to the row at f, and the store of its header -/
theorem MapVs.store (h : MapVs w base b n V H D) (hf : f < 256) (hn : n < maxLen) {A' : Option Addr} {c' : Nat} {r : List ValM} (hr : r ≠ []) (ho : valE.Own w1 base 99 (.slice A' r.length c') r)
    (hu : ∀ S : Nat → Prop, (∀ k, (hdV (H f) (V f).length).ownBlock = some k → S k) → Upd S w w1) (hx : ∀ x, A' = some x → (hdV (H f) (V f).length).ownBlock = some x.block ∨ w.heap.size ≤ x.block) (hbase : base ≤ w.heap.size) :
    ∃ w2, (Instr.mapUpdate 96 (.map (some b)) (.int .u8 (f : Int)) (.slice A' r.length c')).run Tryz.prog w1 = .ok () w2 ∧ MapV w2 base b (n + 1) (fun g => if g = f then r else V g) ∧ Below base w w2 ∧ w1.grownBy w2 (some b) := by
  have hbl := h.own.lt
  have hU := hu (fun k => (hdV (H f) (V f).length).ownBlock = some k) fun _ e => e
  have hrowlt : ∀ g, g < 256 → ∀ x, H g = some x → base ≤ x.1 ∧ x.1 < w.heap.size := fun g hg x e => OwnK.under (h.rows g hg) x.1 (by rw [hdV_block, e]; rfl)
  have hown1 : w1.ownsMap Tryz.prog 5 hdR b n D := by
    obtain ⟨es, clock, h1, h2, h3, h4⟩ := h.own
    refine ⟨es, clock, (hU.block b hbl fun e => ?_).trans h1, h2, h3, h4⟩
    rw [hdV_block] at e
    obtain ⟨x, e1, e2⟩ := Option.map_eq_some_iff.1 e
    exact h.off f x hf e1 e2
  obtain ⟨g', rfl⟩ : ∃ g', A' = some ⟨g', 0, none⟩ := by
    rcases ho.2 with ⟨e, e2⟩ | ⟨g, cap, cur, e, _⟩
    · exact absurd (List.length_eq_zero_iff.1 e2) hr
    · exact ⟨g, (Value.slice.inj e).1⟩
  have hg' := OwnK.under ho g' rfl
  obtain ⟨w2, hrun, hown2, hgr⟩ := hown1.update (val := .slice (some ⟨g', 0, none⟩) r.length c') (d := hdD (some (g', c')) r.length) (ps := []) lawU Tryz.underlying96 hn (keyU hf) rfl
  have hnew : (∃ x, H f = some x ∧ x.1 = g') ∨ w.heap.size ≤ g' := by
    rcases hx _ rfl with e | e
    · rw [hdV_block] at e
      obtain ⟨x, e1, e2⟩ := Option.map_eq_some_iff.1 e
      exact .inl ⟨x, e1, e2⟩
    · exact .inr e
  have hgb : g' ≠ b := by
    rcases hnew with ⟨x, e1, e2⟩ | e
    · exact e2 ▸ h.off f x hf e1
    · omega
  have hoth : ∀ g, g < 256 → g ≠ f → ∀ x, H g = some x → x.1 ≠ g' := fun g hg hne x e => by
    rcases hnew with ⟨y, e1, e2⟩ | e1
    · exact e2 ▸ h.apart g f x y hg hf e e1 hne
    · have := (hrowlt g hg x e).2; omega
  refine ⟨w2, hrun, ⟨fun g => if g = f then some (g', c') else H g, D.put (kU f) (hdD (some (g', c')) r.length), ⟨hown2, fun g hg => ?_, fun g hg => ?_, fun g hg => ?_, fun g hg => ?_, fun g k x y hg hk e1 e2 hne => ?_, fun g x hg e => ?_, h.hb⟩⟩, ?_⟩
  · by_cases e : g = f
    · subst e
      rw [Go.Maps.atKey_put_same h.own.isMap (kU_key g), if_pos rfl, if_pos rfl]
    · rw [Go.Maps.atKey_put_other (fun e2 => e (kU_inj e2)), if_neg e, if_neg e]
      exact h.at_ g hg
  · by_cases e : g = f
    · subst e
      rw [Go.Maps.has_put_same h.own.isMap (kU_key g), if_pos rfl]
      rfl
    · rw [Go.Maps.has_put_other (fun e2 => e (kU_inj e2)), if_neg e]
      exact h.has_ g hg
  · by_cases e : g = f
    · subst e
      rw [if_pos rfl, if_pos rfl]
      exact ⟨fun _ => hr, fun _ => rfl⟩
    · rw [if_neg e, if_neg e]
      exact h.some_ g hg
  · by_cases e : g = f
    · subst e
      rw [if_pos rfl, if_pos rfl]
      exact OwnK.kept ho hgr (.inr fun e2 => hgb (Option.some.inj e2))
    · rw [if_neg e, if_neg e]
      have h1 := (h.rows g hg).upd hU fun k hk e2 => by
        rw [hdV_block] at hk e2
        obtain ⟨x, a1, a2⟩ := Option.map_eq_some_iff.1 hk
        obtain ⟨y, b1, b2⟩ := Option.map_eq_some_iff.1 e2
        exact h.apart g f x y hg hf a1 b1 e (a2.trans b2.symm)
      refine OwnK.kept h1 hgr ?_
      rw [hdV_block]
      cases hH : H g with
      | none => exact .inl rfl
      | some x => exact .inr fun e2 => h.off g x hg hH (Option.some.inj e2)
  · by_cases a1 : g = f
    · by_cases a2 : k = f
      · exact absurd (a1.trans a2.symm) hne
      · rw [if_pos a1] at e1
        rw [if_neg a2] at e2
        cases e1
        exact fun e3 => hoth k hk a2 y e2 e3.symm
    · rw [if_neg a1] at e1
      by_cases a2 : k = f
      · rw [if_pos a2] at e2
        cases e2
        exact hoth g hg a1 x e1
      · rw [if_neg a2] at e2
        exact h.apart g k x y hg hk e1 e2 hne
  · by_cases a1 : g = f
    · rw [if_pos a1] at e
      cases e
      exact hgb
    · rw [if_neg a1] at e
      exact h.off g x hg e
  · have h1 : Below base w w1 := hU.below hbase fun k _ e => by
      rw [hdV_block] at e
      obtain ⟨x, e1, e2⟩ := Option.map_eq_some_iff.1 e
      exact e2 ▸ (hrowlt f hf x e1).1
    exact ⟨h1.grown hgr (Nat.le_trans hbase h1.size) fun k e => by cases e; exact h.hb, hgr⟩
end
end Go.Proofs.YtfkfpanhbanljaaGreat.View
