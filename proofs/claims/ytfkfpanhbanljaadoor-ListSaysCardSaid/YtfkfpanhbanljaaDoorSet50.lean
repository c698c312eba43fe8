import Derived.Test.YtfkfpanhbanljaaDoorSet43
import Derived.Test.YtfkfpanhbanljaaDoorListRSort
import Derived.Test.YtfkfpanhbanljaaDoorTwinPerm
import Derived.Test.YtfkfpanhbanljaaDoorSet14
import Derived.Lib.MinMax
import Derived.BigQuiet
import Derived.Deep.DeepCutAuto
import Derived.Test.YtfkfpanhbanljaaDoorHeldCall
/- Layer 44 (list): the plain law of ListOrders: cards of unlike numbers are sorted alike, in whichever order they came; what may be written while the list is marked. -/
namespace Go.Proofs.YtfkfpanhbanljaaDoor.List44
open Go.RowKit Go.Proofs.YtfkfpanhbanljaaDoor.Mem Go.Proofs.YtfkfpanhbanljaaDoor.Card Go.Proofs.YtfkfpanhbanljaaDoor.Laid Go.Proofs.YtfkfpanhbanljaaDoor.Fold Go.Proofs.YtfkfpanhbanljaaDoor.Twin Go.Proofs.YtfkfpanhbanljaaDoor.Stab

/-- all numbers so far are unlike -/
def Unlike (l : List CardM) (i k : Nat) : Prop := (∀ a b, a < i → b < a → cidAt l a ≠ cidAt l b) ∧ ∀ b, b < k → cidAt l i ≠ cidAt l b
theorem unlike_next {l : List CardM} {i k : Nat} (h : Unlike l i k) (hne : cidAt l i ≠ cidAt l k) : Unlike l i (k + 1) := ⟨h.1, fun b hb => by
  rcases Nat.lt_succ_iff_lt_or_eq.1 hb with h1 | rfl
  · exact h.2 b h1
  · exact hne⟩
theorem unlike_row {l : List CardM} {i : Nat} (h : Unlike l i i) : Unlike l (i + 1) 0 := ⟨fun a b ha hb => by
  rcases Nat.lt_succ_iff_lt_or_eq.1 ha with h1 | rfl
  · exact h.1 a b h1 hb
  · exact h.2 b hb, fun b hb => absurd hb (Nat.not_lt_zero _)⟩
def Dist (l : List CardM) : Prop := ∀ x y, x < l.length → y < l.length → cidAt l x = cidAt l y → x = y
theorem unlike_all {l : List CardM} (h : Unlike l l.length 0) : Dist l := fun x y hx hy e => by
  rcases Nat.lt_trichotomy x y with h1 | h1 | h1
  · exact absurd e.symm (h.1 y x hy h1)
  · exact h1
  · exact absurd e (h.1 x y hx h1)
theorem dist_turned {l : List CardM} (f : Nat) (h : Dist l) : Dist (turned f l) := fun x y hx hy e => by
  rw [turned_len] at hx hy
  unfold cidAt at e
  rw [turned_at hx, turned_at hy] at e
  have h1 := h _ _ (turn_lt (f := f) hx) (turn_lt (f := f) hy) e
  have h2 := turn_back (f := f) hx
  rw [h1, turn_back hy] at h2
  exact h2.symm
theorem mem_turned {l : List CardM} {f : Nat} {x : CardM} (h : x ∈ l) : x ∈ turned f l := by
  obtain ⟨i, hi, e⟩ := List.mem_iff_getElem.1 h
  have hg := turned_at (f := f) (l := l) (turn_lt (f := f) hi)
  rw [turn_back hi] at hg
  have h1 : l.getD i cz = x := by simp [List.getD, hi, e]
  rw [h1] at hg
  have hl : turnP l.length f i < (turned f l).length := by rw [turned_len]; exact turn_lt hi
  rw [← hg]
  simp [List.getD, hl]
theorem dist_pair {l : List CardM} (h : Dist l) : l.Pairwise fun x y => x.cid ≠ y.cid := by
  rw [List.pairwise_iff_getElem]
  intro i j hi hj hij e
  have := h i j hi hj (by unfold cidAt; simp [List.getD, hi, hj, e])
  omega
theorem strict_two {x y : CardM} (a1 : x.cid ≠ y.cid) (a2 : ltC y x = false) : ltC x y = true := by
  have a3 : ¬ cmpC y x < 0 := of_decide_eq_false a2
  have a4 := cmpC_flip x y
  have a5 : cmpC x y < 0 := by
    rcases cmpC_range x y with h | h | h
    · rw [h]; decide
    · exact absurd (cmpC_zero.1 h).2 a1
    · rw [a4, h] at a3; exact absurd (by decide) a3
  exact decide_eq_true a5
theorem strict_of {l : List CardM} (h : Dist l) : (stab ltC l).Pairwise fun x y => ltC x y = true := by
  have h1 : (stab ltC l).Pairwise fun x y => x.cid ≠ y.cid := (stab_perm l).symm.pairwise (dist_pair h) fun hxy e => hxy e.symm
  have h2 := stab_srt swoC l
  unfold Srt at h2
  rw [List.pairwise_iff_getElem] at h1 h2 ⊢
  intro i j hi hj hij
  have a1 := h1 i j hi hj hij
  have a2 := h2 i j hi hj hij
  exact strict_two a1 a2
theorem eq_of_strict {α : Type} {lt : α → α → Bool} (hi : ∀ x, lt x x = false) (has : ∀ x y, lt x y = true → lt y x = true → False) : ∀ (a b : List α), (a.Pairwise fun x y => lt x y = true) → (b.Pairwise fun x y => lt x y = true) → (∀ x, x ∈ a ↔ x ∈ b) → a = b
  | [], [], _, _, _ => rfl
  | [], y :: b, _, _, h => by have := (h y).2 (List.mem_cons_self ..); cases this
  | x :: a, [], _, _, h => by have := (h x).1 (List.mem_cons_self ..); cases this
  | x :: a, y :: b, ha, hb, h => by
    rw [List.pairwise_cons] at ha hb
    obtain rfl : x = y := by
      rcases List.mem_cons.1 ((h x).1 (List.mem_cons_self ..)) with e | e
      · exact e
      · rcases List.mem_cons.1 ((h y).2 (List.mem_cons_self ..)) with e2 | e2
        · exact e2.symm
        · exact (has _ _ (hb.1 x e) (ha.1 y e2)).elim
    rw [eq_of_strict hi has a b ha.2 hb.2 fun z => ?_]
    constructor
    · intro hz
      rcases List.mem_cons.1 ((h z).1 (List.mem_cons_of_mem _ hz)) with e | e
      · subst e
        have := ha.1 z hz
        rw [hi] at this
        cases this
      · exact e
    · intro hz
      rcases List.mem_cons.1 ((h z).2 (List.mem_cons_of_mem _ hz)) with e | e
      · subst e
        have := hb.1 z hz
        rw [hi] at this
        cases this
      · exact e
/-- sorted alike, in whichever order they came -/
theorem stab_turned {l : List CardM} (f : Nat) (h : Dist l) : stab ltC (turned f l) = stab ltC l :=
  eq_of_strict (lt := ltC) (fun x => by
    unfold ltC
    have := cmpC_flip x x
    exact decide_eq_false (by omega)) (fun x y h1 h2 => by
    unfold ltC at h1 h2
    have h1 := of_decide_eq_true h1
    have h2 := of_decide_eq_true h2
    have := cmpC_flip x y
    omega) _ _ (strict_of (dist_turned f h)) (strict_of h) fun x => by
    rw [(stab_perm (turned f l)).mem_iff, (stab_perm l).mem_iff]
    exact ⟨turned_mem, mem_turned⟩
/-- two of unlike numbers are never alike -/
theorem cmp_unlike {x y : CardM} (h : x.cid ≠ y.cid) : (cmpC x y = 1 ∧ cmpC y x = -1) ∨ (cmpC x y = -1 ∧ cmpC y x = 1) := by
  have h1 := cmpC_flip x y
  rcases cmpC_range x y with h2 | h2 | h2
  · right; omega
  · exact absurd (cmpC_zero.1 h2).2 h
  · left; omega
theorem short_few {l : List CardM} (h : Chg.fewC l) : Short l := fun x hx => by
  have h1 := (h.2 x hx).2
  have := title_size (ls := x.ls) (n := 200) fun z hz => (h1 z hz).1
  omega
/-- few lines, short texts -/
def Tiny (l : List CardM) : Prop := ∀ x ∈ l, x.ls.length ≤ 12 ∧ ∀ z ∈ x.ls, z.t.size ≤ 200
theorem tiny_few {l : List CardM} (h : Chg.fewC l) : Tiny l := fun x hx => ⟨(h.2 x hx).1, fun z hz => ((h.2 x hx).2 z hz).1⟩
theorem tiny_p {a b : List CardM} (h : a.map CardM.p = b.map CardM.p) (hb : Tiny b) : Tiny a := fun x hx => by
  have h1 : x.p ∈ b.map CardM.p := by rw [← h]; exact List.mem_map_of_mem hx
  obtain ⟨y, hy, e⟩ := List.mem_map.1 h1
  have h2 : y.ls.map LineM.p = x.ls.map LineM.p := congrArg Prod.snd e
  refine ⟨?_, fun z hz => ?_⟩
  · have := congrArg List.length h2
    simp only [List.length_map] at this
    rw [← this]
    exact (hb y hy).1
  · have h3 : z.p ∈ y.ls.map LineM.p := by rw [h2]; exact List.mem_map_of_mem hz
    obtain ⟨u, hu, e3⟩ := List.mem_map.1 h3
    have : u.t = z.t := congrArg (fun q => q.2.1) e3
    rw [← this]
    exact (hb y hy).2 u hu
/-- cards whose lines' texts may be written: what is known of their memory while that is done, behind N writes -/
def WkSt (w W : World) (base : Nat) (A : Option Addr) (ys : List CardM) (N : Nat) : Prop :=
  Below base w W ∧ ∀ (i : Nat) (y : CardM), ys[i]? = some y → y.ls.length ≤ 60 ∧ ∃ r, A = some ⟨r, 0, none⟩ ∧ W.cell? ⟨r, i * 2 + 1, none⟩ = some (.slice y.X y.ls.length y.c) ∧
    ∀ k, k < y.ls.length → ∃ g, y.X = some ⟨g, 0, none⟩ ∧ g ≠ r ∧ base ≤ g ∧ (∃ t : ByteArray, W.cell? ⟨g, k * 3 + 1, none⟩ = some (.string t) ∧ t.size ≤ 1000 + N) ∧ W.frozen? ⟨g, k * 3 + 1, none⟩ = false
theorem WkSt.start {w : World} {base : Nat} {A : Option Addr} {c : Nat} {ys : List CardM} (h : RowF w base A c ys) (hb : Tiny ys) : WkSt w w base A ys 0 := by
  refine ⟨Below.refl _ _, fun i y hy => ?_⟩
  have hk := hb y (List.mem_of_getElem? hy)
  have hf := h.2 y (List.mem_of_getElem? hy)
  refine ⟨by have := hk.1; omega, ?_⟩
  obtain ⟨r, rfl, hbr, hrw, hc, -, -⟩ := h.1.spot (i := i) (j := 1) hy rfl
  refine ⟨r, rfl, hc, fun k hkl => ?_⟩
  have hz := List.getElem?_eq_getElem hkl
  obtain ⟨g, hX, hbg, hgw, hcg, hfg, -⟩ := hf.2.1.spot (i := k) (j := 1) hz rfl
  refine ⟨g, hX, fun e => ?_, hbg, ⟨_, hcg, ?_⟩, hfg⟩
  · have := OwnK.apart hf.2.1 h.1 (by decide)
    rw [hX, e] at this
    rcases this with h1 | h1
    · cases h1
    · exact h1 rfl
  · have := hk.2 _ (List.getElem_mem hkl)
    omega
theorem WkSt.drew {w W : World} {base N : Nat} {A : Option Addr} {ys : List CardM} (h : WkSt w W base A ys N) : WkSt w W.drew base A ys N := ⟨h.1.drew, h.2⟩
theorem WkSt.more {w W : World} {base N M : Nat} {A : Option Addr} {ys : List CardM} (h : WkSt w W base A ys N) (hm : N ≤ M) : WkSt w W base A ys M := ⟨h.1, fun i y hy => by
  obtain ⟨h1, r, h2, h3, h4⟩ := h.2 i y hy
  refine ⟨h1, r, h2, h3, fun k hk => ?_⟩
  obtain ⟨g, e1, e2, e3, ⟨t, e4, e5⟩, e6⟩ := h4 k hk
  exact ⟨g, e1, e2, e3, ⟨t, e4, by omega⟩, e6⟩⟩
theorem WkSt.set {w W : World} {base N : Nat} {r : Nat} {ys : List CardM} (h : WkSt w W base (some ⟨r, 0, none⟩) ys N) {g k : Nat} (hg : base ≤ g) (hne : g ≠ r) {t0 : ByteArray} (hc : W.cell? ⟨g, k * 3 + 1, none⟩ = some (.string t0)) {t : ByteArray} (ht : t.size ≤ 1000 + (N + 1)) : WkSt w (W.setCell ⟨g, k * 3 + 1, none⟩ (.string t)) base (some ⟨r, 0, none⟩) ys (N + 1) := by
  refine ⟨h.1.setCell (p := ⟨g, k * 3 + 1, none⟩) hg _, fun i y hy => ?_⟩
  obtain ⟨h1, r1, h2, h3, h4⟩ := h.2 i y hy
  obtain rfl : r = r1 := congrArg Addr.block (Option.some.inj h2)
  refine ⟨h1, r, rfl, ?_, fun j hj => ?_⟩
  · rw [World.cell?_setCell_other W _ _ _ (fun e => hne (congrArg Addr.block e))]; exact h3
  · obtain ⟨g1, e1, e2, e3, ⟨t1, e4, e5⟩, e6⟩ := h4 j hj
    refine ⟨g1, e1, e2, e3, ?_, by rw [World.frozen?_setCell]; exact e6⟩
    by_cases he : (⟨g, k * 3 + 1, none⟩ : Addr) = ⟨g1, j * 3 + 1, none⟩
    · rw [← he]
      exact ⟨t, World.cell?_setCell_same W _ _ hc, by omega⟩
    · exact ⟨t1, by rw [World.cell?_setCell_other W _ _ _ he]; exact e4, by omega⟩
end Go.Proofs.YtfkfpanhbanljaaDoor.List44

/- Layer 44 (list): a page of the program. -/
namespace Go.Proofs.YtfkfpanhbanljaaDoor.List44
open Go.RowKit Go.Proofs.YtfkfpanhbanljaaDoor.Mem Go.Proofs.YtfkfpanhbanljaaDoor.Card Go.Proofs.YtfkfpanhbanljaaDoor.Laid Go.Proofs.YtfkfpanhbanljaaDoor.Fold Go.Proofs.YtfkfpanhbanljaaDoor.Twin Go.Proofs.YtfkfpanhbanljaaDoor.Stab

def fromN (n : Nat) (a : Int) : Nat := (min (max a 0) (n : Int)).toNat
def mostN (n : Nat) (b : Int) : Nat := (min (max b 0) (n : Int)).toNat
/-- the page from the a-th on, of at most b -/
def pageL (l : List CardM) (a b : Int) : List CardM := (l.drop (fromN l.length a)).take (mostN (l.length - fromN l.length a) b)
theorem cards_cut {w : World} {B : Nat} {A : Option Addr} {l : List CardM} {c : Nat} (h : RdCards w B A l) (f m : Nat) (hf : f ≤ l.length) (hc : l.length ≤ c) : RdCards w B (if c = f then A else A.map (·.add (f * 2))) ((l.drop f).take m) := by
  refine ⟨?_, fun x hx => h.2 x (List.mem_of_mem_drop (List.mem_of_mem_take hx))⟩
  have h1 : Rd w B A (cardE.cells l) := h.1
  have h2 : Rd w B (if c * 2 = f * 2 then A else A.map (·.add (f * 2))) ((cardE.cells l).drop (f * 2)) := h1.drop (f * 2) (c * 2) (l.length * 2) (by omega) (by omega) (cardE.cells_length l)
  have h3 : (cardE.cells l).drop (f * 2) = cardE.cells (l.drop f) := cardE.cells_drop l f
  have h4 : (cardE.cells (l.drop f)).take (m * 2) = cardE.cells ((l.drop f).take m) := cardE.cells_take (l.drop f) m
  have h5 := h2.take (m * 2)
  rw [h3, h4] at h5
  have h6 : (if c * 2 = f * 2 then A else A.map (·.add (f * 2))) = (if c = f then A else A.map (·.add (f * 2))) := by
    by_cases he : c = f
    · rw [if_pos he, if_pos (by omega)]
    · rw [if_neg he, if_neg (by omega)]
  rw [h6] at h5
  exact h5
set_option maxRecDepth 100000 in
set_option maxHeartbeats 1000000 in
theorem page_any (A : Option Addr) (l : List CardM) (c : Nat) (a b : Int) (w : World) (hr : RdCards w w.heap.size A l) (hc : l.length ≤ c) (hsz : l.length ≤ 1000000) :
    Calls Tryd.prog 15 #[.slice A l.length c, .int .i64 a, .int .i64 b] w (GivesF w ((pageL l a b).map CardM.p)) := by
  unfold pageL
  have hf0 : fromN l.length a ≤ l.length := by unfold fromN; omega
  have hf1 : min (max a 0) (l.length : Int) = (fromN l.length a : Int) := by unfold fromN; omega
  generalize fromN l.length a = f at *
  have hm0 : mostN (l.length - f) b ≤ l.length - f := by unfold mostN; omega
  have hm1 : min (max b 0) ((l.length : Int) - (f : Int)) = (mostN (l.length - f) b : Int) := by unfold mostN; omega
  generalize mostN (l.length - f) b = m at *
  have hlen : ((l.drop f).take m).length = m := by rw [List.length_take, List.length_drop]; omega
  have hcut := cards_cut hr f m hf0 hc
  obtain ⟨X2, hX2⟩ : ∃ X2, (if c = f then A else A.map (·.add (f * 2))) = X2 := ⟨_, rfl⟩
  rw [hX2] at hcut
  have CC := copies_any X2 ((l.drop f).take m) (c - f) w hcut (by omega)
  rw [hlen] at CC
  have CC := kept CC
  have hw : IntKind.i64.wrap ((l.length : Int) - (f : Int)) = (l.length : Int) - (f : Int) := IntWalk.i64_in _ (by omega)
  have hfi : (f : Int) ≤ (l.length : Int) := by omega
  have hf00 : (0 : Int) ≤ (f : Int) := by omega
  have hm00 : (0 : Int) ≤ (m : Int) := by omega
  have hmc : m ≤ c - f := by omega
  have hfc : f ≤ c := by omega
  generalize ((l.drop f).take m).map CardM.p = P at *
  clear hcut hr hlen hm0
  go_enter Tryd.func15, Tryd.ntmps15
  go_wp2_with fail
  refine CC.out.mono ?_
  intro e w1 hg
  obtain ⟨A1, c1, ys, rfl, hp, hro, hb⟩ := hg
  have HG := kept (givesF hp hro hb)
  clear hp hro hb CC
  go_wp2_with fail
  go_ret
  exact HG.out
end Go.Proofs.YtfkfpanhbanljaaDoor.List44

/- Layer 44 (list): a page of the document. -/
namespace Go.Proofs.YtfkfpanhbanljaaDoor.List44
open Go.RowKit Go.Proofs.YtfkfpanhbanljaaDoor.Mem Go.Proofs.YtfkfpanhbanljaaDoor.Card Go.Proofs.YtfkfpanhbanljaaDoor.Laid Go.Proofs.YtfkfpanhbanljaaDoor.Fold Go.Proofs.YtfkfpanhbanljaaDoor.Twin Go.Proofs.YtfkfpanhbanljaaDoor.Stab

/-- the page among the first k cards -/
def rpg (l : List CardM) (a b : Int) (k : Nat) : List CardM := ((l.take k).drop a.toNat).take b.toNat
theorem rpg_len (l : List CardM) (a b : Int) {k : Nat} (hk : k ≤ l.length) : (rpg l a b k).length = min b.toNat (k - a.toNat) := by
  unfold rpg
  rw [List.length_take, List.length_drop, List.length_take, Nat.min_eq_left hk]
theorem rpg_yes {l : List CardM} {a b : Int} {k : Nat} {x : CardM} (hx : l[k]? = some x) (ha : a ≤ (k : Int)) (hb : ((rpg l a b k).length : Int) < b) : rpg l a b (k + 1) = rpg l a b k ++ [x] := by
  obtain ⟨h1, h2⟩ := List.getElem?_eq_some_iff.1 hx
  rw [rpg_len l a b (Nat.le_of_lt h1)] at hb
  unfold rpg
  have hl : ((l.take k).drop a.toNat).length = k - a.toNat := by rw [List.length_drop, List.length_take, Nat.min_eq_left (Nat.le_of_lt h1)]
  rw [List.take_succ_eq_append_getElem h1, h2, List.drop_append_of_le_length (by rw [List.length_take, Nat.min_eq_left (Nat.le_of_lt h1)]; omega), List.take_of_length_le (l := (l.take k).drop a.toNat) (by rw [hl]; omega), List.take_of_length_le (by rw [List.length_append, hl, List.length_singleton]; omega)]
theorem rpg_no1 {l : List CardM} {a b : Int} {k : Nat} (ha : ¬ a ≤ (k : Int)) : rpg l a b (k + 1) = rpg l a b k := by
  unfold rpg
  have e1 : (l.take (k + 1)).drop a.toNat = [] := List.drop_eq_nil_of_le (by have := List.length_take_le (k + 1) l; omega)
  have e2 : (l.take k).drop a.toNat = [] := List.drop_eq_nil_of_le (by have := List.length_take_le k l; omega)
  rw [e1, e2]
theorem rpg_no2 {l : List CardM} {a b : Int} {k : Nat} {x : CardM} (hx : l[k]? = some x) (ha : a ≤ (k : Int)) (hb : ¬ ((rpg l a b k).length : Int) < b) : rpg l a b (k + 1) = rpg l a b k := by
  obtain ⟨h1, h2⟩ := List.getElem?_eq_some_iff.1 hx
  rw [rpg_len l a b (Nat.le_of_lt h1)] at hb
  unfold rpg
  have hl : ((l.take k).drop a.toNat).length = k - a.toNat := by rw [List.length_drop, List.length_take, Nat.min_eq_left (Nat.le_of_lt h1)]
  rw [List.take_succ_eq_append_getElem h1, h2, List.drop_append_of_le_length (by rw [List.length_take, Nat.min_eq_left (Nat.le_of_lt h1)]; omega), List.take_append_of_le_length (by rw [hl]; omega)]
theorem rpg_all (l : List CardM) (a b : Int) : rpg l a b l.length = pageL l a b := by
  unfold rpg pageL
  rw [List.take_length]
  have h1 : l.drop (fromN l.length a) = l.drop a.toNat := by
    unfold fromN
    rcases Nat.le_total a.toNat l.length with h | h
    · rw [show (min (max a 0) (l.length : Int)).toNat = a.toNat by omega]
    · rw [show (min (max a 0) (l.length : Int)).toNat = l.length by omega, List.drop_length, List.drop_eq_nil_of_le h]
  rw [h1]
  have h2 : (l.drop a.toNat).length = l.length - fromN l.length a := by rw [← h1, List.length_drop]
  unfold mostN
  rw [← h2]
  rcases Nat.le_total b.toNat (l.drop a.toNat).length with h | h
  · rw [show (min (max b 0) ((l.drop a.toNat).length : Int)).toNat = b.toNat by omega]
  · rw [show (min (max b 0) ((l.drop a.toNat).length : Int)).toNat = (l.drop a.toNat).length by omega, List.take_length, List.take_of_length_le h]
set_option maxRecDepth 100000 in
set_option maxHeartbeats 4000000 in
theorem rpage_any (A : Option Addr) (l : List CardM) (c : Nat) (a b : Int) (w : World) (hr : RdCards w w.heap.size A l) (hsz : l.length ≤ 1000) :
    Calls Tryd.prog 16 #[.slice A l.length c, .int .i64 a, .int .i64 b] w (GivesC w (pageL l a b)) := by
  have HL := kept hr
  have HR : Kept (∀ (q : List CardM) A' c' W, q = rpg l a b l.length → RdCards W W.heap.size A' q → Below w.heap.size w W → GivesC w (pageL l a b) (.returned (.slice A' q.length c')) W) := ⟨fun q A' c' W e h1 h2 => by
    rw [rpg_all] at e
    subst e
    exact ⟨A', c', rfl, h1, h2⟩⟩
  obtain ⟨PL, hPL⟩ : ∃ PL, pageL l a b = PL := ⟨_, rfl⟩
  rw [hPL] at HR ⊢
  clear hr hPL
  go_enter Tryd.func16, Tryd.ntmps16
  go_wp2_with fail
  go_loopw [7, 8] (fun mv iv wr => ∃ (k : Nat) (A2 : Option Addr) (cm : Nat) (m : List CardM), k ≤ l.length ∧ mv = .slice A2 m.length cm ∧ iv = .int .i64 (k : Int) ∧ Kept (m = rpg l a b k) ∧ Kept (cardE.Own wr w.heap.size 28 (.slice A2 m.length cm) m ∧ Below w.heap.size w wr)) (fun _ iv _ => l.length - (intOf iv).toNat)
  case atStart => exact ⟨0, none, 0, [], Nat.zero_le _, rfl, rfl, ⟨by unfold rpg; simp⟩, ⟨Elem.Own.nilv _ _ _ _, Below.refl _ _⟩⟩
  case round =>
    obtain ⟨k, A2, cm, m, hk, rfl, rfl, HMT, HMO⟩ := hrel
    by_cases hlt : k < l.length
    · have hin : (k : Int) < (l.length : Int) := by omega
      obtain ⟨x, hx⟩ : ∃ x, l[k]? = some x := ⟨_, List.getElem?_eq_getElem hlt⟩
      have HYES : Kept (a ≤ (k : Int) → (m.length : Int) < b → m ++ [x] = rpg l a b (k + 1)) := ⟨fun h1 h2 => by
        have e := HMT.out
        subst e
        exact (rpg_yes hx h1 h2).symm⟩
      have HNO1 : Kept (¬ a ≤ (k : Int) → m = rpg l a b (k + 1)) := ⟨fun h1 => by rw [rpg_no1 h1]; exact HMT.out⟩
      have HNO2 : Kept (a ≤ (k : Int) → ¬ (m.length : Int) < b → m = rpg l a b (k + 1)) := ⟨fun h1 h2 => by
        have e := HMT.out
        subst e
        exact (rpg_no2 hx h1 h2).symm⟩
      have hml : m.length ≤ 1000 := by
        have := HMT.out
        rw [this, rpg_len l a b hk]
        omega
      by_cases h1 : a ≤ (k : Int)
      · have h1g : (k : Int) ≥ a := h1
        by_cases h2 : (m.length : Int) < b
        · have HM9 := kept (HYES.out h1 h2)
          obtain ⟨b2, o, rfl, hbB, u0, u1, hxo⟩ := card_at HL.out hx
          have hbw := HMO.out.2
          have q0 := (hbw.cell (p := ⟨b2, o + k * 2, none⟩) hbB).trans u0
          have q1 := (hbw.cell (p := ⟨b2, o + k * 2 + 1, none⟩) hbB).trans u1
          obtain ⟨zcid, zX, zls, zc⟩ := x
          dsimp only at q0 q1 HM9
          have hrn : cardE.Rd (wr.alloc (.cells #[.int .u64 (zcid : Int), .slice zX zls.length zc] 28)) (wr.heap.size + 1) (some ⟨wr.heap.size, 0, none⟩) [⟨zcid, zX, zls, zc⟩] := Mem.Rd.new wr [.int .u64 (zcid : Int), .slice zX zls.length zc] 28
          have hzz : (m.length + [(⟨zcid, zX, zls, zc⟩ : CardM)].length) * 32 ≤ 140737488355328 := by simp; omega
          have hnb : Below wr.heap.size wr (wr.alloc (.cells #[.int .u64 (zcid : Int), .slice zX zls.length zc] 28)) := (Below.refl _ _).alloc (Nat.le_refl _) _
          have hoB := HMO.out.1.next hnb
          have hbase : w.heap.size ≤ (wr.alloc (.cells #[.int .u64 (zcid : Int), .slice zX zls.length zc] 28)).heap.size := Nat.le_trans hbw.size hnb.size
          clear hx u0 u1 hxo HYES HNO1 HNO2
          go_wp2_with (at_builtin; refine wpl_appEU _ cardE rfl (.tmp 24) (.tmp 29) 22 rfl w.heap.size 28 Tryd.underlying22 Chg.card_info rfl _ m rfl hoB _ _ _ _ [⟨zcid, zX, zls, zc⟩] rfl rfl hrn hzz (by decide) hbase ?_; intro A9 c9 w9 r9 hr9 hown9 hu9 hx9)
          have HB9 : Kept (Below w.heap.size w w9) := ⟨(hbw.trans (hnb.mono hbw.size)).trans ((hu9 _ fun _ e => e).below hbase fun k _ e => (hoB.lt k e).1)⟩
          have HO9 := kept hown9
          have HR9 : Kept (r9 = rpg l a b (k + 1)) := ⟨by rw [hr9.out, HM9.out]⟩
          clear hr9 hown9 hu9 hx9 hrn hzz hnb hoB hbase hbw q0 q1 HMO HMT HM9 hml
          go_wp2_with fail
          go_roundw
          case rel => exact ⟨k + 1, A9, c9, r9, by omega, rfl, by go_num, HR9, ⟨HO9.out, HB9.out⟩⟩
          case measure => simp [intOf]; omega
        · have HM9 := kept (HNO2.out h1 h2)
          clear hx HYES HNO1 HNO2 hml HMT
          go_wp2_with fail
          go_roundw
          case rel => exact ⟨k + 1, A2, cm, m, by omega, rfl, by go_num, HM9, HMO⟩
          case measure => simp [intOf]; omega
      · have h1g : ¬ (k : Int) ≥ a := h1
        have HM9 := kept (HNO1.out h1)
        clear hx HYES HNO1 HNO2 hml HMT
        go_wp2_with fail
        go_roundw
        case rel => exact ⟨k + 1, A2, cm, m, by omega, rfl, by go_num, HM9, HMO⟩
        case measure => simp [intOf]; omega
    · obtain rfl : k = l.length := by omega
      have hge : ¬ (l.length : Int) < (l.length : Int) := by omega
      have HG := kept (fun cc => HR.out m A2 cc wr HMT.out ⟨HMO.out.1.rd, fun x hx => (HL.out.2 x (by
        rw [HMT.out] at hx
        unfold rpg at hx
        exact List.mem_of_mem_take (List.mem_of_mem_drop (List.mem_of_mem_take hx)))).next HMO.out.2⟩ HMO.out.2)
      clear HMT HMO
      go_wp2_with fail
      go_ret
      exact HG.out cm
end Go.Proofs.YtfkfpanhbanljaaDoor.List44

/- Layer 44 (list): the place of a contact: At of the program and of the document. -/
namespace Go.Proofs.YtfkfpanhbanljaaDoor.List44
open Go.RowKit Go.Proofs.YtfkfpanhbanljaaDoor.Mem Go.Proofs.YtfkfpanhbanljaaDoor.Card Go.Proofs.YtfkfpanhbanljaaDoor.Laid Go.Proofs.YtfkfpanhbanljaaDoor.Fold Go.Proofs.YtfkfpanhbanljaaDoor.Twin Go.Proofs.YtfkfpanhbanljaaDoor.Stab

/-- a card of this number -/
def isK (cid : Nat) (y : CardM) : Bool := y.cid == cid
theorem int_beqN (a b : Nat) : ((a : Int) == (b : Int)) = (a == b) := by
  by_cases h : a = b
  · subst h; rw [beq_self_eq_true, beq_self_eq_true]
  · have : ¬ (a : Int) = (b : Int) := by omega
    rw [beq_eq_false_iff_ne.2 this, beq_eq_false_iff_ne.2 h]
theorem at1_any (y : CardM) (cid g : Nat) (w : World) (hc : w.cell? ⟨g, 0, none⟩ = some (.int .u64 (cid : Int))) (hg : g < w.heap.size) :
    Calls Tryd.prog 42 #[y.val, .pointer (some ⟨g, 0, none⟩)] w fun e w' => e = .returned (.bool (isK cid y)) ∧ Below w.heap.size w w' := by
  have hb : Below w.heap.size w (w.alloc (.cells #[.int .u64 (y.cid : Int), .slice y.X y.ls.length y.c] 28)) := (Below.refl _ _).alloc (Nat.le_refl _) _
  have hk := Blk.new w [.int .u64 (y.cid : Int), .slice y.X y.ls.length y.c] 28
  have q0 := hk.cell (j := 0) rfl
  have q1 := (hb.cell (p := ⟨g, 0, none⟩) hg).trans hc
  have he : ((y.cid : Int) == (cid : Int)) = isK cid y := int_beqN y.cid cid
  have HB := kept hb
  unfold CardM.val
  clear hk hb hc
  generalize isK cid y = d at *
  go_enter Tryd.func42, Tryd.ntmps42
  go_wp2_with fail
  go_ret
  exact ⟨rfl, HB.out⟩
/-- the first of this number, or -1 -/
def idxK (cid : Nat) (l : List CardM) (r : Int) : Prop := (∃ (k : Nat) (x : CardM), r = (k : Int) ∧ l[k]? = some x ∧ isK cid x = true ∧ ∀ (j : Nat) y, j < k → l[j]? = some y → isK cid y = false) ∨ (r = -1 ∧ ∀ (j : Nat) y, l[j]? = some y → isK cid y = false)
theorem idxK_one {cid : Nat} {l : List CardM} {r s : Int} (h : idxK cid l r) (k : idxK cid l s) : r = s := by
  rcases h with ⟨a, x, rfl, hx, ex, h1⟩ | ⟨rfl, h1⟩ <;> rcases k with ⟨b, y, rfl, hy, ey, h2⟩ | ⟨rfl, h2⟩
  · rcases Nat.lt_trichotomy a b with h | h | h
    · have := h2 a x h hx; rw [ex] at this; cases this
    · rw [h]
    · have := h1 b y h hy; rw [ey] at this; cases this
  · have := h2 a x hx; rw [ex] at this; cases this
  · have := h1 b y hy; rw [ey] at this; cases this
  · rfl
theorem idxK_mem {cid : Nat} {l : List CardM} {r : Int} (h : idxK cid l r) {x : CardM} (hx : x ∈ l) (he : x.cid = cid) : 0 ≤ r := by
  rcases h with ⟨a, x, rfl, -⟩ | ⟨rfl, h1⟩
  · omega
  · obtain ⟨i, hi⟩ := List.mem_iff_getElem?.1 hx
    have := h1 i x hi
    unfold isK at this
    rw [he] at this
    simp at this
set_option maxRecDepth 100000 in
set_option maxHeartbeats 1000000 in
theorem aidx_any (A : Option Addr) (c : Nat) (l : List CardM) (cid g : Nat) (w : World) (hr : RdCards w w.heap.size A l) (hc : w.cell? ⟨g, 0, none⟩ = some (.int .u64 (cid : Int))) (hg : g < w.heap.size) (hsz : l.length ≤ 1000000) :
    Calls Tryd.prog 41 #[.slice A l.length c, .func (.func 42) #[] #[.pointer (some ⟨g, 0, none⟩)]] w fun e w' => (∃ r : Int, e = .returned (.int .i64 r) ∧ idxK cid l r) ∧ Below w.heap.size w w' := by
  have HC := kept hc
  have HR := kept hr
  have HG := kept hg
  clear hc hr hg
  go_enter Tryd.func41, Tryd.ntmps41
  go_wp2_with fail
  go_loopw [8] (fun i wr => ∃ k : Nat, k ≤ l.length ∧ i = .int .i64 (k : Int) ∧ Kept (Below w.heap.size w wr ∧ ∀ (j : Nat) y, j < k → l[j]? = some y → isK cid y = false)) (fun i _ => l.length - (intOf i).toNat)
  case atStart => exact ⟨0, Nat.zero_le _, rfl, ⟨Below.refl _ _, fun j y h => absurd h (Nat.not_lt_zero _)⟩⟩
  case round =>
    obtain ⟨k, hk, rfl, hin⟩ := hrel
    by_cases hlt : k < l.length
    · obtain ⟨x, hx⟩ : ∃ x, l[k]? = some x := ⟨_, List.getElem?_eq_getElem hlt⟩
      obtain ⟨b, o, rfl, hbb, k0, k1, hxo⟩ := card_at (HR.out.next hin.out.1) hx
      have HB := kept hin.out.1
      have hcc := kept (at1_any x cid g wr ((HB.out.cell (p := ⟨g, 0, none⟩) HG.out).trans HC.out) (Nat.lt_of_lt_of_le HG.out HB.out.size))
      have hkn : (k : Int) < (l.length : Int) := by omega
      have hk0 : (0 : Int) ≤ (k : Int) := by omega
      have HYES : Kept (isK cid x = true → idxK cid l (k : Int)) := ⟨fun h => .inl ⟨k, x, rfl, hx, h, hin.out.2⟩⟩
      have HNO : Kept (isK cid x = false → ∀ (j : Nat) y, j < k + 1 → l[j]? = some y → isK cid y = false) := ⟨fun h j y hj hy => by
        rcases Nat.lt_or_ge j k with h1 | h1
        · exact hin.out.2 j y h1 hy
        · obtain rfl : j = k := by omega
          rw [hx] at hy; cases hy; exact h⟩
      unfold CardM.val at hcc
      generalize isK cid x = d at *
      obtain ⟨xcid, xX, xls, xc⟩ := x
      dsimp only at k0 k1 hcc
      clear hx hin hxo
      cases d with
      | true =>
        go_wp2_with fail
        refine hcc.out.mono ?_
        rintro e w1 ⟨rfl, hb1⟩
        have HW := kept (HB.out.trans (hb1.mono HB.out.size))
        clear hb1 hcc
        go_wp2_with fail
        go_ret
        exact ⟨⟨_, rfl, HYES.out (by trivial)⟩, HW.out⟩
      | false =>
        go_wp2_with fail
        refine hcc.out.mono ?_
        rintro e w1 ⟨rfl, hb1⟩
        have HW := kept (HB.out.trans (hb1.mono HB.out.size))
        clear hb1 hcc
        go_wp2_with fail
        go_roundw
        case rel => exact ⟨k + 1, by omega, by go_num, ⟨HW.out, HNO.out (by trivial)⟩⟩
        case measure => simp [intOf]; omega
    · have hge : ¬ (k : Int) < (l.length : Int) := by omega
      go_wp2_with fail
      go_ret
      exact ⟨⟨-1, rfl, .inr ⟨rfl, fun j y hy => hin.out.2 j y (by have := (List.getElem?_eq_some_iff.1 hy).1; omega) hy⟩⟩, hin.out.1⟩
set_option maxRecDepth 100000 in
theorem lat_any (A : Option Addr) (c : Nat) (l : List CardM) (cid : Nat) (w : World) (hr : RdCards w w.heap.size A l) (hsz : l.length ≤ 1000000) :
    Calls Tryd.prog 17 #[.slice A l.length c, .int .u64 (cid : Int)] w fun e w' => (∃ r : Int, e = .returned (.int .i64 r) ∧ idxK cid l r) ∧ Below w.heap.size w w' := by
  have hb : Below w.heap.size w (w.alloc (.cells #[.int .u64 (cid : Int)] 25)) := (Below.refl _ _).alloc (Nat.le_refl _) _
  have CI := kept (aidx_any A c l cid w.heap.size (w.alloc (.cells #[.int .u64 (cid : Int)] 25)) (hr.next hb) ((Blk.new w [.int .u64 (cid : Int)] 25).cell (j := 0) rfl) (by simp) hsz)
  have HB := kept hb
  clear hr hb
  go_enter Tryd.func17, Tryd.ntmps17
  go_wp2_with fail
  refine CI.out.mono ?_
  rintro e w1 ⟨⟨r, rfl, hi⟩, hb1⟩
  have HI := kept hi
  have HW := kept (HB.out.trans (hb1.mono HB.out.size))
  clear hb1 hi CI HB
  go_wp2_with fail
  go_ret
  exact ⟨⟨r, rfl, HI.out⟩, HW.out⟩
/-- the document's -/
theorem rlat_any (A : Option Addr) (c : Nat) (l : List CardM) (cid : Nat) (w : World) (hr : RdCards w w.heap.size A l) (hsz : l.length ≤ 1000000) :
    Calls Tryd.prog 18 #[.slice A l.length c, .int .u64 (cid : Int)] w fun e w' => (∃ r : Int, e = .returned (.int .i64 r) ∧ idxK cid l r) ∧ w = w' := by
  have HR := kept hr
  clear hr
  go_enter Tryd.func18, Tryd.ntmps18
  go_wp2_with fail
  go_loop [5] (fun i => ∃ k : Nat, k ≤ l.length ∧ i = .int .i64 (k : Int) ∧ Kept (∀ (j : Nat) y, j < k → l[j]? = some y → isK cid y = false)) (fun i => l.length - (intOf i).toNat)
  case atStart => exact ⟨0, Nat.zero_le _, rfl, ⟨fun j y h => absurd h (Nat.not_lt_zero _)⟩⟩
  case round =>
    obtain ⟨k, hk, rfl, hin⟩ := hrel
    by_cases hlt : k < l.length
    · obtain ⟨x, hx⟩ : ∃ x, l[k]? = some x := ⟨_, List.getElem?_eq_getElem hlt⟩
      obtain ⟨b, o, rfl, hbb, k0, k1, hxo⟩ := card_at HR.out hx
      have hkn : (k : Int) < (l.length : Int) := by omega
      have hk0 : (0 : Int) ≤ (k : Int) := by omega
      have HYES : Kept (isK cid x = true → idxK cid l (k : Int)) := ⟨fun h => .inl ⟨k, x, rfl, hx, h, hin.out⟩⟩
      have HNO : Kept (isK cid x = false → ∀ (j : Nat) y, j < k + 1 → l[j]? = some y → isK cid y = false) := ⟨fun h j y hj hy => by
        rcases Nat.lt_or_ge j k with h1 | h1
        · exact hin.out j y h1 hy
        · obtain rfl : j = k := by omega
          rw [hx] at hy; cases hy; exact h⟩
      have he : ((x.cid : Int) == (cid : Int)) = isK cid x := int_beqN x.cid cid
      generalize isK cid x = d at *
      generalize x.cid = xc at *
      clear hx hin hxo k1
      cases d with
      | true =>
        go_wp2_with fail
        go_ret
        exact ⟨⟨_, rfl, HYES.out (by trivial)⟩, rfl⟩
      | false =>
        go_wp2_with fail
        go_round
        case rel => exact ⟨k + 1, by omega, by go_num, ⟨HNO.out (by trivial)⟩⟩
        case measure => simp [intOf]; omega
    · have hge : ¬ (k : Int) < (l.length : Int) := by omega
      go_wp2_with fail
      go_ret
      exact ⟨⟨-1, rfl, .inr ⟨rfl, fun j y hy => hin.out j y (by have := (List.getElem?_eq_some_iff.1 hy).1; omega) hy⟩⟩, rfl⟩
end Go.Proofs.YtfkfpanhbanljaaDoor.List44
