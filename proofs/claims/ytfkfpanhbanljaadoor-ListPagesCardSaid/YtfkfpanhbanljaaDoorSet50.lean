import Derived.Test.YtfkfpanhbanljaaDoorSet43
import Derived.Test.YtfkfpanhbanljaaDoorListRSort
import Derived.Test.YtfkfpanhbanljaaDoorTwinPerm
import Derived.Test.YtfkfpanhbanljaaDoorSet14
import Derived.Lib.MinMax
import Derived.BigQuiet
import Derived.Deep.DeepCutAuto
import Derived.Test.YtfkfpanhbanljaaDoorSet7
import Derived.Test.YtfkfpanhbanljaaDoorHeldCall
/- Layer 44 (list): the plain law of ListOrders: cards of unlike numbers are sorted alike, in whichever order they came; what may be written while the list is marked. -/
namespace Go.Proofs.YtfkfpanhbanljaaDoor.List44
open Go.RowKit Go.Proofs.YtfkfpanhbanljaaDoor.Mem Go.Proofs.YtfkfpanhbanljaaDoor.Card Go.Proofs.YtfkfpanhbanljaaDoor.Laid Go.Proofs.YtfkfpanhbanljaaDoor.Fold Go.Proofs.YtfkfpanhbanljaaDoor.Twin Go.Proofs.YtfkfpanhbanljaaDoor.Stab

/-- all numbers so far are unlike -/
def Unlike (l : List CardM) (i k : Nat) : Prop := (∀ a b, a < i → b < a → cidAt l a ≠ cidAt l b) ∧ ∀ b, b < k → cidAt l i ≠ cidAt l b
theorem unlike_next {l : List CardM} {i k : Nat} (h : Unlike l i k) (hne : cidAt l i ≠ cidAt l k) : Unlike l i (k + 1) := ⟨h.1, fun b hb => by
  rcases Nat.lt_succ_iff_lt_or_eq.1 hb with h1 | rfl
  · exact h.2 b h1
  · exact hne⟩
theorem unlike_row {l : List CardM} {i : Nat} (h : Unlike l i i) : Unlike l (i + 1) 0 := ⟨fun a b ha hb => by
  rcases Nat.lt_succ_iff_lt_or_eq.1 ha with h1 | rfl
  · exact h.1 a b h1 hb
  · exact h.2 b hb, fun b hb => absurd hb (Nat.not_lt_zero _)⟩
def Dist (l : List CardM) : Prop := ∀ x y, x < l.length → y < l.length → cidAt l x = cidAt l y → x = y
theorem unlike_all {l : List CardM} (h : Unlike l l.length 0) : Dist l := fun x y hx hy e => by
  rcases Nat.lt_trichotomy x y with h1 | h1 | h1
  · exact absurd e.symm (h.1 y x hy h1)
  · exact h1
  · exact absurd e (h.1 x y hx h1)
theorem dist_turned {l : List CardM} (f : Nat) (h : Dist l) : Dist (turned f l) := fun x y hx hy e => by
  rw [turned_len] at hx hy
  unfold cidAt at e
  rw [turned_at hx, turned_at hy] at e
  have h1 := h _ _ (turn_lt (f := f) hx) (turn_lt (f := f) hy) e
  have h2 := turn_back (f := f) hx
  rw [h1, turn_back hy] at h2
  exact h2.symm
theorem mem_turned {l : List CardM} {f : Nat} {x : CardM} (h : x ∈ l) : x ∈ turned f l := by
  obtain ⟨i, hi, e⟩ := List.mem_iff_getElem.1 h
  have hg := turned_at (f := f) (l := l) (turn_lt (f := f) hi)
  rw [turn_back hi] at hg
  have h1 : l.getD i cz = x := by simp [List.getD, hi, e]
  rw [h1] at hg
  have hl : turnP l.length f i < (turned f l).length := by rw [turned_len]; exact turn_lt hi
  rw [← hg]
  simp [List.getD, hl]
theorem dist_pair {l : List CardM} (h : Dist l) : l.Pairwise fun x y => x.cid ≠ y.cid := by
  rw [List.pairwise_iff_getElem]
  intro i j hi hj hij e
  have := h i j hi hj (by unfold cidAt; simp [List.getD, hi, hj, e])
  omega
theorem strict_two {x y : CardM} (a1 : x.cid ≠ y.cid) (a2 : ltC y x = false) : ltC x y = true := by
  have a3 : ¬ cmpC y x < 0 := of_decide_eq_false a2
  have a4 := cmpC_flip x y
  have a5 : cmpC x y < 0 := by
    rcases cmpC_range x y with h | h | h
    · rw [h]; decide
    · exact absurd (cmpC_zero.1 h).2 a1
    · rw [a4, h] at a3; exact absurd (by decide) a3
  exact decide_eq_true a5
theorem strict_of {l : List CardM} (h : Dist l) : (stab ltC l).Pairwise fun x y => ltC x y = true := by
  have h1 : (stab ltC l).Pairwise fun x y => x.cid ≠ y.cid := (stab_perm l).symm.pairwise (dist_pair h) fun hxy e => hxy e.symm
  have h2 := stab_srt swoC l
  unfold Srt at h2
  rw [List.pairwise_iff_getElem] at h1 h2 ⊢
  intro i j hi hj hij
  have a1 := h1 i j hi hj hij
  have a2 := h2 i j hi hj hij
  exact strict_two a1 a2
theorem eq_of_strict {α : Type} {lt : α → α → Bool} (hi : ∀ x, lt x x = false) (has : ∀ x y, lt x y = true → lt y x = true → False) : ∀ (a b : List α), (a.Pairwise fun x y => lt x y = true) → (b.Pairwise fun x y => lt x y = true) → (∀ x, x ∈ a ↔ x ∈ b) → a = b
  | [], [], _, _, _ => rfl
  | [], y :: b, _, _, h => by have := (h y).2 (List.mem_cons_self ..); cases this
  | x :: a, [], _, _, h => by have := (h x).1 (List.mem_cons_self ..); cases this
  | x :: a, y :: b, ha, hb, h => by
    rw [List.pairwise_cons] at ha hb
    obtain rfl : x = y := by
      rcases List.mem_cons.1 ((h x).1 (List.mem_cons_self ..)) with e | e
      · exact e
      · rcases List.mem_cons.1 ((h y).2 (List.mem_cons_self ..)) with e2 | e2
        · exact e2.symm
        · exact (has _ _ (hb.1 x e) (ha.1 y e2)).elim
    rw [eq_of_strict hi has a b ha.2 hb.2 fun z => ?_]
    constructor
    · intro hz
      rcases List.mem_cons.1 ((h z).1 (List.mem_cons_of_mem _ hz)) with e | e
      · subst e
        have := ha.1 z hz
        rw [hi] at this
        cases this
      · exact e
    · intro hz
      rcases List.mem_cons.1 ((h z).2 (List.mem_cons_of_mem _ hz)) with e | e
      · subst e
        have := hb.1 z hz
        rw [hi] at this
        cases this
      · exact e
/-- sorted alike, in whichever order they came -/
theorem stab_turned {l : List CardM} (f : Nat) (h : Dist l) : stab ltC (turned f l) = stab ltC l :=
  eq_of_strict (lt := ltC) (fun x => by
    unfold ltC
    have := cmpC_flip x x
    exact decide_eq_false (by omega)) (fun x y h1 h2 => by
    unfold ltC at h1 h2
    have h1 := of_decide_eq_true h1
    have h2 := of_decide_eq_true h2
    have := cmpC_flip x y
    omega) _ _ (strict_of (dist_turned f h)) (strict_of h) fun x => by
    rw [(stab_perm (turned f l)).mem_iff, (stab_perm l).mem_iff]
    exact ⟨turned_mem, mem_turned⟩
/-- two of unlike numbers are never alike -/
theorem cmp_unlike {x y : CardM} (h : x.cid ≠ y.cid) : (cmpC x y = 1 ∧ cmpC y x = -1) ∨ (cmpC x y = -1 ∧ cmpC y x = 1) := by
  have h1 := cmpC_flip x y
  rcases cmpC_range x y with h2 | h2 | h2
  · right; omega
  · exact absurd (cmpC_zero.1 h2).2 h
  · left; omega
theorem short_few {l : List CardM} (h : Chg.fewC l) : Short l := fun x hx => by
  have h1 := (h.2 x hx).2
  have := title_size (ls := x.ls) (n := 200) fun z hz => (h1 z hz).1
  omega
/-- few lines, short texts -/
def Tiny (l : List CardM) : Prop := ∀ x ∈ l, x.ls.length ≤ 12 ∧ ∀ z ∈ x.ls, z.t.size ≤ 200
theorem tiny_few {l : List CardM} (h : Chg.fewC l) : Tiny l := fun x hx => ⟨(h.2 x hx).1, fun z hz => ((h.2 x hx).2 z hz).1⟩
theorem tiny_p {a b : List CardM} (h : a.map CardM.p = b.map CardM.p) (hb : Tiny b) : Tiny a := fun x hx => by
  have h1 : x.p ∈ b.map CardM.p := by rw [← h]; exact List.mem_map_of_mem hx
  obtain ⟨y, hy, e⟩ := List.mem_map.1 h1
  have h2 : y.ls.map LineM.p = x.ls.map LineM.p := congrArg Prod.snd e
  refine ⟨?_, fun z hz => ?_⟩
  · have := congrArg List.length h2
    simp only [List.length_map] at this
    rw [← this]
    exact (hb y hy).1
  · have h3 : z.p ∈ y.ls.map LineM.p := by rw [h2]; exact List.mem_map_of_mem hz
    obtain ⟨u, hu, e3⟩ := List.mem_map.1 h3
    have : u.t = z.t := congrArg (fun q => q.2.1) e3
    rw [← this]
    exact (hb y hy).2 u hu
/-- cards whose lines' texts may be written: what is known of their memory while that is done, behind N writes -/
def WkSt (w W : World) (base : Nat) (A : Option Addr) (ys : List CardM) (N : Nat) : Prop :=
  Below base w W ∧ ∀ (i : Nat) (y : CardM), ys[i]? = some y → y.ls.length ≤ 60 ∧ ∃ r, A = some ⟨r, 0, none⟩ ∧ W.cell? ⟨r, i * 2 + 1, none⟩ = some (.slice y.X y.ls.length y.c) ∧
    ∀ k, k < y.ls.length → ∃ g, y.X = some ⟨g, 0, none⟩ ∧ g ≠ r ∧ base ≤ g ∧ (∃ t : ByteArray, W.cell? ⟨g, k * 3 + 1, none⟩ = some (.string t) ∧ t.size ≤ 1000 + N) ∧ W.frozen? ⟨g, k * 3 + 1, none⟩ = false
theorem WkSt.start {w : World} {base : Nat} {A : Option Addr} {c : Nat} {ys : List CardM} (h : RowF w base A c ys) (hb : Tiny ys) : WkSt w w base A ys 0 := by
  refine ⟨Below.refl _ _, fun i y hy => ?_⟩
  have hk := hb y (List.mem_of_getElem? hy)
  have hf := h.2 y (List.mem_of_getElem? hy)
  refine ⟨by have := hk.1; omega, ?_⟩
  obtain ⟨r, rfl, hbr, hrw, hc, -, -⟩ := h.1.spot (i := i) (j := 1) hy rfl
  refine ⟨r, rfl, hc, fun k hkl => ?_⟩
  have hz := List.getElem?_eq_getElem hkl
  obtain ⟨g, hX, hbg, hgw, hcg, hfg, -⟩ := hf.2.1.spot (i := k) (j := 1) hz rfl
  refine ⟨g, hX, fun e => ?_, hbg, ⟨_, hcg, ?_⟩, hfg⟩
  · have := OwnK.apart hf.2.1 h.1 (by decide)
    rw [hX, e] at this
    rcases this with h1 | h1
    · cases h1
    · exact h1 rfl
  · have := hk.2 _ (List.getElem_mem hkl)
    omega
theorem WkSt.drew {w W : World} {base N : Nat} {A : Option Addr} {ys : List CardM} (h : WkSt w W base A ys N) : WkSt w W.drew base A ys N := ⟨h.1.drew, h.2⟩
theorem WkSt.more {w W : World} {base N M : Nat} {A : Option Addr} {ys : List CardM} (h : WkSt w W base A ys N) (hm : N ≤ M) : WkSt w W base A ys M := ⟨h.1, fun i y hy => by
  obtain ⟨h1, r, h2, h3, h4⟩ := h.2 i y hy
  refine ⟨h1, r, h2, h3, fun k hk => ?_⟩
  obtain ⟨g, e1, e2, e3, ⟨t, e4, e5⟩, e6⟩ := h4 k hk
  exact ⟨g, e1, e2, e3, ⟨t, e4, by omega⟩, e6⟩⟩
theorem WkSt.set {w W : World} {base N : Nat} {r : Nat} {ys : List CardM} (h : WkSt w W base (some ⟨r, 0, none⟩) ys N) {g k : Nat} (hg : base ≤ g) (hne : g ≠ r) {t0 : ByteArray} (hc : W.cell? ⟨g, k * 3 + 1, none⟩ = some (.string t0)) {t : ByteArray} (ht : t.size ≤ 1000 + (N + 1)) : WkSt w (W.setCell ⟨g, k * 3 + 1, none⟩ (.string t)) base (some ⟨r, 0, none⟩) ys (N + 1) := by
  refine ⟨h.1.setCell (p := ⟨g, k * 3 + 1, none⟩) hg _, fun i y hy => ?_⟩
  obtain ⟨h1, r1, h2, h3, h4⟩ := h.2 i y hy
  obtain rfl : r = r1 := congrArg Addr.block (Option.some.inj h2)
  refine ⟨h1, r, rfl, ?_, fun j hj => ?_⟩
  · rw [World.cell?_setCell_other W _ _ _ (fun e => hne (congrArg Addr.block e))]; exact h3
  · obtain ⟨g1, e1, e2, e3, ⟨t1, e4, e5⟩, e6⟩ := h4 j hj
    refine ⟨g1, e1, e2, e3, ?_, by rw [World.frozen?_setCell]; exact e6⟩
    by_cases he : (⟨g, k * 3 + 1, none⟩ : Addr) = ⟨g1, j * 3 + 1, none⟩
    · rw [← he]
      exact ⟨t, World.cell?_setCell_same W _ _ hc, by omega⟩
    · exact ⟨t1, by rw [World.cell?_setCell_other W _ _ _ he]; exact e4, by omega⟩
end Go.Proofs.YtfkfpanhbanljaaDoor.List44

/- Layer 44 (list): a page of the program. -/
namespace Go.Proofs.YtfkfpanhbanljaaDoor.List44
open Go.RowKit Go.Proofs.YtfkfpanhbanljaaDoor.Mem Go.Proofs.YtfkfpanhbanljaaDoor.Card Go.Proofs.YtfkfpanhbanljaaDoor.Laid Go.Proofs.YtfkfpanhbanljaaDoor.Fold Go.Proofs.YtfkfpanhbanljaaDoor.Twin Go.Proofs.YtfkfpanhbanljaaDoor.Stab

def fromN (n : Nat) (a : Int) : Nat := (min (max a 0) (n : Int)).toNat
def mostN (n : Nat) (b : Int) : Nat := (min (max b 0) (n : Int)).toNat
/-- the page from the a-th on, of at most b -/
def pageL (l : List CardM) (a b : Int) : List CardM := (l.drop (fromN l.length a)).take (mostN (l.length - fromN l.length a) b)
theorem cards_cut {w : World} {B : Nat} {A : Option Addr} {l : List CardM} {c : Nat} (h : RdCards w B A l) (f m : Nat) (hf : f ≤ l.length) (hc : l.length ≤ c) : RdCards w B (if c = f then A else A.map (·.add (f * 2))) ((l.drop f).take m) := by
  refine ⟨?_, fun x hx => h.2 x (List.mem_of_mem_drop (List.mem_of_mem_take hx))⟩
  have h1 : Rd w B A (cardE.cells l) := h.1
  have h2 : Rd w B (if c * 2 = f * 2 then A else A.map (·.add (f * 2))) ((cardE.cells l).drop (f * 2)) := h1.drop (f * 2) (c * 2) (l.length * 2) (by omega) (by omega) (cardE.cells_length l)
  have h3 : (cardE.cells l).drop (f * 2) = cardE.cells (l.drop f) := cardE.cells_drop l f
  have h4 : (cardE.cells (l.drop f)).take (m * 2) = cardE.cells ((l.drop f).take m) := cardE.cells_take (l.drop f) m
  have h5 := h2.take (m * 2)
  rw [h3, h4] at h5
  have h6 : (if c * 2 = f * 2 then A else A.map (·.add (f * 2))) = (if c = f then A else A.map (·.add (f * 2))) := by
    by_cases he : c = f
    · rw [if_pos he, if_pos (by omega)]
    · rw [if_neg he, if_neg (by omega)]
  rw [h6] at h5
  exact h5
set_option maxRecDepth 100000 in
set_option maxHeartbeats 1000000 in
theorem page_any (A : Option Addr) (l : List CardM) (c : Nat) (a b : Int) (w : World) (hr : RdCards w w.heap.size A l) (hc : l.length ≤ c) (hsz : l.length ≤ 1000000) :
    Calls Tryd.prog 15 #[.slice A l.length c, .int .i64 a, .int .i64 b] w (GivesF w ((pageL l a b).map CardM.p)) := by
  unfold pageL
  have hf0 : fromN l.length a ≤ l.length := by unfold fromN; omega
  have hf1 : min (max a 0) (l.length : Int) = (fromN l.length a : Int) := by unfold fromN; omega
  generalize fromN l.length a = f at *
  have hm0 : mostN (l.length - f) b ≤ l.length - f := by unfold mostN; omega
  have hm1 : min (max b 0) ((l.length : Int) - (f : Int)) = (mostN (l.length - f) b : Int) := by unfold mostN; omega
  generalize mostN (l.length - f) b = m at *
  have hlen : ((l.drop f).take m).length = m := by rw [List.length_take, List.length_drop]; omega
  have hcut := cards_cut hr f m hf0 hc
  obtain ⟨X2, hX2⟩ : ∃ X2, (if c = f then A else A.map (·.add (f * 2))) = X2 := ⟨_, rfl⟩
  rw [hX2] at hcut
  have CC := copies_any X2 ((l.drop f).take m) (c - f) w hcut (by omega)
  rw [hlen] at CC
  have CC := kept CC
  have hw : IntKind.i64.wrap ((l.length : Int) - (f : Int)) = (l.length : Int) - (f : Int) := IntWalk.i64_in _ (by omega)
  have hfi : (f : Int) ≤ (l.length : Int) := by omega
  have hf00 : (0 : Int) ≤ (f : Int) := by omega
  have hm00 : (0 : Int) ≤ (m : Int) := by omega
  have hmc : m ≤ c - f := by omega
  have hfc : f ≤ c := by omega
  generalize ((l.drop f).take m).map CardM.p = P at *
  clear hcut hr hlen hm0
  go_enter Tryd.func15, Tryd.ntmps15
  go_wp2_with fail
  refine CC.out.mono ?_
  intro e w1 hg
  obtain ⟨A1, c1, ys, rfl, hp, hro, hb⟩ := hg
  have HG := kept (givesF hp hro hb)
  clear hp hro hb CC
  go_wp2_with fail
  go_ret
  exact HG.out
end Go.Proofs.YtfkfpanhbanljaaDoor.List44

/- Layer 44 (list): the place of a contact: At of the program and of the document. -/
namespace Go.Proofs.YtfkfpanhbanljaaDoor.List44
open Go.RowKit Go.Proofs.YtfkfpanhbanljaaDoor.Mem Go.Proofs.YtfkfpanhbanljaaDoor.Card Go.Proofs.YtfkfpanhbanljaaDoor.Laid Go.Proofs.YtfkfpanhbanljaaDoor.Fold Go.Proofs.YtfkfpanhbanljaaDoor.Twin Go.Proofs.YtfkfpanhbanljaaDoor.Stab

/-- a card of this number -/
def isK (cid : Nat) (y : CardM) : Bool := y.cid == cid
theorem int_beqN (a b : Nat) : ((a : Int) == (b : Int)) = (a == b) := by
  by_cases h : a = b
  · subst h; rw [beq_self_eq_true, beq_self_eq_true]
  · have : ¬ (a : Int) = (b : Int) := by omega
    rw [beq_eq_false_iff_ne.2 this, beq_eq_false_iff_ne.2 h]
theorem at1_any (y : CardM) (cid g : Nat) (w : World) (hc : w.cell? ⟨g, 0, none⟩ = some (.int .u64 (cid : Int))) (hg : g < w.heap.size) :
    Calls Tryd.prog 42 #[y.val, .pointer (some ⟨g, 0, none⟩)] w fun e w' => e = .returned (.bool (isK cid y)) ∧ Below w.heap.size w w' := by
  have hb : Below w.heap.size w (w.alloc (.cells #[.int .u64 (y.cid : Int), .slice y.X y.ls.length y.c] 28)) := (Below.refl _ _).alloc (Nat.le_refl _) _
  have hk := Blk.new w [.int .u64 (y.cid : Int), .slice y.X y.ls.length y.c] 28
  have q0 := hk.cell (j := 0) rfl
  have q1 := (hb.cell (p := ⟨g, 0, none⟩) hg).trans hc
  have he : ((y.cid : Int) == (cid : Int)) = isK cid y := int_beqN y.cid cid
  have HB := kept hb
  unfold CardM.val
  clear hk hb hc
  generalize isK cid y = d at *
  go_enter Tryd.func42, Tryd.ntmps42
  go_wp2_with fail
  go_ret
  exact ⟨rfl, HB.out⟩
/-- the first of this number, or -1 -/
def idxK (cid : Nat) (l : List CardM) (r : Int) : Prop := (∃ (k : Nat) (x : CardM), r = (k : Int) ∧ l[k]? = some x ∧ isK cid x = true ∧ ∀ (j : Nat) y, j < k → l[j]? = some y → isK cid y = false) ∨ (r = -1 ∧ ∀ (j : Nat) y, l[j]? = some y → isK cid y = false)
theorem idxK_one {cid : Nat} {l : List CardM} {r s : Int} (h : idxK cid l r) (k : idxK cid l s) : r = s := by
  rcases h with ⟨a, x, rfl, hx, ex, h1⟩ | ⟨rfl, h1⟩ <;> rcases k with ⟨b, y, rfl, hy, ey, h2⟩ | ⟨rfl, h2⟩
  · rcases Nat.lt_trichotomy a b with h | h | h
    · have := h2 a x h hx; rw [ex] at this; cases this
    · rw [h]
    · have := h1 b y h hy; rw [ey] at this; cases this
  · have := h2 a x hx; rw [ex] at this; cases this
  · have := h1 b y hy; rw [ey] at this; cases this
  · rfl
theorem idxK_mem {cid : Nat} {l : List CardM} {r : Int} (h : idxK cid l r) {x : CardM} (hx : x ∈ l) (he : x.cid = cid) : 0 ≤ r := by
  rcases h with ⟨a, x, rfl, -⟩ | ⟨rfl, h1⟩
  · omega
  · obtain ⟨i, hi⟩ := List.mem_iff_getElem?.1 hx
    have := h1 i x hi
    unfold isK at this
    rw [he] at this
    simp at this
set_option maxRecDepth 100000 in
set_option maxHeartbeats 1000000 in
theorem aidx_any (A : Option Addr) (c : Nat) (l : List CardM) (cid g : Nat) (w : World) (hr : RdCards w w.heap.size A l) (hc : w.cell? ⟨g, 0, none⟩ = some (.int .u64 (cid : Int))) (hg : g < w.heap.size) (hsz : l.length ≤ 1000000) :
    Calls Tryd.prog 41 #[.slice A l.length c, .func (.func 42) #[] #[.pointer (some ⟨g, 0, none⟩)]] w fun e w' => (∃ r : Int, e = .returned (.int .i64 r) ∧ idxK cid l r) ∧ Below w.heap.size w w' := by
  have HC := kept hc
  have HR := kept hr
  have HG := kept hg
  clear hc hr hg
  go_enter Tryd.func41, Tryd.ntmps41
  go_wp2_with fail
  go_loopw [8] (fun i wr => ∃ k : Nat, k ≤ l.length ∧ i = .int .i64 (k : Int) ∧ Kept (Below w.heap.size w wr ∧ ∀ (j : Nat) y, j < k → l[j]? = some y → isK cid y = false)) (fun i _ => l.length - (intOf i).toNat)
  case atStart => exact ⟨0, Nat.zero_le _, rfl, ⟨Below.refl _ _, fun j y h => absurd h (Nat.not_lt_zero _)⟩⟩
  case round =>
    obtain ⟨k, hk, rfl, hin⟩ := hrel
    by_cases hlt : k < l.length
    · obtain ⟨x, hx⟩ : ∃ x, l[k]? = some x := ⟨_, List.getElem?_eq_getElem hlt⟩
      obtain ⟨b, o, rfl, hbb, k0, k1, hxo⟩ := card_at (HR.out.next hin.out.1) hx
      have HB := kept hin.out.1
      have hcc := kept (at1_any x cid g wr ((HB.out.cell (p := ⟨g, 0, none⟩) HG.out).trans HC.out) (Nat.lt_of_lt_of_le HG.out HB.out.size))
      have hkn : (k : Int) < (l.length : Int) := by omega
      have hk0 : (0 : Int) ≤ (k : Int) := by omega
      have HYES : Kept (isK cid x = true → idxK cid l (k : Int)) := ⟨fun h => .inl ⟨k, x, rfl, hx, h, hin.out.2⟩⟩
      have HNO : Kept (isK cid x = false → ∀ (j : Nat) y, j < k + 1 → l[j]? = some y → isK cid y = false) := ⟨fun h j y hj hy => by
        rcases Nat.lt_or_ge j k with h1 | h1
        · exact hin.out.2 j y h1 hy
        · obtain rfl : j = k := by omega
          rw [hx] at hy; cases hy; exact h⟩
      unfold CardM.val at hcc
      generalize isK cid x = d at *
      obtain ⟨xcid, xX, xls, xc⟩ := x
      dsimp only at k0 k1 hcc
      clear hx hin hxo
      cases d with
      | true =>
        go_wp2_with fail
        refine hcc.out.mono ?_
        rintro e w1 ⟨rfl, hb1⟩
        have HW := kept (HB.out.trans (hb1.mono HB.out.size))
        clear hb1 hcc
        go_wp2_with fail
        go_ret
        exact ⟨⟨_, rfl, HYES.out (by trivial)⟩, HW.out⟩
      | false =>
        go_wp2_with fail
        refine hcc.out.mono ?_
        rintro e w1 ⟨rfl, hb1⟩
        have HW := kept (HB.out.trans (hb1.mono HB.out.size))
        clear hb1 hcc
        go_wp2_with fail
        go_roundw
        case rel => exact ⟨k + 1, by omega, by go_num, ⟨HW.out, HNO.out (by trivial)⟩⟩
        case measure => simp [intOf]; omega
    · have hge : ¬ (k : Int) < (l.length : Int) := by omega
      go_wp2_with fail
      go_ret
      exact ⟨⟨-1, rfl, .inr ⟨rfl, fun j y hy => hin.out.2 j y (by have := (List.getElem?_eq_some_iff.1 hy).1; omega) hy⟩⟩, hin.out.1⟩
set_option maxRecDepth 100000 in
theorem lat_any (A : Option Addr) (c : Nat) (l : List CardM) (cid : Nat) (w : World) (hr : RdCards w w.heap.size A l) (hsz : l.length ≤ 1000000) :
    Calls Tryd.prog 17 #[.slice A l.length c, .int .u64 (cid : Int)] w fun e w' => (∃ r : Int, e = .returned (.int .i64 r) ∧ idxK cid l r) ∧ Below w.heap.size w w' := by
  have hb : Below w.heap.size w (w.alloc (.cells #[.int .u64 (cid : Int)] 25)) := (Below.refl _ _).alloc (Nat.le_refl _) _
  have CI := kept (aidx_any A c l cid w.heap.size (w.alloc (.cells #[.int .u64 (cid : Int)] 25)) (hr.next hb) ((Blk.new w [.int .u64 (cid : Int)] 25).cell (j := 0) rfl) (by simp) hsz)
  have HB := kept hb
  clear hr hb
  go_enter Tryd.func17, Tryd.ntmps17
  go_wp2_with fail
  refine CI.out.mono ?_
  rintro e w1 ⟨⟨r, rfl, hi⟩, hb1⟩
  have HI := kept hi
  have HW := kept (HB.out.trans (hb1.mono HB.out.size))
  clear hb1 hi CI HB
  go_wp2_with fail
  go_ret
  exact ⟨⟨r, rfl, HI.out⟩, HW.out⟩
/-- the document's -/
theorem rlat_any (A : Option Addr) (c : Nat) (l : List CardM) (cid : Nat) (w : World) (hr : RdCards w w.heap.size A l) (hsz : l.length ≤ 1000000) :
    Calls Tryd.prog 18 #[.slice A l.length c, .int .u64 (cid : Int)] w fun e w' => (∃ r : Int, e = .returned (.int .i64 r) ∧ idxK cid l r) ∧ w = w' := by
  have HR := kept hr
  clear hr
  go_enter Tryd.func18, Tryd.ntmps18
  go_wp2_with fail
  go_loop [5] (fun i => ∃ k : Nat, k ≤ l.length ∧ i = .int .i64 (k : Int) ∧ Kept (∀ (j : Nat) y, j < k → l[j]? = some y → isK cid y = false)) (fun i => l.length - (intOf i).toNat)
  case atStart => exact ⟨0, Nat.zero_le _, rfl, ⟨fun j y h => absurd h (Nat.not_lt_zero _)⟩⟩
  case round =>
    obtain ⟨k, hk, rfl, hin⟩ := hrel
    by_cases hlt : k < l.length
    · obtain ⟨x, hx⟩ : ∃ x, l[k]? = some x := ⟨_, List.getElem?_eq_getElem hlt⟩
      obtain ⟨b, o, rfl, hbb, k0, k1, hxo⟩ := card_at HR.out hx
      have hkn : (k : Int) < (l.length : Int) := by omega
      have hk0 : (0 : Int) ≤ (k : Int) := by omega
      have HYES : Kept (isK cid x = true → idxK cid l (k : Int)) := ⟨fun h => .inl ⟨k, x, rfl, hx, h, hin.out⟩⟩
      have HNO : Kept (isK cid x = false → ∀ (j : Nat) y, j < k + 1 → l[j]? = some y → isK cid y = false) := ⟨fun h j y hj hy => by
        rcases Nat.lt_or_ge j k with h1 | h1
        · exact hin.out j y h1 hy
        · obtain rfl : j = k := by omega
          rw [hx] at hy; cases hy; exact h⟩
      have he : ((x.cid : Int) == (cid : Int)) = isK cid x := int_beqN x.cid cid
      generalize isK cid x = d at *
      generalize x.cid = xc at *
      clear hx hin hxo k1
      cases d with
      | true =>
        go_wp2_with fail
        go_ret
        exact ⟨⟨_, rfl, HYES.out (by trivial)⟩, rfl⟩
      | false =>
        go_wp2_with fail
        go_round
        case rel => exact ⟨k + 1, by omega, by go_num, ⟨HNO.out (by trivial)⟩⟩
        case measure => simp [intOf]; omega
    · have hge : ¬ (k : Int) < (l.length : Int) := by omega
      go_wp2_with fail
      go_ret
      exact ⟨⟨-1, rfl, .inr ⟨rfl, fun j y hy => hin.out j y (by have := (List.getElem?_eq_some_iff.1 hy).1; omega) hy⟩⟩, rfl⟩
end Go.Proofs.YtfkfpanhbanljaaDoor.List44

/- Layer 44 (list): the law ListPages. (printed by tools/genlp.py) -/
namespace Go.Proofs.YtfkfpanhbanljaaDoor.List44
open Go.RowKit Go.Proofs.YtfkfpanhbanljaaDoor.Mem Go.Proofs.YtfkfpanhbanljaaDoor.Card Go.Proofs.YtfkfpanhbanljaaDoor.Laid Go.Proofs.YtfkfpanhbanljaaDoor.Fold Go.Proofs.YtfkfpanhbanljaaDoor.Twin Go.Proofs.YtfkfpanhbanljaaDoor.Stab

theorem page_at (l : List CardM) (q N : Nat) (hq : q < l.length) (hN : 1 ≤ N) : pageL l (q : Int) (N : Int) = (l.drop q).take N ∧ 1 ≤ (pageL l (q : Int) (N : Int)).length ∧ (pageL l (q : Int) (N : Int)).length ≤ N := by
  have h1 : fromN l.length (q : Int) = q := by unfold fromN; omega
  have h2 : mostN (l.length - q) (N : Int) = min N (l.length - q) := by unfold mostN; omega
  have h3 : pageL l (q : Int) (N : Int) = (l.drop q).take N := by
    unfold pageL
    rw [h1, h2]
    rcases Nat.le_total N (l.length - q) with h | h
    · rw [Nat.min_eq_left h]
    · rw [Nat.min_eq_right h, List.take_of_length_le (by rw [List.length_drop]; exact Nat.le_refl _), List.take_of_length_le (by rw [List.length_drop]; exact h)]
  rw [h3]
  refine ⟨rfl, ?_, ?_⟩
  · rw [List.length_take, List.length_drop]; omega
  · exact List.length_take_le _ _
theorem srt_p : ∀ (a b : List CardM), a.map CardM.p = b.map CardM.p → Srt ltC b → Srt ltC a
  | [], _, _, _ => List.Pairwise.nil
  | x :: a, [], h, _ => by cases h
  | x :: a, y :: b, h, hb => by
    simp only [List.map_cons, List.cons.injEq] at h
    unfold Srt at hb ⊢
    rw [List.pairwise_cons] at hb ⊢
    refine ⟨fun z hz => ?_, srt_p a b h.2 hb.2⟩
    have h1 : z.p ∈ b.map CardM.p := by rw [← h.2]; exact List.mem_map_of_mem hz
    obtain ⟨u, hu, e⟩ := List.mem_map.1 h1
    rw [lt_p e.symm h.1]
    exact hb.1 u hu
theorem cmp_rises {l : List CardM} (h : Srt ltC l) {k : Nat} {x y : CardM} (hx : l[k]? = some x) (hy : l[k + 1]? = some y) : cmpC x y = -1 ∨ cmpC x y = 0 := by
  have h1 := srt_at h swoC hx hy (Nat.le_succ k)
  have h2 : ¬ cmpC y x < 0 := of_decide_eq_false h1
  rw [cmpC_flip x y] at h2
  rcases cmpC_range x y with h3 | h3 | h3
  · exact .inl h3
  · exact .inr h3
  · rw [h3] at h2; exact absurd (by decide) h2
set_option maxRecDepth 100000 in
set_option maxHeartbeats 8000000 in
theorem lpages_law (X : Option Addr) (l : List CardM) (c : Nat) (f : Nat) (w : World) (hr : RdCards w w.heap.size X l) (hc : l.length ≤ c) (hb : c ≤ 4398046511104) (_ht : ∀ y ∈ l, ∀ u ∈ y.ls, ∀ q ∈ u.m, q.size ≤ 140737488355000) (hm : ML w) (hfr : f < 256) :
    Calls Tryd.prog 5 #[.slice X l.length c, .int .u8 (f : Int)] w fun e w' => e = .returned (.bool true) ∧ Below w.heap.size w w' := by
  have CF := kept (Chg.few_any X l c w hr (by omega))
  by_cases hfw : Chg.fewC l
  · rw [decide_eq_true hfw] at CF
    have hn : l.length ≤ 25 := hfw.1
    have HSH := kept (short_few hfw)
    have HL := kept hr
    have HM := kept hm
    clear hr hm hfw hc hb _ht
    have hrem : Int.tmod (f : Int) 10 = ((f % 10 : Nat) : Int) := (Int.ofNat_tmod f 10).symm
    have hN10 : f % 10 < 10 := Nat.mod_lt _ (by decide)
    have CS := kept (lsort_any X l c w (HL.out) (by omega) HSH.out HM.out)
    have HTS : Kept (∀ ys : List CardM, ys.map CardM.p = (stab ltC l).map CardM.p → Srt ltC ys ∧ ys.length = l.length ∧ Short ys ∧ ∀ x ∈ l, ∃ y ∈ ys, y.cid = x.cid) := ⟨fun ys h => ⟨srt_p _ _ h (stab_srt swoC l), by have := congrArg List.length h; simpa [stab_len] using this, short_p h fun x hx => HSH.out x ((stab_perm l).mem_iff.1 hx), fun x hx => by
      have h1 : x.p ∈ ys.map CardM.p := by rw [h]; exact List.mem_map_of_mem ((stab_perm l).mem_iff.2 hx)
      obtain ⟨y, hy, e⟩ := List.mem_map.1 h1
      exact ⟨y, hy, (title_p e).2⟩⟩⟩
    generalize (stab ltC l).map CardM.p = SP at *
    go_enter Tryd.func5, Tryd.ntmps5
    go_wp2_with fail
    refine CF.out.mono ?_
    rintro e w0 ⟨rfl, rfl⟩
    clear CF
    have hrn2 : IntKind.i64.wrap (1 + ((f % 10 : Nat) : Int)) = 1 + ((f % 10 : Nat) : Int) := IntWalk.i64_in _ (by omega)
    go_wp2_with fail
    refine CS.out.mono ?_
    rintro e w5 ⟨A3, c3, zs, rfl, hp, hro, hb5⟩
    obtain ⟨hsrt, hzl, hshz, hcids⟩ := HTS.out zs hp
    have HSRT := kept hsrt
    have HZL := kept hzl
    have HSZ := kept hshz
    have HCI := kept hcids
    have hz25 : zs.length ≤ 25 := by omega
    have HZ := kept hro.rd
    have HCP : Kept (zs.length ≤ c3) := ⟨hro.1.cap⟩
    have HB5 := kept hb5
    obtain ⟨N, hN⟩ : ∃ N : Nat, N = 1 + f % 10 := ⟨_, rfl⟩
    have hNi : 1 + (f : Int) % 10 = (N : Int) := by omega
    have hN1 : 1 ≤ N := by omega
    have hN2 : N ≤ 10 := by omega
    rw [hNi]
    clear hp hro hb5 CS hsrt hzl hshz hcids hrem hN10 hrn2 hN hNi HTS
    go_wp2_with fail
    go_loopw [7, 8] (fun av iv wr => ∃ (q : Nat) (A : Option Addr) (cm : Nat) (ys : List CardM), q ≤ 50 ∧ av = .slice A ys.length cm ∧ iv = .int .i64 (q : Int) ∧ Kept (ys.map CardM.p = (zs.take q).map CardM.p) ∧ Kept (RowF wr w5.heap.size A cm ys) ∧ Kept (Below w5.heap.size w5 wr)) (fun _ iv _ => zs.length - (intOf iv).toNat)
    case atStart => exact ⟨0, none, 0, [], Nat.zero_le _, rfl, rfl, ⟨rfl⟩, ⟨RowF.nil _ _⟩, ⟨Below.refl _ _⟩⟩
    case round =>
      obtain ⟨q, A, cm, ys, hq50, rfl, rfl, HYP, HRO, HBW⟩ := hrel
      have hy25 : ys.length ≤ 25 := by
        have := congrArg List.length HYP.out
        rw [List.length_map, List.length_map] at this
        have h2 := List.length_take_le' q zs
        omega
      by_cases hlt : q < zs.length
      · have hin : (q : Int) < (zs.length : Int) := by omega
        obtain ⟨hpg, hpl1, hpl2⟩ := page_at zs q N hlt hN1
        have CP := kept (page_any A3 zs c3 (q : Int) (N : Int) wr (HZ.out.next HBW.out) (HCP.out) (by omega))
        have HPL : Kept (∀ pg : List CardM, pg.map CardM.p = (pageL zs (q : Int) (N : Int)).map CardM.p → 1 ≤ pg.length ∧ pg.length ≤ N ∧ (ys ++ pg).map CardM.p = (zs.take (q + N)).map CardM.p) := ⟨fun pg h => by
          have := congrArg List.length h
          rw [List.length_map, List.length_map] at this
          exact ⟨by omega, by omega, by rw [List.map_append, HYP.out, h, hpg, List.take_add, List.map_append]⟩⟩
        generalize (pageL zs (q : Int) (N : Int)).map CardM.p = PG at *
        clear hpg hpl1 hpl2 HYP
        go_wp2_with fail
        refine CP.out.mono ?_
        rintro e w6 ⟨A6, c6, pg, rfl, hp6, hro6, hb6⟩
        obtain ⟨hl1, hl2, hcat⟩ := HPL.out pg hp6
        have HRO6 := kept (HRO.out.next hb6)
        have HB6 := kept (HBW.out.trans (hb6.mono HBW.out.size))
        have HPG := kept (hro6.mono HBW.out.size)
        have HCAT := kept hcat
        have hg1 : ¬ (pg.length : Int) < 1 := by omega
        have hg2 : ¬ (N : Int) < (pg.length : Int) := by omega
        have hrn : cardE.Rd w6 w6.heap.size A6 pg := hro6.rd.1
        have hz : (ys.length + pg.length) * 32 ≤ 140737488355328 := by omega
        have hbase := HB6.out.size
        have hoB := HRO6.out.1
        clear hp6 hro6 hb6 CP HPL hcat HRO HBW
        go_wp2_with (at_builtin; refine wpl_appEU _ cardE rfl (.tmp 42) (.tmp 43) 22 rfl w5.heap.size 28 Tryd.underlying22 Chg.card_info rfl _ ys rfl hoB _ _ _ _ pg rfl rfl hrn hz (by decide) hbase ?_; intro A9 c9 w9 r9 hr9 hown9 hu9 hx9)
        have HI9 : Kept (RowF w9 w5.heap.size A9 c9 r9) := ⟨HRO6.out.turn (hu9 _ fun _ e => e) hown9 fun y hy => by
          rw [hr9.out] at hy
          rcases List.mem_append.1 hy with h | h
          · exact HRO6.out.2 y h
          · exact HPG.out.2 y h⟩
        have HB9 := kept (HB6.out.trans ((HRO6.out.under (hu9 _ fun _ e => e) hbase).mono (Nat.le_refl _)))
        have HP9 : Kept (r9.map CardM.p = (zs.take (q + N)).map CardM.p) := ⟨by rw [hr9.out, HCAT.out]⟩
        clear hr9 hown9 hu9 hx9 hrn hz hbase hoB HRO6 HB6 HPG HCAT hy25
        go_wp2_with fail
        go_roundw
        case rel => exact ⟨q + N, A9, c9, r9, by omega, rfl, by go_num, HP9, HI9, HB9⟩
        case measure => simp [intOf]; omega
      · have hge : ¬ (q : Int) < (zs.length : Int) := by omega
        have HAL : Kept (ys.map CardM.p = zs.map CardM.p) := ⟨by rw [HYP.out, List.take_of_length_le (by omega)]⟩
        clear HYP hlt
        obtain ⟨w7, hw7⟩ : ∃ w7 : World, w7 = wr := ⟨_, rfl⟩
        have HB7 := kept (HB5.out.trans (HBW.out.mono HB5.out.size))
        have HZ7 := kept (HZ.out.next HBW.out)
        have HY7 := kept HRO.out.rd
        rw [← hw7] at HB7 HZ7 HY7 ⊢
        clear hw7 HRO HBW HZ HB5
        go_wp2_with fail
        go_loopw [10] (fun iv wr => ∃ k : Nat, k ≤ 50 ∧ (k = 0 ∨ k < zs.length) ∧ iv = .int .i64 ((k : Int) + 1) ∧ Kept (Below w7.heap.size w7 wr)) (fun iv _ => zs.length - (intOf iv).toNat)
        case atStart => exact ⟨0, Nat.zero_le _, .inl rfl, rfl, ⟨Below.refl _ _⟩⟩
        case round =>
          obtain ⟨k, hk50, hk0, rfl, HBW⟩ := hrel
          by_cases hlt : k + 1 < zs.length
          · have hin : (k : Int) + 1 < (zs.length : Int) := by omega
            have hin1 : (k : Int) < (zs.length : Int) := by omega
            have hk00 : (0 : Int) ≤ (k : Int) := by omega
            have hk01 : (0 : Int) ≤ (k : Int) + 1 := by omega
            obtain ⟨x, hx⟩ : ∃ x, zs[k]? = some x := ⟨_, List.getElem?_eq_getElem (show k < zs.length by omega)⟩
            obtain ⟨y, hy⟩ : ∃ y, zs[k + 1]? = some y := ⟨_, List.getElem?_eq_getElem hlt⟩
            have HZ := cmp_rises HSRT.out hx hy
            obtain ⟨b, o, rfl, hbB, u0, u1, hxo⟩ := card_at HZ7.out hx
            obtain ⟨b2, o2, e2, -, v0, v1, hyo⟩ := card_at HZ7.out hy
            obtain ⟨rfl, rfl⟩ : b = b2 ∧ o = o2 := by injection e2 with h1; injection h1 with h2 h3 _; exact ⟨h2, h3⟩
            have HCL := kept (And.intro (And.intro u0 u1) (And.intro v0 v1))
            have hbw := HBW.out
            have HS : Kept (∀ W, Below wr.heap.size wr W → W.cell? ⟨b, o + k * 2, none⟩ = some (.int .u64 (x.cid : Int)) ∧ W.cell? ⟨b, o + k * 2 + 1, none⟩ = some (.slice x.X x.ls.length x.c) ∧ W.cell? ⟨b, o + (k + 1) * 2, none⟩ = some (.int .u64 (y.cid : Int)) ∧ W.cell? ⟨b, o + (k + 1) * 2 + 1, none⟩ = some (.slice y.X y.ls.length y.c)) := ⟨fun W h => by
              have hb := hbw.trans (h.mono hbw.size)
              exact ⟨(hb.cell (p := ⟨b, o + k * 2, none⟩) hbB).trans HCL.out.1.1, (hb.cell (p := ⟨b, o + k * 2 + 1, none⟩) hbB).trans HCL.out.1.2, (hb.cell (p := ⟨b, o + (k + 1) * 2, none⟩) hbB).trans HCL.out.2.1, (hb.cell (p := ⟨b, o + (k + 1) * 2 + 1, none⟩) hbB).trans HCL.out.2.2⟩⟩
            have CXY := kept (fun (W : World) (h : Below wr.heap.size wr W) => lcmp_any x y W (hxo.next (hbw.trans (h.mono hbw.size))) (hyo.next (hbw.trans (h.mono hbw.size))) (HM.out.next (HB7.out.trans ((hbw.trans (h.mono hbw.size)).mono HB7.out.size))) (HSZ.out x (List.mem_of_getElem? hx)) (HSZ.out y (List.mem_of_getElem? hy)))
            generalize cmpC x y = zxy at *
            clear u0 u1 v0 v1 hyo hxo hy hx e2 HCL hbw
            obtain ⟨xcid, xX, xls, xc⟩ := x
            obtain ⟨ycid, yX, yls, yc⟩ := y
            unfold CardM.val at CXY
            dsimp only at HS CXY
            go_upto_region 16 with fail
            go_cut [61] (fun a wr' => a = .bool false ∧ Kept (Below wr.heap.size wr wr'))
            case first =>
              have hd0 : Below wr.heap.size wr wr := Below.refl _ _
              have hw1 : IntKind.i64.wrap (k : Int) = (k : Int) := IntWalk.i64_in _ (by omega)
              have ht1 : ((k : Int) + 1).toNat = k + 1 := by omega
              clear HBW
              rcases HZ with rfl | rfl
              · as_aux_lemma =>
                refine wp_region_noPanic ?_
                refine wp_region_held_drew (S := fun W => W.cell? ⟨b, o + k * 2, none⟩ = some (.int .u64 (xcid : Int)) ∧ W.cell? ⟨b, o + k * 2 + 1, none⟩ = some (.slice xX xls.length xc) ∧ W.cell? ⟨b, o + (k + 1) * 2, none⟩ = some (.int .u64 (ycid : Int)) ∧ W.cell? ⟨b, o + (k + 1) * 2 + 1, none⟩ = some (.slice yX yls.length yc)) (by kernel_rfl) (HS.out _ (by (repeat (first | with_reducible assumption | with_reducible refine below_new ?_ _ | with_reducible refine Below.drew ?_ | with_reducible exact Below.refl _ _)))) (fun hS0 => ?_)
                refine wpAnyH_take (i := 0) (v := ?_) rfl (by kernel_rfl) (by kernel_rfl) (by kernel_rfl) (fun _ _ _ h => h) (Or.inl ⟨by rfl, ?_⟩) hS0 ?_
                case refine_2 => (intro W hSW; go_simp; try with_reducible rfl)
                try simp only [Act.put, List.setIfInBounds_toArray, List.set_cons_zero, List.set_cons_succ, List.getElem_toArray, List.getElem_cons_zero, List.getElem_cons_succ]
                refine wpAnyH_take (i := 1) (v := ?_) rfl (by kernel_rfl) (by kernel_rfl) (by kernel_rfl) (fun _ _ _ h => h) (Or.inl ⟨by rfl, ?_⟩) hS0 ?_
                case refine_2 => (intro W hSW; go_simp; try with_reducible rfl)
                try simp only [Act.put, List.setIfInBounds_toArray, List.set_cons_zero, List.set_cons_succ, List.getElem_toArray, List.getElem_cons_zero, List.getElem_cons_succ]
                refine wpAnyH_take (i := 2) (v := .int .i64 (k : Int)) rfl (by kernel_rfl) (by kernel_rfl) (by kernel_rfl) (fun _ _ _ h => h) (Or.inl ⟨by rfl, ?_⟩) hS0 ?_
                case refine_1 => (intro W hSW; go_simp; try (first | with_reducible rfl | exact hw1 | rfl))
                try simp only [Act.put, List.setIfInBounds_toArray, List.set_cons_zero, List.set_cons_succ, List.getElem_toArray, List.getElem_cons_zero, List.getElem_cons_succ]
                refine wpAnyH_take (i := 3) (v := ?_) rfl (by kernel_rfl) (by kernel_rfl) (by kernel_rfl) (fun _ _ _ h => h) (Or.inl ⟨by rfl, ?_⟩) hS0 ?_
                case refine_2 => (intro W hSW; go_simp; try with_reducible rfl)
                try simp only [Act.put, List.setIfInBounds_toArray, List.set_cons_zero, List.set_cons_succ, List.getElem_toArray, List.getElem_cons_zero, List.getElem_cons_succ]
                refine wpAnyH_take (i := 4) (v := ?_) rfl (by kernel_rfl) (by kernel_rfl) (by kernel_rfl) (fun _ _ _ h => h) (Or.inl ⟨by rfl, ?_⟩) hS0 ?_
                case refine_2 => (intro W hSW; obtain ⟨z0, z1, z2, z3⟩ := hSW; go_simp; try with_reducible rfl)
                try simp only [Act.put, List.setIfInBounds_toArray, List.set_cons_zero, List.set_cons_succ, List.getElem_toArray, List.getElem_cons_zero, List.getElem_cons_succ]
                refine wpAnyH_take (i := 5) (v := ?_) rfl (by kernel_rfl) (by kernel_rfl) (by kernel_rfl) (fun _ _ _ h => h) (Or.inl ⟨by rfl, ?_⟩) hS0 ?_
                case refine_2 => (intro W hSW; go_simp; try with_reducible rfl)
                try simp only [Act.put, List.setIfInBounds_toArray, List.set_cons_zero, List.set_cons_succ, List.getElem_toArray, List.getElem_cons_zero, List.getElem_cons_succ]
                refine wpAnyH_take (i := 6) (v := ?_) rfl (by kernel_rfl) (by kernel_rfl) (by kernel_rfl) (fun _ _ _ h => h) (Or.inl ⟨by rfl, ?_⟩) hS0 ?_
                case refine_2 => (intro W hSW; go_simp; try with_reducible rfl)
                try simp only [Act.put, List.setIfInBounds_toArray, List.set_cons_zero, List.set_cons_succ, List.getElem_toArray, List.getElem_cons_zero, List.getElem_cons_succ]
                refine wpAnyH_take (i := 7) (v := ?_) rfl (by kernel_rfl) (by kernel_rfl) (by kernel_rfl) (fun _ _ _ h => h) (Or.inl ⟨by rfl, ?_⟩) hS0 ?_
                case refine_2 => (intro W hSW; go_simp; try with_reducible rfl)
                try simp only [Act.put, List.setIfInBounds_toArray, List.set_cons_zero, List.set_cons_succ, List.getElem_toArray, List.getElem_cons_zero, List.getElem_cons_succ]
                refine wpAnyH_take (i := 8) (v := ?_) rfl (by kernel_rfl) (by kernel_rfl) (by kernel_rfl) (fun _ _ _ h => h) (Or.inl ⟨by rfl, ?_⟩) hS0 ?_
                case refine_2 => (intro W hSW; obtain ⟨z0, z1, z2, z3⟩ := hSW; go_simp; try with_reducible rfl)
                try simp only [Act.put, List.setIfInBounds_toArray, List.set_cons_zero, List.set_cons_succ, List.getElem_toArray, List.getElem_cons_zero, List.getElem_cons_succ]
                refine wpAnyH_ready (rs := [9]) (by kernel_rfl) (by simp) ?_
                refine AllReadyH.cons rfl (fun K' hK => ?_) AllReadyH.nil
                go_simp
                go_at_call 10
                refine (CXY.out _ (by (repeat (first | with_reducible assumption | with_reducible refine below_new ?_ _ | with_reducible refine Below.drew ?_ | with_reducible exact Below.refl _ _)))).mono ?_
                rintro e x1 ⟨rfl, hx1⟩
                have hk1 : Below wr.heap.size wr x1 := below_next (by (repeat (first | with_reducible assumption | with_reducible refine below_new ?_ _ | with_reducible refine Below.drew ?_ | with_reducible exact Below.refl _ _))) hx1
                try simp only [Act.put, List.setIfInBounds_toArray, List.set_cons_zero, List.set_cons_succ, List.getElem_toArray, List.getElem_cons_zero, List.getElem_cons_succ]
                refine hK.out _ _ (HS.out x1 hk1) (fun hS0 => ?_)
                refine wpAnyH_take (i := 10) (v := .bool false) rfl (by kernel_rfl) (by kernel_rfl) (by kernel_rfl) (fun _ _ _ h => h) (Or.inl ⟨by rfl, ?_⟩) hS0 ?_
                case refine_1 => (intro W hSW; go_simp; try (first | with_reducible rfl | exact hw1 | rfl))
                try simp only [Act.put, List.setIfInBounds_toArray, List.set_cons_zero, List.set_cons_succ, List.getElem_toArray, List.getElem_cons_zero, List.getElem_cons_succ]
                refine wpAnyH_done (by kernel_rfl) (NoPanic.normal ?_) _
                go_wp2_with fail
                go_meet
                exact ⟨by first | rfl | simp, ⟨(by (repeat (first | with_reducible assumption | with_reducible refine below_new ?_ _ | with_reducible refine Below.drew ?_ | with_reducible exact Below.refl _ _)))⟩⟩
              · as_aux_lemma =>
                refine wp_region_noPanic ?_
                refine wp_region_held_drew (S := fun W => W.cell? ⟨b, o + k * 2, none⟩ = some (.int .u64 (xcid : Int)) ∧ W.cell? ⟨b, o + k * 2 + 1, none⟩ = some (.slice xX xls.length xc) ∧ W.cell? ⟨b, o + (k + 1) * 2, none⟩ = some (.int .u64 (ycid : Int)) ∧ W.cell? ⟨b, o + (k + 1) * 2 + 1, none⟩ = some (.slice yX yls.length yc)) (by kernel_rfl) (HS.out _ (by (repeat (first | with_reducible assumption | with_reducible refine below_new ?_ _ | with_reducible refine Below.drew ?_ | with_reducible exact Below.refl _ _)))) (fun hS0 => ?_)
                refine wpAnyH_take (i := 0) (v := ?_) rfl (by kernel_rfl) (by kernel_rfl) (by kernel_rfl) (fun _ _ _ h => h) (Or.inl ⟨by rfl, ?_⟩) hS0 ?_
                case refine_2 => (intro W hSW; go_simp; try with_reducible rfl)
                try simp only [Act.put, List.setIfInBounds_toArray, List.set_cons_zero, List.set_cons_succ, List.getElem_toArray, List.getElem_cons_zero, List.getElem_cons_succ]
                refine wpAnyH_take (i := 1) (v := ?_) rfl (by kernel_rfl) (by kernel_rfl) (by kernel_rfl) (fun _ _ _ h => h) (Or.inl ⟨by rfl, ?_⟩) hS0 ?_
                case refine_2 => (intro W hSW; go_simp; try with_reducible rfl)
                try simp only [Act.put, List.setIfInBounds_toArray, List.set_cons_zero, List.set_cons_succ, List.getElem_toArray, List.getElem_cons_zero, List.getElem_cons_succ]
                refine wpAnyH_take (i := 2) (v := .int .i64 (k : Int)) rfl (by kernel_rfl) (by kernel_rfl) (by kernel_rfl) (fun _ _ _ h => h) (Or.inl ⟨by rfl, ?_⟩) hS0 ?_
                case refine_1 => (intro W hSW; go_simp; try (first | with_reducible rfl | exact hw1 | rfl))
                try simp only [Act.put, List.setIfInBounds_toArray, List.set_cons_zero, List.set_cons_succ, List.getElem_toArray, List.getElem_cons_zero, List.getElem_cons_succ]
                refine wpAnyH_take (i := 3) (v := ?_) rfl (by kernel_rfl) (by kernel_rfl) (by kernel_rfl) (fun _ _ _ h => h) (Or.inl ⟨by rfl, ?_⟩) hS0 ?_
                case refine_2 => (intro W hSW; go_simp; try with_reducible rfl)
                try simp only [Act.put, List.setIfInBounds_toArray, List.set_cons_zero, List.set_cons_succ, List.getElem_toArray, List.getElem_cons_zero, List.getElem_cons_succ]
                refine wpAnyH_take (i := 4) (v := ?_) rfl (by kernel_rfl) (by kernel_rfl) (by kernel_rfl) (fun _ _ _ h => h) (Or.inl ⟨by rfl, ?_⟩) hS0 ?_
                case refine_2 => (intro W hSW; obtain ⟨z0, z1, z2, z3⟩ := hSW; go_simp; try with_reducible rfl)
                try simp only [Act.put, List.setIfInBounds_toArray, List.set_cons_zero, List.set_cons_succ, List.getElem_toArray, List.getElem_cons_zero, List.getElem_cons_succ]
                refine wpAnyH_take (i := 5) (v := ?_) rfl (by kernel_rfl) (by kernel_rfl) (by kernel_rfl) (fun _ _ _ h => h) (Or.inl ⟨by rfl, ?_⟩) hS0 ?_
                case refine_2 => (intro W hSW; go_simp; try with_reducible rfl)
                try simp only [Act.put, List.setIfInBounds_toArray, List.set_cons_zero, List.set_cons_succ, List.getElem_toArray, List.getElem_cons_zero, List.getElem_cons_succ]
                refine wpAnyH_take (i := 6) (v := ?_) rfl (by kernel_rfl) (by kernel_rfl) (by kernel_rfl) (fun _ _ _ h => h) (Or.inl ⟨by rfl, ?_⟩) hS0 ?_
                case refine_2 => (intro W hSW; go_simp; try with_reducible rfl)
                try simp only [Act.put, List.setIfInBounds_toArray, List.set_cons_zero, List.set_cons_succ, List.getElem_toArray, List.getElem_cons_zero, List.getElem_cons_succ]
                refine wpAnyH_take (i := 7) (v := ?_) rfl (by kernel_rfl) (by kernel_rfl) (by kernel_rfl) (fun _ _ _ h => h) (Or.inl ⟨by rfl, ?_⟩) hS0 ?_
                case refine_2 => (intro W hSW; go_simp; try with_reducible rfl)
                try simp only [Act.put, List.setIfInBounds_toArray, List.set_cons_zero, List.set_cons_succ, List.getElem_toArray, List.getElem_cons_zero, List.getElem_cons_succ]
                refine wpAnyH_take (i := 8) (v := ?_) rfl (by kernel_rfl) (by kernel_rfl) (by kernel_rfl) (fun _ _ _ h => h) (Or.inl ⟨by rfl, ?_⟩) hS0 ?_
                case refine_2 => (intro W hSW; obtain ⟨z0, z1, z2, z3⟩ := hSW; go_simp; try with_reducible rfl)
                try simp only [Act.put, List.setIfInBounds_toArray, List.set_cons_zero, List.set_cons_succ, List.getElem_toArray, List.getElem_cons_zero, List.getElem_cons_succ]
                refine wpAnyH_ready (rs := [9]) (by kernel_rfl) (by simp) ?_
                refine AllReadyH.cons rfl (fun K' hK => ?_) AllReadyH.nil
                go_simp
                go_at_call 10
                refine (CXY.out _ (by (repeat (first | with_reducible assumption | with_reducible refine below_new ?_ _ | with_reducible refine Below.drew ?_ | with_reducible exact Below.refl _ _)))).mono ?_
                rintro e x1 ⟨rfl, hx1⟩
                have hk1 : Below wr.heap.size wr x1 := below_next (by (repeat (first | with_reducible assumption | with_reducible refine below_new ?_ _ | with_reducible refine Below.drew ?_ | with_reducible exact Below.refl _ _))) hx1
                try simp only [Act.put, List.setIfInBounds_toArray, List.set_cons_zero, List.set_cons_succ, List.getElem_toArray, List.getElem_cons_zero, List.getElem_cons_succ]
                refine hK.out _ _ (HS.out x1 hk1) (fun hS0 => ?_)
                refine wpAnyH_take (i := 10) (v := .bool false) rfl (by kernel_rfl) (by kernel_rfl) (by kernel_rfl) (fun _ _ _ h => h) (Or.inl ⟨by rfl, ?_⟩) hS0 ?_
                case refine_1 => (intro W hSW; go_simp; try (first | with_reducible rfl | exact hw1 | rfl))
                try simp only [Act.put, List.setIfInBounds_toArray, List.set_cons_zero, List.set_cons_succ, List.getElem_toArray, List.getElem_cons_zero, List.getElem_cons_succ]
                refine wpAnyH_done (by kernel_rfl) (NoPanic.normal ?_) _
                go_wp2_with fail
                go_meet
                exact ⟨by first | rfl | simp, ⟨(by (repeat (first | with_reducible assumption | with_reducible refine below_new ?_ _ | with_reducible refine Below.drew ?_ | with_reducible exact Below.refl _ _)))⟩⟩
            case rest =>
              obtain ⟨rfl, hcut⟩ := hcut
              have HBC := kept (HBW.out.trans (hcut.out.mono HBW.out.size))
              clear hcut HS CXY HBW
              go_wp2_with fail
              go_roundw
              case rel => exact ⟨k + 1, by omega, .inr hlt, by go_num, HBC⟩
              case measure => simp [intOf]; omega
          · have hge : ¬ (k : Int) + 1 < (zs.length : Int) := by omega
            obtain ⟨w8, hw8⟩ : ∃ w8 : World, w8 = wr := ⟨_, rfl⟩
            have HB8 := kept (HB7.out.trans (HBW.out.mono HB7.out.size))
            have HZ8 := kept (HZ7.out.next HBW.out)
            have HY8 := kept (HY7.out.next HBW.out)
            rw [← hw8] at HB8 HZ8 HY8 ⊢
            clear hw8 HBW HZ7 HY7 HB7
            go_wp2_with fail
            go_loopw [11] (fun iv wr => ∃ k : Nat, k ≤ l.length ∧ iv = .int .i64 (k : Int) ∧ Kept (Below w8.heap.size w8 wr)) (fun iv _ => l.length - (intOf iv).toNat)
            case atStart => exact ⟨0, Nat.zero_le _, rfl, ⟨Below.refl _ _⟩⟩
            case round =>
              obtain ⟨j, hj, rfl, HBW⟩ := hrel
              by_cases hlt : j < l.length
              · have hin : (j : Int) < (l.length : Int) := by omega
                have hj00 : (0 : Int) ≤ (j : Int) := by omega
                obtain ⟨x, hx⟩ : ∃ x, l[j]? = some x := ⟨_, List.getElem?_eq_getElem hlt⟩
                obtain ⟨y, hy, hxy⟩ := HCI.out x (List.mem_of_getElem? hx)
                have HGE : Kept (∀ r, idxK x.cid zs r → 0 ≤ r) := ⟨fun r h => idxK_mem h hy hxy⟩
                have HB := kept (HB8.out.trans (HBW.out.mono HB8.out.size))
                obtain ⟨b, o, rfl, hbB, u0, -, -⟩ := card_at HL.out hx
                have x0 := (HB.out.cell (p := ⟨b, o + j * 2, none⟩) hbB).trans u0
                have CA := kept (lat_any A3 c3 zs x.cid wr (HZ8.out.next HBW.out) (by omega))
                generalize x.cid = xcid at *
                clear hx hy hxy u0
                go_wp2_with fail
                refine CA.out.mono ?_
                rintro e w9 ⟨⟨r, rfl, hri⟩, hb9⟩
                have hrz := HGE.out r hri
                have hrz2 : ¬ r < 0 := by omega
                have HB9 := kept (HBW.out.trans (hb9.mono HBW.out.size))
                clear hri hb9 CA HGE HB HBW x0
                go_wp2_with fail
                go_roundw
                case rel => exact ⟨j + 1, by omega, by go_num, HB9⟩
                case measure => simp [intOf]; omega
              · obtain rfl : j = l.length := by omega
                have hge : ¬ (l.length : Int) < (l.length : Int) := by omega
                have CL := kept (rall_any A A3 ys.length zs.length cm c3 ys zs wr rfl rfl (HY8.out.next HBW.out) (HZ8.out.next HBW.out) (by omega))
                rw [decide_eq_true HAL.out] at CL
                have HB9 := kept (HB8.out.trans (HBW.out.mono HB8.out.size))
                have heq : ((zs.length : Int) == (l.length : Int)) = true := by rw [HZL.out]; exact beq_self_eq_true _
                clear HBW HB8
                go_wp2_with fail
                refine CL.out.mono ?_
                rintro e w10 ⟨rfl, hb10⟩
                have HB10 := kept (HB9.out.trans (hb10.mono HB9.out.size))
                clear hb10 CL HB9
                go_wp2_with fail
                refine (lworks_any _ (HM.out.next HB10.out)).mono ?_
                rintro e w13 ⟨rfl, hb13⟩
                have HB13 := kept (HB10.out.trans (hb13.mono HB10.out.size))
                clear hb13 HB10
                go_wp2_with fail
                go_ret
                exact ⟨rfl, HB13.out⟩
  · rw [decide_eq_false hfw] at CF
    clear hr hfw
    go_enter Tryd.func5, Tryd.ntmps5
    go_wp2_with fail
    refine CF.out.mono ?_
    rintro e w0 ⟨rfl, rfl⟩
    go_wp2_with fail
    refine (lworks_any _ hm).mono ?_
    rintro e w8 ⟨rfl, hb8⟩
    go_wp2_with fail
    go_ret
    exact ⟨rfl, hb8⟩
end Go.Proofs.YtfkfpanhbanljaaDoor.List44
