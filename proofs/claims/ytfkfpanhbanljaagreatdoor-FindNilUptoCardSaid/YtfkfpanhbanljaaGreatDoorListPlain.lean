/- Layer 44 (list): the plain law of ListOrders: cards of unlike numbers are sorted alike, in whichever order they came; what may be written while the list is marked. -/
import Derived.Test.YtfkfpanhbanljaaGreatDoorSet43
import Derived.Test.YtfkfpanhbanljaaGreatDoorListRSort
import Derived.Test.YtfkfpanhbanljaaGreatDoorTwinPerm
import Derived.Test.YtfkfpanhbanljaaGreatDoorSet14
namespace Go.Proofs.YtfkfpanhbanljaaGreatDoor.List44
open Go.RowKit Go.Proofs.YtfkfpanhbanljaaGreatDoor.Mem Go.Proofs.YtfkfpanhbanljaaGreatDoor.Card Go.Proofs.YtfkfpanhbanljaaGreatDoor.Laid Go.Proofs.YtfkfpanhbanljaaGreatDoor.Fold Go.Proofs.YtfkfpanhbanljaaGreatDoor.Twin Go.Proofs.YtfkfpanhbanljaaGreatDoor.Stab

/-- all numbers so far are unlike -/
def Unlike (l : List CardM) (i k : Nat) : Prop := (∀ a b, a < i → b < a → cidAt l a ≠ cidAt l b) ∧ ∀ b, b < k → cidAt l i ≠ cidAt l b
theorem unlike_next {l : List CardM} {i k : Nat} (h : Unlike l i k) (hne : cidAt l i ≠ cidAt l k) : Unlike l i (k + 1) := ⟨h.1, fun b hb => by
  rcases Nat.lt_succ_iff_lt_or_eq.1 hb with h1 | rfl
  · exact h.2 b h1
  · exact hne⟩
theorem unlike_row {l : List CardM} {i : Nat} (h : Unlike l i i) : Unlike l (i + 1) 0 := ⟨fun a b ha hb => by
  rcases Nat.lt_succ_iff_lt_or_eq.1 ha with h1 | rfl
  · exact h.1 a b h1 hb
  · exact h.2 b hb, fun b hb => absurd hb (Nat.not_lt_zero _)⟩
def Dist (l : List CardM) : Prop := ∀ x y, x < l.length → y < l.length → cidAt l x = cidAt l y → x = y
theorem unlike_all {l : List CardM} (h : Unlike l l.length 0) : Dist l := fun x y hx hy e => by
  rcases Nat.lt_trichotomy x y with h1 | h1 | h1
  · exact absurd e.symm (h.1 y x hy h1)
  · exact h1
  · exact absurd e (h.1 x y hx h1)
theorem dist_turned {l : List CardM} (f : Nat) (h : Dist l) : Dist (turned f l) := fun x y hx hy e => by
  rw [turned_len] at hx hy
  unfold cidAt at e
  rw [turned_at hx, turned_at hy] at e
  have h1 := h _ _ (turn_lt (f := f) hx) (turn_lt (f := f) hy) e
  have h2 := turn_back (f := f) hx
  rw [h1, turn_back hy] at h2
  exact h2.symm
theorem mem_turned {l : List CardM} {f : Nat} {x : CardM} (h : x ∈ l) : x ∈ turned f l := by
  obtain ⟨i, hi, e⟩ := List.mem_iff_getElem.1 h
  have hg := turned_at (f := f) (l := l) (turn_lt (f := f) hi)
  rw [turn_back hi] at hg
  have h1 : l.getD i cz = x := by simp [List.getD, hi, e]
  rw [h1] at hg
  have hl : turnP l.length f i < (turned f l).length := by rw [turned_len]; exact turn_lt hi
  rw [← hg]
  simp [List.getD, hl]
theorem dist_pair {l : List CardM} (h : Dist l) : l.Pairwise fun x y => x.cid ≠ y.cid := by
  rw [List.pairwise_iff_getElem]
  intro i j hi hj hij e
  have := h i j hi hj (by unfold cidAt; simp [List.getD, hi, hj, e])
  omega
theorem strict_two {x y : CardM} (a1 : x.cid ≠ y.cid) (a2 : ltC y x = false) : ltC x y = true := by
  have a3 : ¬ cmpC y x < 0 := of_decide_eq_false a2
  have a4 := cmpC_flip x y
  have a5 : cmpC x y < 0 := by
    rcases cmpC_range x y with h | h | h
    · rw [h]; decide
    · exact absurd (cmpC_zero.1 h).2 a1
    · rw [a4, h] at a3; exact absurd (by decide) a3
  exact decide_eq_true a5
theorem strict_of {l : List CardM} (h : Dist l) : (stab ltC l).Pairwise fun x y => ltC x y = true := by
  have h1 : (stab ltC l).Pairwise fun x y => x.cid ≠ y.cid := (stab_perm l).symm.pairwise (dist_pair h) fun hxy e => hxy e.symm
  have h2 := stab_srt swoC l
  unfold Srt at h2
  rw [List.pairwise_iff_getElem] at h1 h2 ⊢
  intro i j hi hj hij
  have a1 := h1 i j hi hj hij
  have a2 := h2 i j hi hj hij
  exact strict_two a1 a2
theorem eq_of_strict {α : Type} {lt : α → α → Bool} (hi : ∀ x, lt x x = false) (has : ∀ x y, lt x y = true → lt y x = true → False) : ∀ (a b : List α), (a.Pairwise fun x y => lt x y = true) → (b.Pairwise fun x y => lt x y = true) → (∀ x, x ∈ a ↔ x ∈ b) → a = b
  | [], [], _, _, _ => rfl
  | [], y :: b, _, _, h => by have := (h y).2 (List.mem_cons_self ..); cases this
  | x :: a, [], _, _, h => by have := (h x).1 (List.mem_cons_self ..); cases this
  | x :: a, y :: b, ha, hb, h => by
    rw [List.pairwise_cons] at ha hb
    obtain rfl : x = y := by
      rcases List.mem_cons.1 ((h x).1 (List.mem_cons_self ..)) with e | e
      · exact e
      · rcases List.mem_cons.1 ((h y).2 (List.mem_cons_self ..)) with e2 | e2
        · exact e2.symm
        · exact (has _ _ (hb.1 x e) (ha.1 y e2)).elim
    rw [eq_of_strict hi has a b ha.2 hb.2 fun z => ?_]
    constructor
    · intro hz
      rcases List.mem_cons.1 ((h z).1 (List.mem_cons_of_mem _ hz)) with e | e
      · subst e
        have := ha.1 z hz
        rw [hi] at this
        cases this
      · exact e
    · intro hz
      rcases List.mem_cons.1 ((h z).2 (List.mem_cons_of_mem _ hz)) with e | e
      · subst e
        have := hb.1 z hz
        rw [hi] at this
        cases this
      · exact e
/-- sorted alike, in whichever order they came -/
theorem stab_turned {l : List CardM} (f : Nat) (h : Dist l) : stab ltC (turned f l) = stab ltC l :=
  eq_of_strict (lt := ltC) (fun x => by
    unfold ltC
    have := cmpC_flip x x
    exact decide_eq_false (by omega)) (fun x y h1 h2 => by
    unfold ltC at h1 h2
    have h1 := of_decide_eq_true h1
    have h2 := of_decide_eq_true h2
    have := cmpC_flip x y
    omega) _ _ (strict_of (dist_turned f h)) (strict_of h) fun x => by
    rw [(stab_perm (turned f l)).mem_iff, (stab_perm l).mem_iff]
    exact ⟨turned_mem, mem_turned⟩
/-- two of unlike numbers are never alike -/
theorem cmp_unlike {x y : CardM} (h : x.cid ≠ y.cid) : (cmpC x y = 1 ∧ cmpC y x = -1) ∨ (cmpC x y = -1 ∧ cmpC y x = 1) := by
  have h1 := cmpC_flip x y
  rcases cmpC_range x y with h2 | h2 | h2
  · right; omega
  · exact absurd (cmpC_zero.1 h2).2 h
  · left; omega
theorem short_few {l : List CardM} (h : Chg.fewC l) : Short l := fun x hx => by
  have h1 := (h.2 x hx).2
  have := title_size (ls := x.ls) (n := 200) fun z hz => (h1 z hz).1
  omega
/-- few lines, short texts -/
def Tiny (l : List CardM) : Prop := ∀ x ∈ l, x.ls.length ≤ 12 ∧ ∀ z ∈ x.ls, z.t.size ≤ 200
theorem tiny_few {l : List CardM} (h : Chg.fewC l) : Tiny l := fun x hx => ⟨(h.2 x hx).1, fun z hz => ((h.2 x hx).2 z hz).1⟩
theorem tiny_p {a b : List CardM} (h : a.map CardM.p = b.map CardM.p) (hb : Tiny b) : Tiny a := fun x hx => by
  have h1 : x.p ∈ b.map CardM.p := by rw [← h]; exact List.mem_map_of_mem hx
  obtain ⟨y, hy, e⟩ := List.mem_map.1 h1
  have h2 : y.ls.map LineM.p = x.ls.map LineM.p := congrArg Prod.snd e
  refine ⟨?_, fun z hz => ?_⟩
  · have := congrArg List.length h2
    simp only [List.length_map] at this
    rw [← this]
    exact (hb y hy).1
  · have h3 : z.p ∈ y.ls.map LineM.p := by rw [h2]; exact List.mem_map_of_mem hz
    obtain ⟨u, hu, e3⟩ := List.mem_map.1 h3
    have : u.t = z.t := congrArg (fun q => q.2.1) e3
    rw [← this]
    exact (hb y hy).2 u hu
/-- cards whose lines' texts may be written: what is known of their memory while that is done, behind N writes -/
def WkSt (w W : World) (base : Nat) (A : Option Addr) (ys : List CardM) (N : Nat) : Prop :=
  Below base w W ∧ ∀ (i : Nat) (y : CardM), ys[i]? = some y → y.ls.length ≤ 60 ∧ ∃ r, A = some ⟨r, 0, none⟩ ∧ W.cell? ⟨r, i * 2 + 1, none⟩ = some (.slice y.X y.ls.length y.c) ∧
    ∀ k, k < y.ls.length → ∃ g, y.X = some ⟨g, 0, none⟩ ∧ g ≠ r ∧ base ≤ g ∧ (∃ t : ByteArray, W.cell? ⟨g, k * 3 + 1, none⟩ = some (.string t) ∧ t.size ≤ 1000 + N) ∧ W.frozen? ⟨g, k * 3 + 1, none⟩ = false
theorem WkSt.start {w : World} {base : Nat} {A : Option Addr} {c : Nat} {ys : List CardM} (h : RowF w base A c ys) (hb : Tiny ys) : WkSt w w base A ys 0 := by
  refine ⟨Below.refl _ _, fun i y hy => ?_⟩
  have hk := hb y (List.mem_of_getElem? hy)
  have hf := h.2 y (List.mem_of_getElem? hy)
  refine ⟨by have := hk.1; omega, ?_⟩
  obtain ⟨r, rfl, hbr, hrw, hc, -, -⟩ := h.1.spot (i := i) (j := 1) hy rfl
  refine ⟨r, rfl, hc, fun k hkl => ?_⟩
  have hz := List.getElem?_eq_getElem hkl
  obtain ⟨g, hX, hbg, hgw, hcg, hfg, -⟩ := hf.2.1.spot (i := k) (j := 1) hz rfl
  refine ⟨g, hX, fun e => ?_, hbg, ⟨_, hcg, ?_⟩, hfg⟩
  · have := OwnK.apart hf.2.1 h.1 (by decide)
    rw [hX, e] at this
    rcases this with h1 | h1
    · cases h1
    · exact h1 rfl
  · have := hk.2 _ (List.getElem_mem hkl)
    omega
theorem WkSt.drew {w W : World} {base N : Nat} {A : Option Addr} {ys : List CardM} (h : WkSt w W base A ys N) : WkSt w W.drew base A ys N := ⟨h.1.drew, h.2⟩
theorem WkSt.more {w W : World} {base N M : Nat} {A : Option Addr} {ys : List CardM} (h : WkSt w W base A ys N) (hm : N ≤ M) : WkSt w W base A ys M := ⟨h.1, fun i y hy => by
  obtain ⟨h1, r, h2, h3, h4⟩ := h.2 i y hy
  refine ⟨h1, r, h2, h3, fun k hk => ?_⟩
  obtain ⟨g, e1, e2, e3, ⟨t, e4, e5⟩, e6⟩ := h4 k hk
  exact ⟨g, e1, e2, e3, ⟨t, e4, by omega⟩, e6⟩⟩
theorem WkSt.set {w W : World} {base N : Nat} {r : Nat} {ys : List CardM} (h : WkSt w W base (some ⟨r, 0, none⟩) ys N) {g k : Nat} (hg : base ≤ g) (hne : g ≠ r) {t0 : ByteArray} (hc : W.cell? ⟨g, k * 3 + 1, none⟩ = some (.string t0)) {t : ByteArray} (ht : t.size ≤ 1000 + (N + 1)) : WkSt w (W.setCell ⟨g, k * 3 + 1, none⟩ (.string t)) base (some ⟨r, 0, none⟩) ys (N + 1) := by
  refine ⟨h.1.setCell (p := ⟨g, k * 3 + 1, none⟩) hg _, fun i y hy => ?_⟩
  obtain ⟨h1, r1, h2, h3, h4⟩ := h.2 i y hy
  obtain rfl : r = r1 := congrArg Addr.block (Option.some.inj h2)
  refine ⟨h1, r, rfl, ?_, fun j hj => ?_⟩
  · rw [World.cell?_setCell_other W _ _ _ (fun e => hne (congrArg Addr.block e))]; exact h3
  · obtain ⟨g1, e1, e2, e3, ⟨t1, e4, e5⟩, e6⟩ := h4 j hj
    refine ⟨g1, e1, e2, e3, ?_, by rw [World.frozen?_setCell]; exact e6⟩
    by_cases he : (⟨g, k * 3 + 1, none⟩ : Addr) = ⟨g1, j * 3 + 1, none⟩
    · rw [← he]
      exact ⟨t, World.cell?_setCell_same W _ _ hc, by omega⟩
    · exact ⟨t1, by rw [World.cell?_setCell_other W _ _ _ he]; exact e4, by omega⟩
end Go.Proofs.YtfkfpanhbanljaaGreatDoor.List44
