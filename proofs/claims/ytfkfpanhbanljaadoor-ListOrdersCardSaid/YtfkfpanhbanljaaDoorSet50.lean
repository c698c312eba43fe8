import Derived.Test.YtfkfpanhbanljaaDoorSet43
import Derived.Test.YtfkfpanhbanljaaDoorListRSort
import Derived.Test.YtfkfpanhbanljaaDoorTwinPerm
import Derived.Test.YtfkfpanhbanljaaDoorSet14
import Derived.Test.YtfkfpanhbanljaaDoorSet7
import Derived.Test.YtfkfpanhbanljaaDoorHeldCall
import Derived.Deep.RegionLaw
import Derived.BigQuiet
import Derived.Deep.DeepCutAuto
/- Layer 44 (list): the plain law of ListOrders: cards of unlike numbers are sorted alike, in whichever order they came; what may be written while the list is marked. -/
namespace Go.Proofs.YtfkfpanhbanljaaDoor.List44
open Go.RowKit Go.Proofs.YtfkfpanhbanljaaDoor.Mem Go.Proofs.YtfkfpanhbanljaaDoor.Card Go.Proofs.YtfkfpanhbanljaaDoor.Laid Go.Proofs.YtfkfpanhbanljaaDoor.Fold Go.Proofs.YtfkfpanhbanljaaDoor.Twin Go.Proofs.YtfkfpanhbanljaaDoor.Stab

/-- all numbers so far are unlike -/
def Unlike (l : List CardM) (i k : Nat) : Prop := (∀ a b, a < i → b < a → cidAt l a ≠ cidAt l b) ∧ ∀ b, b < k → cidAt l i ≠ cidAt l b
theorem unlike_next {l : List CardM} {i k : Nat} (h : Unlike l i k) (hne : cidAt l i ≠ cidAt l k) : Unlike l i (k + 1) := ⟨h.1, fun b hb => by
  rcases Nat.lt_succ_iff_lt_or_eq.1 hb with h1 | rfl
  · exact h.2 b h1
  · exact hne⟩
theorem unlike_row {l : List CardM} {i : Nat} (h : Unlike l i i) : Unlike l (i + 1) 0 := ⟨fun a b ha hb => by
  rcases Nat.lt_succ_iff_lt_or_eq.1 ha with h1 | rfl
  · exact h.1 a b h1 hb
  · exact h.2 b hb, fun b hb => absurd hb (Nat.not_lt_zero _)⟩
def Dist (l : List CardM) : Prop := ∀ x y, x < l.length → y < l.length → cidAt l x = cidAt l y → x = y
theorem unlike_all {l : List CardM} (h : Unlike l l.length 0) : Dist l := fun x y hx hy e => by
  rcases Nat.lt_trichotomy x y with h1 | h1 | h1
  · exact absurd e.symm (h.1 y x hy h1)
  · exact h1
  · exact absurd e (h.1 x y hx h1)
theorem dist_turned {l : List CardM} (f : Nat) (h : Dist l) : Dist (turned f l) := fun x y hx hy e => by
  rw [turned_len] at hx hy
  unfold cidAt at e
  rw [turned_at hx, turned_at hy] at e
  have h1 := h _ _ (turn_lt (f := f) hx) (turn_lt (f := f) hy) e
  have h2 := turn_back (f := f) hx
  rw [h1, turn_back hy] at h2
  exact h2.symm
theorem mem_turned {l : List CardM} {f : Nat} {x : CardM} (h : x ∈ l) : x ∈ turned f l := by
  obtain ⟨i, hi, e⟩ := List.mem_iff_getElem.1 h
  have hg := turned_at (f := f) (l := l) (turn_lt (f := f) hi)
  rw [turn_back hi] at hg
  have h1 : l.getD i cz = x := by simp [List.getD, hi, e]
  rw [h1] at hg
  have hl : turnP l.length f i < (turned f l).length := by rw [turned_len]; exact turn_lt hi
  rw [← hg]
  simp [List.getD, hl]
theorem dist_pair {l : List CardM} (h : Dist l) : l.Pairwise fun x y => x.cid ≠ y.cid := by
  rw [List.pairwise_iff_getElem]
  intro i j hi hj hij e
  have := h i j hi hj (by unfold cidAt; simp [List.getD, hi, hj, e])
  omega
theorem strict_two {x y : CardM} (a1 : x.cid ≠ y.cid) (a2 : ltC y x = false) : ltC x y = true := by
  have a3 : ¬ cmpC y x < 0 := of_decide_eq_false a2
  have a4 := cmpC_flip x y
  have a5 : cmpC x y < 0 := by
    rcases cmpC_range x y with h | h | h
    · rw [h]; decide
    · exact absurd (cmpC_zero.1 h).2 a1
    · rw [a4, h] at a3; exact absurd (by decide) a3
  exact decide_eq_true a5
theorem strict_of {l : List CardM} (h : Dist l) : (stab ltC l).Pairwise fun x y => ltC x y = true := by
  have h1 : (stab ltC l).Pairwise fun x y => x.cid ≠ y.cid := (stab_perm l).symm.pairwise (dist_pair h) fun hxy e => hxy e.symm
  have h2 := stab_srt swoC l
  unfold Srt at h2
  rw [List.pairwise_iff_getElem] at h1 h2 ⊢
  intro i j hi hj hij
  have a1 := h1 i j hi hj hij
  have a2 := h2 i j hi hj hij
  exact strict_two a1 a2
theorem eq_of_strict {α : Type} {lt : α → α → Bool} (hi : ∀ x, lt x x = false) (has : ∀ x y, lt x y = true → lt y x = true → False) : ∀ (a b : List α), (a.Pairwise fun x y => lt x y = true) → (b.Pairwise fun x y => lt x y = true) → (∀ x, x ∈ a ↔ x ∈ b) → a = b
  | [], [], _, _, _ => rfl
  | [], y :: b, _, _, h => by have := (h y).2 (List.mem_cons_self ..); cases this
  | x :: a, [], _, _, h => by have := (h x).1 (List.mem_cons_self ..); cases this
  | x :: a, y :: b, ha, hb, h => by
    rw [List.pairwise_cons] at ha hb
    obtain rfl : x = y := by
      rcases List.mem_cons.1 ((h x).1 (List.mem_cons_self ..)) with e | e
      · exact e
      · rcases List.mem_cons.1 ((h y).2 (List.mem_cons_self ..)) with e2 | e2
        · exact e2.symm
        · exact (has _ _ (hb.1 x e) (ha.1 y e2)).elim
    rw [eq_of_strict hi has a b ha.2 hb.2 fun z => ?_]
    constructor
    · intro hz
      rcases List.mem_cons.1 ((h z).1 (List.mem_cons_of_mem _ hz)) with e | e
      · subst e
        have := ha.1 z hz
        rw [hi] at this
        cases this
      · exact e
    · intro hz
      rcases List.mem_cons.1 ((h z).2 (List.mem_cons_of_mem _ hz)) with e | e
      · subst e
        have := hb.1 z hz
        rw [hi] at this
        cases this
      · exact e
/-- sorted alike, in whichever order they came -/
theorem stab_turned {l : List CardM} (f : Nat) (h : Dist l) : stab ltC (turned f l) = stab ltC l :=
  eq_of_strict (lt := ltC) (fun x => by
    unfold ltC
    have := cmpC_flip x x
    exact decide_eq_false (by omega)) (fun x y h1 h2 => by
    unfold ltC at h1 h2
    have h1 := of_decide_eq_true h1
    have h2 := of_decide_eq_true h2
    have := cmpC_flip x y
    omega) _ _ (strict_of (dist_turned f h)) (strict_of h) fun x => by
    rw [(stab_perm (turned f l)).mem_iff, (stab_perm l).mem_iff]
    exact ⟨turned_mem, mem_turned⟩
/-- two of unlike numbers are never alike -/
theorem cmp_unlike {x y : CardM} (h : x.cid ≠ y.cid) : (cmpC x y = 1 ∧ cmpC y x = -1) ∨ (cmpC x y = -1 ∧ cmpC y x = 1) := by
  have h1 := cmpC_flip x y
  rcases cmpC_range x y with h2 | h2 | h2
  · right; omega
  · exact absurd (cmpC_zero.1 h2).2 h
  · left; omega
theorem short_few {l : List CardM} (h : Chg.fewC l) : Short l := fun x hx => by
  have h1 := (h.2 x hx).2
  have := title_size (ls := x.ls) (n := 200) fun z hz => (h1 z hz).1
  omega
/-- few lines, short texts -/
def Tiny (l : List CardM) : Prop := ∀ x ∈ l, x.ls.length ≤ 12 ∧ ∀ z ∈ x.ls, z.t.size ≤ 200
theorem tiny_few {l : List CardM} (h : Chg.fewC l) : Tiny l := fun x hx => ⟨(h.2 x hx).1, fun z hz => ((h.2 x hx).2 z hz).1⟩
theorem tiny_p {a b : List CardM} (h : a.map CardM.p = b.map CardM.p) (hb : Tiny b) : Tiny a := fun x hx => by
  have h1 : x.p ∈ b.map CardM.p := by rw [← h]; exact List.mem_map_of_mem hx
  obtain ⟨y, hy, e⟩ := List.mem_map.1 h1
  have h2 : y.ls.map LineM.p = x.ls.map LineM.p := congrArg Prod.snd e
  refine ⟨?_, fun z hz => ?_⟩
  · have := congrArg List.length h2
    simp only [List.length_map] at this
    rw [← this]
    exact (hb y hy).1
  · have h3 : z.p ∈ y.ls.map LineM.p := by rw [h2]; exact List.mem_map_of_mem hz
    obtain ⟨u, hu, e3⟩ := List.mem_map.1 h3
    have : u.t = z.t := congrArg (fun q => q.2.1) e3
    rw [← this]
    exact (hb y hy).2 u hu
/-- cards whose lines' texts may be written: what is known of their memory while that is done, behind N writes -/
def WkSt (w W : World) (base : Nat) (A : Option Addr) (ys : List CardM) (N : Nat) : Prop :=
  Below base w W ∧ ∀ (i : Nat) (y : CardM), ys[i]? = some y → y.ls.length ≤ 60 ∧ ∃ r, A = some ⟨r, 0, none⟩ ∧ W.cell? ⟨r, i * 2 + 1, none⟩ = some (.slice y.X y.ls.length y.c) ∧
    ∀ k, k < y.ls.length → ∃ g, y.X = some ⟨g, 0, none⟩ ∧ g ≠ r ∧ base ≤ g ∧ (∃ t : ByteArray, W.cell? ⟨g, k * 3 + 1, none⟩ = some (.string t) ∧ t.size ≤ 1000 + N) ∧ W.frozen? ⟨g, k * 3 + 1, none⟩ = false
theorem WkSt.start {w : World} {base : Nat} {A : Option Addr} {c : Nat} {ys : List CardM} (h : RowF w base A c ys) (hb : Tiny ys) : WkSt w w base A ys 0 := by
  refine ⟨Below.refl _ _, fun i y hy => ?_⟩
  have hk := hb y (List.mem_of_getElem? hy)
  have hf := h.2 y (List.mem_of_getElem? hy)
  refine ⟨by have := hk.1; omega, ?_⟩
  obtain ⟨r, rfl, hbr, hrw, hc, -, -⟩ := h.1.spot (i := i) (j := 1) hy rfl
  refine ⟨r, rfl, hc, fun k hkl => ?_⟩
  have hz := List.getElem?_eq_getElem hkl
  obtain ⟨g, hX, hbg, hgw, hcg, hfg, -⟩ := hf.2.1.spot (i := k) (j := 1) hz rfl
  refine ⟨g, hX, fun e => ?_, hbg, ⟨_, hcg, ?_⟩, hfg⟩
  · have := OwnK.apart hf.2.1 h.1 (by decide)
    rw [hX, e] at this
    rcases this with h1 | h1
    · cases h1
    · exact h1 rfl
  · have := hk.2 _ (List.getElem_mem hkl)
    omega
theorem WkSt.drew {w W : World} {base N : Nat} {A : Option Addr} {ys : List CardM} (h : WkSt w W base A ys N) : WkSt w W.drew base A ys N := ⟨h.1.drew, h.2⟩
theorem WkSt.more {w W : World} {base N M : Nat} {A : Option Addr} {ys : List CardM} (h : WkSt w W base A ys N) (hm : N ≤ M) : WkSt w W base A ys M := ⟨h.1, fun i y hy => by
  obtain ⟨h1, r, h2, h3, h4⟩ := h.2 i y hy
  refine ⟨h1, r, h2, h3, fun k hk => ?_⟩
  obtain ⟨g, e1, e2, e3, ⟨t, e4, e5⟩, e6⟩ := h4 k hk
  exact ⟨g, e1, e2, e3, ⟨t, e4, by omega⟩, e6⟩⟩
theorem WkSt.set {w W : World} {base N : Nat} {r : Nat} {ys : List CardM} (h : WkSt w W base (some ⟨r, 0, none⟩) ys N) {g k : Nat} (hg : base ≤ g) (hne : g ≠ r) {t0 : ByteArray} (hc : W.cell? ⟨g, k * 3 + 1, none⟩ = some (.string t0)) {t : ByteArray} (ht : t.size ≤ 1000 + (N + 1)) : WkSt w (W.setCell ⟨g, k * 3 + 1, none⟩ (.string t)) base (some ⟨r, 0, none⟩) ys (N + 1) := by
  refine ⟨h.1.setCell (p := ⟨g, k * 3 + 1, none⟩) hg _, fun i y hy => ?_⟩
  obtain ⟨h1, r1, h2, h3, h4⟩ := h.2 i y hy
  obtain rfl : r = r1 := congrArg Addr.block (Option.some.inj h2)
  refine ⟨h1, r, rfl, ?_, fun j hj => ?_⟩
  · rw [World.cell?_setCell_other W _ _ _ (fun e => hne (congrArg Addr.block e))]; exact h3
  · obtain ⟨g1, e1, e2, e3, ⟨t1, e4, e5⟩, e6⟩ := h4 j hj
    refine ⟨g1, e1, e2, e3, ?_, by rw [World.frozen?_setCell]; exact e6⟩
    by_cases he : (⟨g, k * 3 + 1, none⟩ : Addr) = ⟨g1, j * 3 + 1, none⟩
    · rw [← he]
      exact ⟨t, World.cell?_setCell_same W _ _ hc, by omega⟩
    · exact ⟨t1, by rw [World.cell?_setCell_other W _ _ _ he]; exact e4, by omega⟩
end Go.Proofs.YtfkfpanhbanljaaDoor.List44

/- Layer 44 (list): the law ListOrders. (printed by tools/genlo.py) -/
namespace Go.Proofs.YtfkfpanhbanljaaDoor.List44
open Go.RowKit Go.Proofs.YtfkfpanhbanljaaDoor.Mem Go.Proofs.YtfkfpanhbanljaaDoor.Card Go.Proofs.YtfkfpanhbanljaaDoor.Laid Go.Proofs.YtfkfpanhbanljaaDoor.Fold Go.Proofs.YtfkfpanhbanljaaDoor.Twin Go.Proofs.YtfkfpanhbanljaaDoor.Stab

theorem turn_tmod44 {n i f : Nat} (hi : i < n) : Int.tmod ((n : Int) - 1 - (i : Int) + (f : Int)) (n : Int) = ((turnP n f i : Nat) : Int) := by
  rw [show (n : Int) - 1 - (i : Int) + (f : Int) = ((n - 1 - i + f : Nat) : Int) by omega]
  unfold turnP
  exact (Int.ofNat_tmod _ _).symm
set_option maxRecDepth 100000 in
set_option maxHeartbeats 8000000 in
theorem lorders_law (X : Option Addr) (l : List CardM) (c : Nat) (f : Nat) (w : World) (hr : RdCards w w.heap.size X l) (hc : l.length ≤ c) (hb : c ≤ 4398046511104) (_ht : ∀ y ∈ l, ∀ u ∈ y.ls, ∀ q ∈ u.m, q.size ≤ 140737488355000) (hm : ML w) (hfr : f < 256) :
    Calls Tryd.prog 3 #[.slice X l.length c, .int .u8 (f : Int)] w fun e w' => e = .returned (.bool true) ∧ Below w.heap.size w w' := by
  have CF := kept (Chg.few_any X l c w hr (by omega))
  by_cases hfw : Chg.fewC l
  · rw [decide_eq_true hfw] at CF
    have hn : l.length ≤ 25 := hfw.1
    have HSH := kept (short_few hfw)
    have HTN := kept (tiny_few hfw)
    have HL := kept hr
    have HM := kept hm
    clear hr hm hfw hc hb _ht
    go_enter Tryd.func3, Tryd.ntmps3
    go_wp2_with fail
    refine CF.out.mono ?_
    rintro e w0 ⟨rfl, rfl⟩
    clear CF
    go_wp2_with fail
    go_loopw [5, 6] (fun mv iv wr => ∃ (i : Nat) (A : Option Addr) (cm : Nat) (m : List CardM), i ≤ l.length ∧ mv = .slice A m.length cm ∧ iv = .int .i64 (i : Int) ∧ Kept (m = (turned f l).take i) ∧ Kept (cardE.Own wr w.heap.size 28 (.slice A m.length cm) m ∧ Below w.heap.size w wr) ∧ Kept (Unlike l i 0)) (fun _ iv _ => l.length - (intOf iv).toNat)
    case atStart => exact ⟨0, none, 0, [], Nat.zero_le _, rfl, rfl, ⟨rfl⟩, ⟨Elem.Own.nilv _ _ _ _, Below.refl _ _⟩, ⟨⟨fun a b h => absurd h (Nat.not_lt_zero _), fun b h => absurd h (Nat.not_lt_zero _)⟩⟩⟩
    case round =>
      obtain ⟨i, A, cm, m, hi, rfl, rfl, HMT, HMO, HU⟩ := hrel
      by_cases hlt : i < l.length
      · have hin : (i : Int) < (l.length : Int) := by omega
        obtain ⟨x, hx⟩ : ∃ x, l[i]? = some x := ⟨_, List.getElem?_eq_getElem hlt⟩
        obtain ⟨b, o, rfl, hbB, u0, u1, hxo⟩ := card_at HL.out hx
        have hcx : cidAt l i = x.cid := by unfold cidAt; simp [List.getD, hx]
        have HX := kept (And.intro hx hxo)
        have U01 := kept (And.intro u0 u1)
        have HMO0 := kept HMO.out.1
        have HBW := kept HMO.out.2
        clear HMO hx hxo u0 u1
        go_wp2_with fail
        go_loopw [7] (fun kv wr => ∃ k : Nat, k ≤ i ∧ kv = .int .i64 (k : Int) ∧ Kept (Unlike l i k) ∧ Kept (cardE.Own wr w.heap.size 28 (.slice A m.length cm) m) ∧ Kept (Below w.heap.size w wr)) (fun kv _ => i - (intOf kv).toNat)
        case atStart => exact ⟨0, Nat.zero_le _, rfl, HU, HMO0, HBW⟩
        case round =>
          clear HU HBW HMO0
          obtain ⟨k, hk, rfl, HU, HMO, HBW⟩ := hrel
          by_cases hlk : k < i
          · have hkl : (k : Int) < (l.length : Int) := by omega
            have hki : (k : Int) < (i : Int) := by omega
            obtain ⟨y, hy⟩ : ∃ y, l[k]? = some y := ⟨_, List.getElem?_eq_getElem (show k < l.length by omega)⟩
            obtain ⟨b2, o2, e2, -, v0, v1, hyo⟩ := card_at HL.out hy
            obtain ⟨rfl, rfl⟩ : b = b2 ∧ o = o2 := by injection e2 with h1; injection h1 with h2 h3 _; exact ⟨h2, h3⟩
            have hcy : cidAt l k = y.cid := by unfold cidAt; simp [List.getD, hy]
            have HN : Kept (x.cid ≠ y.cid → Unlike l i (k + 1)) := ⟨fun h => unlike_next HU.out (by rw [hcx, hcy]; exact h)⟩
            have HZ : Kept (x.cid ≠ y.cid → (cmpC x y = 1 ∧ cmpC y x = -1) ∨ (cmpC x y = -1 ∧ cmpC y x = 1)) := ⟨fun h => cmp_unlike h⟩
            have hbw := HBW.out
            have x0 := (hbw.cell (p := ⟨b, o + i * 2, none⟩) hbB).trans U01.out.1
            have y0 := (hbw.cell (p := ⟨b, o + k * 2, none⟩) hbB).trans v0
            have HCL := kept (And.intro U01.out (And.intro v0 v1))
            have HS : Kept (∀ W, Below wr.heap.size wr W → W.cell? ⟨b, o + i * 2, none⟩ = some (.int .u64 (x.cid : Int)) ∧ W.cell? ⟨b, o + i * 2 + 1, none⟩ = some (.slice x.X x.ls.length x.c) ∧ W.cell? ⟨b, o + k * 2, none⟩ = some (.int .u64 (y.cid : Int)) ∧ W.cell? ⟨b, o + k * 2 + 1, none⟩ = some (.slice y.X y.ls.length y.c)) := ⟨fun W h => by
              have hb := hbw.trans (h.mono hbw.size)
              exact ⟨(hb.cell (p := ⟨b, o + i * 2, none⟩) hbB).trans HCL.out.1.1, (hb.cell (p := ⟨b, o + i * 2 + 1, none⟩) hbB).trans HCL.out.1.2, (hb.cell (p := ⟨b, o + k * 2, none⟩) hbB).trans HCL.out.2.1, (hb.cell (p := ⟨b, o + k * 2 + 1, none⟩) hbB).trans HCL.out.2.2⟩⟩
            have CXY := kept (fun (W : World) (h : Below wr.heap.size wr W) => lcmp_any x y W (HX.out.2.next (hbw.trans (h.mono hbw.size))) (hyo.next (hbw.trans (h.mono hbw.size))) (HM.out.next (hbw.trans (h.mono hbw.size))) (HSH.out x (List.mem_of_getElem? HX.out.1)) (HSH.out y (List.mem_of_getElem? hy)))
            have CYX := kept (fun (W : World) (h : Below wr.heap.size wr W) => lcmp_any y x W (hyo.next (hbw.trans (h.mono hbw.size))) (HX.out.2.next (hbw.trans (h.mono hbw.size))) (HM.out.next (hbw.trans (h.mono hbw.size))) (HSH.out y (List.mem_of_getElem? hy)) (HSH.out x (List.mem_of_getElem? HX.out.1)))
            generalize cmpC x y = zxy at *
            generalize cmpC y x = zyx at *
            clear HX U01 hcx hcy v0 v1 hyo hy e2 HCL hbw HU
            obtain ⟨xcid, xX, xls, xc⟩ := x
            obtain ⟨ycid, yX, yls, yc⟩ := y
            unfold CardM.val at CXY CYX
            dsimp only at HS CXY CYX x0 y0 HN HZ
            by_cases hxy : xcid = ycid
            · subst hxy
              have e3 : ((xcid : Int) == (xcid : Int)) = true := by simp
              clear HN HZ HS CXY CYX
              go_wp2_with fail
              go_region
              all_goals
                go_wp2_with fail
                refine (lworks_any _ (HM.out.next HBW.out.drew)).mono ?_
                rintro e w8 ⟨rfl, hb8⟩
                go_wp2_with fail
                go_ret
                exact ⟨rfl, HBW.out.drew.trans (hb8.mono HBW.out.drew.size)⟩
            · have e3 : ((xcid : Int) == (ycid : Int)) = false := by simp; omega
              have HU := kept (HN.out hxy)
              have HZ := HZ.out hxy
              have hne : ¬ (xcid : Int) = (ycid : Int) := by omega
              clear HN hxy
              go_wp2_with fail
              go_region
              all_goals
                obtain ⟨wq, hwq⟩ : ∃ wq : World, wq = wr.drew := ⟨_, rfl⟩
                have HBQ : Kept (Below wr.heap.size wr wq) := ⟨by rw [hwq]; exact (Below.refl _ _).drew⟩
                clear x0 y0
                rw [← hwq]
                clear hwq
                have HBW2 : Kept (Below w.heap.size w wq) := ⟨HBW.out.trans (HBQ.out.mono HBW.out.size)⟩
                have HMO2 := kept (HMO.out.next HBQ.out)
                have HS : Kept (∀ W, Below wq.heap.size wq W → W.cell? ⟨b, o + i * 2, none⟩ = some (.int .u64 (xcid : Int)) ∧ W.cell? ⟨b, o + i * 2 + 1, none⟩ = some (.slice xX xls.length xc) ∧ W.cell? ⟨b, o + k * 2, none⟩ = some (.int .u64 (ycid : Int)) ∧ W.cell? ⟨b, o + k * 2 + 1, none⟩ = some (.slice yX yls.length yc)) := ⟨fun W h => HS.out W (HBQ.out.trans (h.mono HBQ.out.size))⟩
                have CXY := kept (fun (W : World) (h : Below wq.heap.size wq W) => CXY.out W (HBQ.out.trans (h.mono HBQ.out.size)))
                have CYX := kept (fun (W : World) (h : Below wq.heap.size wq W) => CYX.out W (HBQ.out.trans (h.mono HBQ.out.size)))
                clear HBQ HMO HBW
                go_upto_region 12 with fail
                go_cut [69] (fun a wr' => a = .bool false ∧ Kept (Below wq.heap.size wq wr'))
                case first =>
                  have hd0 : Below wq.heap.size wq wq := Below.refl _ _
                  clear HMO2 HBW2 HU
                  rcases HZ with ⟨rfl, rfl⟩ | ⟨rfl, rfl⟩
                  · as_aux_lemma =>
                    refine wp_region_noPanic ?_
                    refine wp_region_held_drew (S := fun W => W.cell? ⟨b, o + i * 2, none⟩ = some (.int .u64 (xcid : Int)) ∧ W.cell? ⟨b, o + i * 2 + 1, none⟩ = some (.slice xX xls.length xc) ∧ W.cell? ⟨b, o + k * 2, none⟩ = some (.int .u64 (ycid : Int)) ∧ W.cell? ⟨b, o + k * 2 + 1, none⟩ = some (.slice yX yls.length yc)) (by kernel_rfl) (HS.out _ (by (repeat (first | with_reducible assumption | with_reducible refine below_new ?_ _ | with_reducible refine Below.drew ?_ | with_reducible exact Below.refl _ _)))) (fun hS0 => ?_)
                    refine wpAnyH_take (i := 0) (v := ?_) rfl (by kernel_rfl) (by kernel_rfl) (by kernel_rfl) (fun _ _ _ h => h) (Or.inl ⟨by rfl, ?_⟩) hS0 ?_
                    case refine_2 => (intro W hSW; go_simp; try with_reducible rfl)
                    try simp only [Act.put, List.setIfInBounds_toArray, List.set_cons_zero, List.set_cons_succ, List.getElem_toArray, List.getElem_cons_zero, List.getElem_cons_succ]
                    refine wpAnyH_take (i := 1) (v := ?_) rfl (by kernel_rfl) (by kernel_rfl) (by kernel_rfl) (fun _ _ _ h => h) (Or.inl ⟨by rfl, ?_⟩) hS0 ?_
                    case refine_2 => (intro W hSW; go_simp; try with_reducible rfl)
                    try simp only [Act.put, List.setIfInBounds_toArray, List.set_cons_zero, List.set_cons_succ, List.getElem_toArray, List.getElem_cons_zero, List.getElem_cons_succ]
                    refine wpAnyH_take (i := 2) (v := ?_) rfl (by kernel_rfl) (by kernel_rfl) (by kernel_rfl) (fun _ _ _ h => h) (Or.inl ⟨by rfl, ?_⟩) hS0 ?_
                    case refine_2 => (intro W hSW; go_simp; try with_reducible rfl)
                    try simp only [Act.put, List.setIfInBounds_toArray, List.set_cons_zero, List.set_cons_succ, List.getElem_toArray, List.getElem_cons_zero, List.getElem_cons_succ]
                    refine wpAnyH_take (i := 3) (v := ?_) rfl (by kernel_rfl) (by kernel_rfl) (by kernel_rfl) (fun _ _ _ h => h) (Or.inl ⟨by rfl, ?_⟩) hS0 ?_
                    case refine_2 => (intro W hSW; obtain ⟨z0, z1, z2, z3⟩ := hSW; go_simp; try with_reducible rfl)
                    try simp only [Act.put, List.setIfInBounds_toArray, List.set_cons_zero, List.set_cons_succ, List.getElem_toArray, List.getElem_cons_zero, List.getElem_cons_succ]
                    refine wpAnyH_take (i := 4) (v := ?_) rfl (by kernel_rfl) (by kernel_rfl) (by kernel_rfl) (fun _ _ _ h => h) (Or.inl ⟨by rfl, ?_⟩) hS0 ?_
                    case refine_2 => (intro W hSW; go_simp; try with_reducible rfl)
                    try simp only [Act.put, List.setIfInBounds_toArray, List.set_cons_zero, List.set_cons_succ, List.getElem_toArray, List.getElem_cons_zero, List.getElem_cons_succ]
                    refine wpAnyH_take (i := 5) (v := ?_) rfl (by kernel_rfl) (by kernel_rfl) (by kernel_rfl) (fun _ _ _ h => h) (Or.inl ⟨by rfl, ?_⟩) hS0 ?_
                    case refine_2 => (intro W hSW; go_simp; try with_reducible rfl)
                    try simp only [Act.put, List.setIfInBounds_toArray, List.set_cons_zero, List.set_cons_succ, List.getElem_toArray, List.getElem_cons_zero, List.getElem_cons_succ]
                    refine wpAnyH_take (i := 6) (v := ?_) rfl (by kernel_rfl) (by kernel_rfl) (by kernel_rfl) (fun _ _ _ h => h) (Or.inl ⟨by rfl, ?_⟩) hS0 ?_
                    case refine_2 => (intro W hSW; go_simp; try with_reducible rfl)
                    try simp only [Act.put, List.setIfInBounds_toArray, List.set_cons_zero, List.set_cons_succ, List.getElem_toArray, List.getElem_cons_zero, List.getElem_cons_succ]
                    refine wpAnyH_take (i := 7) (v := ?_) rfl (by kernel_rfl) (by kernel_rfl) (by kernel_rfl) (fun _ _ _ h => h) (Or.inl ⟨by rfl, ?_⟩) hS0 ?_
                    case refine_2 => (intro W hSW; obtain ⟨z0, z1, z2, z3⟩ := hSW; go_simp; try with_reducible rfl)
                    try simp only [Act.put, List.setIfInBounds_toArray, List.set_cons_zero, List.set_cons_succ, List.getElem_toArray, List.getElem_cons_zero, List.getElem_cons_succ]
                    refine wpAnyH_take (i := 9) (v := ?_) rfl (by kernel_rfl) (by kernel_rfl) (by kernel_rfl) (fun _ _ _ h => h) (Or.inl ⟨by rfl, ?_⟩) hS0 ?_
                    case refine_2 => (intro W hSW; go_simp; try with_reducible rfl)
                    try simp only [Act.put, List.setIfInBounds_toArray, List.set_cons_zero, List.set_cons_succ, List.getElem_toArray, List.getElem_cons_zero, List.getElem_cons_succ]
                    refine wpAnyH_take (i := 10) (v := ?_) rfl (by kernel_rfl) (by kernel_rfl) (by kernel_rfl) (fun _ _ _ h => h) (Or.inl ⟨by rfl, ?_⟩) hS0 ?_
                    case refine_2 => (intro W hSW; go_simp; try with_reducible rfl)
                    try simp only [Act.put, List.setIfInBounds_toArray, List.set_cons_zero, List.set_cons_succ, List.getElem_toArray, List.getElem_cons_zero, List.getElem_cons_succ]
                    refine wpAnyH_take (i := 11) (v := ?_) rfl (by kernel_rfl) (by kernel_rfl) (by kernel_rfl) (fun _ _ _ h => h) (Or.inl ⟨by rfl, ?_⟩) hS0 ?_
                    case refine_2 => (intro W hSW; go_simp; try with_reducible rfl)
                    try simp only [Act.put, List.setIfInBounds_toArray, List.set_cons_zero, List.set_cons_succ, List.getElem_toArray, List.getElem_cons_zero, List.getElem_cons_succ]
                    refine wpAnyH_take (i := 12) (v := ?_) rfl (by kernel_rfl) (by kernel_rfl) (by kernel_rfl) (fun _ _ _ h => h) (Or.inl ⟨by rfl, ?_⟩) hS0 ?_
                    case refine_2 => (intro W hSW; obtain ⟨z0, z1, z2, z3⟩ := hSW; go_simp; try with_reducible rfl)
                    try simp only [Act.put, List.setIfInBounds_toArray, List.set_cons_zero, List.set_cons_succ, List.getElem_toArray, List.getElem_cons_zero, List.getElem_cons_succ]
                    refine wpAnyH_take (i := 13) (v := ?_) rfl (by kernel_rfl) (by kernel_rfl) (by kernel_rfl) (fun _ _ _ h => h) (Or.inl ⟨by rfl, ?_⟩) hS0 ?_
                    case refine_2 => (intro W hSW; go_simp; try with_reducible rfl)
                    try simp only [Act.put, List.setIfInBounds_toArray, List.set_cons_zero, List.set_cons_succ, List.getElem_toArray, List.getElem_cons_zero, List.getElem_cons_succ]
                    refine wpAnyH_take (i := 14) (v := ?_) rfl (by kernel_rfl) (by kernel_rfl) (by kernel_rfl) (fun _ _ _ h => h) (Or.inl ⟨by rfl, ?_⟩) hS0 ?_
                    case refine_2 => (intro W hSW; go_simp; try with_reducible rfl)
                    try simp only [Act.put, List.setIfInBounds_toArray, List.set_cons_zero, List.set_cons_succ, List.getElem_toArray, List.getElem_cons_zero, List.getElem_cons_succ]
                    refine wpAnyH_take (i := 15) (v := ?_) rfl (by kernel_rfl) (by kernel_rfl) (by kernel_rfl) (fun _ _ _ h => h) (Or.inl ⟨by rfl, ?_⟩) hS0 ?_
                    case refine_2 => (intro W hSW; go_simp; try with_reducible rfl)
                    try simp only [Act.put, List.setIfInBounds_toArray, List.set_cons_zero, List.set_cons_succ, List.getElem_toArray, List.getElem_cons_zero, List.getElem_cons_succ]
                    refine wpAnyH_take (i := 16) (v := ?_) rfl (by kernel_rfl) (by kernel_rfl) (by kernel_rfl) (fun _ _ _ h => h) (Or.inl ⟨by rfl, ?_⟩) hS0 ?_
                    case refine_2 => (intro W hSW; obtain ⟨z0, z1, z2, z3⟩ := hSW; go_simp; try with_reducible rfl)
                    try simp only [Act.put, List.setIfInBounds_toArray, List.set_cons_zero, List.set_cons_succ, List.getElem_toArray, List.getElem_cons_zero, List.getElem_cons_succ]
                    refine wpAnyH_ready (rs := [8]) (by kernel_rfl) (by simp) ?_
                    refine AllReadyH.cons rfl (fun K' hK => ?_) AllReadyH.nil
                    go_simp
                    go_at_call 10
                    refine (CXY.out _ (by (repeat (first | with_reducible assumption | with_reducible refine below_new ?_ _ | with_reducible refine Below.drew ?_ | with_reducible exact Below.refl _ _)))).mono ?_
                    rintro e x1 ⟨rfl, hx1⟩
                    have hk1 : Below wq.heap.size wq x1 := below_next (by (repeat (first | with_reducible assumption | with_reducible refine below_new ?_ _ | with_reducible refine Below.drew ?_ | with_reducible exact Below.refl _ _))) hx1
                    try simp only [Act.put, List.setIfInBounds_toArray, List.set_cons_zero, List.set_cons_succ, List.getElem_toArray, List.getElem_cons_zero, List.getElem_cons_succ]
                    refine hK.out _ _ (HS.out x1 hk1) (fun hS0 => ?_)
                    refine wpAnyH_ready (rs := [17]) (by kernel_rfl) (by simp) ?_
                    refine AllReadyH.cons rfl (fun K' hK => ?_) AllReadyH.nil
                    go_simp
                    go_at_call 10
                    refine (CYX.out _ (by (repeat (first | with_reducible assumption | with_reducible refine below_new ?_ _ | with_reducible refine Below.drew ?_ | with_reducible exact Below.refl _ _)))).mono ?_
                    rintro e x2 ⟨rfl, hx2⟩
                    have hk2 : Below wq.heap.size wq x2 := below_next (by (repeat (first | with_reducible assumption | with_reducible refine below_new ?_ _ | with_reducible refine Below.drew ?_ | with_reducible exact Below.refl _ _))) hx2
                    try simp only [Act.put, List.setIfInBounds_toArray, List.set_cons_zero, List.set_cons_succ, List.getElem_toArray, List.getElem_cons_zero, List.getElem_cons_succ]
                    refine hK.out _ _ (HS.out x2 hk2) (fun hS0 => ?_)
                    refine wpAnyH_take (i := 18) (v := .int .i64 1) rfl (by kernel_rfl) (by kernel_rfl) (by kernel_rfl) (fun _ _ _ h => h) (Or.inl ⟨by rfl, ?_⟩) hS0 ?_
                    case refine_1 => (intro W hSW; go_simp; try (first | with_reducible rfl | rfl | (simp only [Int.reduceNeg]; rfl)))
                    try simp only [Act.put, List.setIfInBounds_toArray, List.set_cons_zero, List.set_cons_succ, List.getElem_toArray, List.getElem_cons_zero, List.getElem_cons_succ]
                    refine wpAnyH_take (i := 19) (v := .bool false) rfl (by kernel_rfl) (by kernel_rfl) (by kernel_rfl) (fun _ _ _ h => h) (Or.inl ⟨by rfl, ?_⟩) hS0 ?_
                    case refine_1 => (intro W hSW; go_simp; try (first | with_reducible rfl | rfl | (simp only [Int.reduceNeg]; rfl)))
                    try simp only [Act.put, List.setIfInBounds_toArray, List.set_cons_zero, List.set_cons_succ, List.getElem_toArray, List.getElem_cons_zero, List.getElem_cons_succ]
                    refine wpAnyH_take (i := 20) (v := ?_) rfl (by kernel_rfl) (by kernel_rfl) (by kernel_rfl) (fun _ _ _ h => h) (Or.inl ⟨by rfl, ?_⟩) hS0 ?_
                    case refine_2 => (intro W hSW; go_simp; try with_reducible rfl)
                    try simp only [Act.put, List.setIfInBounds_toArray, List.set_cons_zero, List.set_cons_succ, List.getElem_toArray, List.getElem_cons_zero, List.getElem_cons_succ]
                    refine wpAnyH_take (i := 21) (v := ?_) rfl (by kernel_rfl) (by kernel_rfl) (by kernel_rfl) (fun _ _ _ h => h) (Or.inl ⟨by rfl, ?_⟩) hS0 ?_
                    case refine_2 => (intro W hSW; go_simp; try with_reducible rfl)
                    try simp only [Act.put, List.setIfInBounds_toArray, List.set_cons_zero, List.set_cons_succ, List.getElem_toArray, List.getElem_cons_zero, List.getElem_cons_succ]
                    refine wpAnyH_take (i := 22) (v := ?_) rfl (by kernel_rfl) (by kernel_rfl) (by kernel_rfl) (fun _ _ _ h => h) (Or.inl ⟨by rfl, ?_⟩) hS0 ?_
                    case refine_2 => (intro W hSW; go_simp; try with_reducible rfl)
                    try simp only [Act.put, List.setIfInBounds_toArray, List.set_cons_zero, List.set_cons_succ, List.getElem_toArray, List.getElem_cons_zero, List.getElem_cons_succ]
                    refine wpAnyH_take (i := 23) (v := ?_) rfl (by kernel_rfl) (by kernel_rfl) (by kernel_rfl) (fun _ _ _ h => h) (Or.inl ⟨by rfl, ?_⟩) hS0 ?_
                    case refine_2 => (intro W hSW; go_simp; try with_reducible rfl)
                    try simp only [Act.put, List.setIfInBounds_toArray, List.set_cons_zero, List.set_cons_succ, List.getElem_toArray, List.getElem_cons_zero, List.getElem_cons_succ]
                    refine wpAnyH_take (i := 24) (v := ?_) rfl (by kernel_rfl) (by kernel_rfl) (by kernel_rfl) (fun _ _ _ h => h) (Or.inl ⟨by rfl, ?_⟩) hS0 ?_
                    case refine_2 => (intro W hSW; obtain ⟨z0, z1, z2, z3⟩ := hSW; go_simp; try with_reducible rfl)
                    try simp only [Act.put, List.setIfInBounds_toArray, List.set_cons_zero, List.set_cons_succ, List.getElem_toArray, List.getElem_cons_zero, List.getElem_cons_succ]
                    refine wpAnyH_take (i := 25) (v := ?_) rfl (by kernel_rfl) (by kernel_rfl) (by kernel_rfl) (fun _ _ _ h => h) (Or.inl ⟨by rfl, ?_⟩) hS0 ?_
                    case refine_2 => (intro W hSW; go_simp; try with_reducible rfl)
                    try simp only [Act.put, List.setIfInBounds_toArray, List.set_cons_zero, List.set_cons_succ, List.getElem_toArray, List.getElem_cons_zero, List.getElem_cons_succ]
                    refine wpAnyH_take (i := 26) (v := ?_) rfl (by kernel_rfl) (by kernel_rfl) (by kernel_rfl) (fun _ _ _ h => h) (Or.inl ⟨by rfl, ?_⟩) hS0 ?_
                    case refine_2 => (intro W hSW; go_simp; try with_reducible rfl)
                    try simp only [Act.put, List.setIfInBounds_toArray, List.set_cons_zero, List.set_cons_succ, List.getElem_toArray, List.getElem_cons_zero, List.getElem_cons_succ]
                    refine wpAnyH_take (i := 27) (v := ?_) rfl (by kernel_rfl) (by kernel_rfl) (by kernel_rfl) (fun _ _ _ h => h) (Or.inl ⟨by rfl, ?_⟩) hS0 ?_
                    case refine_2 => (intro W hSW; go_simp; try with_reducible rfl)
                    try simp only [Act.put, List.setIfInBounds_toArray, List.set_cons_zero, List.set_cons_succ, List.getElem_toArray, List.getElem_cons_zero, List.getElem_cons_succ]
                    refine wpAnyH_take (i := 28) (v := ?_) rfl (by kernel_rfl) (by kernel_rfl) (by kernel_rfl) (fun _ _ _ h => h) (Or.inl ⟨by rfl, ?_⟩) hS0 ?_
                    case refine_2 => (intro W hSW; obtain ⟨z0, z1, z2, z3⟩ := hSW; go_simp; try with_reducible rfl)
                    try simp only [Act.put, List.setIfInBounds_toArray, List.set_cons_zero, List.set_cons_succ, List.getElem_toArray, List.getElem_cons_zero, List.getElem_cons_succ]
                    refine wpAnyH_ready (rs := [29]) (by kernel_rfl) (by simp) ?_
                    refine AllReadyH.cons rfl (fun K' hK => ?_) AllReadyH.nil
                    go_simp
                    go_at_call 10
                    refine (CXY.out _ (by (repeat (first | with_reducible assumption | with_reducible refine below_new ?_ _ | with_reducible refine Below.drew ?_ | with_reducible exact Below.refl _ _)))).mono ?_
                    rintro e x3 ⟨rfl, hx3⟩
                    have hk3 : Below wq.heap.size wq x3 := below_next (by (repeat (first | with_reducible assumption | with_reducible refine below_new ?_ _ | with_reducible refine Below.drew ?_ | with_reducible exact Below.refl _ _))) hx3
                    try simp only [Act.put, List.setIfInBounds_toArray, List.set_cons_zero, List.set_cons_succ, List.getElem_toArray, List.getElem_cons_zero, List.getElem_cons_succ]
                    refine hK.out _ _ (HS.out x3 hk3) (fun hS0 => ?_)
                    refine wpAnyH_take (i := 30) (v := .bool false) rfl (by kernel_rfl) (by kernel_rfl) (by kernel_rfl) (fun _ _ _ h => h) (Or.inl ⟨by rfl, ?_⟩) hS0 ?_
                    case refine_1 => (intro W hSW; go_simp; try (first | with_reducible rfl | rfl | (simp only [Int.reduceNeg]; rfl)))
                    try simp only [Act.put, List.setIfInBounds_toArray, List.set_cons_zero, List.set_cons_succ, List.getElem_toArray, List.getElem_cons_zero, List.getElem_cons_succ]
                    refine wpAnyH_take (i := 31) (v := .bool false) rfl (by kernel_rfl) (by kernel_rfl) (by kernel_rfl) (fun _ _ _ h => h) (Or.inl ⟨by rfl, ?_⟩) hS0 ?_
                    case refine_1 => (intro W hSW; go_simp; try (first | with_reducible rfl | rfl | (simp only [Int.reduceNeg]; rfl)))
                    try simp only [Act.put, List.setIfInBounds_toArray, List.set_cons_zero, List.set_cons_succ, List.getElem_toArray, List.getElem_cons_zero, List.getElem_cons_succ]
                    refine wpAnyH_done (by kernel_rfl) (NoPanic.normal ?_) _
                    go_wp2_with fail
                    go_meet
                    exact ⟨by first | rfl | simp, ⟨(by (repeat (first | with_reducible assumption | with_reducible refine below_new ?_ _ | with_reducible refine Below.drew ?_ | with_reducible exact Below.refl _ _)))⟩⟩
                  · as_aux_lemma =>
                    refine wp_region_noPanic ?_
                    refine wp_region_held_drew (S := fun W => W.cell? ⟨b, o + i * 2, none⟩ = some (.int .u64 (xcid : Int)) ∧ W.cell? ⟨b, o + i * 2 + 1, none⟩ = some (.slice xX xls.length xc) ∧ W.cell? ⟨b, o + k * 2, none⟩ = some (.int .u64 (ycid : Int)) ∧ W.cell? ⟨b, o + k * 2 + 1, none⟩ = some (.slice yX yls.length yc)) (by kernel_rfl) (HS.out _ (by (repeat (first | with_reducible assumption | with_reducible refine below_new ?_ _ | with_reducible refine Below.drew ?_ | with_reducible exact Below.refl _ _)))) (fun hS0 => ?_)
                    refine wpAnyH_take (i := 0) (v := ?_) rfl (by kernel_rfl) (by kernel_rfl) (by kernel_rfl) (fun _ _ _ h => h) (Or.inl ⟨by rfl, ?_⟩) hS0 ?_
                    case refine_2 => (intro W hSW; go_simp; try with_reducible rfl)
                    try simp only [Act.put, List.setIfInBounds_toArray, List.set_cons_zero, List.set_cons_succ, List.getElem_toArray, List.getElem_cons_zero, List.getElem_cons_succ]
                    refine wpAnyH_take (i := 1) (v := ?_) rfl (by kernel_rfl) (by kernel_rfl) (by kernel_rfl) (fun _ _ _ h => h) (Or.inl ⟨by rfl, ?_⟩) hS0 ?_
                    case refine_2 => (intro W hSW; go_simp; try with_reducible rfl)
                    try simp only [Act.put, List.setIfInBounds_toArray, List.set_cons_zero, List.set_cons_succ, List.getElem_toArray, List.getElem_cons_zero, List.getElem_cons_succ]
                    refine wpAnyH_take (i := 2) (v := ?_) rfl (by kernel_rfl) (by kernel_rfl) (by kernel_rfl) (fun _ _ _ h => h) (Or.inl ⟨by rfl, ?_⟩) hS0 ?_
                    case refine_2 => (intro W hSW; go_simp; try with_reducible rfl)
                    try simp only [Act.put, List.setIfInBounds_toArray, List.set_cons_zero, List.set_cons_succ, List.getElem_toArray, List.getElem_cons_zero, List.getElem_cons_succ]
                    refine wpAnyH_take (i := 3) (v := ?_) rfl (by kernel_rfl) (by kernel_rfl) (by kernel_rfl) (fun _ _ _ h => h) (Or.inl ⟨by rfl, ?_⟩) hS0 ?_
                    case refine_2 => (intro W hSW; obtain ⟨z0, z1, z2, z3⟩ := hSW; go_simp; try with_reducible rfl)
                    try simp only [Act.put, List.setIfInBounds_toArray, List.set_cons_zero, List.set_cons_succ, List.getElem_toArray, List.getElem_cons_zero, List.getElem_cons_succ]
                    refine wpAnyH_take (i := 4) (v := ?_) rfl (by kernel_rfl) (by kernel_rfl) (by kernel_rfl) (fun _ _ _ h => h) (Or.inl ⟨by rfl, ?_⟩) hS0 ?_
                    case refine_2 => (intro W hSW; go_simp; try with_reducible rfl)
                    try simp only [Act.put, List.setIfInBounds_toArray, List.set_cons_zero, List.set_cons_succ, List.getElem_toArray, List.getElem_cons_zero, List.getElem_cons_succ]
                    refine wpAnyH_take (i := 5) (v := ?_) rfl (by kernel_rfl) (by kernel_rfl) (by kernel_rfl) (fun _ _ _ h => h) (Or.inl ⟨by rfl, ?_⟩) hS0 ?_
                    case refine_2 => (intro W hSW; go_simp; try with_reducible rfl)
                    try simp only [Act.put, List.setIfInBounds_toArray, List.set_cons_zero, List.set_cons_succ, List.getElem_toArray, List.getElem_cons_zero, List.getElem_cons_succ]
                    refine wpAnyH_take (i := 6) (v := ?_) rfl (by kernel_rfl) (by kernel_rfl) (by kernel_rfl) (fun _ _ _ h => h) (Or.inl ⟨by rfl, ?_⟩) hS0 ?_
                    case refine_2 => (intro W hSW; go_simp; try with_reducible rfl)
                    try simp only [Act.put, List.setIfInBounds_toArray, List.set_cons_zero, List.set_cons_succ, List.getElem_toArray, List.getElem_cons_zero, List.getElem_cons_succ]
                    refine wpAnyH_take (i := 7) (v := ?_) rfl (by kernel_rfl) (by kernel_rfl) (by kernel_rfl) (fun _ _ _ h => h) (Or.inl ⟨by rfl, ?_⟩) hS0 ?_
                    case refine_2 => (intro W hSW; obtain ⟨z0, z1, z2, z3⟩ := hSW; go_simp; try with_reducible rfl)
                    try simp only [Act.put, List.setIfInBounds_toArray, List.set_cons_zero, List.set_cons_succ, List.getElem_toArray, List.getElem_cons_zero, List.getElem_cons_succ]
                    refine wpAnyH_take (i := 9) (v := ?_) rfl (by kernel_rfl) (by kernel_rfl) (by kernel_rfl) (fun _ _ _ h => h) (Or.inl ⟨by rfl, ?_⟩) hS0 ?_
                    case refine_2 => (intro W hSW; go_simp; try with_reducible rfl)
                    try simp only [Act.put, List.setIfInBounds_toArray, List.set_cons_zero, List.set_cons_succ, List.getElem_toArray, List.getElem_cons_zero, List.getElem_cons_succ]
                    refine wpAnyH_take (i := 10) (v := ?_) rfl (by kernel_rfl) (by kernel_rfl) (by kernel_rfl) (fun _ _ _ h => h) (Or.inl ⟨by rfl, ?_⟩) hS0 ?_
                    case refine_2 => (intro W hSW; go_simp; try with_reducible rfl)
                    try simp only [Act.put, List.setIfInBounds_toArray, List.set_cons_zero, List.set_cons_succ, List.getElem_toArray, List.getElem_cons_zero, List.getElem_cons_succ]
                    refine wpAnyH_take (i := 11) (v := ?_) rfl (by kernel_rfl) (by kernel_rfl) (by kernel_rfl) (fun _ _ _ h => h) (Or.inl ⟨by rfl, ?_⟩) hS0 ?_
                    case refine_2 => (intro W hSW; go_simp; try with_reducible rfl)
                    try simp only [Act.put, List.setIfInBounds_toArray, List.set_cons_zero, List.set_cons_succ, List.getElem_toArray, List.getElem_cons_zero, List.getElem_cons_succ]
                    refine wpAnyH_take (i := 12) (v := ?_) rfl (by kernel_rfl) (by kernel_rfl) (by kernel_rfl) (fun _ _ _ h => h) (Or.inl ⟨by rfl, ?_⟩) hS0 ?_
                    case refine_2 => (intro W hSW; obtain ⟨z0, z1, z2, z3⟩ := hSW; go_simp; try with_reducible rfl)
                    try simp only [Act.put, List.setIfInBounds_toArray, List.set_cons_zero, List.set_cons_succ, List.getElem_toArray, List.getElem_cons_zero, List.getElem_cons_succ]
                    refine wpAnyH_take (i := 13) (v := ?_) rfl (by kernel_rfl) (by kernel_rfl) (by kernel_rfl) (fun _ _ _ h => h) (Or.inl ⟨by rfl, ?_⟩) hS0 ?_
                    case refine_2 => (intro W hSW; go_simp; try with_reducible rfl)
                    try simp only [Act.put, List.setIfInBounds_toArray, List.set_cons_zero, List.set_cons_succ, List.getElem_toArray, List.getElem_cons_zero, List.getElem_cons_succ]
                    refine wpAnyH_take (i := 14) (v := ?_) rfl (by kernel_rfl) (by kernel_rfl) (by kernel_rfl) (fun _ _ _ h => h) (Or.inl ⟨by rfl, ?_⟩) hS0 ?_
                    case refine_2 => (intro W hSW; go_simp; try with_reducible rfl)
                    try simp only [Act.put, List.setIfInBounds_toArray, List.set_cons_zero, List.set_cons_succ, List.getElem_toArray, List.getElem_cons_zero, List.getElem_cons_succ]
                    refine wpAnyH_take (i := 15) (v := ?_) rfl (by kernel_rfl) (by kernel_rfl) (by kernel_rfl) (fun _ _ _ h => h) (Or.inl ⟨by rfl, ?_⟩) hS0 ?_
                    case refine_2 => (intro W hSW; go_simp; try with_reducible rfl)
                    try simp only [Act.put, List.setIfInBounds_toArray, List.set_cons_zero, List.set_cons_succ, List.getElem_toArray, List.getElem_cons_zero, List.getElem_cons_succ]
                    refine wpAnyH_take (i := 16) (v := ?_) rfl (by kernel_rfl) (by kernel_rfl) (by kernel_rfl) (fun _ _ _ h => h) (Or.inl ⟨by rfl, ?_⟩) hS0 ?_
                    case refine_2 => (intro W hSW; obtain ⟨z0, z1, z2, z3⟩ := hSW; go_simp; try with_reducible rfl)
                    try simp only [Act.put, List.setIfInBounds_toArray, List.set_cons_zero, List.set_cons_succ, List.getElem_toArray, List.getElem_cons_zero, List.getElem_cons_succ]
                    refine wpAnyH_ready (rs := [8]) (by kernel_rfl) (by simp) ?_
                    refine AllReadyH.cons rfl (fun K' hK => ?_) AllReadyH.nil
                    go_simp
                    go_at_call 10
                    refine (CXY.out _ (by (repeat (first | with_reducible assumption | with_reducible refine below_new ?_ _ | with_reducible refine Below.drew ?_ | with_reducible exact Below.refl _ _)))).mono ?_
                    rintro e x1 ⟨rfl, hx1⟩
                    have hk1 : Below wq.heap.size wq x1 := below_next (by (repeat (first | with_reducible assumption | with_reducible refine below_new ?_ _ | with_reducible refine Below.drew ?_ | with_reducible exact Below.refl _ _))) hx1
                    try simp only [Act.put, List.setIfInBounds_toArray, List.set_cons_zero, List.set_cons_succ, List.getElem_toArray, List.getElem_cons_zero, List.getElem_cons_succ]
                    refine hK.out _ _ (HS.out x1 hk1) (fun hS0 => ?_)
                    refine wpAnyH_ready (rs := [17]) (by kernel_rfl) (by simp) ?_
                    refine AllReadyH.cons rfl (fun K' hK => ?_) AllReadyH.nil
                    go_simp
                    go_at_call 10
                    refine (CYX.out _ (by (repeat (first | with_reducible assumption | with_reducible refine below_new ?_ _ | with_reducible refine Below.drew ?_ | with_reducible exact Below.refl _ _)))).mono ?_
                    rintro e x2 ⟨rfl, hx2⟩
                    have hk2 : Below wq.heap.size wq x2 := below_next (by (repeat (first | with_reducible assumption | with_reducible refine below_new ?_ _ | with_reducible refine Below.drew ?_ | with_reducible exact Below.refl _ _))) hx2
                    try simp only [Act.put, List.setIfInBounds_toArray, List.set_cons_zero, List.set_cons_succ, List.getElem_toArray, List.getElem_cons_zero, List.getElem_cons_succ]
                    refine hK.out _ _ (HS.out x2 hk2) (fun hS0 => ?_)
                    refine wpAnyH_take (i := 18) (v := .int .i64 (-1)) rfl (by kernel_rfl) (by kernel_rfl) (by kernel_rfl) (fun _ _ _ h => h) (Or.inl ⟨by rfl, ?_⟩) hS0 ?_
                    case refine_1 => (intro W hSW; go_simp; try (first | with_reducible rfl | rfl | (simp only [Int.reduceNeg]; rfl)))
                    try simp only [Act.put, List.setIfInBounds_toArray, List.set_cons_zero, List.set_cons_succ, List.getElem_toArray, List.getElem_cons_zero, List.getElem_cons_succ]
                    refine wpAnyH_take (i := 19) (v := .bool false) rfl (by kernel_rfl) (by kernel_rfl) (by kernel_rfl) (fun _ _ _ h => h) (Or.inl ⟨by rfl, ?_⟩) hS0 ?_
                    case refine_1 => (intro W hSW; go_simp; try (first | with_reducible rfl | rfl | (simp only [Int.reduceNeg]; rfl)))
                    try simp only [Act.put, List.setIfInBounds_toArray, List.set_cons_zero, List.set_cons_succ, List.getElem_toArray, List.getElem_cons_zero, List.getElem_cons_succ]
                    refine wpAnyH_take (i := 20) (v := ?_) rfl (by kernel_rfl) (by kernel_rfl) (by kernel_rfl) (fun _ _ _ h => h) (Or.inl ⟨by rfl, ?_⟩) hS0 ?_
                    case refine_2 => (intro W hSW; go_simp; try with_reducible rfl)
                    try simp only [Act.put, List.setIfInBounds_toArray, List.set_cons_zero, List.set_cons_succ, List.getElem_toArray, List.getElem_cons_zero, List.getElem_cons_succ]
                    refine wpAnyH_take (i := 21) (v := ?_) rfl (by kernel_rfl) (by kernel_rfl) (by kernel_rfl) (fun _ _ _ h => h) (Or.inl ⟨by rfl, ?_⟩) hS0 ?_
                    case refine_2 => (intro W hSW; go_simp; try with_reducible rfl)
                    try simp only [Act.put, List.setIfInBounds_toArray, List.set_cons_zero, List.set_cons_succ, List.getElem_toArray, List.getElem_cons_zero, List.getElem_cons_succ]
                    refine wpAnyH_take (i := 22) (v := ?_) rfl (by kernel_rfl) (by kernel_rfl) (by kernel_rfl) (fun _ _ _ h => h) (Or.inl ⟨by rfl, ?_⟩) hS0 ?_
                    case refine_2 => (intro W hSW; go_simp; try with_reducible rfl)
                    try simp only [Act.put, List.setIfInBounds_toArray, List.set_cons_zero, List.set_cons_succ, List.getElem_toArray, List.getElem_cons_zero, List.getElem_cons_succ]
                    refine wpAnyH_take (i := 23) (v := ?_) rfl (by kernel_rfl) (by kernel_rfl) (by kernel_rfl) (fun _ _ _ h => h) (Or.inl ⟨by rfl, ?_⟩) hS0 ?_
                    case refine_2 => (intro W hSW; go_simp; try with_reducible rfl)
                    try simp only [Act.put, List.setIfInBounds_toArray, List.set_cons_zero, List.set_cons_succ, List.getElem_toArray, List.getElem_cons_zero, List.getElem_cons_succ]
                    refine wpAnyH_take (i := 24) (v := ?_) rfl (by kernel_rfl) (by kernel_rfl) (by kernel_rfl) (fun _ _ _ h => h) (Or.inl ⟨by rfl, ?_⟩) hS0 ?_
                    case refine_2 => (intro W hSW; obtain ⟨z0, z1, z2, z3⟩ := hSW; go_simp; try with_reducible rfl)
                    try simp only [Act.put, List.setIfInBounds_toArray, List.set_cons_zero, List.set_cons_succ, List.getElem_toArray, List.getElem_cons_zero, List.getElem_cons_succ]
                    refine wpAnyH_take (i := 25) (v := ?_) rfl (by kernel_rfl) (by kernel_rfl) (by kernel_rfl) (fun _ _ _ h => h) (Or.inl ⟨by rfl, ?_⟩) hS0 ?_
                    case refine_2 => (intro W hSW; go_simp; try with_reducible rfl)
                    try simp only [Act.put, List.setIfInBounds_toArray, List.set_cons_zero, List.set_cons_succ, List.getElem_toArray, List.getElem_cons_zero, List.getElem_cons_succ]
                    refine wpAnyH_take (i := 26) (v := ?_) rfl (by kernel_rfl) (by kernel_rfl) (by kernel_rfl) (fun _ _ _ h => h) (Or.inl ⟨by rfl, ?_⟩) hS0 ?_
                    case refine_2 => (intro W hSW; go_simp; try with_reducible rfl)
                    try simp only [Act.put, List.setIfInBounds_toArray, List.set_cons_zero, List.set_cons_succ, List.getElem_toArray, List.getElem_cons_zero, List.getElem_cons_succ]
                    refine wpAnyH_take (i := 27) (v := ?_) rfl (by kernel_rfl) (by kernel_rfl) (by kernel_rfl) (fun _ _ _ h => h) (Or.inl ⟨by rfl, ?_⟩) hS0 ?_
                    case refine_2 => (intro W hSW; go_simp; try with_reducible rfl)
                    try simp only [Act.put, List.setIfInBounds_toArray, List.set_cons_zero, List.set_cons_succ, List.getElem_toArray, List.getElem_cons_zero, List.getElem_cons_succ]
                    refine wpAnyH_take (i := 28) (v := ?_) rfl (by kernel_rfl) (by kernel_rfl) (by kernel_rfl) (fun _ _ _ h => h) (Or.inl ⟨by rfl, ?_⟩) hS0 ?_
                    case refine_2 => (intro W hSW; obtain ⟨z0, z1, z2, z3⟩ := hSW; go_simp; try with_reducible rfl)
                    try simp only [Act.put, List.setIfInBounds_toArray, List.set_cons_zero, List.set_cons_succ, List.getElem_toArray, List.getElem_cons_zero, List.getElem_cons_succ]
                    refine wpAnyH_ready (rs := [29]) (by kernel_rfl) (by simp) ?_
                    refine AllReadyH.cons rfl (fun K' hK => ?_) AllReadyH.nil
                    go_simp
                    go_at_call 10
                    refine (CXY.out _ (by (repeat (first | with_reducible assumption | with_reducible refine below_new ?_ _ | with_reducible refine Below.drew ?_ | with_reducible exact Below.refl _ _)))).mono ?_
                    rintro e x3 ⟨rfl, hx3⟩
                    have hk3 : Below wq.heap.size wq x3 := below_next (by (repeat (first | with_reducible assumption | with_reducible refine below_new ?_ _ | with_reducible refine Below.drew ?_ | with_reducible exact Below.refl _ _))) hx3
                    try simp only [Act.put, List.setIfInBounds_toArray, List.set_cons_zero, List.set_cons_succ, List.getElem_toArray, List.getElem_cons_zero, List.getElem_cons_succ]
                    refine hK.out _ _ (HS.out x3 hk3) (fun hS0 => ?_)
                    refine wpAnyH_take (i := 30) (v := .bool false) rfl (by kernel_rfl) (by kernel_rfl) (by kernel_rfl) (fun _ _ _ h => h) (Or.inl ⟨by rfl, ?_⟩) hS0 ?_
                    case refine_1 => (intro W hSW; go_simp; try (first | with_reducible rfl | rfl | (simp only [Int.reduceNeg]; rfl)))
                    try simp only [Act.put, List.setIfInBounds_toArray, List.set_cons_zero, List.set_cons_succ, List.getElem_toArray, List.getElem_cons_zero, List.getElem_cons_succ]
                    refine wpAnyH_take (i := 31) (v := .bool false) rfl (by kernel_rfl) (by kernel_rfl) (by kernel_rfl) (fun _ _ _ h => h) (Or.inl ⟨by rfl, ?_⟩) hS0 ?_
                    case refine_1 => (intro W hSW; go_simp; try (first | with_reducible rfl | rfl | (simp only [Int.reduceNeg]; rfl)))
                    try simp only [Act.put, List.setIfInBounds_toArray, List.set_cons_zero, List.set_cons_succ, List.getElem_toArray, List.getElem_cons_zero, List.getElem_cons_succ]
                    refine wpAnyH_done (by kernel_rfl) (NoPanic.normal ?_) _
                    go_wp2_with fail
                    go_meet
                    exact ⟨by first | rfl | simp, ⟨(by (repeat (first | with_reducible assumption | with_reducible refine below_new ?_ _ | with_reducible refine Below.drew ?_ | with_reducible exact Below.refl _ _)))⟩⟩
                case rest =>
                  obtain ⟨rfl, hcut⟩ := hcut
                  have HBC := kept (HBW2.out.trans (hcut.out.mono HBW2.out.size))
                  have HOC := kept (HMO2.out.next hcut.out)
                  clear hcut HS CXY CYX HBW2 HMO2
                  go_wp2_with fail
                  go_roundw
                  case rel => exact ⟨k + 1, by omega, by go_num, HU, HOC, HBC⟩
                  case measure => simp [intOf]; omega
          · obtain rfl : k = i := by omega
            have hge : ¬ (k : Int) < (k : Int) := by omega
            have HU2 := kept (unlike_row HU.out)
            have hpi : turnP l.length f k < l.length := turn_lt hlt
            have hpin : ((turnP l.length f k : Nat) : Int) < (l.length : Int) := by omega
            have htm := turn_tmod44 (f := f) hlt
            have hne : ¬ (l.length : Int) = 0 := by omega
            have hne2 : ¬ l.length = 0 := by omega
            have hzl : (0 : Int) < (l.length : Int) := by omega
            have hz0 : 0 < l.length := by omega
            obtain ⟨z, hz⟩ : ∃ z, l[turnP l.length f k]? = some z := ⟨_, List.getElem?_eq_getElem hpi⟩
            obtain ⟨b2, o2, e2, -, p0, p1, hzo⟩ := card_at HL.out hz
            obtain ⟨rfl, rfl⟩ : b = b2 ∧ o = o2 := by injection e2 with h1; injection h1 with h2 h3 _; exact ⟨h2, h3⟩
            have hbw := HBW.out
            have q0 := (hbw.cell (p := ⟨b, o + turnP l.length f k * 2, none⟩) hbB).trans p0
            have q1 := (hbw.cell (p := ⟨b, o + turnP l.length f k * 2 + 1, none⟩) hbB).trans p1
            have HNX := kept (turned_next (f := f) hlt hz)
            have hml : m.length ≤ 25 := by rw [HMT.out]; exact Nat.le_trans (List.length_take_le _ _) (by omega)
            obtain ⟨zcid, zX, zls, zc⟩ := z
            dsimp only at q0 q1 HNX
            have hrn : cardE.Rd (wr.alloc (.cells #[.int .u64 (zcid : Int), .slice zX zls.length zc] 28)) (wr.heap.size + 1) (some ⟨wr.heap.size, 0, none⟩) [⟨zcid, zX, zls, zc⟩] := Mem.Rd.new wr [.int .u64 (zcid : Int), .slice zX zls.length zc] 28
            have hzz : (m.length + [(⟨zcid, zX, zls, zc⟩ : CardM)].length) * 32 ≤ 140737488355328 := by simp; omega
            have hnb : Below wr.heap.size wr (wr.alloc (.cells #[.int .u64 (zcid : Int), .slice zX zls.length zc] 28)) := (Below.refl _ _).alloc (Nat.le_refl _) _
            have hoB := HMO.out.next hnb
            have hbase : w.heap.size ≤ (wr.alloc (.cells #[.int .u64 (zcid : Int), .slice zX zls.length zc] 28)).heap.size := Nat.le_trans hbw.size hnb.size
            clear hz p0 p1 hzo e2 HU hcx HX U01
            generalize turnP l.length f k = pi at *
            go_wp2_with (at_builtin; refine wpl_appEU _ cardE rfl (.tmp 70) (.tmp 85) 22 rfl w.heap.size 28 Tryd.underlying22 Chg.card_info rfl _ m rfl hoB _ _ _ _ [⟨zcid, zX, zls, zc⟩] rfl rfl hrn hzz (by decide) hbase ?_; intro A9 c9 w9 r9 hr9 hown9 hu9 hx9)
            have HB9 : Kept (Below w.heap.size w w9) := ⟨(hbw.trans (hnb.mono hbw.size)).trans ((hu9 _ fun _ e => e).below hbase fun k _ e => (hoB.lt k e).1)⟩
            have HO9 := kept hown9
            have HR9 : Kept (r9 = (turned f l).take (k + 1)) := ⟨by rw [hr9.out, HMT.out, HNX.out]⟩
            clear hr9 hown9 hu9 hx9 hrn hzz hnb hoB hbase hbw q0 q1 HMO HMT HNX hml
            go_roundw
            case rel => exact ⟨k + 1, A9, c9, r9, by omega, rfl, by go_num, HR9, ⟨HO9.out, HB9.out⟩, HU2⟩
            case measure => simp [intOf]; omega
      · obtain rfl : i = l.length := by omega
        have hge : ¬ (l.length : Int) < (l.length : Int) := by omega
        have HD := kept (unlike_all HU.out)
        have HMF : Kept (m = turned f l) := ⟨by rw [HMT.out, List.take_of_length_le (by rw [turned_len]; exact Nat.le_refl _)]⟩
        have HST : Kept ((stab ltC m).map CardM.p = (stab ltC l).map CardM.p) := ⟨by rw [HMF.out, stab_turned f HD.out]⟩
        have hml : m.length ≤ 25 := by rw [HMF.out, turned_len]; exact hn
        have HMS : Kept (Short m ∧ ∀ W W', W = W' → Below w.heap.size w W → ∀ y ∈ m, y.Ok W W.heap.size) := ⟨fun x hx => HSH.out x (by rw [HMF.out] at hx; exact turned_mem hx), fun W W' _ hb y hy => (HL.out.2 y (by rw [HMF.out] at hy; exact turned_mem hy)).next hb⟩
        have CS : Kept (∀ W : World, Below w.heap.size w W → Calls Tryd.prog 11 #[.slice X l.length c] W (GivesF W ((stab ltC l).map CardM.p))) := ⟨fun (W : World) (hb : Below w.heap.size w W) => lsort_any X l c W (HL.out.next hb) (by omega) HSH.out (HM.out.next hb)⟩
        have CR : Kept (∀ W : World, Below w.heap.size w W → Calls Tryd.prog 13 #[.slice X l.length c] W (GivesC W (stab ltC l))) := ⟨fun (W : World) (hb : Below w.heap.size w W) => rsort_any X l c W (HL.out.next hb) (by omega) HSH.out⟩
        have HBW := kept HMO.out.2
        have HOM := kept HMO.out.1
        have HTS : Kept (∀ ys : List CardM, ys.map CardM.p = (stab ltC l).map CardM.p → Tiny ys ∧ ys.length = l.length) := ⟨fun ys h => ⟨tiny_p h fun x hx => HTN.out x ((stab_perm l).mem_iff.1 hx), by have := congrArg List.length h; simpa [stab_len] using this⟩⟩
        obtain ⟨SL, hSL⟩ : ∃ SL, stab ltC l = SL := ⟨_, rfl⟩
        rw [hSL] at HST CS HTS CR
        clear hSL
        obtain ⟨SP, hSP⟩ : ∃ SP, SL.map CardM.p = SP := ⟨_, rfl⟩
        rw [hSP] at HST CS HTS
        have HSPE := kept hSP
        clear hSP
        clear HMO HMT HD HU HMF HSH HTN
        go_wp2_with fail
        refine (CS.out _ HBW.out).mono ?_
        rintro e w4 ⟨A3, c3, zs, rfl, hp, hro, hb4⟩
        have HST0 := kept (WkSt.start hro (HTS.out zs hp).1)
        have HNA : Kept (zs.length ≤ 25) := ⟨by rw [(HTS.out zs hp).2]; exact hn⟩
        have HB4 := kept hb4
        obtain ⟨w2, hw2⟩ : ∃ w2 : World, w2 = wr := ⟨_, rfl⟩
        rw [← hw2] at HST0 HB4 HBW HOM
        clear hw2 hp hro hb4
        go_wp2_with fail
        go_loopw [91] (fun i wr => ∃ j : Nat, j ≤ zs.length ∧ i = .int .i64 (j : Int) ∧ Kept (WkSt w4 wr w2.heap.size A3 zs (60 * j))) (fun i _ => zs.length - (intOf i).toNat)
        case atStart => exact ⟨0, Nat.zero_le _, rfl, ⟨HST0.out⟩⟩
        case round =>
          clear HST0
          obtain ⟨j, hj, rfl, hin⟩ := hrel
          by_cases hlt : j < zs.length
          · obtain ⟨⟨ycid, yX, yls, yc⟩, hy⟩ : ∃ y, zs[j]? = some y := ⟨_, List.getElem?_eq_getElem hlt⟩
            obtain ⟨hyl, r, rfl, hcr, -⟩ := hin.out.2 j _ hy
            have HIN := kept hin.out
            have HY := kept hy
            have hjn : (j : Int) < (zs.length : Int) := by omega
            have hn65 := HNA.out
            dsimp only at hcr hyl
            clear hin hy
            go_wp2_with fail
            go_loopw [100] (fun i wr2 => ∃ k : Nat, k ≤ yls.length ∧ i = .int .i64 (k : Int) ∧ Kept (WkSt w4 wr2 w2.heap.size (some ⟨r, 0, none⟩) zs (60 * j + k))) (fun i _ => yls.length - (intOf i).toNat)
            case atStart => exact ⟨0, Nat.zero_le _, rfl, ⟨HIN.out⟩⟩
            case round =>
              clear HIN hcr
              obtain ⟨k, hk, rfl, hin⟩ := hrel
              by_cases hkl : k < yls.length
              · obtain ⟨-, r1, hr1, hcr, hr2⟩ := hin.out.2 j _ HY.out
                obtain rfl : r = r1 := congrArg Addr.block (Option.some.inj hr1)
                obtain ⟨g, hX, hne, hbg, ⟨t, hct, hts⟩, hfz⟩ := hr2 k hkl
                dsimp only at hcr hX
                subst hX
                have hkn : (k : Int) < (yls.length : Int) := by omega
                have hsz : ¬ 9223372036854775807 < t.size + (⟨#[120]⟩ : ByteArray).size := by
                  have : (⟨#[120]⟩ : ByteArray).size = 1 := rfl
                  omega
                have HS : Kept (WkSt w4 (wr.drew.setCell ⟨g, k * 3 + 1, none⟩ (.string (t ++ ⟨#[120]⟩))) w2.heap.size (some ⟨r, 0, none⟩) zs (60 * j + (k + 1))) := ⟨WkSt.set (hin.out.drew) hbg hne hct (by
                  rw [ByteArray.size_append]
                  have : (⟨#[120]⟩ : ByteArray).size = 1 := rfl
                  omega)⟩
                clear hin hr1 hr2 hts
                go_wp2_with fail
                go_region
                all_goals
                  go_wp2_with fail
                all_goals go_roundw
                all_goals first | exact ⟨k + 1, by omega, by go_num, HS⟩ | (simp [intOf]; omega)
              · obtain rfl : k = yls.length := by omega
                have HN2 : Kept (WkSt w4 wr w2.heap.size (some ⟨r, 0, none⟩) zs (60 * (j + 1))) := ⟨hin.out.more (by omega)⟩
                clear hin
                go_wp2_with fail
                go_roundw
                case rel => exact ⟨j + 1, by omega, by go_num, HN2⟩
                case measure => simp [intOf]; omega
          · obtain rfl : j = zs.length := by omega
            have HB5 : Kept (Below w2.heap.size w2 wr) := ⟨HB4.out.trans hin.out.1⟩
            have HB6 := kept (HBW.out.trans (HB5.out.mono HBW.out.size))
            have HOM6 := kept (HOM.out.next HB5.out)
            obtain ⟨w6, hw6⟩ : ∃ w6 : World, w6 = wr := ⟨_, rfl⟩
            rw [← hw6] at HB6 HOM6 ⊢
            clear hin hw6 HB5 HB4 HOM HBW HNA
            go_wp2_with fail
            refine (CS.out _ HB6.out).mono ?_
            rintro e w7 ⟨A7, c7, s1, rfl, hp7, hro7, hb7⟩
            have HB7 := kept (HB6.out.trans (hb7.mono HB6.out.size))
            have HOM7 := kept (HOM6.out.next hb7)
            have HP7 := kept hp7
            have HR7 := kept hro7.rd
            have CM := kept (lsort_any A m cm w7 ⟨HOM7.out.rd, fun y hy => HMS.out.2 w7 w7 rfl HB7.out y hy⟩ (by omega) HMS.out.1 (HM.out.next HB7.out))
            rw [HST.out] at CM
            clear hp7 hro7 hb7 HB6 HOM6
            go_wp2_with fail
            refine CM.out.mono ?_
            rintro e w8 ⟨A8, c8, s2, rfl, hp8, hro8, hb8⟩
            have HB8 := kept (HB7.out.trans (hb8.mono HB7.out.size))
            have CL := kept (rall_any A7 A8 s1.length s2.length c7 c8 s1 s2 w8 rfl rfl (HR7.out.next hb8) hro8.rd (by rw [(HTS.out s1 HP7.out).2]; omega))
            rw [decide_eq_true (HP7.out.trans hp8.symm)] at CL
            clear hp8 hro8 hb8 CM HB7 HR7 HP7 HOM7
            go_wp2_with fail
            refine CL.out.mono ?_
            rintro e w9 ⟨rfl, hb9⟩
            have HB9 := kept (HB8.out.trans (hb9.mono HB8.out.size))
            clear hb9 CL HB8
            go_wp2_with fail
            refine (CS.out _ HB9.out).mono ?_
            rintro e w10 ⟨A10, c10, s3, rfl, hp10, hro10, hb10⟩
            have HB10 := kept (HB9.out.trans (hb10.mono HB9.out.size))
            have HP10 := kept hp10
            have HR10 := kept hro10.rd
            clear hp10 hro10 hb10 HB9
            go_wp2_with fail
            refine (CR.out _ HB10.out).mono ?_
            rintro e w11 ⟨A11, c11, rfl, hrd11, hb11⟩
            have HB11 := kept (HB10.out.trans (hb11.mono HB10.out.size))
            have CL := kept (rall_any A10 A11 s3.length SL.length c10 c11 s3 SL w11 rfl rfl (HR10.out.next hb11) hrd11 (by rw [(HTS.out s3 HP10.out).2]; omega))
            rw [decide_eq_true (HP10.out.trans HSPE.out.symm)] at CL
            clear hrd11 hb11 HB10 HR10 HP10 CS CR
            go_wp2_with fail
            refine CL.out.mono ?_
            rintro e w12 ⟨rfl, hb12⟩
            have HB12 := kept (HB11.out.trans (hb12.mono HB11.out.size))
            clear hb12 CL HB11
            go_wp2_with fail
            refine (lworks_any _ (HM.out.next HB12.out)).mono ?_
            rintro e w13 ⟨rfl, hb13⟩
            have HB13 := kept (HB12.out.trans (hb13.mono HB12.out.size))
            clear hb13 HB12
            go_wp2_with fail
            go_ret
            exact ⟨rfl, HB13.out⟩
  · rw [decide_eq_false hfw] at CF
    clear hr hfw
    go_enter Tryd.func3, Tryd.ntmps3
    go_wp2_with fail
    refine CF.out.mono ?_
    rintro e w0 ⟨rfl, rfl⟩
    go_wp2_with fail
    refine (lworks_any _ hm).mono ?_
    rintro e w8 ⟨rfl, hb8⟩
    go_wp2_with fail
    go_ret
    exact ⟨rfl, hb8⟩
end Go.Proofs.YtfkfpanhbanljaaDoor.List44
