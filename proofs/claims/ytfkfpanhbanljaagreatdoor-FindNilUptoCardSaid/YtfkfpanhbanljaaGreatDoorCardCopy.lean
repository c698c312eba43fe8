/- The walk of card.Copy: a card that shares nothing. -/
import Derived.Test.YtfkfpanhbanljaaGreatDoorSet7
import Derived.Deep.DeepCutAuto
namespace Go.Proofs.YtfkfpanhbanljaaGreatDoor.Card
open Go.RowKit Go.Proofs.YtfkfpanhbanljaaGreatDoor.Mem

/-- a card of the call's own, in blocks from 'base' on -/
def CardM.Fresh (w : World) (base : Nat) (y : CardM) : Prop :=
  y.cid < 18446744073709551616 ∧ lineE.Own w base 44 (.slice y.X y.ls.length y.c) y.ls ∧ y.ls.length ≤ 2932031007402 ∧ ∀ z ∈ y.ls, z.f < 256 ∧ z.m.length ≤ 8796093022208 ∧ strE.Own w base 9 (.slice z.A z.m.length z.c) z.m
theorem CardM.Fresh.ok {w : World} {base : Nat} {y : CardM} (h : y.Fresh w base) : y.Ok w w.heap.size := by
  obtain ⟨h1, h2, h3, h4⟩ := h
  refine ⟨h1, ⟨h2.rd, fun z hz => ?_⟩, h2.cap, h3⟩
  obtain ⟨h5, h6, h7⟩ := h4 z hz
  exact ⟨strE_rd.1 h7.rd, h5, h7.cap, h6⟩
theorem CardM.Fresh.below {w w' : World} {base : Nat} {y : CardM} (h : y.Fresh w base) {B : Nat} (hb : Below B w w') (hB : w.heap.size ≤ B) : y.Fresh w' base :=
  ⟨h.1, h.2.1.below hb hB, h.2.2.1, fun z hz => ⟨(h.2.2.2 z hz).1, (h.2.2.2 z hz).2.1, (h.2.2.2 z hz).2.2.below hb hB⟩⟩
theorem CardM.Fresh.low {w : World} {base : Nat} {y : CardM} (h : y.Fresh w base) {p : Addr} (hp : p.block < base) (u : Value) : y.Fresh (w.setCell p u) base :=
  ⟨h.1, OwnK.low h.2.1 hp u, h.2.2.1, fun z hz => ⟨(h.2.2.2 z hz).1, (h.2.2.2 z hz).2.1, OwnK.low (h.2.2.2 z hz).2.2 hp u⟩⟩
theorem CardM.Fresh.mono {w : World} {base b' : Nat} {y : CardM} (h : y.Fresh w base) (hb : b' ≤ base) : y.Fresh w b' :=
  ⟨h.1, h.2.1.mono hb, h.2.2.1, fun z hz => ⟨(h.2.2.2 z hz).1, (h.2.2.2 z hz).2.1, (h.2.2.2 z hz).2.2.mono hb⟩⟩
/-- its blocks lie below block number B -/
def CardM.Under (y : CardM) (B : Nat) : Prop := (∀ k, (Value.slice y.X y.ls.length y.c).ownBlock = some k → k < B) ∧ ∀ z ∈ y.ls, ∀ k, (Value.slice z.A z.m.length z.c).ownBlock = some k → k < B
theorem CardM.Fresh.under {w : World} {base : Nat} {y : CardM} (h : y.Fresh w base) : y.Under w.heap.size :=
  ⟨fun k hk => (OwnK.under h.2.1 k hk).2, fun z hz k hk => (OwnK.under (h.2.2.2 z hz).2.2 k hk).2⟩
theorem CardM.Under.mono {y : CardM} {B B' : Nat} (h : y.Under B) (hB : B ≤ B') : y.Under B' := ⟨fun k hk => Nat.lt_of_lt_of_le (h.1 k hk) hB, fun z hz k hk => Nat.lt_of_lt_of_le (h.2 z hz k hk) hB⟩
theorem ne_block {v : Value} {B g : Nat} (h : ∀ k, v.ownBlock = some k → k < B) (hg : B ≤ g) : v.ownBlock = none ∨ v.ownBlock ≠ some g := by
  cases hv : v.ownBlock with
  | none => exact .inl rfl
  | some k => exact .inr (fun e => by have := h k hv; have h2 : k = g := Option.some.inj e; omega)
/-- a store above it -/
theorem CardM.Fresh.above {w : World} {base B : Nat} {y : CardM} (h : y.Fresh w base) (hu : y.Under B) {p : Addr} (hp : B ≤ p.block) (u : Value) : y.Fresh (w.setCell p u) base :=
  ⟨h.1, OwnK.other h.2.1 (ne_block hu.1 hp) u, h.2.2.1, fun z hz => ⟨(h.2.2.2 z hz).1, (h.2.2.2 z hz).2.1, OwnK.other (h.2.2.2 z hz).2.2 (ne_block (hu.2 z hz) hp) u⟩⟩
/-- a store into a card's variable -/
theorem CardM.Fresh.box {w : World} {base g : Nat} {cs : List Value} {y : CardM} (h : y.Fresh w base) (hk : Blk w g cs 31) (j : Nat) (u : Value) : y.Fresh (w.setCell ⟨g, j, none⟩ u) base :=
  ⟨h.1, OwnK.other h.2.1 (OwnK.apartB h.2.1 hk (by decide)) u, h.2.2.1, fun z hz => ⟨(h.2.2.2 z hz).1, (h.2.2.2 z hz).2.1, OwnK.other (h.2.2.2 z hz).2.2 (OwnK.apartB (h.2.2.2 z hz).2.2 hk (by decide)) u⟩⟩
def Copies (w : World) (x : CardM) (en : Ending) (w' : World) : Prop := ∃ y : CardM, en = .returned y.val ∧ y.p = x.p ∧ y.Fresh w' w.heap.size ∧ Below w.heap.size w w'
/-- the state of the copy behind k lines -/
def CopyRel (x : CardM) (w : World) (A1 : Option Addr) (c1 k : Nat) (wr : World) : Prop :=
  ∃ ys : List LineM, ys.length = k ∧ Kept (ys.map LineM.p = (x.ls.take k).map LineM.p) ∧ (∀ z ∈ ys, z.f < 256 ∧ z.m.length ≤ 8796093022208 ∧ strE.Own wr (w.heap.size + 2) 9 (.slice z.A z.m.length z.c) z.m) ∧
    lineE.Own wr (w.heap.size + 2) 44 (.slice A1 x.ls.length c1) (ys ++ x.ls.drop k) ∧ Blk wr w.heap.size [.int .u64 (x.cid : Int), .slice A1 x.ls.length c1] 31 ∧ Blk wr (w.heap.size + 1) [.int .u64 0, .slice none 0 0] 31 ∧ w.heap.size + 2 ≤ wr.heap.size ∧ Below w.heap.size w wr
theorem copy_step {x : CardM} {w wr w2 : World} {g c1 k : Nat} {z : LineM} {A2 : Option Addr} {c2 : Nat} (h : CopyRel x w (some ⟨g, 0, none⟩) c1 k wr) (hz : x.ls[k]? = some z) (hzf : z.f < 256) (hzm : z.m.length ≤ 8796093022208)
    (hown2 : strE.Own w2 wr.heap.size 9 (.slice A2 z.m.length c2) z.m) (hb2 : Below wr.heap.size wr w2) :
    CopyRel x w (some ⟨g, 0, none⟩) c1 (k + 1) (w2.setCell ⟨g, k * 3 + 2, none⟩ (.slice A2 z.m.length c2)) := by
  obtain ⟨ys, hyl, hyp, hyo, hown, hk1, hk2, hsz, hb⟩ := h
  have hlt := (List.getElem?_eq_some_iff.1 hz).1
  have hdz : x.ls.drop k = z :: x.ls.drop (k + 1) := by
    rw [List.drop_eq_getElem_cons hlt]
    congr 1
    exact Option.some.inj ((List.getElem?_eq_getElem hlt).symm.trans hz)
  have hown' := hown.below hb2 (Nat.le_refl _)
  have hmid : (ys ++ x.ls.drop k)[k]? = some z := by rw [List.getElem?_append_right (by omega), hyl, Nat.sub_self, hdz]; rfl
  obtain ⟨g', hg, hg1, hg2, hgc, hgf, hgs⟩ := hown'.spot (j := 2) hmid rfl
  obtain rfl : g' = g := (congrArg Addr.block (Option.some.inj hg)).symm
  obtain ⟨s1, s2⟩ := hgs ⟨z.f, z.t, A2, z.m, c2⟩ (.slice A2 z.m.length c2) rfl
  rw [show lineE.k = 3 from rfl] at s1 s2
  have hset : (ys ++ x.ls.drop k).set k ⟨z.f, z.t, A2, z.m, c2⟩ = (ys ++ [⟨z.f, z.t, A2, z.m, c2⟩]) ++ x.ls.drop (k + 1) := by
    rw [List.set_append_right _ _ (by omega), hyl, Nat.sub_self, hdz, List.set_cons_zero, List.append_assoc]; rfl
  rw [hset] at s1
  have hkeep : ∀ (v : Value) (l : List ByteArray) (b : Nat), strE.Own w2 b 9 v l → strE.Own (w2.setCell ⟨g', k * 3 + 2, none⟩ (.slice A2 z.m.length c2)) b 9 v l := fun v l b h => by
    exact OwnK.kept h s2 (OwnK.apart (e2 := 44) h hown' (by decide))
  refine ⟨ys ++ [⟨z.f, z.t, A2, z.m, c2⟩], by simp [hyl], ⟨?_⟩, ?_, s1, ?_, ?_, ?_, ?_⟩
  · rw [List.map_append, hyp.out, take_map LineM.p x.ls k z hz]; rfl
  · intro y hy
    rcases List.mem_append.1 hy with h | h
    · obtain ⟨h1, h2, h3⟩ := hyo y h
      exact ⟨h1, h2, hkeep _ _ _ (h3.below hb2 (Nat.le_refl _))⟩
    · rcases List.mem_singleton.1 h with rfl
      exact ⟨hzf, hzm, hkeep _ _ _ (hown2.mono hsz)⟩
  · exact (hk1.next hb2).other (by simp; omega) _
  · exact (hk2.next hb2).other (by simp; omega) _
  · have := hb2.size; simp [World.setCell]; omega
  · exact (hb.trans (hb2.mono hb.size)).setCell (by simp; omega) _
set_option maxHeartbeats 1000000 in
theorem copy_any (x : CardM) (w : World) (hx : x.Ok w w.heap.size) :
    Calls Tryz.prog 37 #[x.val] w (Copies w x) := by
  obtain ⟨hx1, hx2, hx3, hx4⟩ := hx
  have HC := kept (fun (W : World) (hb : Below w.heap.size w W) => lclone_any x.X x.ls.length x.c x.ls W rfl (hx2.1.next hb) (by omega))
  unfold CardM.val
  go_enter Tryz.func37, Tryz.ntmps37
  have hsb : Below w.heap.size w ((w.alloc (.cells #[.int .u64 (x.cid : Int), .slice x.X x.ls.length x.c] 31)).alloc (.cells #[.int .u64 0, .slice none 0 0] 31)) := ((Below.refl _ _).alloc (Nat.le_refl _) _).alloc (by simp) _
  have hk1 : Blk ((w.alloc (.cells #[.int .u64 (x.cid : Int), .slice x.X x.ls.length x.c] 31)).alloc (.cells #[.int .u64 0, .slice none 0 0] 31)) w.heap.size [.int .u64 (x.cid : Int), .slice x.X x.ls.length x.c] 31 := (Blk.new w _ _).alloc _
  have hk2 : Blk ((w.alloc (.cells #[.int .u64 (x.cid : Int), .slice x.X x.ls.length x.c] 31)).alloc (.cells #[.int .u64 0, .slice none 0 0] 31)) (w.heap.size + 1) [.int .u64 0, .slice none 0 0] 31 := Blk.newAt _ _ _ (by simp)
  go_wp2_with fail
  refine (HC.out _ hsb).mono ?_
  rintro e w1 ⟨A1, c1, rfl, hown1, hc1, hb1⟩
  have hw2 : w.heap.size + 2 ≤ w1.heap.size := by have := hb1.size; simp at this; omega
  have hk1 := hk1.next hb1
  have hk2 := hk2.next hb1
  have hb1 : Below w.heap.size w w1 := hsb.trans (hb1.mono (by simp; omega))
  have hown1 : lineE.Own w1 (w.heap.size + 2) 44 (.slice A1 x.ls.length c1) x.ls := hown1.mono (by simp)
  clear hsb
  have ha := hk1.cell (j := 1) rfl
  have hb := hk1.frozen 1
  go_wp2
  have hk1s := hk1.set 1 (.slice A1 x.ls.length c1)
  have hk2s := hk2.other (p := ⟨w.heap.size, 1, none⟩) (by simp) (.slice A1 x.ls.length c1)
  have hbs := hb1.setCell (p := ⟨w.heap.size, 1, none⟩) (Nat.le_refl _) (.slice A1 x.ls.length c1)
  have howns : lineE.Own (w1.setCell ⟨w.heap.size, 1, none⟩ (.slice A1 x.ls.length c1)) (w.heap.size + 2) 44 (.slice A1 x.ls.length c1) x.ls := by
    rcases hown1.2 with h1 | ⟨g, cap, cur, a, b, hg, r⟩
    · exact ⟨hown1.1, .inl h1⟩
    · exact ⟨hown1.1, .inr ⟨g, cap, cur, a, b, (Below.heap_setCell w1 _ _ g (by simp; omega)).trans hg, r⟩⟩
  have hsz2 : w.heap.size + 2 ≤ (w1.setCell ⟨w.heap.size, 1, none⟩ (.slice A1 x.ls.length c1)).heap.size := by simpa [World.setCell] using hw2
  go_loopw [11] (fun i wr => ∃ k : Nat, k ≤ x.ls.length ∧ i = .int .i64 (k : Int) ∧ CopyRel x w A1 c1 k wr) (fun i _ => x.ls.length - (intOf i).toNat)
  case atStart => exact ⟨0, Nat.zero_le _, rfl, [], rfl, ⟨rfl⟩, (fun z hz => by cases hz), howns, hk1s, hk2s, hsz2, hbs⟩
  case round =>
    obtain ⟨k, hk, rfl, hrel⟩ := hrel
    have HR := kept hrel
    obtain ⟨ys, hyl, hyp, hyo, hown, hk1, hk2, hsz, hb⟩ := hrel
    clear hk1s hk2s hbs howns hown1 hb1 ha hsz2
    by_cases hlt : k < x.ls.length
    · obtain ⟨z, hz⟩ : ∃ z, x.ls[k]? = some z := ⟨_, List.getElem?_eq_getElem hlt⟩
      have hzo : z.Ok w w.heap.size := hx2.2 z (List.mem_of_getElem? hz)
      have hdz : x.ls.drop k = z :: x.ls.drop (k + 1) := by
        rw [List.drop_eq_getElem_cons hlt]
        congr 1
        exact Option.some.inj ((List.getElem?_eq_getElem hlt).symm.trans hz)
      have hmid : (ys ++ x.ls.drop k)[k]? = some z := by rw [List.getElem?_append_right (by omega), hyl, Nat.sub_self, hdz]; rfl
      obtain ⟨g, hg, hg1, hg2, hgc, hgf, hgs⟩ := hown.spot (j := 2) hmid rfl
      obtain rfl := hg
      have HC2 := kept (sclone_any z.A z.m.length z.c z.m wr.drew rfl (strE_rd.2 (hzo.1.next hb.drew)) (by have := hzo.2.2.2; omega))
      have hbox := hk1.cell (j := 1) rfl
      have hgb : g < wr.drew.heap.size := hg2
      have hwb : w.heap.size < wr.drew.heap.size := by (have : w.heap.size < wr.heap.size := by omega); exact this
      have hkn : (k : Int) < (x.ls.length : Int) := by omega
      rw [show lineE.k = 3 from rfl] at hgc hgf hgs
      clear hk1 hk2 hyo hown
      go_wp2_with fail
      go_region_with ((go_at_call 75; refine HC2.out.mono ?_; rintro e w2 ⟨A2, c2, rfl, hown2, hc2, hb2⟩; have hbox2 := (hb2.cell (p := ⟨w.heap.size, 1, none⟩) hwb).trans hbox; have hgc2 := (hb2.cell (p := ⟨g, k * 3 + 2, none⟩) hgb).trans hgc; have hgf2 := (hb2.frozen (p := ⟨g, k * 3 + 2, none⟩) hgb).trans hgf))
      all_goals
        have hst := copy_step HR.out hz hzo.2.1 hzo.2.2.2 hown2 ((Below.refl _ wr).drew.trans hb2)
        have HST := kept hst
        clear hst hbox2 hgc2 hgf2
        go_wp2
        go_roundw
        case rel => exact ⟨k + 1, by omega, by go_num, HST.out⟩
        case measure => simp [intOf]; omega
    · obtain rfl : k = x.ls.length := by omega
      rw [List.drop_length, List.append_nil] at hown
      have hfin : CardM.Fresh wr (w.heap.size + 2) ⟨x.cid, A1, ys, c1⟩ := ⟨hx1, by rw [hyl]; exact hown, by rw [hyl]; exact hx4, hyo⟩
      have hpp : CardM.p ⟨x.cid, A1, ys, c1⟩ = x.p := by
        have := hyp.out
        rw [List.take_length] at this
        unfold CardM.p
        rw [this]
      have h10 := hk1.cell (j := 0) rfl
      have h11 := hk1.cell (j := 1) rfl
      have h20 := hk2.cell (j := 0) rfl
      have h21 := hk2.cell (j := 1) rfl
      have f20 := hk2.frozen 0
      have f21 := hk2.frozen 1
      clear HR hyo hown hk1
      go_wp2
      have hlen : ((x.ls.length : Nat)) = ys.length := hyl.symm
      refine bodyPost_ret (v := .agg #[.int .u64 (x.cid : Int), .slice A1 x.ls.length c1]) (by simp [results, Tryz.results37, go_sem, h20, h21]) rfl ⟨⟨x.cid, A1, ys, c1⟩, ?_, hpp, ((hfin.low (by simp) _).low (by simp) _).mono (by omega), (hb.setCell (by simp) _).setCell (by simp) _⟩
      unfold CardM.val
      rw [hlen]
end Go.Proofs.YtfkfpanhbanljaaGreatDoor.Card
