/- Layer 44 (list): cards of one's own in a row of one's own; copies; Sort. -/
import Derived.Test.YtfkfpanhbanljaaGreatDoorSet46
import Derived.Test.YtfkfpanhbanljaaGreatDoorCardCopy
import Derived.Test.YtfkfpanhbanljaaGreatDoorSet13
import Derived.BigQuiet
import Derived.Deep.DeepCutAuto
namespace Go.Proofs.YtfkfpanhbanljaaGreatDoor.List44
open Go.RowKit Go.Proofs.YtfkfpanhbanljaaGreatDoor.Mem Go.Proofs.YtfkfpanhbanljaaGreatDoor.Card Go.Proofs.YtfkfpanhbanljaaGreatDoor.Laid Go.Proofs.YtfkfpanhbanljaaGreatDoor.Stab

/-- cards of the call's own, in a row of its own, from block 'base' on -/
def RowF (w : World) (base : Nat) (A : Option Addr) (c : Nat) (l : List CardM) : Prop := cardE.Own w base 31 (.slice A l.length c) l ∧ ∀ y ∈ l, y.Fresh w base
section
variable {w w' : World} {base : Nat} {A A2 : Option Addr} {c c2 : Nat} {l l2 r : List CardM}
theorem RowF.next (h : RowF w base A c l) (hb : Below w.heap.size w w') : RowF w' base A c l := ⟨h.1.next hb, fun y hy => (h.2 y hy).below hb (Nat.le_refl _)⟩
theorem RowF.rd (h : RowF w base A c l) : RdCards w w.heap.size A l := ⟨h.1.rd, fun y hy => (h.2 y hy).ok⟩
theorem RowF.nil (w : World) (base : Nat) : RowF w base none 0 [] := ⟨Elem.Own.nilv _ _ _ _, fun y hy => by cases hy⟩
theorem RowF.mono {b' : Nat} (h : RowF w base A c l) (hb : b' ≤ base) : RowF w b' A c l := ⟨h.1.mono hb, fun y hy => (h.2 y hy).mono hb⟩
theorem fresh_turn {y : CardM} (h : y.Fresh w base) {v : Value} {b : Nat} {cs : List CardM} (ho : cardE.Own w b 31 v cs) (hu : Upd (fun k => v.ownBlock = some k) w w') : y.Fresh w' base :=
  ⟨h.1, h.2.1.upd hu fun k hk e => own_apart h.2.1 ho (by decide) k hk e, h.2.2.1, fun z hz => ⟨(h.2.2.2 z hz).1, (h.2.2.2 z hz).2.1, (h.2.2.2 z hz).2.2.upd hu fun k hk e => own_apart (h.2.2.2 z hz).2.2 ho (by decide) k hk e⟩⟩
theorem RowF.under (h : RowF w base A c l) (hu : Upd (fun k => (Value.slice A l.length c).ownBlock = some k) w w') (hb : base ≤ w.heap.size) : Below base w w' := hu.below hb fun k _ hk => (OwnK.under h.1 k hk).1
theorem RowF.turn (h : RowF w base A c l) (hu : Upd (fun k => (Value.slice A l.length c).ownBlock = some k) w w') (ho : cardE.Own w' base 31 (.slice A2 l2.length c2) l2) (hl : ∀ y ∈ l2, y.Fresh w base) : RowF w' base A2 c2 l2 := ⟨ho, fun y hy => fresh_turn (hl y hy) h.1 hu⟩
theorem RowF.app {y : CardM} (h : RowF w base A c l) (hy : y.Fresh w base) (hr : r = l ++ [y]) (ho : cardE.Own w' base 31 (.slice A2 r.length c2) r)
    (hu : ∀ S : Nat → Prop, (∀ k, (Value.slice A l.length c).ownBlock = some k → S k) → Upd S w w') : RowF w' base A2 c2 r := by
  refine h.turn (hu _ fun _ e => e) ho fun z hz => ?_
  rw [hr] at hz
  rcases List.mem_append.1 hz with h1 | h1
  · exact h.2 z h1
  · rw [List.mem_singleton.1 h1]; exact hy
end
/-- a row of copies is given -/
def GivesF (w : World) (ps : List (Nat × List (Nat × ByteArray × List ByteArray))) (e : Ending) (w' : World) : Prop :=
  ∃ A c ys, e = .returned (.slice A (List.length ys) c) ∧ ys.map CardM.p = ps ∧ RowF w' w.heap.size A c ys ∧ Below w.heap.size w w'
theorem givesF {w w' : World} {A : Option Addr} {c : Nat} {ys : List CardM} {ps : List (Nat × List (Nat × ByteArray × List ByteArray))} (h : ys.map CardM.p = ps) (hr : RowF w' w.heap.size A c ys) (hb : Below w.heap.size w w') : GivesF w ps (.returned (.slice A ys.length c)) w' := ⟨A, c, ys, rfl, h, hr, hb⟩
set_option maxRecDepth 100000 in
set_option maxHeartbeats 4000000 in
theorem copies_any (X : Option Addr) (l : List CardM) (c : Nat) (w : World) (hr : RdCards w w.heap.size X l) (hsz : l.length ≤ 1000000) :
    Calls Tryz.prog 63 #[.slice X l.length c] w (GivesF w (l.map CardM.p)) := by
  have HR := kept hr
  have H0 : Kept (Below w.heap.size w w) := ⟨Below.refl _ _⟩
  clear hr
  go_enter Tryz.func63, Tryz.ntmps63
  go_wp2_with fail
  go_loopw [3, 8] (fun s i wr => ∃ (k : Nat) (A : Option Addr) (ca : Nat) (ys : List CardM), k ≤ l.length ∧ i = .int .i64 (k : Int) ∧ s = .slice A ys.length ca ∧ ys.length = k ∧ Kept (ys.map CardM.p = (l.take k).map CardM.p ∧ RowF wr w.heap.size A ca ys ∧ Below w.heap.size w wr)) (fun _ i _ => l.length - (intOf i).toNat)
  case atStart => exact ⟨0, none, 0, [], Nat.zero_le _, rfl, rfl, rfl, ⟨rfl, RowF.nil _ _, H0.out⟩⟩
  case round =>
    clear H0
    obtain ⟨k, A, ca, ys, hk, rfl, rfl, hyk, hin⟩ := hrel
    have HYK := kept hyk
    clear hyk
    by_cases hlt : k < l.length
    · obtain ⟨⟨ycid, yX, yls, yc⟩, hy⟩ : ∃ y, l[k]? = some y := ⟨_, List.getElem?_eq_getElem hlt⟩
      obtain ⟨b1, o1, rfl, hbB, x0, x1, hyo⟩ := HR.out.at_ hy
      have hkn : (k : Int) < (l.length : Int) := by omega
      have x0 : wr.cell? ⟨b1, o1 + k * 2, none⟩ = some (.int .u64 (ycid : Int)) := (hin.out.2.2.cell (p := ⟨b1, o1 + k * 2, none⟩) hbB).trans x0
      have x1 : wr.cell? ⟨b1, o1 + k * 2 + 1, none⟩ = some (.slice yX yls.length yc) := (hin.out.2.2.cell (p := ⟨b1, o1 + k * 2 + 1, none⟩) hbB).trans x1
      have hbA : Below wr.heap.size wr (wr.alloc (.cells #[.int .u64 (ycid : Int), .slice yX yls.length yc] 31)) := (Below.refl _ _).alloc (Nat.le_refl _) _
      have hbw := hin.out.2.2.size
      have HB2 := kept (hin.out.2.2.trans (hbA.mono hbw))
      have HI2 := kept (hin.out.2.1.next hbA)
      have HYP := kept hin.out.1
      have CC := kept (copy_any ⟨ycid, yX, yls, yc⟩ (wr.alloc (.cells #[.int .u64 (ycid : Int), .slice yX yls.length yc] 31)) ((hyo.below HB2.out).more HB2.out.size))
      have HT : Kept ((l.take (k + 1)).map CardM.p = (l.take k).map CardM.p ++ [CardM.p ⟨ycid, yX, yls, yc⟩]) := ⟨by
        obtain ⟨e1, e2⟩ := List.getElem?_eq_some_iff.1 hy
        rw [List.take_succ_eq_append_getElem e1, e2, List.map_append]; rfl⟩
      clear hin hbA hyo hy
      unfold CardM.val at CC
      dsimp only at CC
      go_wp2_with fail
      refine CC.out.mono ?_
      rintro e w2 ⟨⟨zcid, zX, zls, zc⟩, rfl, hzp, hzf, hb2⟩
      have HB3 := kept (HB2.out.trans (hb2.mono HB2.out.size))
      have hbA : Below w2.heap.size w2 (w2.alloc (.cells #[.int .u64 (zcid : Int), .slice zX zls.length zc] 31)) := (Below.refl _ _).alloc (Nat.le_refl _) _
      have HI4 := kept ((HI2.out.next hb2).next hbA)
      have HB4 := kept (HB3.out.trans (hbA.mono HB3.out.size))
      have HZF := kept (CardM.Fresh.below (hzf.mono HB2.out.size) hbA (Nat.le_refl _))
      have HZP := kept hzp
      clear hb2 hbA hzf hzp CC HB2 HI2 x0 x1 HB3
      have hrn : cardE.Rd (w2.alloc (.cells #[.int .u64 (zcid : Int), .slice zX zls.length zc] 31)) (w2.heap.size + 1) (some ⟨w2.heap.size, 0, none⟩) [⟨zcid, zX, zls, zc⟩] := Mem.Rd.new w2 [.int .u64 (zcid : Int), .slice zX zls.length zc] 31
      have hz : (ys.length + [(⟨zcid, zX, zls, zc⟩ : CardM)].length) * 32 ≤ 140737488355328 := by have := HYK.out; simp; omega
      have hbase := HB4.out.size
      have hoB := HI4.out.1
      unfold CardM.val
      dsimp only
      go_wp2_with (at_builtin; refine wpl_appEU _ cardE rfl (.tmp 12) (.tmp 15) 22 rfl w.heap.size 31 Tryz.underlying22 Chg.card_info rfl _ ys rfl hoB _ _ _ _ [⟨zcid, zX, zls, zc⟩] rfl rfl hrn hz (by decide) hbase ?_; intro A9 c9 w9 r9 hr9 hown9 hu9 hx9)
      have HI9 := kept (HI4.out.app HZF.out hr9.out hown9 hu9)
      have HB9 := kept (HB4.out.trans (HI4.out.under (hu9 _ fun _ e => e) hbase))
      have HP9 : Kept (r9.map CardM.p = (l.take (k + 1)).map CardM.p) := ⟨by rw [hr9.out, List.map_append, HYP.out, HT.out, ← HZP.out]; rfl⟩
      have HL9 : Kept (r9.length = k + 1) := ⟨by have := HYK.out; rw [hr9.out, List.length_append, List.length_singleton]; omega⟩
      clear hr9 hown9 hu9 hx9 hrn hz hbase hoB HI4 HB4 HYP HT
      go_wp2_with fail
      go_roundw
      case rel => exact ⟨k + 1, A9, c9, r9, by omega, by go_num, rfl, HL9.out, ⟨HP9.out, HI9.out, HB9.out⟩⟩
      case measure => simp [intOf]; omega
    · obtain rfl : k = l.length := by omega
      have hge : ¬ (l.length : Int) < (l.length : Int) := by omega
      have HG := kept (givesF (w := w) (ps := l.map CardM.p) (by rw [hin.out.1, List.take_length]) hin.out.2.1 hin.out.2.2)
      clear hin HYK
      go_wp2_with fail
      go_ret
      exact HG.out
/-- sorting minds what is told alone -/
theorem title_p {x y : CardM} (h : x.p = y.p) : titleOf x.ls = titleOf y.ls ∧ x.cid = y.cid := by
  have h1 := congrArg Prod.fst h
  have h2 := congrArg Prod.snd h
  refine ⟨?_, h1⟩
  have h3 : ∀ (a b : List LineM), a.map LineM.p = b.map LineM.p → titleOf a = titleOf b := by
    intro a
    induction a with
    | nil => intro b hb; cases b with | nil => rfl | cons z b => cases hb
    | cons z a ih =>
      intro b hb
      cases b with
      | nil => cases hb
      | cons u b =>
        simp only [List.map_cons, List.cons.injEq] at hb
        have ht : z.t = u.t := congrArg (fun q => q.2.1) hb.1
        have ih2 := ih b hb.2
        unfold titleOf at ih2 ⊢
        rw [List.find?_cons, List.find?_cons]
        have hh : hasT z = hasT u := by unfold hasT; rw [ht]
        rw [hh]
        cases hasT u with
        | true => exact ht
        | false => exact ih2
  exact h3 _ _ h2
theorem lt_p {x y x' y' : CardM} (hx : x.p = x'.p) (hy : y.p = y'.p) : ltC x y = ltC x' y' := by
  unfold ltC cmpC
  obtain ⟨h1, h2⟩ := title_p hx
  obtain ⟨h3, h4⟩ := title_p hy
  rw [h1, h2, h3, h4]
theorem ins_p {x x' : CardM} (hx : x.p = x'.p) : ∀ (a b : List CardM), a.map CardM.p = b.map CardM.p → (ins ltC a x).map CardM.p = (ins ltC b x').map CardM.p
  | [], [], _ => by simp [ins, hx]
  | [], _ :: _, h => by cases h
  | _ :: _, [], h => by cases h
  | y :: a, z :: b, h => by
    simp only [List.map_cons, List.cons.injEq] at h
    unfold ins
    rw [lt_p hx h.1]
    split
    · simp only [List.map_cons, hx, h.1, h.2]
    · simp only [List.map_cons, h.1, ins_p hx a b h.2]
theorem foldl_p : ∀ (a b p q : List CardM), a.map CardM.p = b.map CardM.p → p.map CardM.p = q.map CardM.p → (a.foldl (ins ltC) p).map CardM.p = (b.foldl (ins ltC) q).map CardM.p
  | [], [], _, _, _, h => h
  | [], _ :: _, _, _, h, _ => by cases h
  | _ :: _, [], _, _, h, _ => by cases h
  | x :: a, y :: b, p, q, h, h2 => by
    simp only [List.map_cons, List.cons.injEq] at h
    exact foldl_p a b _ _ h.2 (ins_p h.1 p q h2)
theorem stab_p {a b : List CardM} (h : a.map CardM.p = b.map CardM.p) : (stab ltC a).map CardM.p = (stab ltC b).map CardM.p := foldl_p a b [] [] h rfl
/-- titles that are not too long -/
def Short (l : List CardM) : Prop := ∀ x ∈ l, (titleOf x.ls).size ≤ 4294967000
theorem short_p {a b : List CardM} (h : a.map CardM.p = b.map CardM.p) (hb : Short b) : Short a := fun x hx => by
  have h1 : x.p ∈ b.map CardM.p := by rw [← h]; exact List.mem_map_of_mem hx
  obtain ⟨y, hy, e⟩ := List.mem_map.1 h1
  rw [(title_p e.symm).1]
  exact hb y hy
set_option maxRecDepth 100000 in
set_option maxHeartbeats 4000000 in
theorem lsort_any (X : Option Addr) (l : List CardM) (c : Nat) (w : World) (hr : RdCards w w.heap.size X l) (hn : l.length < 40) (hs : Short l) (hm : ML w) :
    Calls Tryz.prog 26 #[.slice X l.length c] w (GivesF w ((stab ltC l).map CardM.p)) := by
  have CC := kept (copies_any X l c w hr (by omega))
  have HS := kept hs
  have HM := kept hm
  have HN := kept hn
  clear hr hs hm hn
  go_enter Tryz.func26, Tryz.ntmps26
  go_wp2_with fail
  refine CC.out.mono ?_
  rintro e w2 ⟨A, c2, ys, rfl, hp, hro, hb2⟩
  have hyl : ys.length = l.length := by have := congrArg List.length hp; simpa using this
  have hsy := short_p hp HS.out
  have CS := sortC_own w.heap.size A c2 ys.length ys w2 rfl (by have := HN.out; omega) hro.1 (fun W x y hu hx hy => lcmp_any x y W (fresh_turn (hro.2 x hx) hro.1 hu).ok (fresh_turn (hro.2 y hy) hro.1 hu).ok (HM.out.next (hb2.trans (hro.under hu hb2.size))) (hsy x hx) (hsy y hy))
  have CS := kept CS
  have HF : Kept (∀ W, cardE.Own W w.heap.size 31 (.slice A ys.length c2) (stab ltC ys) → Upd (fun b => (Value.slice A ys.length c2).ownBlock = some b) w2 W → GivesF w ((stab ltC l).map CardM.p) (.returned (.slice A ys.length c2)) W) := ⟨fun W ho hu => by
    have hl2 : (stab ltC ys).length = ys.length := stab_len ys
    have h1 : RowF W w.heap.size A c2 (stab ltC ys) := hro.turn hu (by rw [hl2]; exact ho) fun y hy => hro.2 y ((stab_perm ys).mem_iff.1 hy)
    have h2 := givesF (w := w) (stab_p hp) h1 (hb2.trans (hro.under hu hb2.size))
    rw [hl2] at h2
    exact h2⟩
  clear hp hro hb2 hyl hsy CC HS HM HN
  go_wp2_with fail
  refine CS.out.mono ?_
  rintro e w3 ⟨rfl, ho, hu⟩
  have HG := kept (HF.out w3 ho hu)
  clear ho hu CS HF
  go_wp2_with fail
  go_ret
  exact HG.out
end Go.Proofs.YtfkfpanhbanljaaGreatDoor.List44
