import Derived.Test.YtfkfpanhbanljaaGreatViewCard
import Derived.Test.YtfkfpanhbanljaaGreatSetQ
import Derived.Test.YtfkfpanhbanljaaGreatSetY
/- Layer 19 (view): all cards, the program's. -/
namespace Go.Proofs.YtfkfpanhbanljaaGreat.View
open Go.RowKit Go.Proofs.YtfkfpanhbanljaaGreat.Mem Go.Proofs.YtfkfpanhbanljaaGreat.Card Go.Proofs.YtfkfpanhbanljaaGreat.Past Go.Proofs.YtfkfpanhbanljaaGreat.Reg

theorem card_infoV : (Tryz.prog.info? 77).map (fun i => (i.zero, i.size, i.bytes)) = some (some (.agg #[.int .u64 0, .slice none 0 0]), 2, 32) := by kernel_rfl
/-- a row of cards of the call's own -/
def RowV (w : World) (base : Nat) (A : Option Addr) (c : Nat) (l : List CardM) : Prop := cardE.Own w base 77 (.slice A l.length c) l ∧ ∀ y ∈ l, y.Fresh w base
section
variable {w w' : World} {base : Nat} {A A2 : Option Addr} {c c2 : Nat} {l r : List CardM}
theorem RowV.next (h : RowV w base A c l) (hb : Below w.heap.size w w') : RowV w' base A c l := ⟨h.1.next hb, fun y hy => (h.2 y hy).below hb (Nat.le_refl _)⟩
theorem RowV.rd (h : RowV w base A c l) : RdCards w w.heap.size A l := ⟨h.1.rd, fun y hy => (h.2 y hy).ok⟩
theorem RowV.nil (w : World) (base : Nat) : RowV w base none 0 [] := ⟨Elem.Own.nilv _ _ _ _, fun y hy => by cases hy⟩
theorem RowV.under (h : RowV w base A c l) (hu : Upd (fun k => (Value.slice A l.length c).ownBlock = some k) w w') (hb : base ≤ w.heap.size) : Below base w w' := hu.below hb fun k _ hk => (OwnK.under h.1 k hk).1
theorem fresh_turnV {y : CardM} (h : y.Fresh w base) {v : Value} {b : Nat} {cs : List CardM} (ho : cardE.Own w b 77 v cs) (hu : Upd (fun k => v.ownBlock = some k) w w') : y.Fresh w' base :=
  ⟨h.1, h.2.1.upd hu fun k hk e => own_apart h.2.1 ho (by decide) k hk e, h.2.2.1, fun z hz => ⟨(h.2.2.2 z hz).1, (h.2.2.2 z hz).2.1, (h.2.2.2 z hz).2.2.upd hu fun k hk e => own_apart (h.2.2.2 z hz).2.2 ho (by decide) k hk e⟩⟩
theorem RowV.app {y : CardM} (h : RowV w base A c l) (hy : y.Fresh w base) (hr : r = l ++ [y]) (ho : cardE.Own w' base 77 (.slice A2 r.length c2) r)
    (hu : ∀ S : Nat → Prop, (∀ k, (Value.slice A l.length c).ownBlock = some k → S k) → Upd S w w') : RowV w' base A2 c2 r := by
  refine ⟨ho, fun z hz => ?_⟩
  rw [hr] at hz
  refine fresh_turnV ?_ h.1 (hu _ fun _ e => e)
  rcases List.mem_append.1 hz with h1 | h1
  · exact h.2 z h1
  · rw [List.mem_singleton.1 h1]; exact hy
end
/-- a call gives cards of its own -/
def GivesV (w : World) (ps : List (Nat × List (Nat × ByteArray × List ByteArray))) (e : Ending) (w' : World) : Prop :=
  ∃ A c ys, e = .returned (.slice A (List.length ys) c) ∧ ys.map CardM.p = ps ∧ RowV w' w.heap.size A c ys ∧ Below w.heap.size w w'
theorem cid_flds {es : List EvM} {cid : Nat} (hev : ∀ e ∈ es, e.field < 256) (h : cid ∈ idsV es) : fldsV es cid ≠ [] := by
  unfold idsV at h
  obtain ⟨e, he, h1⟩ := List.mem_map.1 h
  obtain ⟨h2, h3⟩ := List.mem_filter.1 he
  have h4 : e.field ∈ fldsV es cid := flds_mem.2 ⟨hev e h2, fun h5 => by
    unfold valsV at h5
    have h6 : vOf e ∈ (es.filter (isV cid e.field)).map vOf := List.mem_map_of_mem (List.mem_filter.2 ⟨h2, by
      unfold isV
      simp only [Bool.and_eq_true, decide_eq_true_eq]
      exact ⟨of_decide_eq_true h3, h1, trivial⟩⟩)
    rw [h5] at h6
    cases h6⟩
  intro h5
  rw [h5] at h4
  cases h4
theorem cid_lt {es : List EvM} {cid : Nat} (hev : ∀ e ∈ es, e.cid < 18446744073709551616) (h : cid ∈ idsV es) : cid < 18446744073709551616 := by
  unfold idsV at h
  obtain ⟨e, he, rfl⟩ := List.mem_map.1 h
  exact hev e (List.mem_filter.1 he).1
set_option maxRecDepth 100000 in
set_option maxHeartbeats 8000000 in
theorem vlist_any (A : Option Addr) (es : List EvM) (c : Nat) (w : World) (hr : evE.Rd w w.heap.size A es) (hn : es.length ≤ 25) (hev : ∀ e ∈ es, e.field < 256) (hec : ∀ e ∈ es, e.cid < 18446744073709551616) :
    Calls Tryz.prog 34 #[.slice A es.length c] w (GivesV w (viewV es)) := by
  have HR := kept hr
  have CC : Kept (∀ (W : World) (cid : Nat), Below w.heap.size w W → cid ∈ idsV es → Calls Tryz.prog 46 #[.slice A es.length c, .int .u64 (cid : Int)] W (CardG W cid (linesV es cid))) := ⟨fun W cid hb hi => vcard_any A es c cid W (HR.out.next hb) hn hev (cid_lt hec hi) (cid_flds hev hi)⟩
  have H0 : Kept (Mem.Own w w.heap.size 33 (.slice none 0 0) (WB []) ∧ Below w.heap.size w w) := ⟨Mem.Own.nilv _ _ _, Below.refl _ _⟩
  clear hr hev hec
  go_enter Tryz.func34, Tryz.ntmps34
  go_wp2_with fail
  go_loopw [3, 13] (fun s i wr => ∃ (k : Nat) (D : Option Addr) (cc : Nat) (r : List Nat), k ≤ es.length ∧ i = .int .i64 (k : Int) ∧ s = .slice D r.length cc ∧ Kept (r = idsV (es.take k)) ∧ Kept (Mem.Own wr w.heap.size 33 (.slice D r.length cc) (WB r) ∧ Below w.heap.size w wr)) (fun _ i _ => es.length - (intOf i).toNat)
  case atStart => exact ⟨0, none, 0, [], Nat.zero_le _, rfl, rfl, ⟨rfl⟩, H0⟩
  case round =>
    clear H0
    obtain ⟨k, D, cc, r, hk, rfl, rfl, HRI, HO⟩ := hrel
    rename World => wr
    by_cases hlt : k < es.length
    · obtain ⟨⟨dev, ne, kind, ecid, field, text, kA, kn, kc⟩, he⟩ : ∃ e, es[k]? = some e := ⟨_, List.getElem?_eq_getElem hlt⟩
      obtain ⟨b1, o1, rfl, hbB, hcs⟩ := (HR.out.next HO.out.2).at_ he
      have c0 : wr.cell? ⟨b1, o1 + k * 7, none⟩ = some (.int .u16 (dev : Int)) := hcs 0 _ rfl
      have c1 : wr.cell? ⟨b1, o1 + k * 7 + 1, none⟩ = some (.int .u64 (ne : Int)) := hcs 1 _ rfl
      have c2 : wr.cell? ⟨b1, o1 + k * 7 + 2, none⟩ = some (.int .u8 (kind : Int)) := hcs 2 _ rfl
      have c3 : wr.cell? ⟨b1, o1 + k * 7 + 3, none⟩ = some (.int .u64 (ecid : Int)) := hcs 3 _ rfl
      have c4 : wr.cell? ⟨b1, o1 + k * 7 + 4, none⟩ = some (.int .u8 (field : Int)) := hcs 4 _ rfl
      have c5 : wr.cell? ⟨b1, o1 + k * 7 + 5, none⟩ = some (.string text) := hcs 5 _ rfl
      have c6 : wr.cell? ⟨b1, o1 + k * 7 + 6, none⟩ = some (.slice kA kn kc) := hcs 6 _ rfl
      have hkn : (k : Int) < (es.length : Int) := by omega
      have HNX := kept (ids_next he)
      rw [← HRI.out] at HNX
      have hrl : r.length ≤ 25 := by
        rw [HRI.out]
        have h1 := ids_length (es.take k)
        rw [List.length_take] at h1
        omega
      have hbA : Below wr.heap.size wr (wr.alloc (.cells #[.int .u16 (dev : Int), .int .u64 (ne : Int), .int .u8 (kind : Int), .int .u64 (ecid : Int), .int .u8 (field : Int), .string text, .slice kA kn kc] 38)) := (Below.refl _ _).alloc (Nat.le_refl _) _
      have HO2 : Kept (Mem.Own (wr.alloc (.cells #[.int .u16 (dev : Int), .int .u64 (ne : Int), .int .u8 (kind : Int), .int .u64 (ecid : Int), .int .u8 (field : Int), .string text, .slice kA kn kc] 38)) w.heap.size 33 (.slice D r.length cc) (WB r) ∧ Below w.heap.size w (wr.alloc (.cells #[.int .u16 (dev : Int), .int .u64 (ne : Int), .int .u8 (kind : Int), .int .u64 (ecid : Int), .int .u8 (field : Int), .string text, .slice kA kn kc] 38))) := ⟨HO.out.1.next hbA, bnx HO.out.2 hbA⟩
      have HKB := kept (Blk.new wr [.int .u16 (dev : Int), .int .u64 (ne : Int), .int .u8 (kind : Int), .int .u64 (ecid : Int), .int .u8 (field : Int), .string text, .slice kA kn kc] 38)
      clear he hcs hbA HO
      by_cases hkd : kind = 1
      · subst hkd
        go_upto_region 5 with fail
        clear c0 c1 c2 c3 c4 c5 c6
        generalize wr.alloc (.cells #[.int .u16 (dev : Int), .int .u64 (ne : Int), .int .u8 1, .int .u64 (ecid : Int), .int .u8 (field : Int), .string text, .slice kA kn kc] 38) = w2 at *
        generalize wr.heap.size = gx at *
        have p1 := HKB.out.cell (j := 2) rfl
        have p2 := HKB.out.cell (j := 3) rfl
        have hbB2 : Below w2.heap.size w2 (w2.alloc (.cells #[.int .u64 (ecid : Int)] 33)) := (Below.refl _ _).alloc (Nat.le_refl _) _
        have HO3 := kept (HO2.out.1.next hbB2)
        have HB3 := kept (bnx HO2.out.2 hbB2)
        have hrn : Rd (w2.alloc (.cells #[.int .u64 (ecid : Int)] 33)) (w2.heap.size + 1) (some ⟨w2.heap.size, 0, none⟩) (WB [ecid]) := Mem.Rd.new w2 [.int .u64 (ecid : Int)] 33
        have hz : r.length + [ecid].length ≤ 17592186044416 := by rw [List.length_singleton]; omega
        have hbase := HB3.out.size
        clear hbB2 HO2
        go_wp2_with (at_builtin; refine wpl_appW rfl (.tmp 20) (.tmp 23) rfl w.heap.size _ r rfl HO3.out _ _ _ _ [ecid] rfl rfl hrn hz hbase ?_; intro A9 c9 w9 r9 hr9 hown9 hg9 hb9)
        have HRI9 : Kept (r9 = idsV (es.take (k + 1))) := ⟨by rw [hr9, HNX.out, if_pos rfl]⟩
        have HO9 := kept (And.intro hown9 (HB3.out.trans hb9))
        clear hr9 hown9 hg9 hb9 HNX HRI HO3 HB3
        go_roundw
        case rel => exact ⟨k + 1, A9, c9, r9, by omega, by go_num, rfl, HRI9, HO9⟩
        case measure => simp [intOf]; omega
      · have hkb : ((kind : Int) == 1) = false := by simp; omega
        have HRI9 : Kept (r = idsV (es.take (k + 1))) := ⟨by rw [HNX.out, if_neg hkd, List.append_nil]⟩
        clear HNX HRI HKB
        go_wp2_with fail
        go_roundw
        case rel => exact ⟨k + 1, D, cc, r, by omega, by go_num, rfl, HRI9, HO2⟩
        case measure => simp [intOf]; omega
    · obtain rfl : k = es.length := by omega
      rw [List.take_length] at HRI
      have hrl : r.length ≤ 25 := by rw [HRI.out]; exact Nat.le_trans (ids_length es) hn
      have CSO := kept (SortQ.sort_25 w.heap.size D cc r wr HO.out.1 hrl)
      have HBU : Kept (∀ k, (Value.slice D r.length cc).ownBlock = some k → w.heap.size ≤ k) := ⟨fun k e => (HO.out.1.lt k e).1⟩
      have HB := kept HO.out.2
      clear HO
      go_wp2_with fail
      refine CSO.out.mono ?_
      rintro e w2 ⟨rfl, l', hp, hs, ho2, hu2⟩
      have hl := hp.length_eq
      rw [← hl] at ho2
      have HB2 := kept (HB.out.trans (hu2.below HB.out.size fun k _ e => HBU.out k e))
      have HDD : Kept (SortW.dd l' = cidsV es) := ⟨dd_cids (by rw [← HRI.out]; exact hp) hs⟩
      have hl25 : l'.length ≤ 25 := by omega
      have CCO := SortW.compact_own w.heap.size D cc l' w2 ho2 (by omega)
      rw [hl, HDD.out] at CCO
      have CCO := kept CCO
      clear hp hs ho2 hu2 CSO hl HB HDD
      go_wp2_with fail
      refine CCO.out.mono ?_
      rintro e w3 ⟨rfl, ho3, hu3⟩
      have HB3 := kept (HB2.out.trans (hu3.below HB2.out.size fun k _ e => HBU.out k e))
      have hid : (cidsV es).length ≤ 25 := Nat.le_trans (cids_length es) hn
      have HIM : Kept (∀ x ∈ cidsV es, x ∈ idsV es) := ⟨fun x hx => cids_mem.1 hx⟩
      have HVE : Kept (viewV es = (cidsV es).map (cardV es)) := ⟨rfl⟩
      have H3 : Kept (Mem.Own w3 w.heap.size 33 (.slice D (cidsV es).length cc) (WB (cidsV es)) ∧ RowV w3 w.heap.size none 0 [] ∧ Below w.heap.size w w3) := ⟨ho3, RowV.nil _ _, HB3.out⟩
      clear ho3 hu3 HB3 HB2 CCO HBU hl25 hrl HRI HR
      generalize cidsV es = ids at *
      go_wp2_with fail
      go_loopw [6, 31] (fun s i wr => ∃ (j : Nat) (A' : Option Addr) (c' : Nat) (ys : List CardM), j ≤ ids.length ∧ i = .int .i64 (j : Int) ∧ s = .slice A' ys.length c' ∧ Kept (ys.length = j) ∧ Kept (ys.map CardM.p = (ids.take j).map (cardV es)) ∧ Kept (Mem.Own wr w.heap.size 33 (.slice D ids.length cc) (WB ids) ∧ RowV wr w.heap.size A' c' ys ∧ Below w.heap.size w wr)) (fun _ i _ => ids.length - (intOf i).toNat)
      case atStart => exact ⟨0, none, 0, [], Nat.zero_le _, rfl, rfl, ⟨rfl⟩, ⟨rfl⟩, H3⟩
      case round =>
        clear H3
        obtain ⟨j, A', c', ys, hj, rfl, rfl, HYL, HYP, HW⟩ := hrel
        rename World => wr
        by_cases hjl : j < ids.length
        · obtain ⟨id, hidj⟩ : ∃ x, ids[j]? = some x := ⟨_, List.getElem?_eq_getElem hjl⟩
          obtain ⟨bb, oo, rfl, hbb, hcell⟩ := HW.out.1.rd.at_ (k := j) (u := .int .u64 (id : Int)) (by simp [WB, hidj])
          have hjn : (j : Int) < (ids.length : Int) := by omega
          have CK := kept (CC.out wr id HW.out.2.2 (HIM.out id (List.mem_of_getElem? hidj)))
          have HTK : Kept ((ids.take (j + 1)).map (cardV es) = (ids.take j).map (cardV es) ++ [(id, linesV es id)]) := ⟨by
            obtain ⟨e1, e2⟩ := List.getElem?_eq_some_iff.1 hidj
            rw [List.take_succ_eq_append_getElem e1, e2, List.map_append]; rfl⟩
          clear hidj
          go_wp2_with fail
          refine CK.out.mono ?_
          rintro e w4 ⟨X, cX, ms, rfl, hms, hfr, hb4⟩
          have HW4 : Kept (Mem.Own w4 w.heap.size 33 (.slice (some ⟨bb, oo, none⟩) ids.length cc) (WB ids) ∧ RowV w4 w.heap.size A' c' ys ∧ Below w.heap.size w w4) := ⟨HW.out.1.next hb4, HW.out.2.1.next hb4, bnx HW.out.2.2 hb4⟩
          have HMS := kept hms
          have HFR := kept (hfr.mono HW.out.2.2.size)
          clear hms hfr hb4 CK HW hcell
          have hbA : Below w4.heap.size w4 (w4.alloc (.cells #[.int .u64 (id : Int), .slice X ms.length cX] 77)) := (Below.refl _ _).alloc (Nat.le_refl _) _
          have HW5 : Kept (Mem.Own (w4.alloc (.cells #[.int .u64 (id : Int), .slice X ms.length cX] 77)) w.heap.size 33 (.slice (some ⟨bb, oo, none⟩) ids.length cc) (WB ids) ∧ RowV (w4.alloc (.cells #[.int .u64 (id : Int), .slice X ms.length cX] 77)) w.heap.size A' c' ys ∧ Below w.heap.size w (w4.alloc (.cells #[.int .u64 (id : Int), .slice X ms.length cX] 77))) := ⟨HW4.out.1.next hbA, HW4.out.2.1.next hbA, bnx HW4.out.2.2 hbA⟩
          have HF5 := kept (HFR.out.below hbA (Nat.le_refl _))
          have HKB := kept (Blk.new w4 [.int .u64 (id : Int), .slice X ms.length cX] 77)
          clear hbA HW4 HFR
          go_upto_region 14 with fail
          generalize w4.alloc (.cells #[.int .u64 (id : Int), .slice X ms.length cX] 77) = w5 at *
          generalize w4.heap.size = gx at *
          have p0 := HKB.out.cell (j := 0) rfl
          have p1 := HKB.out.cell (j := 1) rfl
          have hbB : Below w5.heap.size w5 (w5.alloc (.cells #[.int .u64 (id : Int), .slice X ms.length cX] 77)) := (Below.refl _ _).alloc (Nat.le_refl _) _
          have HW6 : Kept (Mem.Own (w5.alloc (.cells #[.int .u64 (id : Int), .slice X ms.length cX] 77)) w.heap.size 33 (.slice (some ⟨bb, oo, none⟩) ids.length cc) (WB ids) ∧ RowV (w5.alloc (.cells #[.int .u64 (id : Int), .slice X ms.length cX] 77)) w.heap.size A' c' ys ∧ Below w.heap.size w (w5.alloc (.cells #[.int .u64 (id : Int), .slice X ms.length cX] 77))) := ⟨HW5.out.1.next hbB, HW5.out.2.1.next hbB, bnx HW5.out.2.2 hbB⟩
          have HF6 := kept (HF5.out.below hbB (Nat.le_refl _))
          have hrn : cardE.Rd (w5.alloc (.cells #[.int .u64 (id : Int), .slice X ms.length cX] 77)) (w5.heap.size + 1) (some ⟨w5.heap.size, 0, none⟩) [⟨id, X, ms, cX⟩] := Mem.Rd.new w5 [.int .u64 (id : Int), .slice X ms.length cX] 77
          have hz : (ys.length + [(⟨id, X, ms, cX⟩ : CardM)].length) * 32 ≤ 140737488355328 := by have := HYL.out; rw [List.length_singleton]; omega
          have hbase := HW6.out.2.2.size
          have HPN : Kept (∀ r : List CardM, r = ys ++ [⟨id, X, ms, cX⟩] → r.length = j + 1 ∧ r.map CardM.p = (ids.take (j + 1)).map (cardV es)) := ⟨fun r h => by
            subst h
            refine ⟨by rw [List.length_append, HYL.out]; rfl, ?_⟩
            rw [List.map_append, HYP.out, HTK.out]
            show _ ++ [(id, ms.map LineM.p)] = _
            rw [HMS.out]⟩
          clear hbB HW5 HF5 HMS HTK HYP HYL
          go_wp2_with (at_builtin; refine wpl_appEU _ cardE rfl (.tmp 41) (.tmp 43) 55 rfl w.heap.size 77 Tryz.underlying55 card_infoV rfl _ ys rfl HW6.out.2.1.1 _ _ _ _ [⟨id, X, ms, cX⟩] rfl rfl hrn hz (by decide) hbase ?_; intro A9 c9 w9 r9 hr9 hown9 hu9 hx9)
          obtain ⟨hl9, hp9⟩ := HPN.out r9 hr9.out
          have HW9 : Kept (Mem.Own w9 w.heap.size 33 (.slice (some ⟨bb, oo, none⟩) ids.length cc) (WB ids) ∧ RowV w9 w.heap.size A9 c9 r9 ∧ Below w.heap.size w w9) := ⟨HW6.out.1.upd (hu9 _ fun _ e => e) fun k hk e => own_apart HW6.out.1 HW6.out.2.1.1 (by decide) k hk e, HW6.out.2.1.app HF6.out hr9.out hown9 hu9, HW6.out.2.2.trans (HW6.out.2.1.under (hu9 _ fun _ e => e) hbase)⟩
          clear hr9 hown9 hu9 hx9 HW6 HF6
          go_roundw
          case rel => exact ⟨j + 1, A9, c9, r9, by omega, by go_num, rfl, ⟨hl9⟩, ⟨hp9⟩, HW9⟩
          case measure => simp [intOf]; omega
        · obtain rfl : j = ids.length := by omega
          have HE : Kept (ys.map CardM.p = viewV es) := ⟨by rw [HYP.out, List.take_length, HVE.out]⟩
          have HRW := kept HW.out.2.1
          have HBW := kept HW.out.2.2
          clear HW HYP HYL
          go_wp2_with fail
          go_ret
          exact ⟨A', c', ys, rfl, HE.out, HRW.out, HBW.out⟩
end Go.Proofs.YtfkfpanhbanljaaGreat.View

/- Layer 41 (past): what a set shows, the program's. -/
namespace Go.Proofs.YtfkfpanhbanljaaGreat.View
open Go.RowKit Go.Proofs.YtfkfpanhbanljaaGreat.Mem Go.Proofs.YtfkfpanhbanljaaGreat.Mask Go.Proofs.YtfkfpanhbanljaaGreat.Card Go.Proofs.YtfkfpanhbanljaaGreat.Past Go.Proofs.YtfkfpanhbanljaaGreat.Reg

theorem ev_infoV : (Tryz.prog.info? 38).map (fun i => (i.zero, i.size, i.bytes)) = some (some (.agg #[.int .u16 0, .int .u64 0, .int .u8 0, .int .u64 0, .int .u8 0, .string ByteArray.empty, .slice none 0 0]), 7, 80) := by kernel_rfl
theorem live_lt {fs : List FactM} (hf : fs.length ≤ 1024) {m : List Nat} {x : Int} (h : x ∈ allI (liveM fs m)) : 0 ≤ x ∧ x < (fs.length : Int) := by
  have h1 := (hasI_live hf m x).1 (mem_allI.1 h).2
  exact ⟨h1.1, h1.2.1⟩
theorem evs_mem {fs : List FactM} (hf : fs.length ≤ 1024) {m : List Nat} {e : EvM} (h : e ∈ evsM fs (liveM fs m)) : ∃ f ∈ fs, f.e = e := by
  unfold evsM at h
  obtain ⟨x, hx, rfl⟩ := List.mem_map.1 h
  obtain ⟨h1, h2⟩ := live_lt hf hx
  have hi : x.toNat < fs.length := by omega
  exact ⟨fs[x.toNat], List.getElem_mem hi, by simp [List.getD, hi]⟩
set_option maxRecDepth 100000 in
set_option maxHeartbeats 4000000 in
theorem plist_any (S : Nat → Prop) (g : Nat) (fs : List FactM) (A : Option Addr) (n c : Nat) (m : List Nat) (w : World) (h : Pst w S g fs) (hn : n = m.length) (hw : AllW m) (hr : Rd w w.heap.size A (WB m)) (hsz : m.length ≤ 1000000) (hf : fs.length ≤ 25)
    (hev : ∀ f ∈ fs, f.e.field < 256) (hec : ∀ f ∈ fs, f.e.cid < 18446744073709551616) :
    Calls Tryz.prog 19 #[.pointer (some ⟨g, 0, none⟩), .slice A n c] w (GivesV w (viewV (evsM fs (liveM fs m)))) := by
  have CL := kept (live_any S g fs A n c m w h hn hw hr hsz)
  have hf2 : fs.length ≤ 1024 := by omega
  have HLT : Kept (∀ x ∈ allI (liveM fs m), 0 ≤ x ∧ x < (fs.length : Int)) := ⟨fun x hx => live_lt hf2 hx⟩
  have HEF : Kept (∀ e ∈ evsM fs (liveM fs m), e.field < 256) := ⟨fun e he => by obtain ⟨f, h1, rfl⟩ := evs_mem hf2 he; exact hev f h1⟩
  have HEC : Kept (∀ e ∈ evsM fs (liveM fs m), e.cid < 18446744073709551616) := ⟨fun e he => by obtain ⟨f, h1, rfl⟩ := evs_mem hf2 he; exact hec f h1⟩
  have HEL : Kept ((evsM fs (liveM fs m)).length ≤ 25) := ⟨Nat.le_trans (evs_length hf2 m) hf⟩
  have HED : Kept (evsM fs (liveM fs m) = (allI (liveM fs m)).map fun k => (fs.getD k.toNat default).e) := ⟨rfl⟩
  have HLA := kept (live_all fs m)
  have H := kept h
  clear h hn hw hr hsz hev hec
  generalize liveM fs m = lv at *
  generalize evsM fs lv = ev at *
  have hal : (allI lv).length ≤ 64 * lv.length := by unfold allI; exact allTo_length _ _
  have hlv : lv.length ≤ 16 := HLA.out.2
  go_enter Tryz.func19, Tryz.ntmps19
  go_wp2_with fail
  refine CL.out.mono ?_
  rintro e w1 ⟨B1, c1, rfl, ho1, hc1, hb1⟩
  have HB1 := kept hb1
  have CA := kept (Mask.all_any B1 lv.length c1 lv w1 rfl HLA.out.1 ho1.rd (by omega))
  clear ho1 CL hb1
  go_wp2_with fail
  refine CA.out.mono ?_
  rintro e w2 ⟨B2, c2, rfl, ho2, hc2, hb2⟩
  have HO2 := kept ho2
  have HB2 := kept (bnx HB1.out hb2)
  generalize allI lv = l at *
  clear ho2 CA hb2 hc1 hc2 HLA
  have H0 : Kept (evE.Own w2 w2.heap.size 38 (.slice none 0 0) [] ∧ Below w2.heap.size w2 w2) := ⟨Elem.Own.nilv _ _ _ _, Below.refl _ _⟩
  go_wp2_with fail
  go_loopw [5, 13] (fun v i wr => ∃ (k : Nat) (D : Option Addr) (cc : Nat) (r : List EvM), k ≤ l.length ∧ i = .int .i64 (k : Int) ∧ v = .slice D r.length cc ∧ Kept (r.length = k) ∧ Kept (r = (l.take k).map fun x => (fs.getD x.toNat default).e) ∧ Kept (evE.Own wr w2.heap.size 38 (.slice D r.length cc) r ∧ Below w2.heap.size w2 wr)) (fun _ i _ => l.length - (intOf i).toNat)
  case atStart => exact ⟨0, none, 0, [], Nat.zero_le _, rfl, rfl, ⟨rfl⟩, ⟨rfl⟩, H0⟩
  case round =>
    clear H0
    obtain ⟨k, D, cc, r, hk, rfl, rfl, HRL, HRE, HO⟩ := hrel
    rename World => wr
    by_cases hlt : k < l.length
    · obtain ⟨x, hx⟩ : ∃ x, l[k]? = some x := ⟨_, List.getElem?_eq_getElem hlt⟩
      obtain ⟨bb, oo, rfl, hbb, hcell⟩ := (HO2.out.rd.below HO.out.2).at_ (k := k) (u := .int .i64 x) (by simp [IB, hx])
      obtain ⟨hx0, hx1⟩ := HLT.out x (List.mem_of_getElem? hx)
      obtain ⟨i, rfl⟩ : ∃ i : Nat, x = (i : Int) := ⟨x.toNat, by omega⟩
      obtain ⟨f, hf3⟩ : ∃ f, fs[i]? = some f := ⟨_, List.getElem?_eq_getElem (by omega)⟩
      obtain ⟨X, cX, bl, o, rfl, hg, hbl, hgl, ⟨a0, a1, a2, a3, a4, a5, a6, a7⟩, hak⟩ := (H.out.next (bnx HB2.out HO.out.2)).spot hf3
      have HTK : Kept ((l.take (k + 1)).map (fun x => (fs.getD x.toNat default).e) = (l.take k).map (fun x => (fs.getD x.toNat default).e) ++ [f.e]) := ⟨by
        obtain ⟨e1, e2⟩ := List.getElem?_eq_some_iff.1 hx
        rw [List.take_succ_eq_append_getElem e1, e2, List.map_append, List.map_singleton]
        have : fs.getD ((i : Int)).toNat default = f := by simp [List.getD, hf3]
        rw [this]⟩
      have hkn : (k : Int) < (l.length : Int) := by omega
      have hin : (i : Int) < (fs.length : Int) := by omega
      have hin0 : (0 : Int) ≤ (i : Int) := by omega
      obtain ⟨⟨dev, ne, kind, cid, field, text, kA, kn, kc⟩, fA, fm, fc⟩ := f
      obtain ⟨⟨e1, e2, e3⟩, -⟩ := hak
      dsimp only at e1 e2 e3 a0 a1 a2 a3 a4 a5 a6 a7 HTK
      subst e1 e2 e3
      have hbA : Below wr.heap.size wr (wr.alloc (.cells #[.int .u16 (dev : Int), .int .u64 (ne : Int), .int .u8 (kind : Int), .int .u64 (cid : Int), .int .u8 (field : Int), .string text, .slice none 0 0] 38)) := (Below.refl _ _).alloc (Nat.le_refl _) _
      have HO3 := kept (HO.out.1.next hbA)
      have HB3 := kept (bnx HO.out.2 hbA)
      have hrn : evE.Rd (wr.alloc (.cells #[.int .u16 (dev : Int), .int .u64 (ne : Int), .int .u8 (kind : Int), .int .u64 (cid : Int), .int .u8 (field : Int), .string text, .slice none 0 0] 38)) (wr.heap.size + 1) (some ⟨wr.heap.size, 0, none⟩) [⟨dev, ne, kind, cid, field, text, none, 0, 0⟩] := Mem.Rd.new wr [.int .u16 (dev : Int), .int .u64 (ne : Int), .int .u8 (kind : Int), .int .u64 (cid : Int), .int .u8 (field : Int), .string text, .slice none 0 0] 38
      have hz : (r.length + [(⟨dev, ne, kind, cid, field, text, none, 0, 0⟩ : EvM)].length) * 80 ≤ 140737488355328 := by have := HRL.out; rw [List.length_singleton]; omega
      have hbase := HB3.out.size
      clear hx hf3 hbA HO hx0 hx1
      go_wp2_with (at_builtin; refine wpl_appE _ evE rfl (.tmp 17) (.tmp 26) 60 rfl w2.heap.size 38 Tryz.underlying60 ev_infoV rfl _ r rfl HO3.out _ _ _ _ [⟨dev, ne, kind, cid, field, text, none, 0, 0⟩] rfl rfl hrn hz (by decide) hbase ?_; intro A9 c9 w9 r9 hr9 hown9 hb9)
      have HRL9 : Kept (r9.length = k + 1) := ⟨by rw [hr9.out, List.length_append, HRL.out]; rfl⟩
      have HRE9 : Kept (r9 = (l.take (k + 1)).map fun x => (fs.getD x.toNat default).e) := ⟨by rw [HTK.out, hr9.out, HRE.out]⟩
      have HO9 := kept (And.intro hown9 (HB3.out.trans hb9))
      clear hr9 hown9 hb9 HRL HRE HTK HO3 HB3
      go_roundw
      case rel => exact ⟨k + 1, A9, c9, r9, by omega, by go_num, rfl, HRL9, HRE9, HO9⟩
      case measure => simp [intOf]; omega
    · obtain rfl : k = l.length := by omega
      rw [List.take_length, ← HED.out] at HRE
      obtain rfl := HRE.out
      have CV := kept (vlist_any D r cc wr HO.out.1.rd HEL.out HEF.out HEC.out)
      have HB := kept (bnx HB2.out HO.out.2)
      clear HO HRL
      go_wp2_with fail
      refine CV.out.mono ?_
      rintro e w5 ⟨A5, c5, ys, rfl, hp, hrow, hb5⟩
      have HE : Kept (ys.map CardM.p = viewV r ∧ RowV w5 w.heap.size A5 c5 ys ∧ Below w.heap.size w w5) := ⟨hp, ⟨hrow.1.mono HB.out.size, fun y hy => (hrow.2 y hy).mono HB.out.size⟩, bnx HB.out hb5⟩
      clear hp hrow hb5 CV
      go_wp2_with fail
      go_ret
      exact ⟨A5, c5, ys, rfl, HE.out.1, HE.out.2.1, HE.out.2.2⟩
end Go.Proofs.YtfkfpanhbanljaaGreat.View
