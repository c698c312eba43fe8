import Derived.Test.YtfkfpanhbanljaaDoorSet43
import Derived.BigQuiet
import Derived.Deep.DeepCutAuto
import Derived.Test.YtfkfpanhbanljaaDoorSet50
import Derived.Test.YtfkfpanhbanljaaDoorSet7
import Derived.Test.YtfkfpanhbanljaaDoorHeldCall
import Derived.Test.YtfkfpanhbanljaaDoorSet60
/- Layer 44 (list): the first bytes of titles: the document's. -/
namespace Go.Proofs.YtfkfpanhbanljaaDoor.List44
open Go.RowKit Go.Proofs.YtfkfpanhbanljaaDoor.Mem Go.Proofs.YtfkfpanhbanljaaDoor.Card Go.Proofs.YtfkfpanhbanljaaDoor.Laid Go.Proofs.YtfkfpanhbanljaaDoor.Fold Go.Proofs.YtfkfpanhbanljaaDoor.Twin Go.Proofs.YtfkfpanhbanljaaDoor.Stab

/-- the first bytes under q -/
def hdN (l : List CardM) (q : Nat) : List Nat := (List.range q).filter fun z => decide (z ∈ headsL l)
theorem hdN_len (l : List CardM) (q : Nat) : (hdN l q).length ≤ q := Nat.le_trans (List.length_filter_le _ _) (by simp)
theorem hdN_yes {l : List CardM} {q : Nat} (h : q ∈ headsL l) : hdN l (q + 1) = hdN l q ++ [q] := by unfold hdN; rw [List.range_succ, List.filter_append]; simp [h]
theorem hdN_no {l : List CardM} {q : Nat} (h : q ∉ headsL l) : hdN l (q + 1) = hdN l q := by unfold hdN; rw [List.range_succ, List.filter_append]; simp [h]
theorem head_lt {l : List CardM} {z : Nat} (h : z ∈ headsL l) : z < 256 := by
  unfold headsL at h
  obtain ⟨x, -, hx⟩ := List.mem_flatMap.1 h
  have := List.mem_of_mem_take hx
  unfold sB at this
  obtain ⟨u, -, rfl⟩ := List.mem_map.1 this
  exact UInt8.toNat_lt u
theorem hdN_all (l : List CardM) : hdN l 256 = normL (headsL l) := norm_of (by
    unfold hdN
    exact List.Pairwise.filter _ List.pairwise_lt_range) fun x => by
    unfold hdN
    rw [List.mem_filter, List.mem_range, decide_eq_true_iff]
    exact ⟨fun h => h.2, fun h => ⟨head_lt h, h⟩⟩
theorem strB_cut44 (l : List Nat) (n : Nat) : (strB l).extract 0 n = strB (l.take n) := by
  apply ByteArray.ext
  simp [strB, ByteArray.data_extract]
theorem head_mem {l : List CardM} {k q : Nat} {x : CardM} (hx : l[k]? = some x) (h : headB x = [q]) : q ∈ headsL l := List.mem_flatMap.2 ⟨x, List.mem_of_getElem? hx, by rw [h]; exact List.mem_cons_self ..⟩
theorem head_not {l : List CardM} {q : Nat} (h : ∀ (j : Nat) y, j < l.length → l[j]? = some y → headB y ≠ [q]) : q ∉ headsL l := fun hm => by
  obtain ⟨x, hx, hq⟩ := List.mem_flatMap.1 hm
  obtain ⟨i, hi⟩ := List.mem_iff_getElem?.1 hx
  refine h i x (List.getElem?_eq_some_iff.1 hi).1 hi ?_
  have h1 : (headB x).length ≤ 1 := by unfold headB; rw [List.length_take]; omega
  cases hb : headB x with
  | nil => rw [hb] at hq; cases hq
  | cons z t =>
    rw [hb] at h1 hq
    have ht : t = [] := by simpa using h1
    subst ht
    rw [List.mem_singleton.1 hq]
set_option maxRecDepth 100000 in
set_option maxHeartbeats 4000000 in
theorem rheads_any (X : Option Addr) (l : List CardM) (c : Nat) (w : World) (hr : RdCards w w.heap.size X l) (hn : l.length ≤ 1000) (hs : Short l) :
    Calls Tryd.prog 20 #[.slice X l.length c] w fun e w' => e = .returned (.string (strB (normL (headsL l)))) ∧ Below w.heap.size w w' := by
  have HR := kept hr
  have HS := kept hs
  have H0 : Kept (Below w.heap.size w w) := ⟨Below.refl _ _⟩
  obtain ⟨T0, hT0⟩ : ∃ T0, strB (normL (headsL l)) = T0 := ⟨_, rfl⟩
  have HT0 : Kept (strB (hdN l 256) = T0) := ⟨by rw [hdN_all]; exact hT0⟩
  rw [hT0]
  clear hr hs hT0
  go_enter Tryd.func20, Tryd.ntmps20
  go_wp2_with fail
  go_loopw [3, 4] (fun s i wr => ∃ (q : Nat) (t : ByteArray), q ≤ 256 ∧ i = .int .i64 (q : Int) ∧ s = .string t ∧ t.size ≤ q ∧ Kept (t = strB (hdN l q)) ∧ Kept (Below w.heap.size w wr)) (fun _ i _ => 256 - (intOf i).toNat)
  case atStart => exact ⟨0, ⟨#[]⟩, Nat.zero_le _, rfl, rfl, Nat.le_refl _, ⟨rfl⟩, H0⟩
  case round =>
    clear H0
    obtain ⟨q, t, hq, rfl, rfl, hts, HT, HW⟩ := hrel
    by_cases hlq : q < 256
    · have hqi : (q : Int) < 256 := by omega
      go_wp2_with fail
      go_loopw [3, 5] (fun s i wr => ∃ k : Nat, k ≤ l.length ∧ i = .int .i64 (k : Int) ∧ s = .string t ∧ Kept (∀ (j : Nat) y, j < k → l[j]? = some y → headB y ≠ [q]) ∧ Kept (Below w.heap.size w wr)) (fun _ i _ => l.length - (intOf i).toNat)
      case atStart => exact ⟨0, Nat.zero_le _, rfl, rfl, ⟨fun j y h => absurd h (Nat.not_lt_zero _)⟩, HW⟩
      case round =>
        clear HW
        obtain ⟨k, hk, rfl, rfl, HNO, HW⟩ := hrel
        by_cases hlt : k < l.length
        · obtain ⟨x, hx⟩ : ∃ x, l[k]? = some x := ⟨_, List.getElem?_eq_getElem hlt⟩
          obtain ⟨b1, o1, rfl, hbB, x0, x1, hyo⟩ := HR.out.at_ hx
          have hkn : (k : Int) < (l.length : Int) := by omega
          have x0 := (HW.out.cell (p := ⟨b1, o1 + k * 2, none⟩) hbB).trans x0
          have x1 := (HW.out.cell (p := ⟨b1, o1 + k * 2 + 1, none⟩) hbB).trans x1
          have HHB : Kept (headB x = (sB (foldB (titleOf x.ls))).take 1) := ⟨rfl⟩
          have HYES : Kept (headB x = [q] → strB (hdN l (q + 1)) = t ++ strB [q]) := ⟨fun h => by rw [hdN_yes (head_mem hx h), HT.out]; unfold strB; simp [ByteArray.append, ByteArray.ext_iff]⟩
          have HNX : Kept (headB x ≠ [q] → ∀ (j : Nat) y, j < k + 1 → l[j]? = some y → headB y ≠ [q]) := ⟨fun h j y hj hy => by
            rcases Nat.lt_or_ge j k with h1 | h1
            · exact HNO.out j y h1 hy
            · obtain rfl : j = k := by omega
              rw [hx] at hy; cases hy; exact h⟩
          have CT := kept (rtitle_any x wr (hyo.next HW.out))
          have CF := kept (fun (W : World) => rfold_any (titleOf x.ls) W (HS.out x (List.mem_of_getElem? hx)))
          obtain ⟨xcid, xX, xls, xc⟩ := x
          unfold CardM.val at CT
          dsimp only at x0 x1 CT CF HHB
          clear hx hyo HNO
          generalize headB ⟨xcid, xX, xls, xc⟩ = hb at *
          go_wp2_with fail
          refine CT.out.mono ?_
          rintro e w2 ⟨rfl, hb2⟩
          have HW3 := kept (HW.out.trans (hb2.mono HW.out.size))
          have CF2 := kept (CF.out w2)
          clear hb2 CT CF x0 x1 HW
          generalize titleOf xls = ti at *
          generalize foldB ti = fs at *
          go_wp2_with fail
          refine CF2.out.mono ?_
          rintro e w3 ⟨rfl, hb3⟩
          have HW4 := kept (HW3.out.trans (hb3.mono HW3.out.size))
          clear hb3 CF2 HW3
          by_cases h0 : fs = ⟨#[]⟩
          · subst h0
            have HN2 := kept (HNX.out (by rw [HHB.out, head_none]; simp))
            clear HNX HHB HYES
            go_wp2_with fail
            go_roundw
            case rel => exact ⟨k + 1, by omega, by go_num, rfl, HN2, HW4⟩
            case measure => simp [intOf]; omega
          · have e0 : (fs.toList == []) = false := by
              rw [show ([] : List UInt8) = (⟨#[]⟩ : ByteArray).toList from by rw [ByteArray.toList_eq], str_beq]
              exact decide_eq_false h0
            have hpos : 0 < fs.size := by
              rcases Nat.eq_zero_or_pos fs.size with h1 | h1
              · exact absurd (ByteArray.ext (Array.eq_empty_of_size_eq_zero h1)) h0
              · exact h1
            have hposi : (0 : Int) < (fs.size : Int) := by omega
            have HB1 : Kept (hb = [(fs[0]'hpos).toNat]) := ⟨by rw [HHB.out, head_one hpos]⟩
            have HEX : Kept (fs.extract 0 1 = strB [(fs[0]'hpos).toNat]) := ⟨by
              have h1 : strB (sB fs) = fs := strB_sB fs
              have h2 := strB_cut44 (sB fs) 1
              rw [h1, head_one hpos] at h2
              exact h2⟩
            obtain ⟨z, hz⟩ : ∃ z : Nat, (fs[0]'hpos).toNat = z := ⟨_, rfl⟩
            rw [hz] at HB1 HEX
            have hz8 : z < 256 := by rw [← hz]; exact UInt8.toNat_lt _
            have hzw : wrap64 (z : Int) = (z : Int) := IntWalk.wrap64_in _ (by omega)
            by_cases hye : z = q
            · subst hye
              have HE := kept (HYES.out HB1.out)
              have HE2 : Kept (t ++ fs.extract 0 1 = strB (hdN l (z + 1))) := ⟨by rw [HEX.out, HE.out]⟩
              have hes : (fs.extract 0 1).size = 1 := by rw [HEX.out]; rfl
              have hszz : ¬ 9223372036854775807 < t.size + (fs.extract 0 1).size := by omega
              have hts2 : (t ++ fs.extract 0 1).size ≤ z + 1 := by rw [ByteArray.size_append]; omega
              clear HNX HHB HYES HB1 HE HEX
              go_wp2_with fail
              go_roundw
              case rel => exact ⟨z + 1, _, by omega, by go_num, rfl, hts2, HE2, HW4⟩
              case measure => simp [intOf]; omega
            · have HN2 := kept (HNX.out (by rw [HB1.out]; simp [hye]))
              have hyi : ((z : Int) == (q : Int)) = false := beq_eq_false_iff_ne.2 (by omega)
              have hyj : ¬ (z : Int) = (q : Int) := by omega
              clear HNX HHB HYES HB1 HEX
              go_wp2_with fail
              go_roundw
              case rel => exact ⟨k + 1, by omega, by go_num, rfl, HN2, HW4⟩
              case measure => simp [intOf]; omega
        · obtain rfl : k = l.length := by omega
          have hge : ¬ (l.length : Int) < (l.length : Int) := by omega
          have HT2 : Kept (t = strB (hdN l (q + 1))) := ⟨by rw [hdN_no (head_not HNO.out)]; exact HT.out⟩
          clear HNO
          go_wp2_with fail
          go_roundw
          case rel => exact ⟨q + 1, t, by omega, by go_num, rfl, by omega, HT2, HW⟩
          case measure => simp [intOf]; omega
    · obtain rfl : q = 256 := by omega
      obtain rfl : t = T0 := HT.out.trans HT0.out
      go_wp2_with fail
      go_ret
      exact ⟨rfl, HW.out⟩
end Go.Proofs.YtfkfpanhbanljaaDoor.List44

/- Layer 44 (list): the law ListSays, if bytes are sorted. (printed by tools/genls.py) -/
namespace Go.Proofs.YtfkfpanhbanljaaDoor.List44
open Go.RowKit Go.Proofs.YtfkfpanhbanljaaDoor.Mem Go.Proofs.YtfkfpanhbanljaaDoor.Card Go.Proofs.YtfkfpanhbanljaaDoor.Laid Go.Proofs.YtfkfpanhbanljaaDoor.Fold Go.Proofs.YtfkfpanhbanljaaDoor.Twin Go.Proofs.YtfkfpanhbanljaaDoor.Stab

set_option maxRecDepth 100000 in
set_option maxHeartbeats 8000000 in
theorem lsays_law (hso : SortOk 25) (X : Option Addr) (l : List CardM) (c : Nat) (a1 a2 : Int) (w : World) (hr : RdCards w w.heap.size X l) (hc : l.length ≤ c) (hb : c ≤ 4398046511104) (_ht : ∀ y ∈ l, ∀ u ∈ y.ls, ∀ q ∈ u.m, q.size ≤ 140737488355000) (hm : ML w) :
    Calls Tryd.prog 4 #[.slice X l.length c, .int .i64 a1, .int .i64 a2] w fun e w' => e = .returned (.bool true) ∧ Below w.heap.size w w' := by
  have CF := kept (Chg.few_any X l c w hr (by omega))
  by_cases hfw : Chg.fewC l
  · rw [decide_eq_true hfw] at CF
    have hn : l.length ≤ 25 := hfw.1
    have HSH := kept (short_few hfw)
    have HL := kept hr
    have HM := kept hm
    have HC := kept hc
    obtain ⟨cid, hcid⟩ : ∃ cid : Nat, IntKind.u64.wrap a1 = (cid : Int) := ⟨(IntKind.u64.wrap a1).toNat, by rw [IntKind.wrap_u64]; omega⟩
    have CS : Kept (∀ W : World, Below w.heap.size w W → Calls Tryd.prog 11 #[.slice X l.length c] W (GivesF W ((stab ltC l).map CardM.p))) := ⟨fun (W : World) (hb : Below w.heap.size w W) => lsort_any X l c W (HL.out.next hb) (by omega) HSH.out (HM.out.next hb)⟩
    have CR : Kept (∀ W : World, Below w.heap.size w W → Calls Tryd.prog 13 #[.slice X l.length c] W (GivesC W (stab ltC l))) := ⟨fun (W : World) (hb : Below w.heap.size w W) => rsort_any X l c W (HL.out.next hb) (by omega) HSH.out⟩
    have CP : Kept (∀ W : World, Below w.heap.size w W → Calls Tryd.prog 15 #[.slice X l.length c, .int .i64 a1, .int .i64 a2] W (GivesF W ((pageL l a1 a2).map CardM.p))) := ⟨fun (W : World) (hb : Below w.heap.size w W) => page_any X l c a1 a2 W (HL.out.next hb) HC.out (by omega)⟩
    have CRP : Kept (∀ W : World, Below w.heap.size w W → Calls Tryd.prog 16 #[.slice X l.length c, .int .i64 a1, .int .i64 a2] W (GivesC W (pageL l a1 a2))) := ⟨fun (W : World) (hb : Below w.heap.size w W) => rpage_any X l c a1 a2 W (HL.out.next hb) (by omega)⟩
    have CA := kept (fun (W : World) (hb : Below w.heap.size w W) => lat_any X c l cid W (HL.out.next hb) (by omega))
    have CRA := kept (fun (W : World) (hb : Below w.heap.size w W) => rlat_any X c l cid W (HL.out.next hb) (by omega))
    have CH := kept (fun (W : World) (hb : Below w.heap.size w W) => heads_any 25 hso (by decide) X l c W (HL.out.next hb) hn HSH.out (HM.out.next hb))
    have CRH := kept (fun (W : World) (hb : Below w.heap.size w W) => rheads_any X l c W (HL.out.next hb) (by omega) HSH.out)
    have hpl : (pageL l a1 a2).length ≤ 25 := by
      unfold pageL
      rw [List.length_take, List.length_drop]
      omega
    have HSLN : Kept ((stab ltC l).length ≤ 25 ∧ (pageL l a1 a2).length ≤ 25) := ⟨by rw [stab_len]; exact hn, hpl⟩
    clear hpl
    generalize stab ltC l = SL at *
    generalize pageL l a1 a2 = PL at *
    generalize strB (normL (headsL l)) = T0 at *
    have hTT : (T0.toList == T0.toList) = true := beq_self_eq_true _
    clear hr hm hfw hc hb _ht hso
    go_enter Tryd.func4, Tryd.ntmps4
    go_wp2_with fail
    refine CF.out.mono ?_
    rintro e w0 ⟨rfl, rfl⟩
    clear CF
    obtain ⟨wr, hwr⟩ : ∃ wr : World, wr = w := ⟨_, rfl⟩
    have HBW : Kept (Below w.heap.size w wr) := ⟨by rw [hwr]; exact Below.refl _ _⟩
    rw [← hwr]
    clear hwr
    go_upto_region 4 with fail
    go_cut [33] (fun a wr' => a = .bool false ∧ Kept (Below wr.heap.size wr wr'))
    case first =>
      have hd0 : Below wr.heap.size wr wr := Below.refl _ _
      clear CS CR CP CRP CA CRA CH CRH hTT
      by_cases hl2 : 1 < l.length
      · have h1i : (1 : Int) < (l.length : Int) := by omega
        have h1j : (0 : Int) < (l.length : Int) := by omega
        have h1k : 0 < l.length := by omega
        obtain ⟨x, hx⟩ : ∃ x, l[0]? = some x := ⟨_, List.getElem?_eq_getElem h1k⟩
        obtain ⟨y, hy⟩ : ∃ y, l[1]? = some y := ⟨_, List.getElem?_eq_getElem hl2⟩
        obtain ⟨b, o, rfl, hbB, u0, u1, hxo⟩ := card_at HL.out hx
        obtain ⟨b2, o2, e2, -, v0, v1, hyo⟩ := card_at HL.out hy
        obtain ⟨rfl, rfl⟩ : b = b2 ∧ o = o2 := by injection e2 with h1; injection h1 with h2 h3 _; exact ⟨h2, h3⟩
        rw [show o + 0 * 2 = o by omega] at u0 u1
        rw [show o + 1 * 2 = o + 2 by omega] at v0 v1
        have HCL := kept (And.intro (And.intro u0 u1) (And.intro v0 v1))
        have hbw := HBW.out
        have HS : Kept (∀ W, Below wr.heap.size wr W → W.cell? ⟨b, o, none⟩ = some (.int .u64 (x.cid : Int)) ∧ W.cell? ⟨b, o + 1, none⟩ = some (.slice x.X x.ls.length x.c) ∧ W.cell? ⟨b, o + 2, none⟩ = some (.int .u64 (y.cid : Int)) ∧ W.cell? ⟨b, o + 2 + 1, none⟩ = some (.slice y.X y.ls.length y.c)) := ⟨fun W h => by
          have hb := hbw.trans (h.mono hbw.size)
          exact ⟨(hb.cell (p := ⟨b, o, none⟩) hbB).trans HCL.out.1.1, (hb.cell (p := ⟨b, o + 1, none⟩) hbB).trans HCL.out.1.2, (hb.cell (p := ⟨b, o + 2, none⟩) hbB).trans HCL.out.2.1, (hb.cell (p := ⟨b, o + 2 + 1, none⟩) hbB).trans HCL.out.2.2⟩⟩
        have CXY := kept (fun (W : World) (h : Below wr.heap.size wr W) => lcmp_any x y W (hxo.next (hbw.trans (h.mono hbw.size))) (hyo.next (hbw.trans (h.mono hbw.size))) (HM.out.next (hbw.trans (h.mono hbw.size))) (HSH.out x (List.mem_of_getElem? hx)) (HSH.out y (List.mem_of_getElem? hy)))
        have CRXY := kept (fun (W : World) (h : Below wr.heap.size wr W) => rlcmp_any x y W (hxo.next (hbw.trans (h.mono hbw.size))) (hyo.next (hbw.trans (h.mono hbw.size))) (HSH.out x (List.mem_of_getElem? hx)) (HSH.out y (List.mem_of_getElem? hy)))
        have hzz : (cmpC x y != cmpC x y) = false := by simp
        generalize cmpC x y = zxy at *
        clear u0 u1 v0 v1 hyo hxo hy hx e2 HCL hbw HL
        obtain ⟨xcid, xX, xls, xc⟩ := x
        obtain ⟨ycid, yX, yls, yc⟩ := y
        unfold CardM.val at CXY CRXY
        dsimp only at HS CXY CRXY
        clear HBW
        refine wp_region_noPanic ?_
        refine wp_region_held_drew (S := fun W => W.cell? ⟨b, o, none⟩ = some (.int .u64 (xcid : Int)) ∧ W.cell? ⟨b, o + 1, none⟩ = some (.slice xX xls.length xc) ∧ W.cell? ⟨b, o + 2, none⟩ = some (.int .u64 (ycid : Int)) ∧ W.cell? ⟨b, o + 2 + 1, none⟩ = some (.slice yX yls.length yc)) (by kernel_rfl) (HS.out _ (by (repeat (first | with_reducible assumption | with_reducible refine below_new ?_ _ | with_reducible refine Below.drew ?_ | with_reducible exact Below.refl _ _)))) (fun hS0 => ?_)
        refine wpAnyH_take (i := 0) (v := ?_) rfl (by kernel_rfl) (by kernel_rfl) (by kernel_rfl) (fun _ _ _ h => h) (Or.inl ⟨by rfl, ?_⟩) hS0 ?_
        case refine_2 => (intro W hSW; go_simp; try with_reducible rfl)
        try simp only [Act.put, List.setIfInBounds_toArray, List.set_cons_zero, List.set_cons_succ, List.getElem_toArray, List.getElem_cons_zero, List.getElem_cons_succ]
        refine wpAnyH_take (i := 1) (v := ?_) rfl (by kernel_rfl) (by kernel_rfl) (by kernel_rfl) (fun _ _ _ h => h) (Or.inl ⟨by rfl, ?_⟩) hS0 ?_
        case refine_2 => (intro W hSW; go_simp; try with_reducible rfl)
        try simp only [Act.put, List.setIfInBounds_toArray, List.set_cons_zero, List.set_cons_succ, List.getElem_toArray, List.getElem_cons_zero, List.getElem_cons_succ]
        refine wpAnyH_take (i := 2) (v := .bool true) rfl (by kernel_rfl) (by kernel_rfl) (by kernel_rfl) (fun _ _ _ h => h) (Or.inl ⟨by rfl, ?_⟩) hS0 ?_
        case refine_1 => (intro W hSW; go_simp; try (first | with_reducible rfl | rfl))
        try simp only [Act.put, List.setIfInBounds_toArray, List.set_cons_zero, List.set_cons_succ, List.getElem_toArray, List.getElem_cons_zero, List.getElem_cons_succ]
        refine wpAnyH_take (i := 3) (v := .bool true) rfl (by kernel_rfl) (by kernel_rfl) (by kernel_rfl) (fun _ _ _ h => h) (Or.inl ⟨by rfl, ?_⟩) hS0 ?_
        case refine_1 => (intro W hSW; go_simp; try (first | with_reducible rfl | rfl))
        try simp only [Act.put, List.setIfInBounds_toArray, List.set_cons_zero, List.set_cons_succ, List.getElem_toArray, List.getElem_cons_zero, List.getElem_cons_succ]
        refine wpAnyH_take (i := 4) (v := ?_) rfl (by kernel_rfl) (by kernel_rfl) (by kernel_rfl) (fun _ _ _ h => h) (Or.inl ⟨by rfl, ?_⟩) hS0 ?_
        case refine_2 => (intro W hSW; go_simp; try with_reducible rfl)
        try simp only [Act.put, List.setIfInBounds_toArray, List.set_cons_zero, List.set_cons_succ, List.getElem_toArray, List.getElem_cons_zero, List.getElem_cons_succ]
        refine wpAnyH_take (i := 5) (v := ?_) rfl (by kernel_rfl) (by kernel_rfl) (by kernel_rfl) (fun _ _ _ h => h) (Or.inl ⟨by rfl, ?_⟩) hS0 ?_
        case refine_2 => (intro W hSW; go_simp; try with_reducible rfl)
        try simp only [Act.put, List.setIfInBounds_toArray, List.set_cons_zero, List.set_cons_succ, List.getElem_toArray, List.getElem_cons_zero, List.getElem_cons_succ]
        refine wpAnyH_take (i := 6) (v := ?_) rfl (by kernel_rfl) (by kernel_rfl) (by kernel_rfl) (fun _ _ _ h => h) (Or.inl ⟨by rfl, ?_⟩) hS0 ?_
        case refine_2 => (intro W hSW; obtain ⟨z0, z1, z2, z3⟩ := hSW; go_simp; try with_reducible rfl)
        try simp only [Act.put, List.setIfInBounds_toArray, List.set_cons_zero, List.set_cons_succ, List.getElem_toArray, List.getElem_cons_zero, List.getElem_cons_succ]
        refine wpAnyH_take (i := 7) (v := ?_) rfl (by kernel_rfl) (by kernel_rfl) (by kernel_rfl) (fun _ _ _ h => h) (Or.inl ⟨by rfl, ?_⟩) hS0 ?_
        case refine_2 => (intro W hSW; go_simp; try with_reducible rfl)
        try simp only [Act.put, List.setIfInBounds_toArray, List.set_cons_zero, List.set_cons_succ, List.getElem_toArray, List.getElem_cons_zero, List.getElem_cons_succ]
        refine wpAnyH_take (i := 8) (v := ?_) rfl (by kernel_rfl) (by kernel_rfl) (by kernel_rfl) (fun _ _ _ h => h) (Or.inl ⟨by rfl, ?_⟩) hS0 ?_
        case refine_2 => (intro W hSW; go_simp; try with_reducible rfl)
        try simp only [Act.put, List.setIfInBounds_toArray, List.set_cons_zero, List.set_cons_succ, List.getElem_toArray, List.getElem_cons_zero, List.getElem_cons_succ]
        refine wpAnyH_take (i := 9) (v := ?_) rfl (by kernel_rfl) (by kernel_rfl) (by kernel_rfl) (fun _ _ _ h => h) (Or.inl ⟨by rfl, ?_⟩) hS0 ?_
        case refine_2 => (intro W hSW; obtain ⟨z0, z1, z2, z3⟩ := hSW; go_simp; try with_reducible rfl)
        try simp only [Act.put, List.setIfInBounds_toArray, List.set_cons_zero, List.set_cons_succ, List.getElem_toArray, List.getElem_cons_zero, List.getElem_cons_succ]
        refine wpAnyH_take (i := 11) (v := ?_) rfl (by kernel_rfl) (by kernel_rfl) (by kernel_rfl) (fun _ _ _ h => h) (Or.inl ⟨by rfl, ?_⟩) hS0 ?_
        case refine_2 => (intro W hSW; go_simp; try with_reducible rfl)
        try simp only [Act.put, List.setIfInBounds_toArray, List.set_cons_zero, List.set_cons_succ, List.getElem_toArray, List.getElem_cons_zero, List.getElem_cons_succ]
        refine wpAnyH_take (i := 12) (v := ?_) rfl (by kernel_rfl) (by kernel_rfl) (by kernel_rfl) (fun _ _ _ h => h) (Or.inl ⟨by rfl, ?_⟩) hS0 ?_
        case refine_2 => (intro W hSW; go_simp; try with_reducible rfl)
        try simp only [Act.put, List.setIfInBounds_toArray, List.set_cons_zero, List.set_cons_succ, List.getElem_toArray, List.getElem_cons_zero, List.getElem_cons_succ]
        refine wpAnyH_take (i := 13) (v := ?_) rfl (by kernel_rfl) (by kernel_rfl) (by kernel_rfl) (fun _ _ _ h => h) (Or.inl ⟨by rfl, ?_⟩) hS0 ?_
        case refine_2 => (intro W hSW; obtain ⟨z0, z1, z2, z3⟩ := hSW; go_simp; try with_reducible rfl)
        try simp only [Act.put, List.setIfInBounds_toArray, List.set_cons_zero, List.set_cons_succ, List.getElem_toArray, List.getElem_cons_zero, List.getElem_cons_succ]
        refine wpAnyH_take (i := 14) (v := ?_) rfl (by kernel_rfl) (by kernel_rfl) (by kernel_rfl) (fun _ _ _ h => h) (Or.inl ⟨by rfl, ?_⟩) hS0 ?_
        case refine_2 => (intro W hSW; go_simp; try with_reducible rfl)
        try simp only [Act.put, List.setIfInBounds_toArray, List.set_cons_zero, List.set_cons_succ, List.getElem_toArray, List.getElem_cons_zero, List.getElem_cons_succ]
        refine wpAnyH_take (i := 15) (v := ?_) rfl (by kernel_rfl) (by kernel_rfl) (by kernel_rfl) (fun _ _ _ h => h) (Or.inl ⟨by rfl, ?_⟩) hS0 ?_
        case refine_2 => (intro W hSW; go_simp; try with_reducible rfl)
        try simp only [Act.put, List.setIfInBounds_toArray, List.set_cons_zero, List.set_cons_succ, List.getElem_toArray, List.getElem_cons_zero, List.getElem_cons_succ]
        refine wpAnyH_take (i := 16) (v := ?_) rfl (by kernel_rfl) (by kernel_rfl) (by kernel_rfl) (fun _ _ _ h => h) (Or.inl ⟨by rfl, ?_⟩) hS0 ?_
        case refine_2 => (intro W hSW; obtain ⟨z0, z1, z2, z3⟩ := hSW; go_simp; try with_reducible rfl)
        try simp only [Act.put, List.setIfInBounds_toArray, List.set_cons_zero, List.set_cons_succ, List.getElem_toArray, List.getElem_cons_zero, List.getElem_cons_succ]
        refine wpAnyH_ready (rs := [10]) (by kernel_rfl) (by simp) ?_
        refine AllReadyH.cons rfl (fun K' hK => ?_) AllReadyH.nil
        go_simp
        go_at_call 10
        refine (CXY.out _ (by (repeat (first | with_reducible assumption | with_reducible refine below_new ?_ _ | with_reducible refine Below.drew ?_ | with_reducible exact Below.refl _ _)))).mono ?_
        rintro e x1 ⟨rfl, hx1⟩
        have hk1 : Below wr.heap.size wr x1 := below_next (by (repeat (first | with_reducible assumption | with_reducible refine below_new ?_ _ | with_reducible refine Below.drew ?_ | with_reducible exact Below.refl _ _))) hx1
        try simp only [Act.put, List.setIfInBounds_toArray, List.set_cons_zero, List.set_cons_succ, List.getElem_toArray, List.getElem_cons_zero, List.getElem_cons_succ]
        refine hK.out _ _ (HS.out x1 hk1) (fun hS0 => ?_)
        refine wpAnyH_ready (rs := [17]) (by kernel_rfl) (by simp) ?_
        refine AllReadyH.cons rfl (fun K' hK => ?_) AllReadyH.nil
        go_simp
        go_at_call 14
        refine (CRXY.out _ (by (repeat (first | with_reducible assumption | with_reducible refine below_new ?_ _ | with_reducible refine Below.drew ?_ | with_reducible exact Below.refl _ _)))).mono ?_
        rintro e x2 ⟨rfl, hx2⟩
        have hk2 : Below wr.heap.size wr x2 := below_next (by (repeat (first | with_reducible assumption | with_reducible refine below_new ?_ _ | with_reducible refine Below.drew ?_ | with_reducible exact Below.refl _ _))) hx2
        try simp only [Act.put, List.setIfInBounds_toArray, List.set_cons_zero, List.set_cons_succ, List.getElem_toArray, List.getElem_cons_zero, List.getElem_cons_succ]
        refine hK.out _ _ (HS.out x2 hk2) (fun hS0 => ?_)
        refine wpAnyH_take (i := 18) (v := .bool false) rfl (by kernel_rfl) (by kernel_rfl) (by kernel_rfl) (fun _ _ _ h => h) (Or.inl ⟨by rfl, ?_⟩) hS0 ?_
        case refine_1 => (intro W hSW; go_simp; try (first | with_reducible rfl | rfl))
        try simp only [Act.put, List.setIfInBounds_toArray, List.set_cons_zero, List.set_cons_succ, List.getElem_toArray, List.getElem_cons_zero, List.getElem_cons_succ]
        refine wpAnyH_take (i := 19) (v := .bool false) rfl (by kernel_rfl) (by kernel_rfl) (by kernel_rfl) (fun _ _ _ h => h) (Or.inl ⟨by rfl, ?_⟩) hS0 ?_
        case refine_1 => (intro W hSW; go_simp; try (first | with_reducible rfl | rfl))
        try simp only [Act.put, List.setIfInBounds_toArray, List.set_cons_zero, List.set_cons_succ, List.getElem_toArray, List.getElem_cons_zero, List.getElem_cons_succ]
        refine wpAnyH_done (by kernel_rfl) (NoPanic.normal ?_) _
        go_wp2_with fail
        go_meet
        exact ⟨by first | rfl | simp, ⟨(by (repeat (first | with_reducible assumption | with_reducible refine below_new ?_ _ | with_reducible refine Below.drew ?_ | with_reducible exact Below.refl _ _)))⟩⟩
      · have h1i : ¬ (1 : Int) < (l.length : Int) := by omega
        clear HBW
        refine wp_region_noPanic ?_
        refine wp_region_held_drew (S := fun _ => True) (by kernel_rfl) trivial (fun hS0 => ?_)
        refine wpAnyH_take (i := 0) (v := ?_) rfl (by kernel_rfl) (by kernel_rfl) (by kernel_rfl) (fun _ _ _ h => h) (Or.inl ⟨by rfl, ?_⟩) hS0 ?_
        case refine_2 => (intro W hSW; go_simp; try with_reducible rfl)
        try simp only [Act.put, List.setIfInBounds_toArray, List.set_cons_zero, List.set_cons_succ, List.getElem_toArray, List.getElem_cons_zero, List.getElem_cons_succ]
        refine wpAnyH_take (i := 1) (v := ?_) rfl (by kernel_rfl) (by kernel_rfl) (by kernel_rfl) (fun _ _ _ h => h) (Or.inl ⟨by rfl, ?_⟩) hS0 ?_
        case refine_2 => (intro W hSW; go_simp; try with_reducible rfl)
        try simp only [Act.put, List.setIfInBounds_toArray, List.set_cons_zero, List.set_cons_succ, List.getElem_toArray, List.getElem_cons_zero, List.getElem_cons_succ]
        refine wpAnyH_take (i := 2) (v := .bool false) rfl (by kernel_rfl) (by kernel_rfl) (by kernel_rfl) (fun _ _ _ h => h) (Or.inl ⟨by rfl, ?_⟩) hS0 ?_
        case refine_1 => (intro W hSW; go_simp; try (first | with_reducible rfl | rfl))
        try simp only [Act.put, List.setIfInBounds_toArray, List.set_cons_zero, List.set_cons_succ, List.getElem_toArray, List.getElem_cons_zero, List.getElem_cons_succ]
        refine wpAnyH_take (i := 3) (v := .bool false) rfl (by kernel_rfl) (by kernel_rfl) (by kernel_rfl) (fun _ _ _ h => h) (Or.inl ⟨by rfl, ?_⟩) hS0 ?_
        case refine_1 => (intro W hSW; go_simp; try (first | with_reducible rfl | rfl))
        try simp only [Act.put, List.setIfInBounds_toArray, List.set_cons_zero, List.set_cons_succ, List.getElem_toArray, List.getElem_cons_zero, List.getElem_cons_succ]
        refine wpAnyH_take (i := 4) (v := undef) rfl (by kernel_rfl) (by kernel_rfl) (by kernel_rfl) (fun _ _ _ h => h) (Or.inr ⟨by rfl, rfl⟩) hS0 ?_
        try simp only [Act.put, List.setIfInBounds_toArray, List.set_cons_zero, List.set_cons_succ, List.getElem_toArray, List.getElem_cons_zero, List.getElem_cons_succ]
        refine wpAnyH_take (i := 5) (v := undef) rfl (by kernel_rfl) (by kernel_rfl) (by kernel_rfl) (fun _ _ _ h => h) (Or.inr ⟨by rfl, rfl⟩) hS0 ?_
        try simp only [Act.put, List.setIfInBounds_toArray, List.set_cons_zero, List.set_cons_succ, List.getElem_toArray, List.getElem_cons_zero, List.getElem_cons_succ]
        refine wpAnyH_take (i := 6) (v := undef) rfl (by kernel_rfl) (by kernel_rfl) (by kernel_rfl) (fun _ _ _ h => h) (Or.inr ⟨by rfl, rfl⟩) hS0 ?_
        try simp only [Act.put, List.setIfInBounds_toArray, List.set_cons_zero, List.set_cons_succ, List.getElem_toArray, List.getElem_cons_zero, List.getElem_cons_succ]
        refine wpAnyH_take (i := 7) (v := undef) rfl (by kernel_rfl) (by kernel_rfl) (by kernel_rfl) (fun _ _ _ h => h) (Or.inr ⟨by rfl, rfl⟩) hS0 ?_
        try simp only [Act.put, List.setIfInBounds_toArray, List.set_cons_zero, List.set_cons_succ, List.getElem_toArray, List.getElem_cons_zero, List.getElem_cons_succ]
        refine wpAnyH_take (i := 8) (v := undef) rfl (by kernel_rfl) (by kernel_rfl) (by kernel_rfl) (fun _ _ _ h => h) (Or.inr ⟨by rfl, rfl⟩) hS0 ?_
        try simp only [Act.put, List.setIfInBounds_toArray, List.set_cons_zero, List.set_cons_succ, List.getElem_toArray, List.getElem_cons_zero, List.getElem_cons_succ]
        refine wpAnyH_take (i := 9) (v := undef) rfl (by kernel_rfl) (by kernel_rfl) (by kernel_rfl) (fun _ _ _ h => h) (Or.inr ⟨by rfl, rfl⟩) hS0 ?_
        try simp only [Act.put, List.setIfInBounds_toArray, List.set_cons_zero, List.set_cons_succ, List.getElem_toArray, List.getElem_cons_zero, List.getElem_cons_succ]
        refine wpAnyH_take (i := 10) (v := undef) rfl (by kernel_rfl) (by kernel_rfl) (by kernel_rfl) (fun _ _ _ h => h) (Or.inr ⟨by rfl, rfl⟩) hS0 ?_
        try simp only [Act.put, List.setIfInBounds_toArray, List.set_cons_zero, List.set_cons_succ, List.getElem_toArray, List.getElem_cons_zero, List.getElem_cons_succ]
        refine wpAnyH_take (i := 11) (v := undef) rfl (by kernel_rfl) (by kernel_rfl) (by kernel_rfl) (fun _ _ _ h => h) (Or.inr ⟨by rfl, rfl⟩) hS0 ?_
        try simp only [Act.put, List.setIfInBounds_toArray, List.set_cons_zero, List.set_cons_succ, List.getElem_toArray, List.getElem_cons_zero, List.getElem_cons_succ]
        refine wpAnyH_take (i := 12) (v := undef) rfl (by kernel_rfl) (by kernel_rfl) (by kernel_rfl) (fun _ _ _ h => h) (Or.inr ⟨by rfl, rfl⟩) hS0 ?_
        try simp only [Act.put, List.setIfInBounds_toArray, List.set_cons_zero, List.set_cons_succ, List.getElem_toArray, List.getElem_cons_zero, List.getElem_cons_succ]
        refine wpAnyH_take (i := 13) (v := undef) rfl (by kernel_rfl) (by kernel_rfl) (by kernel_rfl) (fun _ _ _ h => h) (Or.inr ⟨by rfl, rfl⟩) hS0 ?_
        try simp only [Act.put, List.setIfInBounds_toArray, List.set_cons_zero, List.set_cons_succ, List.getElem_toArray, List.getElem_cons_zero, List.getElem_cons_succ]
        refine wpAnyH_take (i := 14) (v := undef) rfl (by kernel_rfl) (by kernel_rfl) (by kernel_rfl) (fun _ _ _ h => h) (Or.inr ⟨by rfl, rfl⟩) hS0 ?_
        try simp only [Act.put, List.setIfInBounds_toArray, List.set_cons_zero, List.set_cons_succ, List.getElem_toArray, List.getElem_cons_zero, List.getElem_cons_succ]
        refine wpAnyH_take (i := 15) (v := undef) rfl (by kernel_rfl) (by kernel_rfl) (by kernel_rfl) (fun _ _ _ h => h) (Or.inr ⟨by rfl, rfl⟩) hS0 ?_
        try simp only [Act.put, List.setIfInBounds_toArray, List.set_cons_zero, List.set_cons_succ, List.getElem_toArray, List.getElem_cons_zero, List.getElem_cons_succ]
        refine wpAnyH_take (i := 16) (v := undef) rfl (by kernel_rfl) (by kernel_rfl) (by kernel_rfl) (fun _ _ _ h => h) (Or.inr ⟨by rfl, rfl⟩) hS0 ?_
        try simp only [Act.put, List.setIfInBounds_toArray, List.set_cons_zero, List.set_cons_succ, List.getElem_toArray, List.getElem_cons_zero, List.getElem_cons_succ]
        refine wpAnyH_take (i := 17) (v := undef) rfl (by kernel_rfl) (by kernel_rfl) (by kernel_rfl) (fun _ _ _ h => h) (Or.inr ⟨by rfl, rfl⟩) hS0 ?_
        try simp only [Act.put, List.setIfInBounds_toArray, List.set_cons_zero, List.set_cons_succ, List.getElem_toArray, List.getElem_cons_zero, List.getElem_cons_succ]
        refine wpAnyH_take (i := 18) (v := undef) rfl (by kernel_rfl) (by kernel_rfl) (by kernel_rfl) (fun _ _ _ h => h) (Or.inr ⟨by rfl, rfl⟩) hS0 ?_
        try simp only [Act.put, List.setIfInBounds_toArray, List.set_cons_zero, List.set_cons_succ, List.getElem_toArray, List.getElem_cons_zero, List.getElem_cons_succ]
        refine wpAnyH_take (i := 19) (v := .bool false) rfl (by kernel_rfl) (by kernel_rfl) (by kernel_rfl) (fun _ _ _ h => h) (Or.inl ⟨by rfl, ?_⟩) hS0 ?_
        case refine_1 => (intro W hSW; go_simp; try (first | with_reducible rfl | rfl))
        try simp only [Act.put, List.setIfInBounds_toArray, List.set_cons_zero, List.set_cons_succ, List.getElem_toArray, List.getElem_cons_zero, List.getElem_cons_succ]
        refine wpAnyH_done (by kernel_rfl) (NoPanic.normal ?_) _
        go_wp2_with fail
        go_meet
        exact ⟨by first | rfl | simp, ⟨(by (repeat (first | with_reducible assumption | with_reducible refine below_new ?_ _ | with_reducible refine Below.drew ?_ | with_reducible exact Below.refl _ _)))⟩⟩
    case rest =>
      obtain ⟨rfl, hcut⟩ := hcut
      have HB1 := kept (HBW.out.trans (hcut.out.mono HBW.out.size))
      obtain ⟨w4, hw4⟩ : ∃ w4 : World, w4 = wc := ⟨_, rfl⟩
      rw [← hw4] at HB1 ⊢
      clear hw4 hcut HBW
      go_wp2_with fail
      refine (CS.out _ HB1.out).mono ?_
      rintro e w5 ⟨A5, c5, s1, rfl, hp5, hro5, hb5⟩
      have HB5 := kept (HB1.out.trans (hb5.mono HB1.out.size))
      have HP5 := kept hp5
      have HR5 := kept hro5.rd
      clear hp5 hro5 hb5 CS
      go_wp2_with fail
      refine (CR.out _ HB5.out).mono ?_
      rintro e w6 ⟨A6, c6, rfl, hrd6, hb6⟩
      have HB6 := kept (HB5.out.trans (hb6.mono HB5.out.size))
      have hs1 : s1.length ≤ 25 := by have := congrArg List.length HP5.out; rw [List.length_map, List.length_map] at this; rw [this]; exact HSLN.out.1
      have CL := kept (rall_any A5 A6 s1.length SL.length c5 c6 s1 SL w6 rfl rfl (HR5.out.next hb6) hrd6 (by omega))
      rw [decide_eq_true HP5.out] at CL
      clear hrd6 hb6 HB5 HR5 HP5 CR hs1
      go_wp2_with fail
      refine CL.out.mono ?_
      rintro e w7 ⟨rfl, hb7⟩
      have HB7 := kept (HB6.out.trans (hb7.mono HB6.out.size))
      clear hb7 CL HB6
      go_wp2_with fail
      refine (CP.out _ HB7.out).mono ?_
      rintro e w8 ⟨A8, c8, s2, rfl, hp8, hro8, hb8⟩
      have HB8 := kept (HB7.out.trans (hb8.mono HB7.out.size))
      have HP8 := kept hp8
      have HR8 := kept hro8.rd
      clear hp8 hro8 hb8 CP HB7
      go_wp2_with fail
      refine (CRP.out _ HB8.out).mono ?_
      rintro e w9 ⟨A9, c9, rfl, hrd9, hb9⟩
      have HB9 := kept (HB8.out.trans (hb9.mono HB8.out.size))
      have hs2 : s2.length ≤ 25 := by have := congrArg List.length HP8.out; rw [List.length_map, List.length_map] at this; rw [this]; exact HSLN.out.2
      have CL := kept (rall_any A8 A9 s2.length PL.length c8 c9 s2 PL w9 rfl rfl (HR8.out.next hb9) hrd9 (by omega))
      rw [decide_eq_true HP8.out] at CL
      clear hrd9 hb9 HB8 HR8 HP8 CRP hs2
      go_wp2_with fail
      refine CL.out.mono ?_
      rintro e w10 ⟨rfl, hb10⟩
      have HB10 := kept (HB9.out.trans (hb10.mono HB9.out.size))
      clear hb10 CL HB9
      go_wp2_with fail
      refine (CA.out _ HB10.out).mono ?_
      rintro e w11 ⟨⟨r, rfl, hi1⟩, hb11⟩
      have HB11 := kept (HB10.out.trans (hb11.mono HB10.out.size))
      have HI1 := kept hi1
      clear hb11 hi1 CA HB10
      go_wp2_with fail
      refine (CRA.out _ HB11.out).mono ?_
      rintro e w12 ⟨⟨r2, rfl, hi2⟩, rfl⟩
      obtain rfl : r = r2 := idxK_one HI1.out hi2
      have hrr : (r == r) = true := beq_self_eq_true _
      clear hi2 HI1 CRA
      go_wp2_with fail
      refine (CH.out _ HB11.out).mono ?_
      rintro e w13 ⟨rfl, hb13⟩
      have HB13 := kept (HB11.out.trans (hb13.mono HB11.out.size))
      clear hb13 CH HB11
      go_wp2_with fail
      refine (CRH.out _ HB13.out).mono ?_
      rintro e w14 ⟨rfl, hb14⟩
      have HB14 := kept (HB13.out.trans (hb14.mono HB13.out.size))
      clear hb14 CRH HB13
      go_wp2_with fail
      refine (lworks_any _ (HM.out.next HB14.out)).mono ?_
      rintro e w15 ⟨rfl, hb15⟩
      have HB15 := kept (HB14.out.trans (hb15.mono HB14.out.size))
      clear hb15 HB14
      go_wp2_with fail
      go_ret
      exact ⟨rfl, HB15.out⟩
  · rw [decide_eq_false hfw] at CF
    clear hr hfw
    go_enter Tryd.func4, Tryd.ntmps4
    go_wp2_with fail
    refine CF.out.mono ?_
    rintro e w0 ⟨rfl, rfl⟩
    go_wp2_with fail
    refine (lworks_any _ hm).mono ?_
    rintro e w8 ⟨rfl, hb8⟩
    go_wp2_with fail
    go_ret
    exact ⟨rfl, hb8⟩
end Go.Proofs.YtfkfpanhbanljaaDoor.List44

/- Sorting bytes: slices.Sort of at most 25 bytes. -/
namespace Go.Proofs.YtfkfpanhbanljaaDoor.SortY
open Go.RowKit Go.Proofs.YtfkfpanhbanljaaDoor.Mem

theorem pdq_any (N : Nat) : PdqOk N := Nat.strongRecOn N fun n ih => pdq_step n ih
theorem sort_25 (base : Nat) (A : Option Addr) (c : Nat) (l : List Nat) (w : World) (h : Own w base 5 (.slice A l.length c) (BB l)) (hsz : l.length ≤ 25) :
    Calls Tryd.prog 44 #[.slice A l.length c] w fun e w' => e = .returned (.tuple #[]) ∧ ∃ l', l'.Perm l ∧ l'.Pairwise (· ≤ ·) ∧ Own w' base 5 (.slice A l.length c) (BB l') ∧ Upd (fun k => (Value.slice A l.length c).ownBlock = some k) w w' := by
  have CL := kept (len_25 l.length hsz w)
  have hr : RowD w base A l.length c l.toArray := ⟨by simp, h⟩
  have C := kept (fun (v : Nat) (hv : v ≤ 1000) => pdq_any l.length base A l.length c l.toArray 0 l.length v w hr (Nat.zero_le _) (Nat.le_refl _) hsz hv (by omega) (.inl rfl))
  have HEND : Kept (∀ e : Array Nat, Go.Sort.PermIn 0 l.length l.toArray e → Go.Sort.SortedIn ltB 0 l.length e → e.toList.Perm l ∧ e.toList.Pairwise (· ≤ ·)) := ⟨fun e h1 h2 => sorted_list h1 h2⟩
  have h2 : l.length ≤ 25 := hsz
  have h3 : IntKind.u64.wrap (l.length : Int) = (l.length : Int) := by rw [IntKind.wrap_u64]; omega
  clear h hsz hr
  generalize hn : l.length = n at *
  go_enter Tryd.func44, Tryd.ntmps44
  go_wp2_with fail
  refine CL.out.mono ?_
  rintro e w1 ⟨⟨v, rfl, hv, hv2⟩, rfl⟩
  clear hv2
  go_wp2_with fail
  refine (C.out v (by omega)).mono ?_
  rintro e w1 ⟨rfl, d', hp, hpm, hso⟩
  have HZ := kept (HEND.out d' hpm hso)
  have HP := kept hp
  clear hp hpm hso C HEND
  go_wp2_with fail
  go_end0
  exact ⟨rfl, d'.toList, HZ.out.1, HZ.out.2, HP.out.row.2, HP.out.upd⟩
end Go.Proofs.YtfkfpanhbanljaaDoor.SortY

/- Layer 44 (list): the law ListSays. -/
namespace Go.Proofs.YtfkfpanhbanljaaDoor.List44
open Go.RowKit Go.Proofs.YtfkfpanhbanljaaDoor.Mem Go.Proofs.YtfkfpanhbanljaaDoor.Card Go.Proofs.YtfkfpanhbanljaaDoor.Laid

theorem sortOk25 : SortOk 25 := fun base A c l w h hn => SortY.sort_25 base A c l w h hn
theorem lsays_all (X : Option Addr) (l : List CardM) (c : Nat) (a1 a2 : Int) (w : World) (hr : RdCards w w.heap.size X l) (hc : l.length ≤ c) (hb : c ≤ 4398046511104) (ht : ∀ y ∈ l, ∀ u ∈ y.ls, ∀ q ∈ u.m, q.size ≤ 140737488355000) (hm : ML w) :
    Calls Tryd.prog 4 #[.slice X l.length c, .int .i64 a1, .int .i64 a2] w fun e w' => e = .returned (.bool true) ∧ Below w.heap.size w w' := lsays_law sortOk25 X l c a1 a2 w hr hc hb ht hm
end Go.Proofs.YtfkfpanhbanljaaDoor.List44
