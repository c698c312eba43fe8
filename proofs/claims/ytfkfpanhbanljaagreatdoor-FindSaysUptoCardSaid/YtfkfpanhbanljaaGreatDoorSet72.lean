import Derived.Test.YtfkfpanhbanljaaGreatDoorSet70
import Derived.Test.YtfkfpanhbanljaaGreatDoorSet30
import Derived.BigQuiet
import Derived.Deep.DeepCutAuto
import Derived.Test.YtfkfpanhbanljaaGreatDoorSet71
import Derived.Test.YtfkfpanhbanljaaGreatDoorListRSort
import Derived.Test.YtfkfpanhbanljaaGreatDoorHeldCall
/- Layer 45 (find): all words of a card (the document's). -/
namespace Go.Proofs.YtfkfpanhbanljaaGreatDoor.Find
open Go.RowKit Go.Proofs.YtfkfpanhbanljaaGreatDoor.Mem Go.Proofs.YtfkfpanhbanljaaGreatDoor.Card Go.Proofs.YtfkfpanhbanljaaGreatDoor.Laid Go.Proofs.YtfkfpanhbanljaaGreatDoor.Fold Go.Proofs.YtfkfpanhbanljaaGreatDoor.Twin

set_option maxRecDepth 100000 in
set_option maxHeartbeats 4000000 in
theorem rfwords_any (x : CardM) (w : World) (hx : x.Ok w w.heap.size) (ht : Tame x.ls) :
    Calls Tryz.prog 32 #[x.val] w (strE.Gives 9 w (wordsC x.ls)) := by
  obtain ⟨xcid, xX, xls, xc⟩ := x
  have HX := kept hx
  have HT := kept ht
  dsimp only at ht
  have hl := ht.1
  have h0 : Below w.heap.size w (w.alloc (.cells #[.int .u64 (xcid : Int), .slice xX xls.length xc] 31)) := (Below.refl _ _).alloc (Nat.le_refl _) _
  have HS0 : Kept (TxSt w (w.alloc (.cells #[.int .u64 (xcid : Int), .slice xX xls.length xc] 31)) ⟨xcid, xX, xls, xc⟩ none 0 []) := ⟨⟨h0, Blk.new w _ _, Elem.Own.nilv _ _ _ _⟩⟩
  clear h0 hx ht
  unfold CardM.val
  dsimp only
  go_enter Tryz.func32, Tryz.ntmps32
  go_wp2_with fail
  go_loopw [3, 4] (fun s i wr => ∃ (k : Nat) (A : Option Addr) (c : Nat) (out : List ByteArray), k ≤ xls.length ∧ i = .int .i64 (k : Int) ∧ s = .slice A out.length c ∧ Kept (out = wordsC (xls.take k)) ∧ Kept (TxSt w wr ⟨xcid, xX, xls, xc⟩ A c out)) (fun _ i _ => xls.length - (intOf i).toNat)
  case atStart => exact ⟨0, none, 0, [], Nat.zero_le _, rfl, rfl, ⟨rfl⟩, HS0⟩
  case round =>
    clear HS0
    obtain ⟨k, A, c, out, hk, rfl, rfl, HO, HS⟩ := hrel
    have k1 := HS.out.2.1.cell (j := 1) rfl
    by_cases hlt : k < xls.length
    · obtain ⟨⟨zf, zt, zA, zm, zc⟩, hz⟩ : ∃ z, xls[k]? = some z := ⟨_, List.getElem?_eq_getElem hlt⟩
      obtain ⟨b1, o1, rfl, hbB, x0, x1, x2, hzo⟩ := HX.out.2.1.at_ hz
      have hkn : (k : Int) < (xls.length : Int) := by omega
      have HTZ := kept (HT.out.2 _ (List.mem_of_getElem? hz))
      have HNX := kept (wordsC_next hz)
      have x1w := x1
      have HX2 : Kept (w.cell? ⟨b1, o1 + k * 3 + 2, none⟩ = some (.slice zA zm.length zc)) := ⟨x2⟩
      have x1 := (HS.out.1.cell (p := ⟨b1, o1 + k * 3 + 1, none⟩) hbB).trans x1w
      dsimp only at x1
      have HZR := kept (fun (W : World) (hb : Below w.heap.size w W) => strE_rd.2 ((hzo.1.keep fun _ hp => hb.cell hp).more hb.size))
      clear hz hzo x0 x2 x1w
      have CW := kept (rwords_any zt wr (by have := HTZ.out.1; dsimp only at this; omega))
      have HWL := kept (words_few HTZ.out.1)
      have hzm : zm.length ≤ 10 := HTZ.out.2.1
      go_wp2_with fail
      refine CW.out.mono ?_
      rintro e w2 ⟨Aw, cw, rfl, hownw, hcw, hb⟩
      have HS2 := kept (HS.out.next hb)
      have hrd := hownw.rd
      have hz1 : (out.length + (wordsB zt).length) * 16 ≤ 140737488355328 := size_few (sum3_few (c := 0) (by rw [HO.out]; exact wordsC_few HT.out k) HWL.out (Nat.zero_le _))
      have hbase : w.heap.size + 1 ≤ w2.heap.size := HS2.out.2.1.lt
      clear hb HS x1 k1 CW hownw
      go_wp2_with (at_builtin; refine wpl_appEU _ strE rfl (.tmp 13) (.tmp 20) 36 rfl (w.heap.size + 1) 9 Tryz.underlying36 str_info rfl _ out rfl HS2.out.2.2 _ Aw _ cw (wordsB zt) rfl rfl hrd hz1 (by decide) hbase ?_; intro A9 c9 w9 r9 hr9 hown9 hu9 hx9; have HS9 := kept (HS2.out.app hown9 hu9); have HR9 := kept hr9; clear hr9 hown9 hu9 hx9)
      have HO9 : Kept (r9 = wordsC (xls.take k) ++ wordsB zt ++ (zm.take 0).flatMap wordsB) := ⟨by rw [HR9.out.out, ← HO.out]; exact (List.append_nil _).symm⟩
      clear HR9 hz1 hrd HS2 HO
      go_loopw [3, 5] (fun s i wi => ∃ (j : Nat) (A : Option Addr) (c : Nat) (out : List ByteArray), j ≤ zm.length ∧ i = .int .i64 (j : Int) ∧ s = .slice A out.length c ∧ Kept (out = wordsC (xls.take k) ++ wordsB zt ++ (zm.take j).flatMap wordsB) ∧ Kept (TxSt w wi ⟨xcid, some ⟨b1, o1, none⟩, xls, xc⟩ A c out)) (fun _ i _ => zm.length - (intOf i).toNat)
      case atStart => exact ⟨0, A9, c9, r9, Nat.zero_le _, rfl, rfl, HO9, HS9⟩
      case round =>
        clear HS9 HO9
        obtain ⟨j, A, c, out, hj, rfl, rfl, HO, HS⟩ := hrel
        have k1 := HS.out.2.1.cell (j := 1) rfl
        have x2 := (HS.out.1.cell (p := ⟨b1, o1 + k * 3 + 2, none⟩) hbB).trans HX2.out
        by_cases hjl : j < zm.length
        · obtain ⟨q, hq⟩ : ∃ q, zm[j]? = some q := ⟨_, List.getElem?_eq_getElem hjl⟩
          have hjn : (j : Int) < (zm.length : Int) := by omega
          have hrz := strE_rd.1 (HZR.out _ HS.out.1)
          obtain ⟨b2, o2, rfl, hb2, hc2⟩ := hrz (by intro e; rw [List.map_eq_nil_iff.1 e] at hjl; exact absurd hjl (Nat.not_lt_zero _))
          have y0 := hc2 j (.string q) (by unfold SB; rw [List.getElem?_map, hq]; rfl)
          have hqs : q.size ≤ 2000000 := HTZ.out.2.2 q (List.mem_of_getElem? hq)
          have HQN := kept (wordsM_next hq)
          have CW := kept (rwords_any q wr (by omega))
          have HWL2 := kept (words_few hqs)
          clear hrz hc2 hq
          go_wp2_with fail
          refine CW.out.mono ?_
          rintro e w2 ⟨Aw, cw, rfl, hownw, hcw, hb⟩
          have HS2 := kept (HS.out.next hb)
          have hrd := hownw.rd
          have hz1 : (out.length + (wordsB q).length) * 16 ≤ 140737488355328 := size_few (by
            rw [← List.length_append, HO.out, List.append_assoc, ← HQN.out, List.length_append, List.length_append]
            exact sum3_few (wordsC_few HT.out k) HWL.out (more_few (Nat.le_trans (List.length_take_le' _ _) hzm) fun y hy => HTZ.out.2.2 y (List.mem_of_mem_take hy)))
          have hbase : w.heap.size + 1 ≤ w2.heap.size := HS2.out.2.1.lt
          clear hb y0 CW hownw HS k1 x2
          go_wp2_with (at_builtin; refine wpl_appEU _ strE rfl (.tmp 33) (.tmp 43) 36 rfl (w.heap.size + 1) 9 Tryz.underlying36 str_info rfl _ out rfl HS2.out.2.2 _ Aw _ cw (wordsB q) rfl rfl hrd hz1 (by decide) hbase ?_; intro A9 c9 w9 r9 hr9 hown9 hu9 hx9; have HS9 := kept (HS2.out.app hown9 hu9); have HR9 := kept hr9; clear hr9 hown9 hu9 hx9)
          have HO9 : Kept (r9 = wordsC (xls.take k) ++ wordsB zt ++ (zm.take (j + 1)).flatMap wordsB) := ⟨by rw [HR9.out.out, HQN.out, HO.out]; exact List.append_assoc _ _ _⟩
          clear HR9 hz1 hrd HS2 HO HQN
          go_roundw
          case rel => exact ⟨j + 1, A9, c9, r9, by omega, by go_num, rfl, HO9, HS9⟩
          case measure => simp [intOf]; omega
        · obtain rfl : j = zm.length := by omega
          have HO4 : Kept (out = wordsC (xls.take (k + 1))) := ⟨by rw [HO.out, HNX.out, List.take_length]; exact List.append_assoc _ _ _⟩
          clear HO HNX
          go_wp2_with fail
          go_roundw
          case rel => exact ⟨k + 1, A, c, out, by omega, by go_num, rfl, HO4, HS⟩
          case measure => simp [intOf]; omega
    · obtain rfl : k = xls.length := by omega
      rw [List.take_length] at HO
      have HG : Kept (∀ q, q = out → strE.Gives 9 w (wordsC xls) (.returned (.slice A q.length c)) wr) := ⟨fun q hq => by
        subst hq
        exact Elem.gives HO.out (HS.out.2.2.mono (by omega)) HS.out.1⟩
      go_wp2_with fail
      go_ret
      exact HG.out out rfl
end Go.Proofs.YtfkfpanhbanljaaGreatDoor.Find

/- Layer 45 (find): Words (the document's). -/
namespace Go.Proofs.YtfkfpanhbanljaaGreatDoor.Find
open Go.RowKit Go.Proofs.YtfkfpanhbanljaaGreatDoor.Mem Go.Proofs.YtfkfpanhbanljaaGreatDoor.Card Go.Proofs.YtfkfpanhbanljaaGreatDoor.Laid Go.Proofs.YtfkfpanhbanljaaGreatDoor.Fold Go.Proofs.YtfkfpanhbanljaaGreatDoor.Twin

def wordsL (l : List CardM) : List ByteArray := l.flatMap fun y => wordsC y.ls
theorem wordsL_next {l : List CardM} {k : Nat} {x : CardM} (hx : l[k]? = some x) : wordsL (l.take (k + 1)) = wordsL (l.take k) ++ wordsC x.ls := by
  obtain ⟨h1, h2⟩ := List.getElem?_eq_some_iff.1 hx
  unfold wordsL
  rw [List.take_succ_eq_append_getElem h1, h2, List.flatMap_append]
  simp
theorem wordsL_few {l : List CardM} (hn : l.length ≤ 100) (ht : ∀ x ∈ l, Tame x.ls) : (wordsL l).length ≤ 26400013200 := by
  have := flat_le (fun y : CardM => wordsC y.ls) 264000132 l fun x hx => by
    have := wordsC_few (ht x hx) x.ls.length
    rwa [List.take_length] at this
  unfold wordsL
  exact Nat.le_trans this (Nat.le_trans (Nat.mul_le_mul_right _ hn) (by decide))
theorem wordsL_take (l : List CardM) (k : Nat) : (wordsL (l.take k)).length ≤ (wordsL l).length := by
  conv => rhs; rw [← List.take_append_drop k l]
  unfold wordsL
  rw [List.flatMap_append, List.length_append]
  exact Nat.le_add_right _ _
set_option maxRecDepth 100000 in
set_option maxHeartbeats 8000000 in
theorem rwds_any (A : Option Addr) (l : List CardM) (c : Nat) (w : World) (hr : RdCards w w.heap.size A l) (hn : l.length ≤ 100) (ht : ∀ x ∈ l, Tame x.ls) :
    Calls Tryz.prog 17 #[.slice A l.length c] w (strE.Gives 9 w (putsF (wordsL l))) := by
  have HL := kept hr
  have HT := kept ht
  have HFW := kept (wordsL_few hn ht)
  clear hr ht
  go_enter Tryz.func17, Tryz.ntmps17
  go_wp2_with fail
  go_loopw [3, 4] (fun sv iv wr => ∃ (i : Nat) (A : Option Addr) (c : Nat) (out : List ByteArray), i ≤ l.length ∧ iv = .int .i64 (i : Int) ∧ sv = .slice A out.length c ∧ Kept (out = putsF (wordsL (l.take i))) ∧ Kept (strE.Own wr w.heap.size 9 (.slice A out.length c) out) ∧ Kept (Below w.heap.size w wr)) (fun _ iv _ => l.length - (intOf iv).toNat)
  case atStart => exact ⟨0, none, 0, [], Nat.zero_le _, rfl, rfl, ⟨rfl⟩, ⟨Elem.Own.nilv _ _ _ _⟩, ⟨Below.refl _ _⟩⟩
  case round =>
    obtain ⟨i, A0, c0, out0, hi, rfl, rfl, HO0, HW0, HB0⟩ := hrel
    by_cases hlt : i < l.length
    · obtain ⟨⟨zcid, zX, zls, zc⟩, hx⟩ : ∃ x, l[i]? = some x := ⟨_, List.getElem?_eq_getElem hlt⟩
      have hin : (i : Int) < (l.length : Int) := by omega
      obtain ⟨b1, o1, rfl, hbB, u0, u1, hxo⟩ := HL.out.at_ hx
      have hbw := HB0.out
      have q0 := (hbw.cell (p := ⟨b1, o1 + i * 2, none⟩) hbB).trans u0
      have q1 := (hbw.cell (p := ⟨b1, o1 + i * 2 + 1, none⟩) hbB).trans u1
      have CM := rfwords_any ⟨zcid, zX, zls, zc⟩ wr (hxo.next hbw) (HT.out _ (List.mem_of_getElem? hx))
      have HNX := kept (wordsL_next hx)
      have HL1 := kept (wordsL_take l (i + 1))
      unfold CardM.val at CM
      dsimp only at q0 q1 HNX CM
      have CM := kept CM
      clear hx u0 u1 hxo
      go_wp2_with fail
      refine CM.out.mono ?_
      rintro e w3 ⟨Aw, cw, rfl, hown, hcw, hb3⟩
      obtain ⟨ws, hws⟩ : ∃ ws, wordsC zls = ws := ⟨_, rfl⟩
      rw [hws] at hown HNX ⊢
      have HB3 := kept (hbw.trans (hb3.mono hbw.size))
      have HR3 := kept hown.rd
      have HW3 := kept (HW0.out.next hb3)
      obtain ⟨pre, hpre⟩ : ∃ pre, wordsL (l.take i) = pre := ⟨_, rfl⟩
      rw [hpre] at HNX HO0
      have HLP : Kept (pre.length + ws.length ≤ 26400013200) := ⟨by
        have h1 := HL1.out
        rw [HNX.out, List.length_append] at h1
        exact Nat.le_trans h1 HFW.out⟩
      have HOS : Kept (out0 = putsF (pre ++ ws.take 0)) := ⟨by rw [List.take_zero, List.append_nil]; exact HO0.out⟩
      clear hown hb3 hws hpre HL1 CM q0 q1 HB0 hbw HW0 HO0 hcw
      go_wp2_with fail
      go_loopw [3, 6] (fun sv kv wq => ∃ (k : Nat) (A : Option Addr) (c : Nat) (out : List ByteArray), k ≤ ws.length ∧ kv = .int .i64 (k : Int) ∧ sv = .slice A out.length c ∧ Kept (out = putsF (pre ++ ws.take k)) ∧ Kept (strE.Own wq w.heap.size 9 (.slice A out.length c) out) ∧ Kept (strE.Rd wq wq.heap.size Aw ws) ∧ Kept (Below w.heap.size w wq)) (fun _ kv _ => ws.length - (intOf kv).toNat)
      case atStart => exact ⟨0, A0, c0, out0, Nat.zero_le _, rfl, rfl, HOS, HW3, HR3, HB3⟩
      case round =>
        clear HOS HW3 HR3 HB3
        obtain ⟨k, A1, c1, out, hk, rfl, rfl, HO, HW, HR, HB⟩ := hrel
        rename World => wq
        by_cases hkl : k < ws.length
        · obtain ⟨s, hs⟩ : ∃ s, ws[k]? = some s := ⟨_, List.getElem?_eq_getElem hkl⟩
          have hkn : (k : Int) < (ws.length : Int) := by omega
          obtain ⟨b2, o2, rfl, hb2, hc2⟩ := (strE_rd.1 HR.out) (by intro e; rw [List.map_eq_nil_iff.1 e] at hkl; exact absurd hkl (Nat.not_lt_zero _))
          have y0 := hc2 k (.string s) (by unfold SB; rw [List.getElem?_map, hs]; rfl)
          have HY := kept (fun (W : World) (hb : Below wq.heap.size wq W) => (hb.cell (p := ⟨b2, o2 + k, none⟩) hb2).trans y0)
          have HNS : Kept (putF out s = putsF (pre ++ ws.take (k + 1))) := ⟨by
            obtain ⟨h1, h2⟩ := List.getElem?_eq_some_iff.1 hs
            rw [List.take_succ_eq_append_getElem h1, h2, ← List.append_assoc, putsF_snoc, HO.out]⟩
          have hol : out.length ≤ 26400013200 := by
            have h1 := putsF_length (pre ++ ws.take k)
            rw [← HO.out, List.length_append, List.length_take] at h1
            have := HLP.out
            omega
          have hwl : ws.length ≤ 26400013200 := by have := HLP.out; omega
          have HP : Kept (putF out s = out.filter (fun x => Op.bytesLess x.toList s.toList) ++ s :: out.filter (fun x => Op.bytesLess s.toList x.toList)) := ⟨rfl⟩
          have HOR := kept (fun (W : World) (hb : Below wq.heap.size wq W) => (HW.out.rd.next hb))
          clear hc2 hs y0 HO
          go_wp2_with fail
          go_loopw [7, 8] (fun tv jv wi => ∃ (j : Nat) (rs : List ByteArray) (A' : Option Addr) (c' : Nat), j ≤ out.length ∧ jv = .int .i64 (j : Int) ∧ tv = .slice A' rs.length c' ∧ rs.length ≤ j ∧ Kept (rs = (out.take j).filter fun x => Op.bytesLess x.toList s.toList) ∧ Kept (strE.Own wi wq.heap.size 9 (.slice A' rs.length c') rs) ∧ Kept (Below wq.heap.size wq wi)) (fun _ jv _ => out.length - (intOf jv).toNat)
          case atStart => exact ⟨0, [], none, 0, Nat.zero_le _, rfl, rfl, Nat.zero_le _, ⟨rfl⟩, ⟨Elem.Own.nilv _ _ _ _⟩, ⟨Below.refl _ _⟩⟩
          case round =>
            obtain ⟨j, rs, A', c', hj, rfl, rfl, hrl, hrs, hown, hb⟩ := hrel
            rename World => wi
            have s0 := HY.out _ hb.out
            by_cases hjl : j < out.length
            · obtain ⟨x, hx⟩ : ∃ x, out[j]? = some x := ⟨_, List.getElem?_eq_getElem hjl⟩
              have hjn : (j : Int) < (out.length : Int) := by omega
              obtain ⟨b3, o3, rfl, hb3, hc3⟩ := (strE_rd.1 (HOR.out _ hb.out)) (by intro e; rw [List.map_eq_nil_iff.1 e] at hjl; exact absurd hjl (Nat.not_lt_zero _))
              have x0 := hc3 j (.string x) (by unfold SB; rw [List.getElem?_map, hx]; rfl)
              have HN := kept (filterF_snoc (fun x => Op.bytesLess x.toList s.toList) hx)
              rw [← hrs.out] at HN
              clear hx hc3 hrs
              cases hp : Op.bytesLess x.toList s.toList with
              | true =>
                rw [hp] at HN
                go_wp2_with fail
                go_quiet (fail)
                have hbq := hb.out.trans (below_draw _ wi nq)
                have hoq := hown.out.next (below_draw _ wi nq)
                have xq : (wi.drewN nq).cell? ⟨b3, o3 + j, none⟩ = some (.string x) := x0
                clear hb hown x0 s0
                generalize wi.drewN nq = wd at *
                have hbA : Below wd.heap.size wd (wd.alloc (.cells #[.string x] 9)) := (Below.refl _ _).alloc (Nat.le_refl _) _
                have hbB := hbq.trans (hbA.mono hbq.size)
                have hoB := hoq.next hbA
                have hrn : strE.Rd (wd.alloc (.cells #[.string x] 9)) (wd.heap.size + 1) (some ⟨wd.heap.size, 0, none⟩) [x] := Rd.new _ [.string x] 9
                have hz : (rs.length + [x].length) * 16 ≤ 140737488355328 := by simp; omega
                have hbase : wq.heap.size ≤ (wd.alloc (.cells #[.string x] 9)).heap.size := hbB.size
                go_wp2_with (at_builtin; refine wpl_appEU _ strE rfl (.tmp 42) (.tmp 47) 36 rfl wq.heap.size 9 Tryz.underlying36 str_info rfl _ rs rfl hoB _ _ _ _ [x] rfl rfl hrn hz (by decide) hbase ?_; intro A9 c9 w9 r9 hr9 hown9 hu9 hx9)
                have HB9 : Kept (Below wq.heap.size wq w9) := ⟨hbB.trans ((hu9 _ fun _ e => e).below hbase fun k _ e => (hoB.lt k e).1)⟩
                have HW9 := kept hown9
                have HL9 : Kept (r9.length ≤ j + 1) := ⟨by rw [hr9.out, List.length_append, List.length_singleton]; omega⟩
                have HN9 : Kept (r9 = (out.take (j + 1)).filter fun x => Op.bytesLess x.toList s.toList) := ⟨by rw [hr9.out, HN.out]; rfl⟩
                clear hr9 hown9 hu9 hx9 hrn hz hbase hbA hbB hoB xq HN hp hbq hoq
                go_wp2_with fail
                go_roundw
                case rel => exact ⟨j + 1, r9, A9, c9, by omega, by go_num, rfl, HL9.out, HN9, HW9, HB9⟩
                case measure => simp [intOf]; omega
              | false =>
                rw [hp] at HN
                have HN2 : Kept (rs = (out.take (j + 1)).filter fun x => Op.bytesLess x.toList s.toList) := ⟨by rw [HN.out]; simp⟩
                clear HN
                go_wp2_with fail
                go_quiet (fail)
                have hbq := hb.out.trans (below_draw _ wi nq)
                have hoq := hown.out.next (below_draw _ wi nq)
                have xq : (wi.drewN nq).cell? ⟨b3, o3 + j, none⟩ = some (.string x) := x0
                clear hb hown x0 s0
                generalize wi.drewN nq = wd at *
                go_wp2_with fail
                go_roundw
                case rel => exact ⟨j + 1, rs, A', c', by omega, by go_num, rfl, by omega, HN2, ⟨hoq⟩, ⟨hbq⟩⟩
                case measure => simp [intOf]; omega
            · obtain rfl : j = out.length := by omega
              rw [List.take_length] at hrs
              have hbA : Below wi.heap.size wi (wi.alloc (.cells #[.string s] 9)) := (Below.refl _ _).alloc (Nat.le_refl _) _
              have hbB := hb.out.trans (hbA.mono hb.out.size)
              have hoB := hown.out.next hbA
              have hrn : strE.Rd (wi.alloc (.cells #[.string s] 9)) (wi.heap.size + 1) (some ⟨wi.heap.size, 0, none⟩) [s] := Rd.new _ [.string s] 9
              have hz : (rs.length + [s].length) * 16 ≤ 140737488355328 := by simp; omega
              have hbase : wq.heap.size ≤ (wi.alloc (.cells #[.string s] 9)).heap.size := hbB.size
              clear hown hb
              go_wp2_with (at_builtin; refine wpl_appEU _ strE rfl (.tmp 49) (.tmp 54) 36 rfl wq.heap.size 9 Tryz.underlying36 str_info rfl _ rs rfl hoB _ _ _ _ [s] rfl rfl hrn hz (by decide) hbase ?_; intro A2 c2 w9 r2 hr9 hown9 hu9 hx9)
              have HB9 : Kept (Below wq.heap.size wq w9) := ⟨hbB.trans ((hu9 _ fun _ e => e).below hbase fun k _ e => (hoB.lt k e).1)⟩
              have HW9 := kept hown9
              have hl2 : r2.length ≤ out.length + 1 := by rw [hr9.out, List.length_append, List.length_singleton]; omega
              have HR2 : Kept (r2 = out.filter (fun x => Op.bytesLess x.toList s.toList) ++ [s]) := ⟨by rw [hr9.out, hrs.out]⟩
              clear hr9 hown9 hu9 hx9 hrn hz hbase hbA hbB hoB s0 hrs
              go_wp2_with fail
              go_loopw [7, 9] (fun tv jv wi => ∃ (j : Nat) (rs : List ByteArray) (A' : Option Addr) (c' : Nat), j ≤ out.length ∧ jv = .int .i64 (j : Int) ∧ tv = .slice A' rs.length c' ∧ rs.length ≤ out.length + 1 + j ∧ Kept (rs = r2 ++ (out.take j).filter fun x => Op.bytesLess s.toList x.toList) ∧ Kept (strE.Own wi wq.heap.size 9 (.slice A' rs.length c') rs) ∧ Kept (Below wq.heap.size wq wi)) (fun _ jv _ => out.length - (intOf jv).toNat)
              case atStart => exact ⟨0, r2, A2, c2, Nat.zero_le _, rfl, rfl, by omega, ⟨by simp⟩, HW9, HB9⟩
              case round =>
                clear HW9 HB9
                obtain ⟨j, rs, A', c', hj, rfl, rfl, hrl, hrs, hown, hb⟩ := hrel
                rename World => wi
                have s0 := HY.out _ hb.out
                by_cases hjl : j < out.length
                · obtain ⟨x, hx⟩ : ∃ x, out[j]? = some x := ⟨_, List.getElem?_eq_getElem hjl⟩
                  have hjn : (j : Int) < (out.length : Int) := by omega
                  obtain ⟨b3, o3, rfl, hb3, hc3⟩ := (strE_rd.1 (HOR.out _ hb.out)) (by intro e; rw [List.map_eq_nil_iff.1 e] at hjl; exact absurd hjl (Nat.not_lt_zero _))
                  have x0 := hc3 j (.string x) (by unfold SB; rw [List.getElem?_map, hx]; rfl)
                  have HN := kept (filterF_snoc (fun x => Op.bytesLess s.toList x.toList) hx)
                  clear hx hc3
                  cases hp : Op.bytesLess s.toList x.toList with
                  | true =>
                    obtain ⟨hp1, hp2⟩ := gtF_yes hp
                    have HN0 : Kept (rs ++ [x] = r2 ++ (out.take (j + 1)).filter fun x => Op.bytesLess s.toList x.toList) := ⟨by rw [HN.out, hrs.out, hp, List.append_assoc]; rfl⟩
                    clear HN hrs
                    go_wp2_with fail
                    go_quiet (fail)
                    have hbq := hb.out.trans (below_draw _ wi nq)
                    have hoq := hown.out.next (below_draw _ wi nq)
                    have xq : (wi.drewN nq).cell? ⟨b3, o3 + j, none⟩ = some (.string x) := x0
                    clear hb hown x0 s0
                    generalize wi.drewN nq = wd at *
                    have hbA : Below wd.heap.size wd (wd.alloc (.cells #[.string x] 9)) := (Below.refl _ _).alloc (Nat.le_refl _) _
                    have hbB := hbq.trans (hbA.mono hbq.size)
                    have hoB := hoq.next hbA
                    have hrn : strE.Rd (wd.alloc (.cells #[.string x] 9)) (wd.heap.size + 1) (some ⟨wd.heap.size, 0, none⟩) [x] := Rd.new _ [.string x] 9
                    have hz : (rs.length + [x].length) * 16 ≤ 140737488355328 := by simp; omega
                    have hbase : wq.heap.size ≤ (wd.alloc (.cells #[.string x] 9)).heap.size := hbB.size
                    go_wp2_with (at_builtin; refine wpl_appEU _ strE rfl (.tmp 71) (.tmp 76) 36 rfl wq.heap.size 9 Tryz.underlying36 str_info rfl _ rs rfl hoB _ _ _ _ [x] rfl rfl hrn hz (by decide) hbase ?_; intro A9 c9 w9 r9 hr9 hown9 hu9 hx9)
                    have HB9 : Kept (Below wq.heap.size wq w9) := ⟨hbB.trans ((hu9 _ fun _ e => e).below hbase fun k _ e => (hoB.lt k e).1)⟩
                    have HW9 := kept hown9
                    have HL9 : Kept (r9.length ≤ out.length + 1 + (j + 1)) := ⟨by rw [hr9.out, List.length_append, List.length_singleton]; omega⟩
                    have HN9 : Kept (r9 = r2 ++ (out.take (j + 1)).filter fun x => Op.bytesLess s.toList x.toList) := ⟨by rw [hr9.out, HN0.out]⟩
                    clear hr9 hown9 hu9 hx9 hrn hz hbase hbA hbB hoB xq HN0 hp hp1 hp2 hbq hoq
                    go_wp2_with fail
                    go_roundw
                    case rel => exact ⟨j + 1, r9, A9, c9, by omega, by go_num, rfl, HL9.out, HN9, HW9, HB9⟩
                    case measure => simp [intOf]; omega
                  | false =>
                    have HN2 : Kept (rs = r2 ++ (out.take (j + 1)).filter fun x => Op.bytesLess s.toList x.toList) := ⟨by rw [HN.out, hrs.out, hp]; simp⟩
                    clear HN hrs
                    rcases gtF_no hp with hp1 | ⟨hp1, hp2⟩
                    all_goals
                      go_wp2_with fail
                      go_quiet (fail)
                      have hbq := hb.out.trans (below_draw _ wi nq)
                      have hoq := hown.out.next (below_draw _ wi nq)
                      have xq : (wi.drewN nq).cell? ⟨b3, o3 + j, none⟩ = some (.string x) := x0
                      clear hb hown x0 s0
                      generalize wi.drewN nq = wd at *
                      go_wp2_with fail
                      go_roundw
                      case rel => exact ⟨j + 1, rs, A', c', by omega, by go_num, rfl, by omega, HN2, ⟨hoq⟩, ⟨hbq⟩⟩
                      case measure => simp [intOf]; omega
                · obtain rfl : j = out.length := by omega
                  have HOE : Kept (rs = putsF (pre ++ ws.take (k + 1))) := ⟨by rw [← HNS.out, HP.out, hrs.out, List.take_length, HR2.out, List.append_assoc]; rfl⟩
                  have HWE : Kept (strE.Own wi w.heap.size 9 (.slice A' rs.length c') rs) := ⟨hown.out.mono HB.out.size⟩
                  have HRE := kept (HR.out.next hb.out)
                  have HBE := kept (HB.out.trans (hb.out.mono HB.out.size))
                  clear hrs hown hb s0
                  go_wp2_with fail
                  go_roundw
                  case rel => exact ⟨k + 1, A', c', rs, by omega, by go_num, rfl, HOE, HWE, HRE, HBE⟩
                  case measure => simp [intOf]; omega
        · obtain rfl : k = ws.length := by omega
          have HOE : Kept (out = putsF (wordsL (l.take (i + 1)))) := ⟨by rw [HNX.out, HO.out, List.take_length]⟩
          clear HO HR
          go_wp2_with fail
          go_roundw
          case rel => exact ⟨i + 1, A1, c1, out, by omega, by go_num, rfl, HOE, HW, HB⟩
          case measure => simp [intOf]; omega
    · obtain rfl : i = l.length := by omega
      rw [List.take_length] at HO0
      have HG := kept (Elem.gives HO0.out HW0.out HB0.out)
      clear HO0 HW0 HB0
      go_wp2_with fail
      go_ret
      exact HG.out
end Go.Proofs.YtfkfpanhbanljaaGreatDoor.Find

/- Layer 45 (find): plain words for FindSays. -/
namespace Go.Proofs.YtfkfpanhbanljaaGreatDoor.Stab
section
variable {α : Type} {lt : α → α → Bool}
theorem ins_nilS (x : α) : ins lt [] x = [x] := rfl
theorem ins_consS (y : α) (l : List α) (x : α) : ins lt (y :: l) x = if lt x y = true then x :: y :: l else y :: ins lt l x := rfl
theorem filter_ins (h : SWO lt) (p : α → Bool) : ∀ (l : List α) (x : α), Srt lt l → (ins lt l x).filter p = if p x = true then ins lt (l.filter p) x else l.filter p
  | [], x, _ => by
    rw [ins_nilS, List.filter_nil, ins_nilS, List.filter_cons, List.filter_nil]
  | y :: l, x, hs => by
    obtain ⟨h1, h2⟩ := List.pairwise_cons.1 hs
    have ih := filter_ins h p l x h2
    rw [ins_consS]
    by_cases hxy : lt x y = true
    · rw [if_pos hxy, List.filter_cons]
      cases e : p x with
      | false => rw [if_neg Bool.false_ne_true, if_neg Bool.false_ne_true]
      | true =>
        rw [if_pos rfl, if_pos rfl]
        have hall : ∀ z ∈ (y :: l).filter p, lt x z = true := fun z hz => by
          rcases List.mem_cons.1 (List.mem_filter.1 hz).1 with rfl | hz2
          · exact hxy
          · exact h.lt_of hxy (h1 z hz2)
        cases e2 : (y :: l).filter p with
        | nil => rfl
        | cons z r => rw [ins_consS, if_pos (hall z (by rw [e2]; exact List.mem_cons_self))]
    · rw [if_neg hxy, List.filter_cons, List.filter_cons, ih]
      cases e : p y with
      | false => rw [if_neg Bool.false_ne_true, if_neg Bool.false_ne_true]
      | true =>
        rw [if_pos rfl, if_pos rfl]
        cases e2 : p x with
        | false => rw [if_neg Bool.false_ne_true, if_neg Bool.false_ne_true]
        | true => rw [if_pos rfl, if_pos rfl, ins_consS, if_neg hxy]
theorem filter_stab (h : SWO lt) (p : α → Bool) (l : List α) : (stab lt l).filter p = stab lt (l.filter p) := by
  have hg : ∀ (r a : List α), Srt lt a → (r.foldl (ins lt) a).filter p = (r.filter p).foldl (ins lt) (a.filter p) := by
    intro r
    induction r with
    | nil => intro a _; rfl
    | cons x r ih =>
      intro a ha
      rw [List.foldl_cons, ih _ (ins_srt h a x ha), filter_ins h p a x ha, List.filter_cons]
      cases e : p x with
      | true => rw [if_pos rfl, if_pos rfl, List.foldl_cons]
      | false => rw [if_neg Bool.false_ne_true, if_neg Bool.false_ne_true]
  exact hg l [] List.Pairwise.nil
end
end Go.Proofs.YtfkfpanhbanljaaGreatDoor.Stab
namespace Go.Proofs.YtfkfpanhbanljaaGreatDoor.Find
open Go.RowKit Go.Proofs.YtfkfpanhbanljaaGreatDoor.Mem Go.Proofs.YtfkfpanhbanljaaGreatDoor.Card Go.Proofs.YtfkfpanhbanljaaGreatDoor.Laid Go.Proofs.YtfkfpanhbanljaaGreatDoor.Fold Go.Proofs.YtfkfpanhbanljaaGreatDoor.Twin Go.Proofs.YtfkfpanhbanljaaGreatDoor.List44 Go.Proofs.YtfkfpanhbanljaaGreatDoor.Stab

theorem found_stab (l : List CardM) (hs : List ByteArray) : foundL (stab ltC l) hs = stab ltC (foundL l hs) := filter_stab swoC _ l
theorem says_found {ys l : List CardM} (h : ys.map CardM.p = (stab ltC l).map CardM.p) (hs : List ByteArray) : (foundL ys hs).map CardM.p = (stab ltC (foundL l hs)).map CardM.p := by rw [found_p hs h, found_stab]
theorem mem_pairs {ys : List CardM} {s : ByteArray} : (∃ i, (s, i) ∈ pairsK ys ys.length) ↔ ∃ y ∈ ys, s ∈ wordsC y.ls := by
  refine ⟨fun ⟨i, h⟩ => pairs_mem h, fun ⟨y, hy, hs⟩ => ?_⟩
  obtain ⟨i, hi, e⟩ := List.mem_iff_getElem.1 hy
  refine ⟨i, List.mem_flatMap.2 ⟨i, List.mem_range.2 hi, List.mem_map.2 ⟨s, ?_, rfl⟩⟩⟩
  have e2 : ys.getD i ⟨0, none, [], 0⟩ = y := by simp [List.getD, hi, e]
  rw [e2]
  exact hs
theorem says_words {ys l : List CardM} (h : ys.map CardM.p = (stab ltC l).map CardM.p) (s : ByteArray) : (∃ i, (s, i) ∈ pairsK ys ys.length) ↔ s ∈ wordsL l := by
  rw [mem_pairs]
  unfold wordsL
  rw [List.mem_flatMap]
  constructor
  · rintro ⟨y, hy, hs⟩
    have h2 : y.p ∈ (stab ltC l).map CardM.p := by rw [← h]; exact List.mem_map_of_mem hy
    obtain ⟨x, hx, e⟩ := List.mem_map.1 h2
    exact ⟨x, (stab_perm l).mem_iff.1 hx, by rw [wordsC_p (congrArg Prod.snd e)]; exact hs⟩
  · rintro ⟨x, hx, hs⟩
    have h2 : x.p ∈ ys.map CardM.p := by rw [h]; exact List.mem_map_of_mem ((stab_perm l).mem_iff.2 hx)
    obtain ⟨y, hy, e⟩ := List.mem_map.1 h2
    exact ⟨y, hy, by rw [wordsC_p (congrArg Prod.snd e)]; exact hs⟩
theorem says_texts {ys l : List CardM} {ws : List ByteArray} (h : ys.map CardM.p = (stab ltC l).map CardM.p) (hi : IncF ws) (hm : ∀ s, s ∈ ws ↔ ∃ i, (s, i) ∈ pairsK ys ys.length) : ws = putsF (wordsL l) :=
  incF_ext hi (putsF_inc _) fun s => ((hm s).trans (says_words h s)).trans putsF_mem.symm
end Go.Proofs.YtfkfpanhbanljaaGreatDoor.Find

/- Layer 45 (find): begins, Match, Find (the document's). -/
namespace Go.Proofs.YtfkfpanhbanljaaGreatDoor.Find
open Go.RowKit Go.Proofs.YtfkfpanhbanljaaGreatDoor.Mem Go.Proofs.YtfkfpanhbanljaaGreatDoor.Card Go.Proofs.YtfkfpanhbanljaaGreatDoor.Laid Go.Proofs.YtfkfpanhbanljaaGreatDoor.Fold Go.Proofs.YtfkfpanhbanljaaGreatDoor.Twin Go.Proofs.YtfkfpanhbanljaaGreatDoor.List44

theorem hasP_ext {x h : ByteArray} (_hle : h.size ≤ x.size) : ((x.extract 0 h.size).toList == h.toList) = hasP x h := by
  rw [str_beq]
  have e : (x.extract 0 h.size).data.toList = x.data.toList.take h.data.toList.length := by
    rw [ByteArray.data_extract]
    simp
  unfold hasP Lib.hasPrefix
  rw [Bool.eq_iff_iff, decide_eq_true_iff, List.isPrefixOf_iff_prefix, List.prefix_iff_eq_take, ← e]
  exact ⟨fun h2 => by rw [h2], fun h2 => (Go.WideShapes.bytes_inj h2.symm)⟩
theorem hasP_long {x h : ByteArray} (hle : ¬ h.size ≤ x.size) : hasP x h = false := by
  unfold hasP Lib.hasPrefix
  cases e : h.data.toList.isPrefixOf x.data.toList with
  | false => rfl
  | true =>
    have h2 := (List.isPrefixOf_iff_prefix.1 e).length_le
    exact absurd (by simpa using h2) hle
set_option maxRecDepth 100000 in
set_option maxHeartbeats 4000000 in
theorem begins_any (A : Option Addr) (c : Nat) (l : List ByteArray) (h : ByteArray) (w : World) (hr : strE.Rd w w.heap.size A l) (hsz : l.length ≤ 9223372036854775806) :
    Calls Tryz.prog 34 #[.slice A l.length c, .string h] w fun e w' => e = .returned (.bool (l.any fun x => hasP x h)) ∧ w = w' := by
  have HR := kept hr
  clear hr
  go_enter Tryz.func34, Tryz.ntmps34
  go_wp2_with fail
  go_loopw [5] (fun i wr => ∃ k : Nat, k ≤ l.length ∧ i = .int .i64 (k : Int) ∧ Kept ((l.take k).any (fun x => hasP x h) = false) ∧ w = wr) (fun i _ => l.length - (intOf i).toNat)
  case atStart => exact ⟨0, Nat.zero_le _, rfl, ⟨rfl⟩, rfl⟩
  case round =>
    obtain ⟨k, hk, rfl, HN, rfl⟩ := hrel
    by_cases hlt : k < l.length
    · obtain ⟨x, hx⟩ : ∃ x, l[k]? = some x := ⟨_, List.getElem?_eq_getElem hlt⟩
      have hkn : (k : Int) < (l.length : Int) := by omega
      obtain ⟨b2, o2, rfl, hb2, hc2⟩ := (strE_rd.1 HR.out) (by intro e; rw [List.map_eq_nil_iff.1 e] at hlt; exact absurd hlt (Nat.not_lt_zero _))
      have y0 := hc2 k (.string x) (by unfold SB; rw [List.getElem?_map, hx]; rfl)
      have HT : Kept ((l.take (k + 1)).any (fun x => hasP x h) = hasP x h) := ⟨by
        obtain ⟨h1, h2⟩ := List.getElem?_eq_some_iff.1 hx
        rw [List.take_succ_eq_append_getElem h1, h2, List.any_append, HN.out]
        simp⟩
      have HIN := kept (List.mem_of_getElem? hx)
      clear hc2 hx
      by_cases hle : h.size ≤ x.size
      · have hli : (h.size : Int) ≤ (x.size : Int) := by omega
        have hd := hasP_ext hle
        cases hp : hasP x h with
        | true =>
          rw [hp] at hd
          have HA : Kept ((l.any fun x => hasP x h) = true) := ⟨List.any_eq_true.2 ⟨x, HIN.out, hp⟩⟩
          clear HT HIN hp
          go_wp2_with fail
          go_ret
          exact ⟨by rw [HA.out]; rfl, rfl⟩
        | false =>
          rw [hp] at hd HT
          clear HIN hp
          go_wp2_with fail
          go_roundw
          case rel => exact ⟨k + 1, by omega, by go_num, HT, trivial⟩
          case measure => simp [intOf]; omega
      · have hli : ¬ (h.size : Int) ≤ (x.size : Int) := by omega
        rw [hasP_long hle] at HT
        clear HIN
        go_wp2_with fail
        go_roundw
        case rel => exact ⟨k + 1, by omega, by go_num, HT, trivial⟩
        case measure => simp [intOf]; omega
    · obtain rfl : k = l.length := by omega
      rw [List.take_length] at HN
      go_wp2_with fail
      go_ret
      exact ⟨by rw [HN.out]; rfl, rfl⟩
set_option maxRecDepth 100000 in
set_option maxHeartbeats 4000000 in
theorem rfmatch_any (x : CardM) (q : ByteArray) (w : World) (hx : x.Ok w w.heap.size) (ht : Tame x.ls) (hq : q.size ≤ 2000000) :
    Calls Tryz.prog 11 #[x.val, .string q] w fun e w' => e = .returned (.bool (fitsL x.ls (wordsB q))) ∧ Below w.heap.size w w' := by
  obtain ⟨xcid, xX, xls, xc⟩ := x
  have hb0 : Below w.heap.size w (w.alloc (.cells #[.int .u64 (xcid : Int), .slice xX xls.length xc] 31)) := (Below.refl _ _).alloc (Nat.le_refl _) _
  have CW := kept (rfwords_any ⟨xcid, xX, xls, xc⟩ _ (hx.next hb0) ht)
  have HB0 := kept hb0
  have HTM : Kept (Tame xls) := ⟨ht⟩
  have hwq := words_few hq
  clear hb0 hx ht
  unfold CardM.val at CW ⊢
  dsimp only at CW ⊢
  go_enter Tryz.func11, Tryz.ntmps11
  go_wp2_with fail
  refine CW.out.mono ?_
  rintro e w1 ⟨Aw, cw, rfl, hown, hcw, hb1⟩
  have HB1 := kept (HB0.out.trans (hb1.mono HB0.out.size))
  have CQ := kept (rwords_any q w1 (by omega))
  have HW1 := kept hown
  have hwl : (wordsC xls).length ≤ 264000132 := by have := wordsC_few HTM.out xls.length; rwa [List.take_length] at this
  clear hown hb1 CW HB0
  go_wp2_with fail
  refine CQ.out.mono ?_
  rintro e w2 ⟨Ah, ch, rfl, hown, hch, hb2⟩
  have HB2 := kept (HB1.out.trans (hb2.mono HB1.out.size))
  have HW2 := kept (HW1.out.next hb2)
  have HH2 := kept hown
  clear hown hb2 CQ HB1 HW1
  obtain ⟨ws, hws⟩ : ∃ ws, wordsC xls = ws := ⟨_, rfl⟩
  obtain ⟨hs, hhs⟩ : ∃ hs, wordsB q = hs := ⟨_, rfl⟩
  have HFIN : Kept (fitsL xls (wordsB q) = hs.all fun h => ws.any fun x => hasP x h) := ⟨by rw [← hws, ← hhs]; rfl⟩
  rw [hws] at HW2 hwl ⊢
  rw [hhs] at HH2 hwq ⊢
  clear hws hhs
  generalize (w.alloc (.cells #[.int .u64 (xcid : Int), .slice xX xls.length xc] 31)).heap.size = bw at *
  generalize w1.heap.size = bh at *
  go_wp2_with fail
  go_loopw [7] (fun i wr => ∃ k : Nat, k ≤ hs.length ∧ i = .int .i64 (k : Int) ∧ Kept ((hs.take k).all (fun h => ws.any fun x => hasP x h) = true) ∧ Kept (Below w.heap.size w wr) ∧ Kept (strE.Own wr bw 9 (.slice Aw ws.length cw) ws) ∧ Kept (strE.Own wr bh 9 (.slice Ah hs.length ch) hs)) (fun i _ => hs.length - (intOf i).toNat)
  case atStart => exact ⟨0, Nat.zero_le _, rfl, ⟨rfl⟩, HB2, HW2, HH2⟩
  case round =>
    clear HB2 HW2 HH2
    obtain ⟨k, hk, rfl, HA, HB, HW, HH⟩ := hrel
    by_cases hlt : k < hs.length
    · obtain ⟨h, hh⟩ : ∃ h, hs[k]? = some h := ⟨_, List.getElem?_eq_getElem hlt⟩
      have hkn : (k : Int) < (hs.length : Int) := by omega
      obtain ⟨b2, o2, rfl, hb2, hc2⟩ := (strE_rd.1 HH.out.rd) (by intro e; rw [List.map_eq_nil_iff.1 e] at hlt; exact absurd hlt (Nat.not_lt_zero _))
      have y0 := hc2 k (.string h) (by unfold SB; rw [List.getElem?_map, hh]; rfl)
      have CC := kept (begins_any Aw cw ws h wr HW.out.rd (by omega))
      have HT : Kept ((hs.take (k + 1)).all (fun h => ws.any fun x => hasP x h) = ws.any fun x => hasP x h) := ⟨by
        obtain ⟨h1, h2⟩ := List.getElem?_eq_some_iff.1 hh
        rw [List.take_succ_eq_append_getElem h1, h2, List.all_append, HA.out]
        simp⟩
      have HIN := kept (List.mem_of_getElem? hh)
      clear hc2 hh
      generalize hq9 : (ws.any fun x => hasP x h) = d at CC HT
      have HQ9 := kept hq9
      clear hq9
      go_wp2_with fail
      refine CC.out.mono ?_
      rintro e w3 ⟨rfl, rfl⟩
      cases d with
      | true =>
        go_wp2_with fail
        go_roundw
        case rel => exact ⟨k + 1, by omega, by go_num, HT, HB, HW, HH⟩
        case measure => simp [intOf]; omega
      | false =>
        have HF : Kept ((hs.all fun h => ws.any fun x => hasP x h) = false) := ⟨List.all_eq_false.2 ⟨h, HIN.out, by rw [HQ9.out]; decide⟩⟩
        go_wp2_with fail
        go_ret
        exact ⟨by rw [HFIN.out, HF.out]; rfl, HB.out⟩
    · obtain rfl : k = hs.length := by omega
      rw [List.take_length] at HA
      go_wp2_with fail
      go_ret
      exact ⟨by rw [HFIN.out, HA.out]; rfl, HB.out⟩
end Go.Proofs.YtfkfpanhbanljaaGreatDoor.Find

/- Layer 45 (find): Find (the document's). -/
namespace Go.Proofs.YtfkfpanhbanljaaGreatDoor.Find
open Go.RowKit Go.Proofs.YtfkfpanhbanljaaGreatDoor.Mem Go.Proofs.YtfkfpanhbanljaaGreatDoor.Card Go.Proofs.YtfkfpanhbanljaaGreatDoor.Laid Go.Proofs.YtfkfpanhbanljaaGreatDoor.Fold Go.Proofs.YtfkfpanhbanljaaGreatDoor.Twin Go.Proofs.YtfkfpanhbanljaaGreatDoor.List44 Go.Proofs.YtfkfpanhbanljaaGreatDoor.Stab

theorem found_mem {l : List CardM} {hs : List ByteArray} {x : CardM} (h : x ∈ foundL l hs) : x ∈ l := (List.mem_filter.1 h).1
set_option maxRecDepth 100000 in
set_option maxHeartbeats 4000000 in
theorem rfind_any (A : Option Addr) (l : List CardM) (c : Nat) (q : ByteArray) (w : World) (hr : RdCards w w.heap.size A l) (hn : l.length ≤ 100) (hs : Short l) (ht : ∀ x ∈ l, Tame x.ls) (hq : q.size ≤ 2000000) :
    Calls Tryz.prog 14 #[.slice A l.length c, .string q] w (GivesC w (stab ltC (foundL l (wordsB q)))) := by
  have HL := kept hr
  have HT := kept ht
  have CS := kept (fun (q2 : List CardM) (A' : Option Addr) (c' : Nat) (W : World) (e : q2 = foundL l (wordsB q)) (h1 : RdCards W W.heap.size A' q2) => rsort_any A' q2 c' W h1 (by rw [e]; have := found_le l (wordsB q); omega) (fun x hx => hs x (by rw [e] at hx; exact found_mem hx)))
  have HR : Kept (∀ (q2 : List CardM) (w1 w2 : World) (e : Ending), q2 = foundL l (wordsB q) → Below w.heap.size w w1 → GivesC w1 (stab ltC q2) e w2 → GivesC w (stab ltC (foundL l (wordsB q))) e w2) := ⟨fun q2 w1 w2 e e2 hb h => by
    subst e2
    obtain ⟨A', c', rfl, h1, h2⟩ := h
    exact ⟨A', c', rfl, h1, hb.trans (h2.mono hb.size)⟩⟩
  obtain ⟨T, hT⟩ : ∃ T, stab ltC (foundL l (wordsB q)) = T := ⟨_, rfl⟩
  rw [hT] at HR ⊢
  clear hr hs ht hT
  obtain ⟨hs, hhs⟩ : ∃ hs, wordsB q = hs := ⟨_, rfl⟩
  rw [hhs] at HR CS
  have HHS := kept hhs
  clear hhs
  go_enter Tryz.func14, Tryz.ntmps14
  go_wp2_with fail
  go_loopw [5, 6] (fun mv iv wr => ∃ (k : Nat) (A2 : Option Addr) (cm : Nat) (m : List CardM), k ≤ l.length ∧ mv = .slice A2 m.length cm ∧ iv = .int .i64 (k : Int) ∧ m.length ≤ k ∧ Kept (m = foundL (l.take k) hs) ∧ Kept (cardE.Own wr w.heap.size 31 (.slice A2 m.length cm) m ∧ Below w.heap.size w wr)) (fun _ iv _ => l.length - (intOf iv).toNat)
  case atStart => exact ⟨0, none, 0, [], Nat.zero_le _, rfl, rfl, Nat.le_refl _, ⟨rfl⟩, ⟨Elem.Own.nilv _ _ _ _, Below.refl _ _⟩⟩
  case round =>
    obtain ⟨k, A2, cm, m, hk, rfl, rfl, hmk, HMT, HMO⟩ := hrel
    have HMK := kept hmk
    clear hmk
    by_cases hlt : k < l.length
    · have hin : (k : Int) < (l.length : Int) := by omega
      obtain ⟨⟨zcid, zX, zls, zc⟩, hx⟩ : ∃ x, l[k]? = some x := ⟨_, List.getElem?_eq_getElem hlt⟩
      have HNX := kept (found_next hx hs)
      obtain ⟨b2, o, rfl, hbB, u0, u1, hxo⟩ := HL.out.at_ hx
      have hbw := HMO.out.2
      have q0 := (hbw.cell (p := ⟨b2, o + k * 2, none⟩) hbB).trans u0
      have q1 := (hbw.cell (p := ⟨b2, o + k * 2 + 1, none⟩) hbB).trans u1
      have CM := rfmatch_any ⟨zcid, zX, zls, zc⟩ q wr (hxo.next hbw) (HT.out _ (List.mem_of_getElem? hx)) (by omega)
      rw [HHS.out] at CM
      unfold CardM.val at CM
      dsimp only at q0 q1 HNX CM
      have CM := kept CM
      have HU0 := kept u0
      have HU1 := kept u1
      clear hx u0 u1 hxo
      cases hfit : fitsL zls hs with
      | false =>
        rw [hfit] at CM
        have HM9 : Kept (m = foundL (l.take (k + 1)) hs) := ⟨by rw [HNX.out, hfit, if_neg Bool.false_ne_true, List.append_nil]; exact HMT.out⟩
        clear HNX hfit HMT
        go_wp2_with fail
        refine CM.out.mono ?_
        rintro e w3 ⟨rfl, hb3⟩
        have HMO3 : Kept (cardE.Own w3 w.heap.size 31 (.slice A2 m.length cm) m ∧ Below w.heap.size w w3) := ⟨HMO.out.1.next hb3, hbw.trans (hb3.mono hbw.size)⟩
        clear hb3 HMO q0 q1 hbw CM HU0 HU1
        go_wp2_with fail
        go_roundw
        case rel => exact ⟨k + 1, A2, cm, m, by omega, rfl, by go_num, Nat.le_succ_of_le HMK.out, HM9, HMO3⟩
        case measure => simp [intOf]; omega
      | true =>
        rw [hfit] at CM
        have HM9 : Kept (m ++ [(⟨zcid, zX, zls, zc⟩ : CardM)] = foundL (l.take (k + 1)) hs) := ⟨by rw [HNX.out, hfit, if_pos rfl, HMT.out]⟩
        clear HNX hfit HMT
        go_wp2_with fail
        refine CM.out.mono ?_
        rintro e w3 ⟨rfl, hb3⟩
        have hbw3 := hbw.trans (hb3.mono hbw.size)
        have p0 := (hbw3.cell (p := ⟨b2, o + k * 2, none⟩) hbB).trans HU0.out
        have p1 := (hbw3.cell (p := ⟨b2, o + k * 2 + 1, none⟩) hbB).trans HU1.out
        have HMO3 := kept (HMO.out.1.next hb3)
        clear hb3 HMO q0 q1 hbw CM HU0 HU1
        have hrn : cardE.Rd (w3.alloc (.cells #[.int .u64 (zcid : Int), .slice zX zls.length zc] 31)) (w3.heap.size + 1) (some ⟨w3.heap.size, 0, none⟩) [⟨zcid, zX, zls, zc⟩] := Mem.Rd.new w3 [.int .u64 (zcid : Int), .slice zX zls.length zc] 31
        have hzz : (m.length + [(⟨zcid, zX, zls, zc⟩ : CardM)].length) * 32 ≤ 140737488355328 := by have := HMK.out; simp; omega
        have hnb : Below w3.heap.size w3 (w3.alloc (.cells #[.int .u64 (zcid : Int), .slice zX zls.length zc] 31)) := (Below.refl _ _).alloc (Nat.le_refl _) _
        have hoB := HMO3.out.next hnb
        have hbase : w.heap.size ≤ (w3.alloc (.cells #[.int .u64 (zcid : Int), .slice zX zls.length zc] 31)).heap.size := Nat.le_trans hbw3.size hnb.size
        go_wp2_with (at_builtin; refine wpl_appEU _ cardE rfl (.tmp 19) (.tmp 24) 22 rfl w.heap.size 31 Tryz.underlying22 Chg.card_info rfl _ m rfl hoB _ _ _ _ [⟨zcid, zX, zls, zc⟩] rfl rfl hrn hzz (by decide) hbase ?_; intro A9 c9 w9 r9 hr9 hown9 hu9 hx9)
        have HB9 : Kept (Below w.heap.size w w9) := ⟨(hbw3.trans (hnb.mono hbw3.size)).trans ((hu9 _ fun _ e => e).below hbase fun k _ e => (hoB.lt k e).1)⟩
        have HO9 := kept hown9
        have HR9 : Kept (r9 = foundL (l.take (k + 1)) hs) := ⟨by rw [hr9.out, HM9.out]⟩
        have HL9 : Kept (r9.length ≤ k + 1) := ⟨by have := HMK.out; rw [hr9.out, List.length_append, List.length_singleton]; omega⟩
        clear hr9 hown9 hu9 hx9 hrn hzz hnb hoB hbase hbw3 p0 p1 HMO3 HM9
        go_wp2_with fail
        go_roundw
        case rel => exact ⟨k + 1, A9, c9, r9, by omega, rfl, by go_num, HL9.out, HR9, ⟨HO9.out, HB9.out⟩⟩
        case measure => simp [intOf]; omega
    · obtain rfl : k = l.length := by omega
      rw [List.take_length] at HMT
      have CC := kept (CS.out m A2 cm wr HMT.out ⟨HMO.out.1.rd, fun x hx => (HL.out.2 x (by rw [HMT.out] at hx; exact found_mem hx)).next HMO.out.2⟩)
      have HR2 := kept (fun e w2 h => HR.out m wr w2 e HMT.out HMO.out.2 h)
      clear CS HR HMO HMT
      go_wp2_with fail
      refine CC.out.mono ?_
      rintro e w2 hg
      have HG := kept (HR2.out e w2 hg)
      obtain ⟨A', c', rfl, -, -⟩ := hg
      clear CC HR2
      go_wp2_with fail
      go_ret
      exact HG.out
end Go.Proofs.YtfkfpanhbanljaaGreatDoor.Find

/- Layer 45 (find): the law FindSays. -/
namespace Go.Proofs.YtfkfpanhbanljaaGreatDoor.Find
open Go.RowKit Go.Proofs.YtfkfpanhbanljaaGreatDoor.Mem Go.Proofs.YtfkfpanhbanljaaGreatDoor.Card Go.Proofs.YtfkfpanhbanljaaGreatDoor.Laid Go.Proofs.YtfkfpanhbanljaaGreatDoor.Fold Go.Proofs.YtfkfpanhbanljaaGreatDoor.Twin Go.Proofs.YtfkfpanhbanljaaGreatDoor.List44 Go.Proofs.YtfkfpanhbanljaaGreatDoor.Stab

theorem tameS_few {l : List CardM} (h : Chg.fewC l) (ht : ∀ y ∈ l, ∀ u ∈ y.ls, ∀ s ∈ u.m, s.size ≤ 1048576) : ∀ x ∈ l, Tame x.ls := fun x hx =>
  ⟨(h.2 x hx).1, fun z hz => ⟨Nat.le_trans ((h.2 x hx).2 z hz).1 (by decide), ((h.2 x hx).2 z hz).2, fun s hs => Nat.le_trans (ht x hx z hz s hs) (by decide)⟩⟩
set_option maxRecDepth 100000 in
set_option maxHeartbeats 16000000 in
theorem fsays_law (X : Option Addr) (l : List CardM) (c : Nat) (q : ByteArray) (w : World) (hr : RdCards w w.heap.size X l) (hc : l.length ≤ c) (hb : c ≤ 4398046511104) (ht : ∀ y ∈ l, ∀ u ∈ y.ls, ∀ s ∈ u.m, s.size ≤ 1048576) (hm : ML w) (hqs : q.size ≤ 1048576) :
    Calls Tryz.prog 3 #[.slice X l.length c, .string q] w fun e w' => e = .returned (.bool true) ∧ Below w.heap.size w w' := by
  have CF := kept (Chg.few_any X l c w hr (by omega))
  have HM := kept hm
  by_cases hfw : Chg.fewC l
  · rw [decide_eq_true hfw] at CF
    by_cases hq2 : q.size ≤ 200
    · have hn : l.length ≤ 25 := hfw.1
      have hq3 : ¬ (200 : Int) < (q.size : Int) := by omega
      have HL := kept hr
      have HTA := kept (tameS_few hfw ht)
      have HSH := kept (short_few hfw)
      have CN := kept (fnew_any X l c w hr hn (short_few hfw) (tameS_few hfw ht) hm)
      have CR : Kept (∀ W : World, Below w.heap.size w W → Calls Tryz.prog 14 #[.slice X l.length c, .string q] W (GivesC W (stab ltC (foundL l (wordsB q))))) := ⟨fun (W : World) (hb : Below w.heap.size w W) => rfind_any X l c q W (HL.out.next hb) (by omega) HSH.out HTA.out (by omega)⟩
      have CRW : Kept (∀ W : World, Below w.heap.size w W → Calls Tryz.prog 17 #[.slice X l.length c] W (strE.Gives 9 W (putsF (wordsL l)))) := ⟨fun (W : World) (hb : Below w.heap.size w W) => rwds_any X l c W (HL.out.next hb) (by omega) HTA.out⟩
      have HRL : Kept ((stab ltC (foundL l (wordsB q))).length ≤ 25) := ⟨by rw [stab_len]; exact Nat.le_trans (found_le _ _) hn⟩
      have HWL : Kept ((putsF (wordsL l)).length ≤ 26400013200) := ⟨Nat.le_trans (putsF_length _) (wordsL_few (by omega) HTA.out)⟩
      clear hr hm hfw ht hc hb
      go_enter Tryz.func3, Tryz.ntmps3
      go_wp2_with fail
      refine CF.out.mono ?_
      rintro e w0 ⟨rfl, rfl⟩
      clear CF
      go_wp2_with fail
      refine CN.out.mono ?_
      rintro e w1 ⟨gi, A, c2, ys, B, b, rfl, hp, hix, hbb, hb1⟩
      have hyl : ys.length = l.length := by
        have := congrArg List.length hp
        rwa [List.length_map, List.length_map, stab_len] at this
      have HYT : Kept (∀ y ∈ ys, Tame y.ls) := ⟨fun y hy => by
        have h2 : y.p ∈ (stab ltC l).map CardM.p := by rw [← hp]; exact List.mem_map_of_mem hy
        obtain ⟨x, hx, e⟩ := List.mem_map.1 h2
        exact tame_p e (HTA.out x ((stab_perm l).mem_iff.1 hx))⟩
      have HYP := kept hp
      have HIX := kept hix
      have HB1 := kept hb1
      have hn2 : ys.length ≤ 25 := by omega
      clear hp hix hbb hb1 CN hyl
      go_wp2_with fail
      go_loopw [6] (fun iv wr => ∃ k : Nat, k ≤ l.length ∧ iv = .int .i64 (k : Int) ∧ Kept (Below w1.heap.size w1 wr)) (fun iv _ => l.length - (intOf iv).toNat)
      case atStart => exact ⟨0, Nat.zero_le _, rfl, ⟨Below.refl _ _⟩⟩
      case round =>
        obtain ⟨k, hk, rfl, HB2⟩ := hrel
        rename World => wr
        have HBW := kept (HB1.out.trans (HB2.out.mono HB1.out.size))
        by_cases hlt : k < l.length
        · obtain ⟨⟨xcid, xX, xls, xc⟩, hx⟩ : ∃ x, l[k]? = some x := ⟨_, List.getElem?_eq_getElem hlt⟩
          have hkn : (k : Int) < (l.length : Int) := by omega
          obtain ⟨b1, o1, rfl, hbB, u0, u1, hxo⟩ := HL.out.at_ hx
          have HTX := kept (HTA.out _ (List.mem_of_getElem? hx))
          have hbw := HBW.out
          have CM := kept (fun (W : World) (hb : Below wr.heap.size wr W) => fmatch_any ⟨xcid, xX, xls, xc⟩ q W (hxo.next (hbw.trans (hb.mono hbw.size))) HTX.out (by omega) (HM.out.next (hbw.trans (hb.mono hbw.size))))
          have CRM := kept (fun (W : World) (hb : Below wr.heap.size wr W) => rfmatch_any ⟨xcid, xX, xls, xc⟩ q W (hxo.next (hbw.trans (hb.mono hbw.size))) HTX.out (by omega))
          unfold CardM.val at CM CRM
          dsimp only at CM CRM u0 u1
          have HS : Kept (∀ W, Below wr.heap.size wr W → W.cell? ⟨b1, o1 + k * 2, none⟩ = some (.int .u64 (xcid : Int)) ∧ W.cell? ⟨b1, o1 + k * 2 + 1, none⟩ = some (.slice xX xls.length xc)) := ⟨fun W h => by
            have hb := hbw.trans (h.mono hbw.size)
            exact ⟨(hb.cell (p := ⟨b1, o1 + k * 2, none⟩) hbB).trans u0, (hb.cell (p := ⟨b1, o1 + k * 2 + 1, none⟩) hbB).trans u1⟩⟩
          clear hx hxo hbw HTX
          have hdd : ∀ d : Bool, (d != d) = false := by decide
          generalize fitsL xls (wordsB q) = d at CM CRM
          go_upto_region 7 with fail
          go_cut [36] (fun a wx => a = .bool false ∧ Kept (Below wr.heap.size wr wx))
          case first =>
            clear CR CRW HIX HB1 HBW HYP HYT HRL HWL HTA HSH HL u0 u1 HB2 HM
            go_region_held3 (fun W => W.cell? ⟨b1, o1 + k * 2, none⟩ = some (.int .u64 (xcid : Int)) ∧ W.cell? ⟨b1, o1 + k * 2 + 1, none⟩ = some (.slice xX xls.length xc)) (exact HS.out _ (by (repeat (first | with_reducible assumption | with_reducible refine below_new ?_ _ | with_reducible refine Below.drew ?_ | with_reducible exact Below.refl _ _)))) (first
              | (go_at_call 10; ((with_reducible refine (CM.out _ (by (repeat (first | with_reducible assumption | with_reducible refine below_new ?_ _ | with_reducible refine Below.drew ?_ | with_reducible exact Below.refl _ _)))).mono ?_); rintro e x1 ⟨rfl, hx1⟩; have hk1 : Below wr.heap.size wr x1 := below_next (by (repeat (first | with_reducible assumption | with_reducible refine below_new ?_ _ | with_reducible refine Below.drew ?_ | with_reducible exact Below.refl _ _))) hx1))
              | (go_at_call 11; ((with_reducible refine (CRM.out _ (by (repeat (first | with_reducible assumption | with_reducible refine below_new ?_ _ | with_reducible refine Below.drew ?_ | with_reducible exact Below.refl _ _)))).mono ?_); rintro e x1 ⟨rfl, hx1⟩; have hk1 : Below wr.heap.size wr x1 := below_next (by (repeat (first | with_reducible assumption | with_reducible refine below_new ?_ _ | with_reducible refine Below.drew ?_ | with_reducible exact Below.refl _ _))) hx1)))
            all_goals
              go_wp2_with fail
              go_meet
              exact ⟨by first | rfl | simp, ⟨(by (repeat (first | with_reducible assumption | with_reducible refine below_new ?_ _ | with_reducible refine Below.drew ?_ | with_reducible exact Below.refl _ _)))⟩⟩
          case rest =>
            obtain ⟨rfl, hcb⟩ := hcut
            have HB7 := kept (HB2.out.trans (hcb.out.mono HB2.out.size))
            clear hcb HB2 HBW
            go_wp2_with fail
            go_roundw
            case rel => exact ⟨k + 1, by omega, by go_num, HB7⟩
            case measure => simp [intOf]; omega
        · obtain rfl : k = l.length := by omega
          have HIX2 := kept (HIX.out.next HB2.out)
          have CP := kept (ffind_any gi A c2 ys B b q wr HIX2.out hn2 (by omega) (HM.out.next HBW.out))
          clear HIX HB2 HB1
          go_wp2_with fail
          refine CP.out.mono ?_
          rintro e w5 ⟨A5, c5, s1, rfl, hp5, hro5, hb5⟩
          have HB5 := kept (HBW.out.trans (hb5.mono HBW.out.size))
          have HP5 : Kept (s1.map CardM.p = (stab ltC (foundL l (wordsB q))).map CardM.p) := ⟨hp5.trans (says_found HYP.out _)⟩
          have HR5 := kept hro5.rd
          have HIX5 := kept (HIX2.out.next hb5)
          clear hp5 hro5 hb5 CP HIX2 HBW
          generalize stab ltC (foundL l (wordsB q)) = SL at *
          go_wp2_with fail
          refine (CR.out _ HB5.out).mono ?_
          rintro e w6 ⟨A6, c6, rfl, hrd6, hb6⟩
          have HB6 := kept (HB5.out.trans (hb6.mono HB5.out.size))
          have hs1 : s1.length ≤ 25 := by have := congrArg List.length HP5.out; rw [List.length_map, List.length_map] at this; rw [this]; exact HRL.out
          have CL := kept (rall_any A5 A6 s1.length SL.length c5 c6 s1 SL w6 rfl rfl (HR5.out.next hb6) hrd6 (by omega))
          rw [decide_eq_true HP5.out] at CL
          have HIX6 := kept (HIX5.out.next hb6)
          clear hrd6 hb6 HB5 HR5 HP5 CR hs1 HIX5
          go_wp2_with fail
          refine CL.out.mono ?_
          rintro e w7 ⟨rfl, hb7⟩
          have HB7 := kept (HB6.out.trans (hb7.mono HB6.out.size))
          have HIX7 := kept (HIX6.out.next hb7)
          have HPF := kept (pairs_few HYT.out hn2 (Nat.le_refl _))
          have CW := kept (fwds2_any gi A c2 ys B b w7 HIX7.out (Nat.le_trans HPF.out (by decide)))
          clear hb7 CL HB6 HIX6 HIX7 HPF
          go_wp2_with fail
          refine CW.out.mono ?_
          rintro e w8 ⟨A8, c8, ws, rfl, hown8, hb8, hinc, hmem⟩
          have HB8 := kept (HB7.out.trans (hb8.mono HB7.out.size))
          have HWE := kept (says_texts HYP.out hinc hmem)
          have HR8 := kept hown8.rd
          clear hown8 hb8 hinc hmem CW HB7
          generalize putsF (wordsL l) = PW at *
          go_wp2_with fail
          refine (CRW.out _ HB8.out).mono ?_
          rintro e w9 ⟨A9, c9, rfl, hown9, hc9, hb9⟩
          have HB9 := kept (HB8.out.trans (hb9.mono HB8.out.size))
          have hwl : ws.length ≤ 26400013200 := by rw [HWE.out]; exact HWL.out
          have r8 := strE_rd.1 (HR8.out.next hb9)
          have r9 := strE_rd.1 hown9.rd
          have CT := kept (texts_any w9.heap.size w9.heap.size A8 A9 ws.length PW.length c8 c9 ws PW w9 rfl rfl r8 r9 (by omega))
          rw [decide_eq_true HWE.out] at CT
          clear r8 r9 hown9 hc9 hb9 HB8 HR8 hwl CRW HWE
          go_wp2_with fail
          refine CT.out.mono ?_
          rintro e w10 ⟨rfl, nd, rfl⟩
          have HB10 : Kept (Below w.heap.size w (w9.drewN nd)) := ⟨HB9.out.trans (below_draw _ w9 nd)⟩
          clear CT HB9
          generalize w9.drewN nd = w11 at *
          go_wp2_with fail
          refine (fworks_any _ (HM.out.next HB10.out)).mono ?_
          rintro e w12 ⟨rfl, hb12⟩
          have HB12 := kept (HB10.out.trans (hb12.mono HB10.out.size))
          clear hb12 HB10
          go_wp2_with fail
          go_ret
          exact ⟨rfl, HB12.out⟩
    · have hq3 : (200 : Int) < (q.size : Int) := by omega
      clear hr hm
      go_enter Tryz.func3, Tryz.ntmps3
      go_wp2_with fail
      refine CF.out.mono ?_
      rintro e w0 ⟨rfl, rfl⟩
      clear CF hfw
      go_wp2_with fail
      refine (fworks_any _ HM.out).mono ?_
      rintro e w9 ⟨rfl, hb9⟩
      go_wp2_with fail
      go_ret
      exact ⟨rfl, hb9⟩
  · rw [decide_eq_false hfw] at CF
    clear hr hm hfw
    go_enter Tryz.func3, Tryz.ntmps3
    go_wp2_with fail
    refine CF.out.mono ?_
    rintro e w0 ⟨rfl, rfl⟩
    clear CF
    go_wp2_with fail
    refine (fworks_any _ HM.out).mono ?_
    rintro e w9 ⟨rfl, hb9⟩
    go_wp2_with fail
    go_ret
    exact ⟨rfl, hb9⟩
end Go.Proofs.YtfkfpanhbanljaaGreatDoor.Find
