/- Layer 47 (twin): the program's Groups. (printed by tools/gengr.py) -/
import Derived.Test.YtfkfpanhbanljaaGreatDoorSet40
import Derived.Test.YtfkfpanhbanljaaGreatDoorSet28
import Derived.Deep.RegionHeld3
import Derived.Deep.RegionLaw
import Derived.BigQuiet
import Derived.Deep.DeepCutAuto
namespace Go.Proofs.YtfkfpanhbanljaaGreatDoor.Twin
open Go.RowKit Go.Proofs.YtfkfpanhbanljaaGreatDoor.Mem Go.Proofs.YtfkfpanhbanljaaGreatDoor.Card Go.Proofs.YtfkfpanhbanljaaGreatDoor.Fold Go.Proofs.YtfkfpanhbanljaaGreatDoor.Laid

set_option maxRecDepth 100000 in
set_option maxHeartbeats 8000000 in
theorem groups_any (A : Option Addr) (c : Nat) (l : List CardM) (w : World) (hl : RdCards w w.heap.size A l) (hs : ∀ x ∈ l, SmallK x) (hm : ML w) (hn : l.length ≤ 10) :
    Calls Tryz.prog 23 #[.slice A l.length c] w (GivesG w (sortG (groupsL l.length (cidAt l) (headR (adjB l) l.length 0)))) := by
  obtain ⟨w1, hmk, ho1, hb1⟩ := make_up w l.length (by omega)
  have HL := kept hl
  have HS := kept hs
  have HM := kept hm
  have hlt1 : w.heap.size < w1.heap.size := (ho1.lt _ rfl).2
  have HU0 : Kept (UpSt w (w1.alloc (.cells #[.slice (some ⟨w.heap.size, 0, none⟩) l.length l.length] 53)) w1.heap.size l.length (List.range 0 ++ List.replicate (l.length - 0) 0)) := ⟨⟨(hb1.alloc hb1.size _), hlt1⟩, Blk.new w1 _ _, ho1.next ((Below.refl _ _).alloc (Nat.le_refl _) _)⟩
  have hvc := HU0.out.2.1.cell (j := 0) rfl
  clear hl hs hm ho1 hb1
  go_enter Tryz.func23, Tryz.ntmps23
  go_wp2_with fail
  generalize w1.heap.size = V at *
  go_loopw [18] (fun i wr => ∃ k : Nat, k ≤ l.length ∧ i = .int .i64 (k : Int) ∧ Kept (UpSt w wr V l.length (List.range k ++ List.replicate (l.length - k) 0))) (fun i _ => l.length - (intOf i).toNat)
  case atStart => exact ⟨0, Nat.zero_le _, rfl, HU0⟩
  case round =>
    clear HU0 hvc
    obtain ⟨k, hk, rfl, HU⟩ := hrel
    have hvc := HU.out.2.1.cell (j := 0) rfl
    by_cases hlt : k < l.length
    · have hkn : (k : Int) < (l.length : Int) := by omega
      obtain ⟨c0, f0, s0⟩ := HU.out.spot hlt
      have s1 := s0 k
      rw [range_put hlt] at s1
      have HU2 := kept s1
      clear s0 s1 HU
      go_wp2_with fail
      go_roundw
      case rel => exact ⟨k + 1, by omega, by go_num, HU2⟩
      case measure => simp [intOf]; omega
    · obtain rfl : k = l.length := by omega
      have hge : ¬ (l.length : Int) < (l.length : Int) := by omega
      have HU2 : Kept (UpSt w wr V l.length (List.range l.length)) := ⟨by have := HU.out; simpa using this⟩
      clear HU
      obtain ⟨w2, hw2⟩ : ∃ w2 : World, w2 = wr := ⟨_, rfl⟩
      rw [← hw2] at HU2 hvc ⊢
      clear hw2 wr
      go_wp2_with fail
      go_loopw [29] (fun i wr => ∃ (k : Nat) (up : List Nat), k ≤ l.length ∧ i = .int .i64 (k : Int) ∧ Kept (UpSt w wr V l.length up ∧ Forest l.length up (headR (adjB l) k 0))) (fun i _ => l.length - (intOf i).toNat)
      case atStart => exact ⟨0, List.range l.length, Nat.zero_le _, rfl, ⟨HU2.out, forest_id _⟩⟩
      case round =>
        clear HU2 hvc
        obtain ⟨k, up, hk, rfl, HU⟩ := hrel
        by_cases hlt : k < l.length
        · have hkn : (k : Int) < (l.length : Int) := by omega
          go_wp2_with fail
          go_loopw [33] (fun i wr => ∃ (j : Nat) (up : List Nat), j ≤ k ∧ i = .int .i64 (j : Int) ∧ Kept (UpSt w wr V l.length up ∧ Forest l.length up (headR (adjB l) k j))) (fun i _ => k - (intOf i).toNat)
          case atStart => exact ⟨0, up, Nat.zero_le _, rfl, HU⟩
          case round =>
            clear HU
            obtain ⟨j, up, hj, rfl, HU⟩ := hrel
            by_cases hlj : j < k
            · have hjn : (j : Int) < (l.length : Int) := by omega
              have hjk : (j : Int) < (k : Int) := by omega
              obtain ⟨x, hx⟩ : ∃ x, l[k]? = some x := ⟨_, List.getElem?_eq_getElem hlt⟩
              obtain ⟨y, hy⟩ : ∃ y, l[j]? = some y := ⟨_, List.getElem?_eq_getElem (show j < l.length by omega)⟩
              obtain ⟨b, o, rfl, hbB, u0, u1, hxo⟩ := card_at HL.out hx
              obtain ⟨b2, o2, e2, -, v0, v1, hyo⟩ := card_at HL.out hy
              obtain ⟨rfl, rfl⟩ : b = b2 ∧ o = o2 := by injection e2 with h1; injection h1 with h2 h3 _; exact ⟨h2, h3⟩
              have hbw := HU.out.1.1.1
              have HC : Kept (∀ W, Below wr.heap.size wr W → W.cell? ⟨b, o + k * 2, none⟩ = some (.int .u64 (x.cid : Int)) ∧ W.cell? ⟨b, o + k * 2 + 1, none⟩ = some (.slice x.X x.ls.length x.c) ∧ W.cell? ⟨b, o + j * 2, none⟩ = some (.int .u64 (y.cid : Int)) ∧ W.cell? ⟨b, o + j * 2 + 1, none⟩ = some (.slice y.X y.ls.length y.c)) := ⟨fun W h => by
                have hb := hbw.trans (h.mono hbw.size)
                exact ⟨(hb.cell (p := ⟨b, o + k * 2, none⟩) hbB).trans u0, (hb.cell (p := ⟨b, o + k * 2 + 1, none⟩) hbB).trans u1, (hb.cell (p := ⟨b, o + j * 2, none⟩) hbB).trans v0, (hb.cell (p := ⟨b, o + j * 2 + 1, none⟩) hbB).trans v1⟩⟩
              have CXY := kept (fun (W : World) (h : Below wr.heap.size wr W) => alike_any x y W (hxo.next (hbw.trans (h.mono hbw.size))) (hyo.next (hbw.trans (h.mono hbw.size))) (HM.out.next (hbw.trans (h.mono hbw.size))) (HS.out x (List.mem_of_getElem? hx)) (HS.out y (List.mem_of_getElem? hy)))
              have CYX := kept (fun (W : World) (h : Below wr.heap.size wr W) => alike_any y x W (hyo.next (hbw.trans (h.mono hbw.size))) (hxo.next (hbw.trans (h.mono hbw.size))) (HM.out.next (hbw.trans (h.mono hbw.size))) (HS.out y (List.mem_of_getElem? hy)) (HS.out x (List.mem_of_getElem? hx)))
              have HADJ : Kept (adjB l k j = (alikeB x y || alikeB y x)) := ⟨by unfold adjB; rw [getD_of hx, getD_of hy]⟩
              have hok := headR_ok (n := l.length) (i := k) (k := j) (adjB_symm l) (.inl ⟨hlt, by omega⟩)
              have HNO : Kept (adjB l k j = false → headR (adjB l) k (j + 1) = headR (adjB l) k j) := ⟨fun h => by rw [headR_next]; unfold pairR; rw [if_neg (by simp [h])]⟩
              have HYES : Kept (adjB l k j = true → Forest l.length (up.set (headR (adjB l) k j k) (headR (adjB l) k j j)) (headR (adjB l) k (j + 1))) := ⟨fun h => by rw [headR_next]; exact forest_pair HU.out.2 hok hlt (by omega) h⟩
              have hrk := (hok k hlt).1
              have hrj := (hok j (by omega)).1
              generalize alikeB x y = p at *
              generalize alikeB y x = q at *
              obtain ⟨xcid, xX, xls, xc⟩ := x
              obtain ⟨ycid, yX, yls, yc⟩ := y
              unfold CardM.val at CXY CYX
              dsimp only at HC CXY CYX
              clear hx hy u0 u1 v0 v1 hxo hyo e2 hok hbw
              go_upto_region 14 with fail
              go_cut [55] (fun a wr' => a = .bool (p || q) ∧ Kept (Below wr.heap.size wr wr'))
              case first =>
                have hd0 : Below wr.heap.size wr wr := Below.refl _ _
                obtain ⟨s0, s1, s2, s3⟩ := HC.out wr (Below.refl _ _)
                clear HNO HYES HADJ HU
                cases p with
                | true =>
                  refine wp_region_any (by kernel_rfl) ?_
                  change wpAny _ _ _ _ _ _ _ (World.drew _)
                  refine wpAny_take (i := 0) (v := ?_) rfl (by kernel_rfl) (by kernel_rfl) (by kernel_rfl) (fun _ _ _ h => h) (Or.inl ⟨by rfl, ?_⟩) ?_
                  case refine_2 => (intro w; go_simp; try with_reducible rfl)
                  try simp only [Act.put, List.setIfInBounds_toArray, List.set_cons_zero, List.set_cons_succ, List.getElem_toArray, List.getElem_cons_zero, List.getElem_cons_succ]
                  refine wpAny_take (i := 1) (v := ?_) rfl (by kernel_rfl) (by kernel_rfl) (by kernel_rfl) (fun _ _ _ h => h) (Or.inl ⟨by rfl, ?_⟩) ?_
                  case refine_2 => (intro w; go_simp; try with_reducible rfl)
                  try simp only [Act.put, List.setIfInBounds_toArray, List.set_cons_zero, List.set_cons_succ, List.getElem_toArray, List.getElem_cons_zero, List.getElem_cons_succ]
                  refine wpAny_take (i := 2) (v := ?_) rfl (by kernel_rfl) (by kernel_rfl) (by kernel_rfl) (fun _ _ _ h => h) (Or.inl ⟨by rfl, ?_⟩) ?_
                  case refine_2 => (intro w; go_simp; try with_reducible rfl)
                  try simp only [Act.put, List.setIfInBounds_toArray, List.set_cons_zero, List.set_cons_succ, List.getElem_toArray, List.getElem_cons_zero, List.getElem_cons_succ]
                  refine wpAny_take (i := 4) (v := ?_) rfl (by kernel_rfl) (by kernel_rfl) (by kernel_rfl) (fun _ _ _ h => h) (Or.inl ⟨by rfl, ?_⟩) ?_
                  case refine_2 => (intro w; go_simp; try with_reducible rfl)
                  try simp only [Act.put, List.setIfInBounds_toArray, List.set_cons_zero, List.set_cons_succ, List.getElem_toArray, List.getElem_cons_zero, List.getElem_cons_succ]
                  refine wpAny_take (i := 5) (v := ?_) rfl (by kernel_rfl) (by kernel_rfl) (by kernel_rfl) (fun _ _ _ h => h) (Or.inl ⟨by rfl, ?_⟩) ?_
                  case refine_2 => (intro w; go_simp; try with_reducible rfl)
                  try simp only [Act.put, List.setIfInBounds_toArray, List.set_cons_zero, List.set_cons_succ, List.getElem_toArray, List.getElem_cons_zero, List.getElem_cons_succ]
                  refine wpAny_take (i := 6) (v := ?_) rfl (by kernel_rfl) (by kernel_rfl) (by kernel_rfl) (fun _ _ _ h => h) (Or.inl ⟨by rfl, ?_⟩) ?_
                  case refine_2 => (intro w; go_simp; try with_reducible rfl)
                  try simp only [Act.put, List.setIfInBounds_toArray, List.set_cons_zero, List.set_cons_succ, List.getElem_toArray, List.getElem_cons_zero, List.getElem_cons_succ]
                  refine wpAny_ready (rs := [3, 7]) (by kernel_rfl) (by simp) ?_
                  refine AllReady.cons rfl (fun K hK => ?_) (AllReady.cons rfl (fun K hK => ?_) AllReady.nil)
                  · go_simp
                    go_wp2_with fail
                    try simp only [Act.put, List.setIfInBounds_toArray, List.set_cons_zero, List.set_cons_succ, List.getElem_toArray, List.getElem_cons_zero, List.getElem_cons_succ]
                    refine wpAny_ready (rs := [7]) (by kernel_rfl) (by simp) ?_
                    refine AllReady.cons rfl (fun K hK => ?_) AllReady.nil
                    go_simp
                    go_wp2_with fail
                    try simp only [Act.put, List.setIfInBounds_toArray, List.set_cons_zero, List.set_cons_succ, List.getElem_toArray, List.getElem_cons_zero, List.getElem_cons_succ]
                    refine wpAny_ready (rs := [8]) (by kernel_rfl) (by simp) ?_
                    refine AllReady.cons rfl (fun K hK => ?_) AllReady.nil
                    go_simp
                    go_wp2_with (go_at_call 20; ((with_reducible refine (CXY.out _ (by (repeat (first | with_reducible assumption | with_reducible refine below_new ?_ _ | with_reducible refine Below.drew ?_ | with_reducible exact Below.refl _ _)))).mono ?_); rintro e x1 ⟨rfl, hx1⟩; have hk1 : Below wr.heap.size wr x1 := below_next (by (repeat (first | with_reducible assumption | with_reducible refine below_new ?_ _ | with_reducible refine Below.drew ?_ | with_reducible exact Below.refl _ _))) hx1; obtain ⟨s10, s11, s12, s13⟩ := HC.out x1 hk1))
                    try simp only [Act.put, List.setIfInBounds_toArray, List.set_cons_zero, List.set_cons_succ, List.getElem_toArray, List.getElem_cons_zero, List.getElem_cons_succ]
                    refine wpAny_take (i := 9) (v := ?_) rfl (by kernel_rfl) (by kernel_rfl) (by kernel_rfl) (fun _ _ _ h => h) (Or.inl ⟨by rfl, ?_⟩) ?_
                    case refine_2 => (intro w; go_simp; try with_reducible rfl)
                    try simp only [Act.put, List.setIfInBounds_toArray, List.set_cons_zero, List.set_cons_succ, List.getElem_toArray, List.getElem_cons_zero, List.getElem_cons_succ]
                    refine wpAny_take (i := 10) (v := undef) rfl (by kernel_rfl) (by kernel_rfl) (by kernel_rfl) (fun _ _ _ h => h) (Or.inr ⟨by rfl, rfl⟩) ?_
                    try simp only [Act.put, List.setIfInBounds_toArray, List.set_cons_zero, List.set_cons_succ, List.getElem_toArray, List.getElem_cons_zero, List.getElem_cons_succ]
                    refine wpAny_take (i := 11) (v := undef) rfl (by kernel_rfl) (by kernel_rfl) (by kernel_rfl) (fun _ _ _ h => h) (Or.inr ⟨by rfl, rfl⟩) ?_
                    try simp only [Act.put, List.setIfInBounds_toArray, List.set_cons_zero, List.set_cons_succ, List.getElem_toArray, List.getElem_cons_zero, List.getElem_cons_succ]
                    refine wpAny_take (i := 12) (v := undef) rfl (by kernel_rfl) (by kernel_rfl) (by kernel_rfl) (fun _ _ _ h => h) (Or.inr ⟨by rfl, rfl⟩) ?_
                    try simp only [Act.put, List.setIfInBounds_toArray, List.set_cons_zero, List.set_cons_succ, List.getElem_toArray, List.getElem_cons_zero, List.getElem_cons_succ]
                    refine wpAny_take (i := 13) (v := undef) rfl (by kernel_rfl) (by kernel_rfl) (by kernel_rfl) (fun _ _ _ h => h) (Or.inr ⟨by rfl, rfl⟩) ?_
                    try simp only [Act.put, List.setIfInBounds_toArray, List.set_cons_zero, List.set_cons_succ, List.getElem_toArray, List.getElem_cons_zero, List.getElem_cons_succ]
                    refine wpAny_take (i := 14) (v := undef) rfl (by kernel_rfl) (by kernel_rfl) (by kernel_rfl) (fun _ _ _ h => h) (Or.inr ⟨by rfl, rfl⟩) ?_
                    try simp only [Act.put, List.setIfInBounds_toArray, List.set_cons_zero, List.set_cons_succ, List.getElem_toArray, List.getElem_cons_zero, List.getElem_cons_succ]
                    refine wpAny_take (i := 15) (v := undef) rfl (by kernel_rfl) (by kernel_rfl) (by kernel_rfl) (fun _ _ _ h => h) (Or.inr ⟨by rfl, rfl⟩) ?_
                    try simp only [Act.put, List.setIfInBounds_toArray, List.set_cons_zero, List.set_cons_succ, List.getElem_toArray, List.getElem_cons_zero, List.getElem_cons_succ]
                    refine wpAny_take (i := 16) (v := undef) rfl (by kernel_rfl) (by kernel_rfl) (by kernel_rfl) (fun _ _ _ h => h) (Or.inr ⟨by rfl, rfl⟩) ?_
                    try simp only [Act.put, List.setIfInBounds_toArray, List.set_cons_zero, List.set_cons_succ, List.getElem_toArray, List.getElem_cons_zero, List.getElem_cons_succ]
                    refine wpAny_take (i := 17) (v := undef) rfl (by kernel_rfl) (by kernel_rfl) (by kernel_rfl) (fun _ _ _ h => h) (Or.inr ⟨by rfl, rfl⟩) ?_
                    try simp only [Act.put, List.setIfInBounds_toArray, List.set_cons_zero, List.set_cons_succ, List.getElem_toArray, List.getElem_cons_zero, List.getElem_cons_succ]
                    refine wpAny_take (i := 18) (v := undef) rfl (by kernel_rfl) (by kernel_rfl) (by kernel_rfl) (fun _ _ _ h => h) (Or.inr ⟨by rfl, rfl⟩) ?_
                    try simp only [Act.put, List.setIfInBounds_toArray, List.set_cons_zero, List.set_cons_succ, List.getElem_toArray, List.getElem_cons_zero, List.getElem_cons_succ]
                    refine wpAny_take (i := 19) (v := ?_) rfl (by kernel_rfl) (by kernel_rfl) (by kernel_rfl) (fun _ _ _ h => h) (Or.inl ⟨by rfl, ?_⟩) ?_
                    case refine_2 => (intro w; go_simp; try with_reducible rfl)
                    try simp only [Act.put, List.setIfInBounds_toArray, List.set_cons_zero, List.set_cons_succ, List.getElem_toArray, List.getElem_cons_zero, List.getElem_cons_succ]
                    refine wpAny_done (by kernel_rfl) ?_ _
                    go_wp2_with fail
                    go_meet
                    exact ⟨by first | rfl | simp, ⟨(by (repeat (first | with_reducible assumption | with_reducible refine below_new ?_ _ | with_reducible refine Below.drew ?_ | with_reducible exact Below.refl _ _)))⟩⟩
                  · go_simp
                    go_wp2_with fail
                    try simp only [Act.put, List.setIfInBounds_toArray, List.set_cons_zero, List.set_cons_succ, List.getElem_toArray, List.getElem_cons_zero, List.getElem_cons_succ]
                    refine wpAny_ready (rs := [3]) (by kernel_rfl) (by simp) ?_
                    refine AllReady.cons rfl (fun K hK => ?_) AllReady.nil
                    go_simp
                    go_wp2_with fail
                    try simp only [Act.put, List.setIfInBounds_toArray, List.set_cons_zero, List.set_cons_succ, List.getElem_toArray, List.getElem_cons_zero, List.getElem_cons_succ]
                    refine wpAny_ready (rs := [8]) (by kernel_rfl) (by simp) ?_
                    refine AllReady.cons rfl (fun K hK => ?_) AllReady.nil
                    go_simp
                    go_wp2_with (go_at_call 20; ((with_reducible refine (CXY.out _ (by (repeat (first | with_reducible assumption | with_reducible refine below_new ?_ _ | with_reducible refine Below.drew ?_ | with_reducible exact Below.refl _ _)))).mono ?_); rintro e x1 ⟨rfl, hx1⟩; have hk1 : Below wr.heap.size wr x1 := below_next (by (repeat (first | with_reducible assumption | with_reducible refine below_new ?_ _ | with_reducible refine Below.drew ?_ | with_reducible exact Below.refl _ _))) hx1; obtain ⟨s10, s11, s12, s13⟩ := HC.out x1 hk1))
                    try simp only [Act.put, List.setIfInBounds_toArray, List.set_cons_zero, List.set_cons_succ, List.getElem_toArray, List.getElem_cons_zero, List.getElem_cons_succ]
                    refine wpAny_take (i := 9) (v := ?_) rfl (by kernel_rfl) (by kernel_rfl) (by kernel_rfl) (fun _ _ _ h => h) (Or.inl ⟨by rfl, ?_⟩) ?_
                    case refine_2 => (intro w; go_simp; try with_reducible rfl)
                    try simp only [Act.put, List.setIfInBounds_toArray, List.set_cons_zero, List.set_cons_succ, List.getElem_toArray, List.getElem_cons_zero, List.getElem_cons_succ]
                    refine wpAny_take (i := 10) (v := undef) rfl (by kernel_rfl) (by kernel_rfl) (by kernel_rfl) (fun _ _ _ h => h) (Or.inr ⟨by rfl, rfl⟩) ?_
                    try simp only [Act.put, List.setIfInBounds_toArray, List.set_cons_zero, List.set_cons_succ, List.getElem_toArray, List.getElem_cons_zero, List.getElem_cons_succ]
                    refine wpAny_take (i := 11) (v := undef) rfl (by kernel_rfl) (by kernel_rfl) (by kernel_rfl) (fun _ _ _ h => h) (Or.inr ⟨by rfl, rfl⟩) ?_
                    try simp only [Act.put, List.setIfInBounds_toArray, List.set_cons_zero, List.set_cons_succ, List.getElem_toArray, List.getElem_cons_zero, List.getElem_cons_succ]
                    refine wpAny_take (i := 12) (v := undef) rfl (by kernel_rfl) (by kernel_rfl) (by kernel_rfl) (fun _ _ _ h => h) (Or.inr ⟨by rfl, rfl⟩) ?_
                    try simp only [Act.put, List.setIfInBounds_toArray, List.set_cons_zero, List.set_cons_succ, List.getElem_toArray, List.getElem_cons_zero, List.getElem_cons_succ]
                    refine wpAny_take (i := 13) (v := undef) rfl (by kernel_rfl) (by kernel_rfl) (by kernel_rfl) (fun _ _ _ h => h) (Or.inr ⟨by rfl, rfl⟩) ?_
                    try simp only [Act.put, List.setIfInBounds_toArray, List.set_cons_zero, List.set_cons_succ, List.getElem_toArray, List.getElem_cons_zero, List.getElem_cons_succ]
                    refine wpAny_take (i := 14) (v := undef) rfl (by kernel_rfl) (by kernel_rfl) (by kernel_rfl) (fun _ _ _ h => h) (Or.inr ⟨by rfl, rfl⟩) ?_
                    try simp only [Act.put, List.setIfInBounds_toArray, List.set_cons_zero, List.set_cons_succ, List.getElem_toArray, List.getElem_cons_zero, List.getElem_cons_succ]
                    refine wpAny_take (i := 15) (v := undef) rfl (by kernel_rfl) (by kernel_rfl) (by kernel_rfl) (fun _ _ _ h => h) (Or.inr ⟨by rfl, rfl⟩) ?_
                    try simp only [Act.put, List.setIfInBounds_toArray, List.set_cons_zero, List.set_cons_succ, List.getElem_toArray, List.getElem_cons_zero, List.getElem_cons_succ]
                    refine wpAny_take (i := 16) (v := undef) rfl (by kernel_rfl) (by kernel_rfl) (by kernel_rfl) (fun _ _ _ h => h) (Or.inr ⟨by rfl, rfl⟩) ?_
                    try simp only [Act.put, List.setIfInBounds_toArray, List.set_cons_zero, List.set_cons_succ, List.getElem_toArray, List.getElem_cons_zero, List.getElem_cons_succ]
                    refine wpAny_take (i := 17) (v := undef) rfl (by kernel_rfl) (by kernel_rfl) (by kernel_rfl) (fun _ _ _ h => h) (Or.inr ⟨by rfl, rfl⟩) ?_
                    try simp only [Act.put, List.setIfInBounds_toArray, List.set_cons_zero, List.set_cons_succ, List.getElem_toArray, List.getElem_cons_zero, List.getElem_cons_succ]
                    refine wpAny_take (i := 18) (v := undef) rfl (by kernel_rfl) (by kernel_rfl) (by kernel_rfl) (fun _ _ _ h => h) (Or.inr ⟨by rfl, rfl⟩) ?_
                    try simp only [Act.put, List.setIfInBounds_toArray, List.set_cons_zero, List.set_cons_succ, List.getElem_toArray, List.getElem_cons_zero, List.getElem_cons_succ]
                    refine wpAny_take (i := 19) (v := ?_) rfl (by kernel_rfl) (by kernel_rfl) (by kernel_rfl) (fun _ _ _ h => h) (Or.inl ⟨by rfl, ?_⟩) ?_
                    case refine_2 => (intro w; go_simp; try with_reducible rfl)
                    try simp only [Act.put, List.setIfInBounds_toArray, List.set_cons_zero, List.set_cons_succ, List.getElem_toArray, List.getElem_cons_zero, List.getElem_cons_succ]
                    refine wpAny_done (by kernel_rfl) ?_ _
                    go_wp2_with fail
                    go_meet
                    exact ⟨by first | rfl | simp, ⟨(by (repeat (first | with_reducible assumption | with_reducible refine below_new ?_ _ | with_reducible refine Below.drew ?_ | with_reducible exact Below.refl _ _)))⟩⟩
                | false =>
                  refine wp_region_any (by kernel_rfl) ?_
                  change wpAny _ _ _ _ _ _ _ (World.drew _)
                  refine wpAny_take (i := 0) (v := ?_) rfl (by kernel_rfl) (by kernel_rfl) (by kernel_rfl) (fun _ _ _ h => h) (Or.inl ⟨by rfl, ?_⟩) ?_
                  case refine_2 => (intro w; go_simp; try with_reducible rfl)
                  try simp only [Act.put, List.setIfInBounds_toArray, List.set_cons_zero, List.set_cons_succ, List.getElem_toArray, List.getElem_cons_zero, List.getElem_cons_succ]
                  refine wpAny_take (i := 1) (v := ?_) rfl (by kernel_rfl) (by kernel_rfl) (by kernel_rfl) (fun _ _ _ h => h) (Or.inl ⟨by rfl, ?_⟩) ?_
                  case refine_2 => (intro w; go_simp; try with_reducible rfl)
                  try simp only [Act.put, List.setIfInBounds_toArray, List.set_cons_zero, List.set_cons_succ, List.getElem_toArray, List.getElem_cons_zero, List.getElem_cons_succ]
                  refine wpAny_take (i := 2) (v := ?_) rfl (by kernel_rfl) (by kernel_rfl) (by kernel_rfl) (fun _ _ _ h => h) (Or.inl ⟨by rfl, ?_⟩) ?_
                  case refine_2 => (intro w; go_simp; try with_reducible rfl)
                  try simp only [Act.put, List.setIfInBounds_toArray, List.set_cons_zero, List.set_cons_succ, List.getElem_toArray, List.getElem_cons_zero, List.getElem_cons_succ]
                  refine wpAny_take (i := 4) (v := ?_) rfl (by kernel_rfl) (by kernel_rfl) (by kernel_rfl) (fun _ _ _ h => h) (Or.inl ⟨by rfl, ?_⟩) ?_
                  case refine_2 => (intro w; go_simp; try with_reducible rfl)
                  try simp only [Act.put, List.setIfInBounds_toArray, List.set_cons_zero, List.set_cons_succ, List.getElem_toArray, List.getElem_cons_zero, List.getElem_cons_succ]
                  refine wpAny_take (i := 5) (v := ?_) rfl (by kernel_rfl) (by kernel_rfl) (by kernel_rfl) (fun _ _ _ h => h) (Or.inl ⟨by rfl, ?_⟩) ?_
                  case refine_2 => (intro w; go_simp; try with_reducible rfl)
                  try simp only [Act.put, List.setIfInBounds_toArray, List.set_cons_zero, List.set_cons_succ, List.getElem_toArray, List.getElem_cons_zero, List.getElem_cons_succ]
                  refine wpAny_take (i := 6) (v := ?_) rfl (by kernel_rfl) (by kernel_rfl) (by kernel_rfl) (fun _ _ _ h => h) (Or.inl ⟨by rfl, ?_⟩) ?_
                  case refine_2 => (intro w; go_simp; try with_reducible rfl)
                  try simp only [Act.put, List.setIfInBounds_toArray, List.set_cons_zero, List.set_cons_succ, List.getElem_toArray, List.getElem_cons_zero, List.getElem_cons_succ]
                  refine wpAny_ready (rs := [3, 7]) (by kernel_rfl) (by simp) ?_
                  refine AllReady.cons rfl (fun K hK => ?_) (AllReady.cons rfl (fun K hK => ?_) AllReady.nil)
                  · go_simp
                    go_wp2_with fail
                    try simp only [Act.put, List.setIfInBounds_toArray, List.set_cons_zero, List.set_cons_succ, List.getElem_toArray, List.getElem_cons_zero, List.getElem_cons_succ]
                    refine wpAny_ready (rs := [7]) (by kernel_rfl) (by simp) ?_
                    refine AllReady.cons rfl (fun K hK => ?_) AllReady.nil
                    go_simp
                    go_wp2_with fail
                    try simp only [Act.put, List.setIfInBounds_toArray, List.set_cons_zero, List.set_cons_succ, List.getElem_toArray, List.getElem_cons_zero, List.getElem_cons_succ]
                    refine wpAny_ready (rs := [8]) (by kernel_rfl) (by simp) ?_
                    refine AllReady.cons rfl (fun K hK => ?_) AllReady.nil
                    go_simp
                    go_wp2_with (go_at_call 20; ((with_reducible refine (CXY.out _ (by (repeat (first | with_reducible assumption | with_reducible refine below_new ?_ _ | with_reducible refine Below.drew ?_ | with_reducible exact Below.refl _ _)))).mono ?_); rintro e x1 ⟨rfl, hx1⟩; have hk1 : Below wr.heap.size wr x1 := below_next (by (repeat (first | with_reducible assumption | with_reducible refine below_new ?_ _ | with_reducible refine Below.drew ?_ | with_reducible exact Below.refl _ _))) hx1; obtain ⟨s10, s11, s12, s13⟩ := HC.out x1 hk1))
                    try simp only [Act.put, List.setIfInBounds_toArray, List.set_cons_zero, List.set_cons_succ, List.getElem_toArray, List.getElem_cons_zero, List.getElem_cons_succ]
                    refine wpAny_take (i := 9) (v := ?_) rfl (by kernel_rfl) (by kernel_rfl) (by kernel_rfl) (fun _ _ _ h => h) (Or.inl ⟨by rfl, ?_⟩) ?_
                    case refine_2 => (intro w; go_simp; try with_reducible rfl)
                    try simp only [Act.put, List.setIfInBounds_toArray, List.set_cons_zero, List.set_cons_succ, List.getElem_toArray, List.getElem_cons_zero, List.getElem_cons_succ]
                    refine wpAny_take (i := 10) (v := ?_) rfl (by kernel_rfl) (by kernel_rfl) (by kernel_rfl) (fun _ _ _ h => h) (Or.inl ⟨by rfl, ?_⟩) ?_
                    case refine_2 => (intro w; go_simp; try with_reducible rfl)
                    try simp only [Act.put, List.setIfInBounds_toArray, List.set_cons_zero, List.set_cons_succ, List.getElem_toArray, List.getElem_cons_zero, List.getElem_cons_succ]
                    refine wpAny_take (i := 11) (v := ?_) rfl (by kernel_rfl) (by kernel_rfl) (by kernel_rfl) (fun _ _ _ h => h) (Or.inl ⟨by rfl, ?_⟩) ?_
                    case refine_2 => (intro w; go_simp; try with_reducible rfl)
                    try simp only [Act.put, List.setIfInBounds_toArray, List.set_cons_zero, List.set_cons_succ, List.getElem_toArray, List.getElem_cons_zero, List.getElem_cons_succ]
                    refine wpAny_take (i := 12) (v := ?_) rfl (by kernel_rfl) (by kernel_rfl) (by kernel_rfl) (fun _ _ _ h => h) (Or.inl ⟨by rfl, ?_⟩) ?_
                    case refine_2 => (intro w; go_simp; try with_reducible rfl)
                    try simp only [Act.put, List.setIfInBounds_toArray, List.set_cons_zero, List.set_cons_succ, List.getElem_toArray, List.getElem_cons_zero, List.getElem_cons_succ]
                    refine wpAny_take (i := 14) (v := ?_) rfl (by kernel_rfl) (by kernel_rfl) (by kernel_rfl) (fun _ _ _ h => h) (Or.inl ⟨by rfl, ?_⟩) ?_
                    case refine_2 => (intro w; go_simp; try with_reducible rfl)
                    try simp only [Act.put, List.setIfInBounds_toArray, List.set_cons_zero, List.set_cons_succ, List.getElem_toArray, List.getElem_cons_zero, List.getElem_cons_succ]
                    refine wpAny_take (i := 15) (v := ?_) rfl (by kernel_rfl) (by kernel_rfl) (by kernel_rfl) (fun _ _ _ h => h) (Or.inl ⟨by rfl, ?_⟩) ?_
                    case refine_2 => (intro w; go_simp; try with_reducible rfl)
                    try simp only [Act.put, List.setIfInBounds_toArray, List.set_cons_zero, List.set_cons_succ, List.getElem_toArray, List.getElem_cons_zero, List.getElem_cons_succ]
                    refine wpAny_take (i := 16) (v := ?_) rfl (by kernel_rfl) (by kernel_rfl) (by kernel_rfl) (fun _ _ _ h => h) (Or.inl ⟨by rfl, ?_⟩) ?_
                    case refine_2 => (intro w; go_simp; try with_reducible rfl)
                    try simp only [Act.put, List.setIfInBounds_toArray, List.set_cons_zero, List.set_cons_succ, List.getElem_toArray, List.getElem_cons_zero, List.getElem_cons_succ]
                    refine wpAny_ready (rs := [13, 17]) (by kernel_rfl) (by simp) ?_
                    refine AllReady.cons rfl (fun K hK => ?_) (AllReady.cons rfl (fun K hK => ?_) AllReady.nil)
                    · go_simp
                      go_wp2_with fail
                      try simp only [Act.put, List.setIfInBounds_toArray, List.set_cons_zero, List.set_cons_succ, List.getElem_toArray, List.getElem_cons_zero, List.getElem_cons_succ]
                      refine wpAny_ready (rs := [17]) (by kernel_rfl) (by simp) ?_
                      refine AllReady.cons rfl (fun K hK => ?_) AllReady.nil
                      go_simp
                      go_wp2_with fail
                      try simp only [Act.put, List.setIfInBounds_toArray, List.set_cons_zero, List.set_cons_succ, List.getElem_toArray, List.getElem_cons_zero, List.getElem_cons_succ]
                      refine wpAny_ready (rs := [18]) (by kernel_rfl) (by simp) ?_
                      refine AllReady.cons rfl (fun K hK => ?_) AllReady.nil
                      go_simp
                      go_wp2_with (go_at_call 20; ((with_reducible refine (CYX.out _ (by (repeat (first | with_reducible assumption | with_reducible refine below_new ?_ _ | with_reducible refine Below.drew ?_ | with_reducible exact Below.refl _ _)))).mono ?_); rintro e x2 ⟨rfl, hx2⟩; have hk2 : Below wr.heap.size wr x2 := below_next (by (repeat (first | with_reducible assumption | with_reducible refine below_new ?_ _ | with_reducible refine Below.drew ?_ | with_reducible exact Below.refl _ _))) hx2; obtain ⟨s20, s21, s22, s23⟩ := HC.out x2 hk2))
                      try simp only [Act.put, List.setIfInBounds_toArray, List.set_cons_zero, List.set_cons_succ, List.getElem_toArray, List.getElem_cons_zero, List.getElem_cons_succ]
                      refine wpAny_take (i := 19) (v := ?_) rfl (by kernel_rfl) (by kernel_rfl) (by kernel_rfl) (fun _ _ _ h => h) (Or.inl ⟨by rfl, ?_⟩) ?_
                      case refine_2 => (intro w; go_simp; try with_reducible rfl)
                      try simp only [Act.put, List.setIfInBounds_toArray, List.set_cons_zero, List.set_cons_succ, List.getElem_toArray, List.getElem_cons_zero, List.getElem_cons_succ]
                      refine wpAny_done (by kernel_rfl) ?_ _
                      go_wp2_with fail
                      go_meet
                      exact ⟨by first | rfl | simp, ⟨(by (repeat (first | with_reducible assumption | with_reducible refine below_new ?_ _ | with_reducible refine Below.drew ?_ | with_reducible exact Below.refl _ _)))⟩⟩
                    · go_simp
                      go_wp2_with fail
                      try simp only [Act.put, List.setIfInBounds_toArray, List.set_cons_zero, List.set_cons_succ, List.getElem_toArray, List.getElem_cons_zero, List.getElem_cons_succ]
                      refine wpAny_ready (rs := [13]) (by kernel_rfl) (by simp) ?_
                      refine AllReady.cons rfl (fun K hK => ?_) AllReady.nil
                      go_simp
                      go_wp2_with fail
                      try simp only [Act.put, List.setIfInBounds_toArray, List.set_cons_zero, List.set_cons_succ, List.getElem_toArray, List.getElem_cons_zero, List.getElem_cons_succ]
                      refine wpAny_ready (rs := [18]) (by kernel_rfl) (by simp) ?_
                      refine AllReady.cons rfl (fun K hK => ?_) AllReady.nil
                      go_simp
                      go_wp2_with (go_at_call 20; ((with_reducible refine (CYX.out _ (by (repeat (first | with_reducible assumption | with_reducible refine below_new ?_ _ | with_reducible refine Below.drew ?_ | with_reducible exact Below.refl _ _)))).mono ?_); rintro e x2 ⟨rfl, hx2⟩; have hk2 : Below wr.heap.size wr x2 := below_next (by (repeat (first | with_reducible assumption | with_reducible refine below_new ?_ _ | with_reducible refine Below.drew ?_ | with_reducible exact Below.refl _ _))) hx2; obtain ⟨s20, s21, s22, s23⟩ := HC.out x2 hk2))
                      try simp only [Act.put, List.setIfInBounds_toArray, List.set_cons_zero, List.set_cons_succ, List.getElem_toArray, List.getElem_cons_zero, List.getElem_cons_succ]
                      refine wpAny_take (i := 19) (v := ?_) rfl (by kernel_rfl) (by kernel_rfl) (by kernel_rfl) (fun _ _ _ h => h) (Or.inl ⟨by rfl, ?_⟩) ?_
                      case refine_2 => (intro w; go_simp; try with_reducible rfl)
                      try simp only [Act.put, List.setIfInBounds_toArray, List.set_cons_zero, List.set_cons_succ, List.getElem_toArray, List.getElem_cons_zero, List.getElem_cons_succ]
                      refine wpAny_done (by kernel_rfl) ?_ _
                      go_wp2_with fail
                      go_meet
                      exact ⟨by first | rfl | simp, ⟨(by (repeat (first | with_reducible assumption | with_reducible refine below_new ?_ _ | with_reducible refine Below.drew ?_ | with_reducible exact Below.refl _ _)))⟩⟩
                  · go_simp
                    go_wp2_with fail
                    try simp only [Act.put, List.setIfInBounds_toArray, List.set_cons_zero, List.set_cons_succ, List.getElem_toArray, List.getElem_cons_zero, List.getElem_cons_succ]
                    refine wpAny_ready (rs := [3]) (by kernel_rfl) (by simp) ?_
                    refine AllReady.cons rfl (fun K hK => ?_) AllReady.nil
                    go_simp
                    go_wp2_with fail
                    try simp only [Act.put, List.setIfInBounds_toArray, List.set_cons_zero, List.set_cons_succ, List.getElem_toArray, List.getElem_cons_zero, List.getElem_cons_succ]
                    refine wpAny_ready (rs := [8]) (by kernel_rfl) (by simp) ?_
                    refine AllReady.cons rfl (fun K hK => ?_) AllReady.nil
                    go_simp
                    go_wp2_with (go_at_call 20; ((with_reducible refine (CXY.out _ (by (repeat (first | with_reducible assumption | with_reducible refine below_new ?_ _ | with_reducible refine Below.drew ?_ | with_reducible exact Below.refl _ _)))).mono ?_); rintro e x1 ⟨rfl, hx1⟩; have hk1 : Below wr.heap.size wr x1 := below_next (by (repeat (first | with_reducible assumption | with_reducible refine below_new ?_ _ | with_reducible refine Below.drew ?_ | with_reducible exact Below.refl _ _))) hx1; obtain ⟨s10, s11, s12, s13⟩ := HC.out x1 hk1))
                    try simp only [Act.put, List.setIfInBounds_toArray, List.set_cons_zero, List.set_cons_succ, List.getElem_toArray, List.getElem_cons_zero, List.getElem_cons_succ]
                    refine wpAny_take (i := 9) (v := ?_) rfl (by kernel_rfl) (by kernel_rfl) (by kernel_rfl) (fun _ _ _ h => h) (Or.inl ⟨by rfl, ?_⟩) ?_
                    case refine_2 => (intro w; go_simp; try with_reducible rfl)
                    try simp only [Act.put, List.setIfInBounds_toArray, List.set_cons_zero, List.set_cons_succ, List.getElem_toArray, List.getElem_cons_zero, List.getElem_cons_succ]
                    refine wpAny_take (i := 10) (v := ?_) rfl (by kernel_rfl) (by kernel_rfl) (by kernel_rfl) (fun _ _ _ h => h) (Or.inl ⟨by rfl, ?_⟩) ?_
                    case refine_2 => (intro w; go_simp; try with_reducible rfl)
                    try simp only [Act.put, List.setIfInBounds_toArray, List.set_cons_zero, List.set_cons_succ, List.getElem_toArray, List.getElem_cons_zero, List.getElem_cons_succ]
                    refine wpAny_take (i := 11) (v := ?_) rfl (by kernel_rfl) (by kernel_rfl) (by kernel_rfl) (fun _ _ _ h => h) (Or.inl ⟨by rfl, ?_⟩) ?_
                    case refine_2 => (intro w; go_simp; try with_reducible rfl)
                    try simp only [Act.put, List.setIfInBounds_toArray, List.set_cons_zero, List.set_cons_succ, List.getElem_toArray, List.getElem_cons_zero, List.getElem_cons_succ]
                    refine wpAny_take (i := 12) (v := ?_) rfl (by kernel_rfl) (by kernel_rfl) (by kernel_rfl) (fun _ _ _ h => h) (Or.inl ⟨by rfl, ?_⟩) ?_
                    case refine_2 => (intro w; go_simp; try with_reducible rfl)
                    try simp only [Act.put, List.setIfInBounds_toArray, List.set_cons_zero, List.set_cons_succ, List.getElem_toArray, List.getElem_cons_zero, List.getElem_cons_succ]
                    refine wpAny_take (i := 14) (v := ?_) rfl (by kernel_rfl) (by kernel_rfl) (by kernel_rfl) (fun _ _ _ h => h) (Or.inl ⟨by rfl, ?_⟩) ?_
                    case refine_2 => (intro w; go_simp; try with_reducible rfl)
                    try simp only [Act.put, List.setIfInBounds_toArray, List.set_cons_zero, List.set_cons_succ, List.getElem_toArray, List.getElem_cons_zero, List.getElem_cons_succ]
                    refine wpAny_take (i := 15) (v := ?_) rfl (by kernel_rfl) (by kernel_rfl) (by kernel_rfl) (fun _ _ _ h => h) (Or.inl ⟨by rfl, ?_⟩) ?_
                    case refine_2 => (intro w; go_simp; try with_reducible rfl)
                    try simp only [Act.put, List.setIfInBounds_toArray, List.set_cons_zero, List.set_cons_succ, List.getElem_toArray, List.getElem_cons_zero, List.getElem_cons_succ]
                    refine wpAny_take (i := 16) (v := ?_) rfl (by kernel_rfl) (by kernel_rfl) (by kernel_rfl) (fun _ _ _ h => h) (Or.inl ⟨by rfl, ?_⟩) ?_
                    case refine_2 => (intro w; go_simp; try with_reducible rfl)
                    try simp only [Act.put, List.setIfInBounds_toArray, List.set_cons_zero, List.set_cons_succ, List.getElem_toArray, List.getElem_cons_zero, List.getElem_cons_succ]
                    refine wpAny_ready (rs := [13, 17]) (by kernel_rfl) (by simp) ?_
                    refine AllReady.cons rfl (fun K hK => ?_) (AllReady.cons rfl (fun K hK => ?_) AllReady.nil)
                    · go_simp
                      go_wp2_with fail
                      try simp only [Act.put, List.setIfInBounds_toArray, List.set_cons_zero, List.set_cons_succ, List.getElem_toArray, List.getElem_cons_zero, List.getElem_cons_succ]
                      refine wpAny_ready (rs := [17]) (by kernel_rfl) (by simp) ?_
                      refine AllReady.cons rfl (fun K hK => ?_) AllReady.nil
                      go_simp
                      go_wp2_with fail
                      try simp only [Act.put, List.setIfInBounds_toArray, List.set_cons_zero, List.set_cons_succ, List.getElem_toArray, List.getElem_cons_zero, List.getElem_cons_succ]
                      refine wpAny_ready (rs := [18]) (by kernel_rfl) (by simp) ?_
                      refine AllReady.cons rfl (fun K hK => ?_) AllReady.nil
                      go_simp
                      go_wp2_with (go_at_call 20; ((with_reducible refine (CYX.out _ (by (repeat (first | with_reducible assumption | with_reducible refine below_new ?_ _ | with_reducible refine Below.drew ?_ | with_reducible exact Below.refl _ _)))).mono ?_); rintro e x2 ⟨rfl, hx2⟩; have hk2 : Below wr.heap.size wr x2 := below_next (by (repeat (first | with_reducible assumption | with_reducible refine below_new ?_ _ | with_reducible refine Below.drew ?_ | with_reducible exact Below.refl _ _))) hx2; obtain ⟨s20, s21, s22, s23⟩ := HC.out x2 hk2))
                      try simp only [Act.put, List.setIfInBounds_toArray, List.set_cons_zero, List.set_cons_succ, List.getElem_toArray, List.getElem_cons_zero, List.getElem_cons_succ]
                      refine wpAny_take (i := 19) (v := ?_) rfl (by kernel_rfl) (by kernel_rfl) (by kernel_rfl) (fun _ _ _ h => h) (Or.inl ⟨by rfl, ?_⟩) ?_
                      case refine_2 => (intro w; go_simp; try with_reducible rfl)
                      try simp only [Act.put, List.setIfInBounds_toArray, List.set_cons_zero, List.set_cons_succ, List.getElem_toArray, List.getElem_cons_zero, List.getElem_cons_succ]
                      refine wpAny_done (by kernel_rfl) ?_ _
                      go_wp2_with fail
                      go_meet
                      exact ⟨by first | rfl | simp, ⟨(by (repeat (first | with_reducible assumption | with_reducible refine below_new ?_ _ | with_reducible refine Below.drew ?_ | with_reducible exact Below.refl _ _)))⟩⟩
                    · go_simp
                      go_wp2_with fail
                      try simp only [Act.put, List.setIfInBounds_toArray, List.set_cons_zero, List.set_cons_succ, List.getElem_toArray, List.getElem_cons_zero, List.getElem_cons_succ]
                      refine wpAny_ready (rs := [13]) (by kernel_rfl) (by simp) ?_
                      refine AllReady.cons rfl (fun K hK => ?_) AllReady.nil
                      go_simp
                      go_wp2_with fail
                      try simp only [Act.put, List.setIfInBounds_toArray, List.set_cons_zero, List.set_cons_succ, List.getElem_toArray, List.getElem_cons_zero, List.getElem_cons_succ]
                      refine wpAny_ready (rs := [18]) (by kernel_rfl) (by simp) ?_
                      refine AllReady.cons rfl (fun K hK => ?_) AllReady.nil
                      go_simp
                      go_wp2_with (go_at_call 20; ((with_reducible refine (CYX.out _ (by (repeat (first | with_reducible assumption | with_reducible refine below_new ?_ _ | with_reducible refine Below.drew ?_ | with_reducible exact Below.refl _ _)))).mono ?_); rintro e x2 ⟨rfl, hx2⟩; have hk2 : Below wr.heap.size wr x2 := below_next (by (repeat (first | with_reducible assumption | with_reducible refine below_new ?_ _ | with_reducible refine Below.drew ?_ | with_reducible exact Below.refl _ _))) hx2; obtain ⟨s20, s21, s22, s23⟩ := HC.out x2 hk2))
                      try simp only [Act.put, List.setIfInBounds_toArray, List.set_cons_zero, List.set_cons_succ, List.getElem_toArray, List.getElem_cons_zero, List.getElem_cons_succ]
                      refine wpAny_take (i := 19) (v := ?_) rfl (by kernel_rfl) (by kernel_rfl) (by kernel_rfl) (fun _ _ _ h => h) (Or.inl ⟨by rfl, ?_⟩) ?_
                      case refine_2 => (intro w; go_simp; try with_reducible rfl)
                      try simp only [Act.put, List.setIfInBounds_toArray, List.set_cons_zero, List.set_cons_succ, List.getElem_toArray, List.getElem_cons_zero, List.getElem_cons_succ]
                      refine wpAny_done (by kernel_rfl) ?_ _
                      go_wp2_with fail
                      go_meet
                      exact ⟨by first | rfl | simp, ⟨(by (repeat (first | with_reducible assumption | with_reducible refine below_new ?_ _ | with_reducible refine Below.drew ?_ | with_reducible exact Below.refl _ _)))⟩⟩
              case rest =>
                obtain ⟨rfl, hcut⟩ := hcut
                have HU3 : Kept (UpSt w wc V l.length up ∧ Forest l.length up (headR (adjB l) k j)) := ⟨HU.out.1.next hcut.out, HU.out.2⟩
                obtain ⟨w4, hw4⟩ : ∃ w4 : World, w4 = wc := ⟨_, rfl⟩
                rw [← hw4] at HU3 ⊢
                clear hw4 hcut HU CXY CYX HC
                cases hpq : p || q with
                | false =>
                  have HN : Kept (UpSt w w4 V l.length up ∧ Forest l.length up (headR (adjB l) k (j + 1))) := ⟨HU3.out.1, by rw [HNO.out (HADJ.out.trans hpq)]; exact HU3.out.2⟩
                  clear HU3 HNO HYES HADJ
                  go_wp2_with fail
                  go_roundw
                  case rel => exact ⟨j + 1, up, by omega, by go_num, HN⟩
                  case measure => simp [intOf]; omega
                | true =>
                  have HF := kept (HYES.out (HADJ.out.trans hpq))
                  have CR1 := kept (fun (W : World) (h : Below w4.heap.size w4 W) => root_any w W V l.length up _ k (HU3.out.1.next h) HU3.out.2 hlt)
                  have CR2 := kept (fun (W : World) (h : Below w4.heap.size w4 W) => root_any w W V l.length up _ j (HU3.out.1.next h) HU3.out.2 (by omega))
                  have hvc := HU3.out.1.2.1.cell (j := 0) rfl
                  obtain ⟨c0, f0, s0⟩ := HU3.out.1.spot hrk
                  have HS0 : Kept (∀ W, Below w4.heap.size w4 W → UpSt w (W.setCell ⟨w.heap.size, headR (adjB l) k j k, none⟩ (.int .i64 ((headR (adjB l) k j j : Nat) : Int))) V l.length (up.set (headR (adjB l) k j k) (headR (adjB l) k j j))) := ⟨fun W h => ((HU3.out.1.next h).spot hrk).2.2 _⟩
                  clear HU3 HNO HYES HADJ hpq s0
                  have hri : ((headR (adjB l) k j k : Nat) : Int) < (l.length : Int) := by omega
                  generalize headR (adjB l) k j k = rk at *
                  generalize headR (adjB l) k j j = rj at *
                  go_upto_region 15 with fail
                  have hd4 : Below w4.heap.size w4 w4 := Below.refl _ _
                  go_region_with (first
                    | (go_at_call 52; ((with_reducible refine (CR1.out _ (by (repeat (first | with_reducible assumption | with_reducible refine below_new ?_ _ | with_reducible refine Below.drew ?_ | with_reducible exact Below.refl _ _)))).mono ?_); rintro e x1 ⟨rfl, rfl⟩))
                    | (go_at_call 52; ((with_reducible refine (CR2.out _ (by (repeat (first | with_reducible assumption | with_reducible refine below_new ?_ _ | with_reducible refine Below.drew ?_ | with_reducible exact Below.refl _ _)))).mono ?_); rintro e x2 ⟨rfl, rfl⟩)))
                  all_goals go_wp2_with fail
                  all_goals go_roundw
                  all_goals first
                    | exact ⟨j + 1, up.set rk rj, by omega, by go_num, ⟨(HS0.out _ (Below.refl _ _)).next ((Below.refl _ _).drew), HF.out⟩⟩
                    | (simp [intOf]; omega)
            · obtain rfl : j = k := by omega
              have hge : ¬ (j : Int) < (j : Int) := by omega
              have HU2 : Kept (UpSt w wr V l.length up ∧ Forest l.length up (headR (adjB l) (j + 1) 0)) := ⟨HU.out.1, by rw [← headR_row]; exact HU.out.2⟩
              clear HU
              go_wp2_with fail
              go_roundw
              case rel => exact ⟨j + 1, up, by omega, by go_num, HU2⟩
              case measure => simp [intOf]; omega
        · obtain rfl : k = l.length := by omega
          have hge : ¬ (l.length : Int) < (l.length : Int) := by omega
          obtain ⟨w3, hw3⟩ : ∃ w3 : World, w3 = wr := ⟨_, rfl⟩
          rw [← hw3] at HU ⊢
          clear hw3 wr
          obtain ⟨w4, hmk2, ho2, hb2⟩ := make_gs w3 l.length (by omega)
          have hok := headR_ok (n := l.length) (i := l.length) (k := 0) (adjB_symm l) (.inr ⟨Nat.le_refl _, rfl⟩)
          have HOK : Kept (∀ x, x < l.length → headR (adjB l) l.length 0 x < l.length) := ⟨fun x hx => (hok x hx).1⟩
          obtain ⟨R, hR⟩ : ∃ R, headR (adjB l) l.length 0 = R := ⟨_, rfl⟩
          rw [hR] at HOK HU
          have HRR := kept hR
          have HFO := kept HU.out.2
          have hVB : V < w3.heap.size := HU.out.1.2.1.lt
          have HG0 : Kept (GSt w w4 V l.length up w3.heap.size (List.replicate l.length gz) ∧ ∀ m, m < l.length → ((List.replicate l.length gz).getD m gz).l = inG R (cidAt l) 0 m) := ⟨⟨HU.out.1.next hb2, hVB, ho2, ⟨fun g hg => by
            rw [(List.mem_replicate.1 hg).2]
            exact Own.nilv _ _ _, fun i j g h _ hi _ k hk => by
            rw [(List.mem_replicate.1 (List.mem_of_getElem? hi)).2] at hk
            cases hk⟩⟩, fun m hm => by simp [List.getD, hm, gz, inG]⟩
          clear hR hok HU ho2 hb2
          go_wp2_with fail
          generalize w3.heap.size = B at *
          clear hmk2 hVB
          go_loopw [71] (fun a wr => ∃ (i : Nat) (gs : List GrpM), i ≤ l.length ∧ a = .int .i64 (i : Int) ∧ Kept (GSt w wr V l.length up B gs ∧ ∀ m, m < l.length → (gs.getD m gz).l = inG R (cidAt l) i m)) (fun a _ => l.length - (intOf a).toNat)
          case atStart => exact ⟨0, _, Nat.zero_le _, rfl, HG0⟩
          case round =>
            clear HG0
            obtain ⟨i, gs, hi, rfl, HG⟩ := hrel
            by_cases hlt : i < l.length
            · have hin : (i : Int) < (l.length : Int) := by omega
              obtain ⟨x, hx⟩ : ∃ x, l[i]? = some x := ⟨_, List.getElem?_eq_getElem hlt⟩
              obtain ⟨b, o, rfl, hbB, u0, u1, hxo⟩ := card_at HL.out hx
              have hbw := HG.out.1.below
              have u0 := (hbw.cell (p := ⟨b, o + i * 2, none⟩) hbB).trans u0
              have u1 := (hbw.cell (p := ⟨b, o + i * 2 + 1, none⟩) hbB).trans u1
              have hcid : cidAt l i = x.cid := by unfold cidAt; rw [getD_of hx]
              have HIN := kept (fun m => inG_next R (cidAt l) i m)
              rw [hcid] at HIN
              obtain ⟨xcid, xX, xls, xc⟩ := x
              dsimp only at u0 u1 HIN
              have HK1 : Kept (Blk (wr.alloc (.cells #[.int .u64 (xcid : Int), .slice xX xls.length xc] 31)) wr.heap.size [.int .u64 (xcid : Int), .slice xX xls.length xc] 31) := ⟨Blk.new wr _ _⟩
              have HB1 : Kept (Below wr.heap.size wr (wr.alloc (.cells #[.int .u64 (xcid : Int), .slice xX xls.length xc] 31))) := ⟨(Below.refl _ _).alloc (Nat.le_refl _) _⟩
              clear hx hxo hcid hbw
              go_upto_region 22 with fail
              generalize wr.alloc (.cells #[.int .u64 (xcid : Int), .slice xX xls.length xc] 31) = w5 at *
              have hrl := HOK.out i hlt
              have HG5 := kept (HG.out.1.next HB1.out)
              have HGL := kept HG.out.2
              have hgl := HG5.out.len
              generalize hm : R i = m at *
              obtain ⟨g, hg⟩ : ∃ g, gs[m]? = some g := ⟨_, List.getElem?_eq_getElem (by omega)⟩
              have hgg := HGL.out m hrl
              rw [getD_of hg] at hgg
              obtain ⟨r0, e0, -, c0, -, -⟩ := grp_spot HG5.out.2.2.1 (k := m) (by omega)
              obtain rfl : B = r0 := congrArg Addr.block (Option.some.inj e0)
              rw [getD_of hg] at c0
              have hgo := HG5.out.2.2.2.1 g (List.mem_of_getElem? hg)
              have hgi : g.l.length ≤ 10 := by
                rw [hgg]
                unfold inG
                rw [List.length_map]
                exact Nat.le_trans (List.length_filter_le _ _) (by rw [List.length_range]; omega)
              have HAPP := kept (fun (W1 W2 : World) (A3 : Option Addr) (c3 : Nat) (r3 : List Nat) (hb : Below w5.heap.size w5 W1) (ho : Own W2 B 28 (.slice A3 r3.length c3) (WB r3)) (hu : ∀ S : Nat → Prop, (∀ k, g.val.ownBlock = some k → S k) → Upd S W1 W2) (hx : ∀ x, A3 = some x → g.val.ownBlock = some x.block ∨ W1.heap.size ≤ x.block) => HG5.out.app hg hb ho hu hx)
              have HNX : Kept (∀ (A3 : Option Addr) (c3 : Nat) (r3 : List Nat), r3 = g.l ++ [xcid] → ∀ q, q < l.length → ((gs.set m ⟨A3, r3, c3⟩).getD q gz).l = inG R (cidAt l) (i + 1) q) := ⟨fun A3 c3 r3 hr q hq => by
                rw [HIN.out]
                simp only [List.getD_eq_getElem?_getD, List.getElem?_set]
                by_cases e : m = q
                · subst e
                  rw [if_pos rfl, if_pos (by omega), if_pos rfl, hr, ← hgg]
                  rfl
                · have h2 := HGL.out q hq
                  rw [List.getD_eq_getElem?_getD] at h2
                  rw [if_neg e, if_neg e, List.append_nil]
                  exact h2⟩
              have CR := kept (fun (W : World) (h : UpSt w W V l.length up) => root_any w W V l.length up R i h HFO.out hlt)
              have HUW : Kept (∀ W, Below w5.heap.size w5 W → UpSt w W V l.length up) := ⟨fun W h => HG5.out.1.next h⟩
              have HOW : Kept (∀ W, Below w5.heap.size w5 W → SortW.wordE.Own W B 28 g.val g.l) := ⟨fun W h => SortW.word_own.1 (hgo.next h)⟩
              have HNW : Kept (∀ W0 : World, W0.heap.size = w5.heap.size → SortW.wordE.Rd (W0.alloc (.cells #[.int .u64 (xcid : Int)] 28)) (w5.heap.size + 1) (some ⟨w5.heap.size, 0, none⟩) [xcid]) := ⟨fun W0 h => Mem.Rd.newAt W0 _ _ h.symm (Nat.le_refl _)⟩
              have hm' : ((m : Nat) : Int) < (l.length : Int) := by omega
              have k0 := HK1.out.cell (j := 0) rfl
              have HSW : Kept (∀ W, Below w5.heap.size w5 W → UpSt w W V l.length up ∧ W.cell? ⟨wr.heap.size, 0, none⟩ = some (.int .u64 (xcid : Int))) := ⟨fun W h => ⟨HUW.out W h, (HK1.out.next h).cell (j := 0) rfl⟩⟩
              have hoff : ∀ k, g.val.ownBlock = some k → k ≠ wr.heap.size := own_off (show OwnK 1 w5 B 28 g.val (WB g.l).length (WB g.l) from hgo) HK1.out (by decide)
              have HBX := kept (fun (W1 W2 : World) (h : Below w5.heap.size w5 W1) (hu : ∀ S : Nat → Prop, (∀ k, g.val.ownBlock = some k → S k) → Upd S W1 W2) => ((HK1.out.next h).upd (hu (fun k => g.val.ownBlock = some k) fun _ e => e) fun e => hoff _ e rfl).cell (j := 0) rfl)
              have hbx := HK1.out.lt
              have hBb : B < wr.heap.size := (HG.out.1.2.2.1.lt B rfl).2
              generalize wr.heap.size = bx at *
              clear hoff
              have c9 : (w5.alloc (.cells #[.int .u64 (xcid : Int)] 28)).cell? ⟨B, m, none⟩ = some g.val := (World.cell?_alloc_lt w5 _ ⟨B, m, none⟩ (by show B < _; omega)).trans c0
              have hl5 := HK1.out.lt
              have hBw : B ≤ w5.heap.size := by have := (HG5.out.2.2.1.lt B rfl).2; omega
              have hbt : (g.l.length + 1) * 8 ≤ 140737488355328 := by omega
              rw [hm] at CR
              have hd5 : Below w5.heap.size w5 w5 := Below.refl _ _
              clear hgg hgo hg HG HG5 HGL HIN HK1 HB1 hm u0 u1
              obtain ⟨gA, gll, gc⟩ := g
              unfold GrpM.val at c0 c9 HOW HAPP HBX
              dsimp only at c0 c9 HOW HAPP HNX HBX hgi hbt
              refine wp_region_noPanic ?_
              refine wp_region_held_drew (S := fun W => UpSt w W V l.length up ∧ W.cell? ⟨bx, 0, none⟩ = some (.int .u64 (xcid : Int))) (by kernel_rfl) (HSW.out _ (by (repeat (first | with_reducible assumption | with_reducible refine below_new ?_ _ | with_reducible refine Below.drew ?_ | with_reducible exact Below.refl _ _)))) (fun hS0 => ?_)
              refine wpAnyH_take (i := 0) (v := ?_) rfl (by kernel_rfl) (by kernel_rfl) (by kernel_rfl) (fun _ _ _ h => h) (Or.inl ⟨by rfl, ?_⟩) hS0 ?_
              case refine_2 => (intro W hSW; go_simp; try with_reducible rfl)
              try simp only [Act.put, List.setIfInBounds_toArray, List.set_cons_zero, List.set_cons_succ, List.getElem_toArray, List.getElem_cons_zero, List.getElem_cons_succ]
              refine wpAnyH_take (i := 1) (v := ?_) rfl (by kernel_rfl) (by kernel_rfl) (by kernel_rfl) (fun _ _ _ h => h) (Or.inl ⟨by rfl, ?_⟩) hS0 ?_
              case refine_2 => (intro W hSW; go_simp; try with_reducible rfl)
              try simp only [Act.put, List.setIfInBounds_toArray, List.set_cons_zero, List.set_cons_succ, List.getElem_toArray, List.getElem_cons_zero, List.getElem_cons_succ]
              refine wpAnyH_take (i := 2) (v := ?_) rfl (by kernel_rfl) (by kernel_rfl) (by kernel_rfl) (fun _ _ _ h => h) (Or.inl ⟨by rfl, ?_⟩) hS0 ?_
              case refine_2 => (intro W hSW; go_simp; try with_reducible rfl)
              try simp only [Act.put, List.setIfInBounds_toArray, List.set_cons_zero, List.set_cons_succ, List.getElem_toArray, List.getElem_cons_zero, List.getElem_cons_succ]
              refine wpAnyH_take (i := 4) (v := ?_) rfl (by kernel_rfl) (by kernel_rfl) (by kernel_rfl) (fun _ _ _ h => h) (Or.inl ⟨by rfl, ?_⟩) hS0 ?_
              case refine_2 => (intro W hSW; go_simp; try with_reducible rfl)
              try simp only [Act.put, List.setIfInBounds_toArray, List.set_cons_zero, List.set_cons_succ, List.getElem_toArray, List.getElem_cons_zero, List.getElem_cons_succ]
              refine wpAnyH_take (i := 5) (v := ?_) rfl (by kernel_rfl) (by kernel_rfl) (by kernel_rfl) (fun _ _ _ h => h) (Or.inl ⟨by rfl, ?_⟩) hS0 ?_
              case refine_2 => (intro W hSW; go_simp; try with_reducible rfl)
              try simp only [Act.put, List.setIfInBounds_toArray, List.set_cons_zero, List.set_cons_succ, List.getElem_toArray, List.getElem_cons_zero, List.getElem_cons_succ]
              refine wpAnyH_take (i := 6) (v := ?_) rfl (by kernel_rfl) (by kernel_rfl) (by kernel_rfl) (fun _ _ _ h => h) (Or.inl ⟨by rfl, ?_⟩) hS0 ?_
              case refine_2 => (intro W hSW; go_simp; try with_reducible rfl)
              try simp only [Act.put, List.setIfInBounds_toArray, List.set_cons_zero, List.set_cons_succ, List.getElem_toArray, List.getElem_cons_zero, List.getElem_cons_succ]
              refine wpAnyH_take (i := 10) (v := ?_) rfl (by kernel_rfl) (by kernel_rfl) (by kernel_rfl) (fun _ _ _ h => h) (Or.inl ⟨by rfl, ?_⟩) hS0 ?_
              case refine_2 => (intro W hSW; go_simp; try with_reducible rfl)
              try simp only [Act.put, List.setIfInBounds_toArray, List.set_cons_zero, List.set_cons_succ, List.getElem_toArray, List.getElem_cons_zero, List.getElem_cons_succ]
              refine wpAnyR_take (i := 3) (v := .int .i64 (m : Int)) rfl (by kernel_rfl) (by kernel_rfl) (by kernel_rfl) (fun _ _ _ h => h) (Or.inl ⟨by rfl, fun W hSW => Or.inr ⟨52, #[.int .i64 (i : Int), .pointer (some ⟨V, 0, none⟩)], by (go_simp; try rfl), (CR.out W hSW.1).mono fun _ _ h => ⟨h.1, h.2.symm⟩⟩⟩) hS0 ?_
              try simp only [Act.put, List.setIfInBounds_toArray, List.set_cons_zero, List.set_cons_succ, List.getElem_toArray, List.getElem_cons_zero, List.getElem_cons_succ]
              refine wpAnyR_take (i := 7) (v := .int .i64 (m : Int)) rfl (by kernel_rfl) (by kernel_rfl) (by kernel_rfl) (fun _ _ _ h => h) (Or.inl ⟨by rfl, fun W hSW => Or.inr ⟨52, #[.int .i64 (i : Int), .pointer (some ⟨V, 0, none⟩)], by (go_simp; try rfl), (CR.out W hSW.1).mono fun _ _ h => ⟨h.1, h.2.symm⟩⟩⟩) hS0 ?_
              try simp only [Act.put, List.setIfInBounds_toArray, List.set_cons_zero, List.set_cons_succ, List.getElem_toArray, List.getElem_cons_zero, List.getElem_cons_succ]
              refine wpAnyH_take (i := 8) (v := ?_) rfl (by kernel_rfl) (by kernel_rfl) (by kernel_rfl) (fun _ _ _ h => h) (Or.inl ⟨by rfl, ?_⟩) hS0 ?_
              case refine_2 => (intro W hSW; go_simp; try with_reducible rfl)
              try simp only [Act.put, List.setIfInBounds_toArray, List.set_cons_zero, List.set_cons_succ, List.getElem_toArray, List.getElem_cons_zero, List.getElem_cons_succ]
              refine wpAnyH_take (i := 11) (v := ?_) rfl (by kernel_rfl) (by kernel_rfl) (by kernel_rfl) (fun _ _ _ h => h) (Or.inl ⟨by rfl, ?_⟩) hS0 ?_
              case refine_2 => (intro W hSW; have hcw := hSW.2; go_simp; try with_reducible rfl)
              try simp only [Act.put, List.setIfInBounds_toArray, List.set_cons_zero, List.set_cons_succ, List.getElem_toArray, List.getElem_cons_zero, List.getElem_cons_succ]
              refine wpAnyH_ready (rs := [9, 12]) (by kernel_rfl) (by simp) ?_
              refine AllReadyH.cons rfl (fun K' hK => ?_) (AllReadyH.cons rfl (fun K' hK => ?_) AllReadyH.nil)
              · go_simp
                try simp only [Act.put, List.setIfInBounds_toArray, List.set_cons_zero, List.set_cons_succ, List.getElem_toArray, List.getElem_cons_zero, List.getElem_cons_succ]
                refine hK.out _ _ hS0 (fun hS0 => ?_)
                refine wpAnyH_ready (rs := [12]) (by kernel_rfl) (by simp) ?_
                refine AllReadyH.cons rfl (fun K' hK => ?_) AllReadyH.nil
                go_simp
                try simp only [Act.put, List.setIfInBounds_toArray, List.set_cons_zero, List.set_cons_succ, List.getElem_toArray, List.getElem_cons_zero, List.getElem_cons_succ]
                refine hK.out _ _ (HSW.out _ (by (repeat (first | with_reducible assumption | with_reducible refine below_new ?_ _ | with_reducible refine Below.drew ?_ | with_reducible exact Below.refl _ _)))) (fun hS0 => ?_)
                refine wpAnyH_ready (rs := [13]) (by kernel_rfl) (by simp) ?_
                refine AllReadyH.cons rfl (fun K' hK => ?_) AllReadyH.nil
                refine step_appEU _ SortW.wordE (by rfl) (.tmp 85) (.tmp 88) 49 (by rfl) B 28 Tryz.underlying49 u64_info (by rfl) _ gll (by rfl) (HOW.out _ (by (repeat (first | with_reducible assumption | with_reducible refine below_new ?_ _ | with_reducible refine Below.drew ?_ | with_reducible exact Below.refl _ _)))) _ _ _ _ [xcid] (by rfl) rfl (HNW.out _ rfl) hbt (by decide) (by show B ≤ _; simp; omega) ?_
                intro A3 c3 w8 r3 hr3 hown3 hu3 hx3
                obtain ⟨hk8, ⟨u8, c8⟩, f8, hs8⟩ := HAPP.out _ w8 A3 c3 r3 (by (repeat (first | with_reducible assumption | with_reducible refine below_new ?_ _ | with_reducible refine Below.drew ?_ | with_reducible exact Below.refl _ _))) (SortW.word_own.2 hown3) hu3 hx3
                have HS8 := kept hs8
                have HX8 := kept (HNX.out A3 c3 r3 hr3.out)
                have h58 := HBX.out _ w8 (by (repeat (first | with_reducible assumption | with_reducible refine below_new ?_ _ | with_reducible refine Below.drew ?_ | with_reducible exact Below.refl _ _))) hu3
                clear hs8 hown3 hu3 hx3 hr3
                try simp only [Act.put, List.setIfInBounds_toArray, List.set_cons_zero, List.set_cons_succ, List.getElem_toArray, List.getElem_cons_zero, List.getElem_cons_succ]
                refine hK.out _ _ ⟨hk8, h58⟩ (fun hS0 => ?_)
                refine wpAnyH_take (i := 14) (v := ?_) rfl (by kernel_rfl) (by kernel_rfl) (by kernel_rfl) (fun _ _ _ h => h) (Or.inl ⟨by rfl, ?_⟩) hS0 ?_
                case refine_2 => (intro W hSW; go_simp; try with_reducible rfl)
                try simp only [Act.put, List.setIfInBounds_toArray, List.set_cons_zero, List.set_cons_succ, List.getElem_toArray, List.getElem_cons_zero, List.getElem_cons_succ]
                refine wpAnyH_ready (rs := [15]) (by kernel_rfl) (by simp) ?_
                refine AllReadyH.cons rfl (fun K' hK => ?_) AllReadyH.nil
                go_simp
                try simp only [Act.put, List.setIfInBounds_toArray, List.set_cons_zero, List.set_cons_succ, List.getElem_toArray, List.getElem_cons_zero, List.getElem_cons_succ]
                refine hK.out _ _ ⟨HS8.out.1, (World.cell?_setCell_far _ _ ⟨bx, 0, none⟩ _ (by show B ≠ bx; omega)).trans h58⟩ (fun _ => ?_)
                refine wpAnyH_done (by kernel_rfl) (NoPanic.normal ?_) _
                go_wp2_with fail
                go_roundw
                case rel => exact ⟨i + 1, gs.set m ⟨A3, r3, c3⟩, by omega, by go_num, ⟨HS8.out, HX8.out⟩⟩
                case measure => simp [intOf]; omega
              · go_simp
                try simp only [Act.put, List.setIfInBounds_toArray, List.set_cons_zero, List.set_cons_succ, List.getElem_toArray, List.getElem_cons_zero, List.getElem_cons_succ]
                refine hK.out _ _ (HSW.out _ (by (repeat (first | with_reducible assumption | with_reducible refine below_new ?_ _ | with_reducible refine Below.drew ?_ | with_reducible exact Below.refl _ _)))) (fun hS0 => ?_)
                refine wpAnyH_ready (rs := [9]) (by kernel_rfl) (by simp) ?_
                refine AllReadyH.cons rfl (fun K' hK => ?_) AllReadyH.nil
                go_simp
                try simp only [Act.put, List.setIfInBounds_toArray, List.set_cons_zero, List.set_cons_succ, List.getElem_toArray, List.getElem_cons_zero, List.getElem_cons_succ]
                refine hK.out _ _ hS0 (fun hS0 => ?_)
                refine wpAnyH_ready (rs := [13]) (by kernel_rfl) (by simp) ?_
                refine AllReadyH.cons rfl (fun K' hK => ?_) AllReadyH.nil
                refine step_appEU _ SortW.wordE (by rfl) (.tmp 85) (.tmp 88) 49 (by rfl) B 28 Tryz.underlying49 u64_info (by rfl) _ gll (by rfl) (HOW.out _ (by (repeat (first | with_reducible assumption | with_reducible refine below_new ?_ _ | with_reducible refine Below.drew ?_ | with_reducible exact Below.refl _ _)))) _ _ _ _ [xcid] (by rfl) rfl (HNW.out _ rfl) hbt (by decide) (by show B ≤ _; simp; omega) ?_
                intro A3 c3 w8 r3 hr3 hown3 hu3 hx3
                obtain ⟨hk8, ⟨u8, c8⟩, f8, hs8⟩ := HAPP.out _ w8 A3 c3 r3 (by (repeat (first | with_reducible assumption | with_reducible refine below_new ?_ _ | with_reducible refine Below.drew ?_ | with_reducible exact Below.refl _ _))) (SortW.word_own.2 hown3) hu3 hx3
                have HS8 := kept hs8
                have HX8 := kept (HNX.out A3 c3 r3 hr3.out)
                have h58 := HBX.out _ w8 (by (repeat (first | with_reducible assumption | with_reducible refine below_new ?_ _ | with_reducible refine Below.drew ?_ | with_reducible exact Below.refl _ _))) hu3
                clear hs8 hown3 hu3 hx3 hr3
                try simp only [Act.put, List.setIfInBounds_toArray, List.set_cons_zero, List.set_cons_succ, List.getElem_toArray, List.getElem_cons_zero, List.getElem_cons_succ]
                refine hK.out _ _ ⟨hk8, h58⟩ (fun hS0 => ?_)
                refine wpAnyH_take (i := 14) (v := ?_) rfl (by kernel_rfl) (by kernel_rfl) (by kernel_rfl) (fun _ _ _ h => h) (Or.inl ⟨by rfl, ?_⟩) hS0 ?_
                case refine_2 => (intro W hSW; go_simp; try with_reducible rfl)
                try simp only [Act.put, List.setIfInBounds_toArray, List.set_cons_zero, List.set_cons_succ, List.getElem_toArray, List.getElem_cons_zero, List.getElem_cons_succ]
                refine wpAnyH_ready (rs := [15]) (by kernel_rfl) (by simp) ?_
                refine AllReadyH.cons rfl (fun K' hK => ?_) AllReadyH.nil
                go_simp
                try simp only [Act.put, List.setIfInBounds_toArray, List.set_cons_zero, List.set_cons_succ, List.getElem_toArray, List.getElem_cons_zero, List.getElem_cons_succ]
                refine hK.out _ _ ⟨HS8.out.1, (World.cell?_setCell_far _ _ ⟨bx, 0, none⟩ _ (by show B ≠ bx; omega)).trans h58⟩ (fun _ => ?_)
                refine wpAnyH_done (by kernel_rfl) (NoPanic.normal ?_) _
                go_wp2_with fail
                go_roundw
                case rel => exact ⟨i + 1, gs.set m ⟨A3, r3, c3⟩, by omega, by go_num, ⟨HS8.out, HX8.out⟩⟩
                case measure => simp [intOf]; omega
            · obtain rfl : i = l.length := by omega
              have hge : ¬ (l.length : Int) < (l.length : Int) := by omega
              obtain ⟨w6, hw6⟩ : ∃ w6 : World, w6 = wr := ⟨_, rfl⟩
              have HG4 : Kept (GSt w wr V l.length up B gs ∧ ∀ m, m < l.length → (gs.getD m gz).l = if m < 0 then classL l.length (cidAt l) R m else inG R (cidAt l) l.length m) := ⟨HG.out.1, fun m hm => by rw [if_neg (Nat.not_lt_zero m)]; exact HG.out.2 m hm⟩
              rw [← hw6] at HG4 ⊢
              clear hw6 HG wr
              go_wp2_with fail
              go_loopw [94] (fun a wr => ∃ (i : Nat) (gs : List GrpM), i ≤ l.length ∧ a = .int .i64 (i : Int) ∧ Kept (GSt w wr V l.length up B gs ∧ ∀ m, m < l.length → (gs.getD m gz).l = if m < i then classL l.length (cidAt l) R m else inG R (cidAt l) l.length m)) (fun a _ => l.length - (intOf a).toNat)
              case atStart => exact ⟨0, gs, Nat.zero_le _, rfl, HG4⟩
              case round =>
                clear HG4
                obtain ⟨i, gs, hi, rfl, HG⟩ := hrel
                have hgl := HG.out.1.len
                by_cases hlt : i < l.length
                · have hin : (i : Int) < (l.length : Int) := by omega
                  obtain ⟨g, hg⟩ : ∃ g, gs[i]? = some g := ⟨_, List.getElem?_eq_getElem (by omega)⟩
                  obtain ⟨r0, e0, -, c0, -, -⟩ := grp_spot HG.out.1.2.2.1 (k := i) (by omega)
                  obtain rfl : B = r0 := congrArg Addr.block (Option.some.inj e0)
                  have hgd := getD_of (z := gz) hg
                  rw [hgd] at c0
                  have hgo := HG.out.1.2.2.2.1 g (List.mem_of_getElem? hg)
                  have hgi : g.l.length ≤ 10 := by
                    have h1 := HG.out.2 i hlt
                    rw [hgd, if_neg (Nat.lt_irrefl i)] at h1
                    rw [h1]
                    exact Nat.le_trans (inG_len _ _ _ _) hn
                  have HG1 := kept HG.out.1
                  have HNX := kept (fun g' (h : g'.l = normL g.l) => norm_next (g' := g') hgl hlt HG.out.2 (by rw [hgd]; exact h))
                  have HGG := kept hg
                  have CS := kept (SortW.sort_small B g.A g.c g.l wr hgo (by omega))
                  have CC := kept (fun (q : List Nat) (W : World) (hq : q.length = g.l.length) (ho : Own W B 28 (.slice g.A g.l.length g.c) (WB q)) => SortW.compact_own B g.A g.c q W (by rw [hq]; exact ho) (by omega))
                  have hrow := (HG.out.1.2.2.1.lt B rfl).2
                  clear hg hgo hgd HG e0
                  obtain ⟨gA, gll, gc⟩ := g
                  unfold GrpM.val at c0
                  dsimp only at c0 HNX CS CC hgi
                  go_wp2_with fail
                  refine CS.out.mono ?_
                  rintro e w7 ⟨rfl, q, hqp, hqs, hqo, hqu⟩
                  have hql := hqp.length_eq
                  have HG2 := kept (HG1.out.same (g' := ⟨gA, q, gc⟩) HGG.out hqu (by show Own _ _ _ (.slice gA q.length gc) _; rw [hql]; exact hqo) (by show Value.slice gA q.length gc = Value.slice gA gll.length gc; rw [hql]))
                  have hq2 : (gs.set i ⟨gA, q, gc⟩)[i]? = some ⟨gA, q, gc⟩ := by rw [List.getElem?_set_self (by omega)]
                  have CC2 := CC.out q w7 hql hqo
                  rw [hql] at CC2
                  have HCC := kept CC2
                  have HQ2 := kept hq2
                  have HDD := kept (dd_norm hqp hqs)
                  have HQL := kept hql
                  clear CC2 hq2 hqp hqs hqo hqu CS CC hql c0
                  go_wp2_with fail
                  refine HCC.out.mono ?_
                  rintro e w8 ⟨rfl, ho8, hu8⟩
                  obtain ⟨h1, h2, h3⟩ := HG2.out.put (g' := ⟨gA, SortW.dd q, gc⟩) HQ2.out (by show Upd (fun k => (Value.slice gA q.length gc).ownBlock = some k) w7 w8; rw [HQL.out]; exact hu8) ho8 (fun k hk => .inl (by unfold GrpM.val at hk ⊢; dsimp only at hk ⊢; cases gA <;> exact hk))
                  rw [List.set_set] at h3
                  obtain ⟨⟨u9, c9⟩, f9, s9⟩ := GSt.store h1 HG2.out.2.1 h2 (by rw [List.set_set]; exact h3) (by rw [List.length_set]; omega)
                  rw [List.set_set] at s9
                  have HG3 := kept s9
                  have HN3 := kept (HNX.out ⟨gA, SortW.dd q, gc⟩ HDD.out)
                  clear h1 h2 h3 s9 ho8 hu8 HCC HG2 HNX HG1 HGG HQ2
                  unfold GrpM.val at HG3
                  dsimp only at HG3
                  go_wp2_with fail
                  go_roundw
                  case rel => exact ⟨i + 1, gs.set i ⟨gA, SortW.dd q, gc⟩, by omega, by go_num, ⟨HG3.out, HN3.out⟩⟩
                  case measure => simp [intOf]; omega
                · obtain rfl : i = l.length := by omega
                  have hge : ¬ (l.length : Int) < (l.length : Int) := by omega
                  obtain ⟨w6, hw6⟩ : ∃ w6 : World, w6 = wr := ⟨_, rfl⟩
                  rw [← hw6] at HG ⊢
                  clear hw6 wr
                  have HC : Kept (∀ m, m < l.length → (gs.getD m gz).l = classL l.length (cidAt l) R m) := ⟨fun m hm => by rw [HG.out.2 m hm, if_pos hm]⟩
                  have HGS := kept HG.out.1
                  have hown : grpE.Own w6 B 49 (.slice (some ⟨B, 0, none⟩) gs.length l.length) gs := by rw [hgl]; exact HG.out.1.2.2.1
                  have hbB : B ≤ w6.heap.size := Nat.le_of_lt (hown.lt B rfl).2
                  have CD := gdel_any B (some ⟨B, 0, none⟩) l.length gs w6 hown hbB (by omega)
                  rw [hgl] at CD
                  have HCD := kept CD
                  have HBB := kept hbB
                  clear HG CD hown hbB
                  go_wp2_with fail
                  refine HCD.out.mono ?_
                  rintro e w7 ⟨A7, c7, rfl, ho7, hu7⟩
                  have hgo7 := HGS.out.2.2.2.row HGS.out.2.2.1 hu7
                  have hbl : (big2 gs).length ≤ 10 := by
                    have : (big2 gs).length ≤ gs.length := List.length_filter_le _ _
                    omega
                  have hsub : ∀ g ∈ big2 gs, g ∈ gs := fun g hg => (List.mem_filter.1 hg).1
                  have CS := kept (sortg_own B A7 c7 (big2 gs) w7 ho7 (by omega) (fun W hW g hg => hgo7.reads ho7 hW g (hsub g hg)) (fun g hg => by
                    obtain ⟨m, hm⟩ := List.getElem?_of_mem (hsub g hg)
                    have hml := (List.getElem?_eq_some_iff.1 hm).1
                    have h1 := HC.out m (by omega)
                    rw [getD_of hm] at h1
                    rw [h1]
                    refine Nat.le_trans (norm_len _) (Nat.le_trans ?_ (show 10 ≤ 1000000000 by omega))
                    exact Nat.le_trans (inG_len _ _ _ _) hn))
                  have HB7 : Kept (Below w.heap.size w w7) := ⟨HGS.out.below.trans (hu7.below HGS.out.below.size fun k _ e => by
                    obtain rfl : B = k := Option.some.inj e
                    have h1 := HGS.out.2.1
                    have h2 := HGS.out.1.1.2
                    omega)⟩
                  have HGO := kept (And.intro hgo7 ho7)
                  have HVB := kept (And.intro HGS.out.2.1 HGS.out.1.1.2)
                  have HFN := kept (fun (l' : List GrpM) (hp : l'.Perm (big2 gs)) (hs : l'.Pairwise leG) => groups_fin hgl HC.out hp hs)
                  rw [← HRR.out] at HFN
                  have HSUB := kept hsub
                  clear hsub HCD HGS hgo7 ho7 hu7 HC
                  generalize hbg : big2 gs = bg at *
                  clear hbg
                  go_wp2_with fail
                  refine CS.out.mono ?_
                  rintro e w8 ⟨rfl, q, hqp, hqs, hqo, hqu⟩
                  have HRD : Kept (RdG w8 A7 q) := ⟨by
                    have hq2 : grpE.Own w8 B 49 (.slice A7 q.length c7) q := by rw [hqp.length_eq]; exact hqo
                    exact ⟨hq2.rd, fun g hg => HGO.out.1.reads HGO.out.2 hqu g (HSUB.out g (hqp.mem_iff.1 hg))⟩⟩
                  have HB8 : Kept (Below w.heap.size w w8) := ⟨HB7.out.trans (hqu.below HB7.out.size fun k _ e => by
                    have h1 := (HGO.out.2.lt k e).1
                    have h2 := HVB.out
                    omega)⟩
                  have HQL := kept hqp.length_eq
                  have HQF := kept (HFN.out q hqp hqs)
                  have HQC := kept hqo.cap
                  clear hqp hqs hqo hqu CS HFN HB7 HGO
                  go_wp2_with fail
                  go_ret
                  rw [← HQF.out]
                  exact ⟨A7, c7, q, by rw [HQL.out]; rfl, rfl, HQC.out, HRD.out, HB8.out⟩
end Go.Proofs.YtfkfpanhbanljaaGreatDoor.Twin
