/- The law CardTells, as a walk.  -/
import Derived.Test.YtijdkbejlaebhaaCardRGood
import Derived.Test.YtijdkbejlaebhaaCardLawA
import Derived.Deep.RegionHeld3
namespace Go.Proofs.Ytijdkbejlaebhaa.Card
open Go.RowKit Go.Proofs.Ytijdkbejlaebhaa.Mem

set_option maxHeartbeats 4000000 in
theorem tells_law (x : CardM) (f : Nat) (w : World) (hx : x.Ok w w.heap.size) (hs : ∀ z ∈ x.ls, z.t.size ≤ 140737488355328 ∧ ∀ y ∈ z.m, y.size ≤ 9223372036854775807) :
    Calls Try.prog 7 #[x.val, .int .u8 (f : Int)] w fun e w' => e = .returned (.bool true) ∧ Below w.heap.size w w' := by
  have k0 := Blk.new w x.cells 38
  have hb0 := (Below.refl w.heap.size w).alloc (Nat.le_refl _) (.cells #[.int .u64 (x.cid : Int), .slice x.X x.ls.length x.c] 38)
  have L1 := kept (fun W h => line_any x f W h)
  have L2 := kept (fun W h => rline_any x f W h)
  unfold CardM.val at *
  go_enter Try.func7, Try.ntmps7
  go_upto_region 1 with fail
  obtain ⟨w1, hw1⟩ : ∃ w1, w.alloc (.cells #[.int .u64 (x.cid : Int), .slice x.X x.ls.length x.c] 38) = w1 := ⟨_, rfl⟩
  have k1 : Blk w1 w.heap.size x.cells 38 := by rw [← hw1]; exact k0
  have hb1 : Below w.heap.size w w1 := by rw [← hw1]; exact hb0
  rw [hw1]
  clear hw1 k0 hb0
  have c0 := k1.cell (j := 0) rfl
  have c1 := k1.cell (j := 1) rfl
  go_wp2_with fail
  have KB := kept k1
  have HB1 := kept hb1
  obtain ⟨v, hv⟩ : ∃ v, (lineOf f x.ls).isSome = v := ⟨_, rfl⟩
  obtain ⟨z0, hz0⟩ : ∃ z0, (lineOf f x.ls).getD zeroL = z0 := ⟨_, rfl⟩
  have hok1 : ∀ W, Below w.heap.size w W → x.Ok W W.heap.size := fun W h => hx.next h
  have hzok : ∀ W, Below w.heap.size w W → z0.Ok W W.heap.size := fun W h => by rw [← hz0]; exact lineOf_ok f (hx.next h)
  refine (L1.out _ (hok1 _ hb1)).mono ?_
  rintro e w2 ⟨⟨yf, yt, yA, ym, yc⟩, rfl, hyp, hyf, hym, hyo, hx2⟩
  rw [hv]
  rw [hz0] at hyp
  unfold LineM.val
  dsimp only at hyf hym hyo ⊢
  have hb2 := below_next hb1 hx2
  have hyo2 := hyo.cap
  have ky := Blk.new w2 [.int .u8 (yf : Int), .string yt, .slice yA ym.length yc] 45
  have hb3 := below_new hb2 (.cells #[.int .u8 (yf : Int), .string yt, .slice yA ym.length yc] 45)
  have kc3 := (k1.next hx2).alloc (.cells #[.int .u8 (yf : Int), .string yt, .slice yA ym.length yc] 45)
  have hry := (strE_rd.1 hyo.rd).next ((Below.refl w2.heap.size w2).alloc (Nat.le_refl _) (.cells #[.int .u8 (yf : Int), .string yt, .slice yA ym.length yc] 45))
  have c0 := kc3.cell (j := 0) rfl
  have c1 := kc3.cell (j := 1) rfl
  have hlw := kc3.lt
  clear k1 hb1 hx2 hb2 hyo
  go_wp2_with fail
  refine (L2.out _ (hok1 _ hb3)).mono ?_
  rintro e w4 ⟨rfl, hx4⟩
  rw [hv, hz0]
  obtain ⟨zf, zt, zA, zm, zc⟩ := z0
  unfold LineM.val
  dsimp only
  have hb4 := below_next hb3 hx4
  have hb5 := below_new hb4 (.cells #[.int .u8 (zf : Int), .string zt, .slice zA zm.length zc] 45)
  have kz := Blk.new w4 [.int .u8 (zf : Int), .string zt, .slice zA zm.length zc] 45
  have ky5 := (ky.next hx4).alloc (.cells #[.int .u8 (zf : Int), .string zt, .slice zA zm.length zc] 45)
  have kc5 := (kc3.next hx4).alloc (.cells #[.int .u8 (zf : Int), .string zt, .slice zA zm.length zc] 45)
  have hry5 := (hry.next hx4).next ((Below.refl w4.heap.size w4).alloc (Nat.le_refl _) (.cells #[.int .u8 (zf : Int), .string zt, .slice zA zm.length zc] 45))
  go_upto_region 3 with fail
  obtain ⟨wb, hwb⟩ : ∃ wb, w4.alloc (.cells #[.int .u8 (zf : Int), .string zt, .slice zA zm.length zc] 45) = wb := ⟨_, rfl⟩
  rw [hwb] at hb5 kz ky5 kc5 hry5 ⊢
  have hokb : ∀ W, Below wb.heap.size wb W → x.Ok W W.heap.size := fun W h => hok1 W (below_next hb5 h)
  have C45 := kept (fun W h => cgood_any x W (hokb W h))
  have C46 := kept (fun W h => rcgood_any x W (hokb W h) (fun z hz => ⟨Nat.le_trans (hs z hz).1 (by decide), (hs z hz).2⟩))
  have C48 := kept (fun W h => title_any x W (hokb W h))
  have C49 := kept (fun W h => rtitle_any x W (hokb W h))
  have C50 := kept (fun W h => odds_any x W (hokb W h))
  have C51 := kept (fun W h => rodds_any x W (hokb W h))
  have hzb : LineM.Ok wb wb.heap.size ⟨zf, zt, zA, zm, zc⟩ := hzok wb hb5
  have CL : Kept (∀ (W : World) (g1 g2 : Nat), Blk W g1 [.int .u8 (yf : Int), .string yt, .slice yA ym.length yc] 45 → Blk W g2 [.int .u8 (zf : Int), .string zt, .slice zA zm.length zc] 45 → Below wb.heap.size wb W →
      Calls Try.prog 47 #[.slice (some ⟨g1, 0, none⟩) 1 1, .slice (some ⟨g2, 0, none⟩) 1 1] W fun e w' => e = .returned (.bool true) ∧ Below W.heap.size W w') := ⟨fun W g1 g2 h1 h2 h3 => by
    have r1 : RdLines W W.heap.size (some ⟨g1, 0, none⟩) [⟨yf, yt, yA, ym, yc⟩] := ⟨h1.rd, fun u hu => by
      rcases List.mem_singleton.1 hu with rfl
      exact ⟨hry5.next h3, hyf, by have := hyo2; exact this, hym⟩⟩
    have r2 : RdLines W W.heap.size (some ⟨g2, 0, none⟩) [⟨zf, zt, zA, zm, zc⟩] := ⟨h2.rd, fun u hu => by
      rcases List.mem_singleton.1 hu with rfl
      exact hzb.next h3⟩
    refine (rlines_any (some ⟨g1, 0, none⟩) (some ⟨g2, 0, none⟩) 1 1 1 1 _ _ W rfl rfl r1 r2 (by simp)).mono ?_
    rintro e w' ⟨rfl, q, rfl⟩
    refine ⟨?_, below_draw _ W q⟩
    rw [decide_eq_true (by simp [hyp])]⟩
  have HS : Kept (∀ W, Below wb.heap.size wb W → W.cell? ⟨w.heap.size, 0, none⟩ = some (.int .u64 (x.cid : Int)) ∧ W.cell? ⟨w.heap.size, 1, none⟩ = some (.slice x.X x.ls.length x.c) ∧ W.cell? ⟨w2.heap.size, 0, none⟩ = some (.int .u8 (yf : Int)) ∧ W.cell? ⟨w2.heap.size, 1, none⟩ = some (.string yt) ∧ W.cell? ⟨w2.heap.size, 2, none⟩ = some (.slice yA ym.length yc) ∧ W.cell? ⟨w4.heap.size, 0, none⟩ = some (.int .u8 (zf : Int)) ∧ W.cell? ⟨w4.heap.size, 1, none⟩ = some (.string zt) ∧ W.cell? ⟨w4.heap.size, 2, none⟩ = some (.slice zA zm.length zc)) := ⟨fun W h => ⟨(kc5.next h).cell (j := 0) rfl, (kc5.next h).cell (j := 1) rfl, (ky5.next h).cell (j := 0) rfl, (ky5.next h).cell (j := 1) rfl, (ky5.next h).cell (j := 2) rfl, (kz.next h).cell (j := 0) rfl, (kz.next h).cell (j := 1) rfl, (kz.next h).cell (j := 2) rfl⟩⟩
  have hlc := kc5.lt
  have hly := ky5.lt
  have hlz := kz.lt
  have HB5 := kept hb5
  obtain ⟨s0, s1, s2, s3, s4, s5, s6, s7⟩ := HS.out wb (Below.refl _ _)
  have hd0 : Below wb.heap.size wb wb := Below.refl _ _
  have hd1 : Below wb.heap.size wb wb.drew := (Below.refl _ _).drew
  clear hx hs hzok hok1 hokb hb3 hb4 hb5 hx4 kz ky ky5 kc3 kc5 hry hry5 hzb hwb c0 c1 hyp hv hz0
  unfold CardM.val at C45 C46 C48 C49 C50 C51
  generalize cardGood x = gd at *
  generalize titleOf x.ls = tt at *
  generalize oddsN x.ls = od at *
  go_region_held3 (fun W => W.cell? ⟨w.heap.size, 0, none⟩ = some (.int .u64 (x.cid : Int)) ∧ W.cell? ⟨w.heap.size, 1, none⟩ = some (.slice x.X x.ls.length x.c) ∧ W.cell? ⟨w2.heap.size, 0, none⟩ = some (.int .u8 (yf : Int)) ∧ W.cell? ⟨w2.heap.size, 1, none⟩ = some (.string yt) ∧ W.cell? ⟨w2.heap.size, 2, none⟩ = some (.slice yA ym.length yc) ∧ W.cell? ⟨w4.heap.size, 0, none⟩ = some (.int .u8 (zf : Int)) ∧ W.cell? ⟨w4.heap.size, 1, none⟩ = some (.string zt) ∧ W.cell? ⟨w4.heap.size, 2, none⟩ = some (.slice zA zm.length zc)) (exact HS.out _ (by (repeat (first | with_reducible assumption | with_reducible refine below_new ?_ _ | with_reducible refine Below.drew ?_ | with_reducible exact Below.refl _ _)))) (first
    | (go_at_call 45; ((with_reducible refine (C45.out _ (by (repeat (first | with_reducible assumption | with_reducible refine below_new ?_ _ | with_reducible refine Below.drew ?_ | with_reducible exact Below.refl _ _)))).mono ?_); rintro e x1 ⟨rfl, hx1⟩; have hk1 : Below wb.heap.size wb x1 := below_next (by (repeat (first | with_reducible assumption | with_reducible refine below_new ?_ _ | with_reducible refine Below.drew ?_ | with_reducible exact Below.refl _ _))) hx1; have hz1 := hk1.size))
    | (go_at_call 46; ((with_reducible refine (C46.out _ (by (repeat (first | with_reducible assumption | with_reducible refine below_new ?_ _ | with_reducible refine Below.drew ?_ | with_reducible exact Below.refl _ _)))).mono ?_); rintro e x2 ⟨rfl, hx2⟩; have hk2 : Below wb.heap.size wb x2 := below_next (by (repeat (first | with_reducible assumption | with_reducible refine below_new ?_ _ | with_reducible refine Below.drew ?_ | with_reducible exact Below.refl _ _))) hx2; have hz2 := hk2.size))
    | (go_at_call 47; ((with_reducible refine (CL.out _ _ _ (by (repeat (first | with_reducible assumption | (((with_reducible refine Blk.newAt _ _ _ ?_) <;> simp); done) | with_reducible refine Blk.drew ?_ | with_reducible refine Blk.alloc ?_ _))) (by (repeat (first | with_reducible assumption | (((with_reducible refine Blk.newAt _ _ _ ?_) <;> simp); done) | with_reducible refine Blk.drew ?_ | with_reducible refine Blk.alloc ?_ _))) (by (repeat (first | with_reducible assumption | with_reducible refine below_new ?_ _ | with_reducible refine Below.drew ?_ | with_reducible exact Below.refl _ _)))).mono ?_); rintro e x9 ⟨rfl, hx9⟩; have hk9 : Below wb.heap.size wb x9 := below_next (by (repeat (first | with_reducible assumption | with_reducible refine below_new ?_ _ | with_reducible refine Below.drew ?_ | with_reducible exact Below.refl _ _))) hx9; have hz9 := hk9.size))
    | (go_at_call 48; ((with_reducible refine (C48.out _ (by (repeat (first | with_reducible assumption | with_reducible refine below_new ?_ _ | with_reducible refine Below.drew ?_ | with_reducible exact Below.refl _ _)))).mono ?_); rintro e x3 ⟨rfl, hx3⟩; have hk3 : Below wb.heap.size wb x3 := below_next (by (repeat (first | with_reducible assumption | with_reducible refine below_new ?_ _ | with_reducible refine Below.drew ?_ | with_reducible exact Below.refl _ _))) hx3; have hz3 := hk3.size))
    | (go_at_call 49; ((with_reducible refine (C49.out _ (by (repeat (first | with_reducible assumption | with_reducible refine below_new ?_ _ | with_reducible refine Below.drew ?_ | with_reducible exact Below.refl _ _)))).mono ?_); rintro e x4 ⟨rfl, hx4⟩; have hk4 : Below wb.heap.size wb x4 := below_next (by (repeat (first | with_reducible assumption | with_reducible refine below_new ?_ _ | with_reducible refine Below.drew ?_ | with_reducible exact Below.refl _ _))) hx4; have hz4 := hk4.size))
    | (go_at_call 50; ((with_reducible refine (C50.out _ (by (repeat (first | with_reducible assumption | with_reducible refine below_new ?_ _ | with_reducible refine Below.drew ?_ | with_reducible exact Below.refl _ _)))).mono ?_); rintro e x5 ⟨rfl, hx5⟩; have hk5 : Below wb.heap.size wb x5 := below_next (by (repeat (first | with_reducible assumption | with_reducible refine below_new ?_ _ | with_reducible refine Below.drew ?_ | with_reducible exact Below.refl _ _))) hx5; have hz5 := hk5.size))
    | (go_at_call 51; ((with_reducible refine (C51.out _ (by (repeat (first | with_reducible assumption | with_reducible refine below_new ?_ _ | with_reducible refine Below.drew ?_ | with_reducible exact Below.refl _ _)))).mono ?_); rintro e x6 ⟨rfl, hx6⟩; have hk6 : Below wb.heap.size wb x6 := below_next (by (repeat (first | with_reducible assumption | with_reducible refine below_new ?_ _ | with_reducible refine Below.drew ?_ | with_reducible exact Below.refl _ _))) hx6; have hz6 := hk6.size))
    | (go_at_call 44; ((with_reducible refine (works_any _).mono ?_); rintro e x7 ⟨rfl, hx7⟩; have hk7 : Below wb.heap.size wb x7 := below_next (by (repeat (first | with_reducible assumption | with_reducible refine below_new ?_ _ | with_reducible refine Below.drew ?_ | with_reducible exact Below.refl _ _))) hx7; have hz7 := hk7.size)))
  all_goals (go_wp2_with fail)
  all_goals go_ret
  all_goals exact ⟨rfl, below_next HB5.out hk7⟩
end Go.Proofs.Ytijdkbejlaebhaa.Card
