/- Whether a card may be: card.Good. -/
import Derived.Test.YtnmcclkpgbdenaaSet11
import Derived.Test.YtnmcclkpgbdenaaCardLine
import Derived.Deep.RegionHeld3
namespace Go.Proofs.Ytnmcclkpgbdenaa.Card
open Go.RowKit Go.Proofs.Ytnmcclkpgbdenaa.Mem Go.Proofs.Ytnmcclkpgbdenaa.Shift

theorem wrap_small (j : Nat) (h : (j : Int) < 9223372036854775808) : IntKind.i64.wrap (j : Int) = (j : Int) := by
  have e : (j : Int) % 2 ^ IntKind.i64.bits = j := Int.emod_eq_of_lt (by omega) (by show (j : Int) < 18446744073709551616; omega)
  have e2 : ¬ ((j : Int) ≥ 2 ^ (IntKind.i64.bits - 1)) := by
    show ¬ ((j : Int) ≥ 9223372036854775808)
    omega
  simp only [IntKind.wrap]
  rw [e, decide_eq_false e2, Bool.and_false, if_neg (by decide)]
/-- the line at a place may stand there -/
def lineAt (ls : List LineM) (k : Nat) : Bool :=
  lineGood (ls.getD k zeroL).f (ls.getD k zeroL).t (ls.getD k zeroL).m && (k == 0 || decide ((ls.getD (k - 1) zeroL).f < (ls.getD k zeroL).f))
def linesOk (ls : List LineM) : Bool := (List.range ls.length).all (lineAt ls)
def LinesUp (ls : List LineM) (k : Nat) : Prop := ∀ i, i < k → lineAt ls i = true
theorem linesUp_zero (ls : List LineM) : LinesUp ls 0 := fun _ h => absurd h (Nat.not_lt_zero _)
theorem linesUp_step {ls : List LineM} {k : Nat} (h : LinesUp ls k) (h1 : lineAt ls k = true) : LinesUp ls (k + 1) := fun i hi => by
  by_cases e : i = k
  · rw [e]; exact h1
  · exact h i (by omega)
theorem lines_full {ls : List LineM} {k : Nat} (hk : ¬ k < ls.length) (h : LinesUp ls k) : linesOk ls = true := by
  unfold linesOk
  rw [List.all_eq_true]
  intro i hi
  exact h i (by have := List.mem_range.1 hi; omega)
theorem lines_bad {ls : List LineM} {k : Nat} (hk : k < ls.length) (h : lineAt ls k = false) : linesOk ls = false := by
  unfold linesOk
  rw [List.all_eq_false]
  exact ⟨k, List.mem_range.2 hk, by rw [h]; decide⟩
def cardGood (x : CardM) : Bool := linesOk x.ls && (dotOk (devN x.cid) (lowN x.cid) && decide (0 < x.ls.length))
set_option maxHeartbeats 4000000 in
theorem cgood_any (x : CardM) (w : World) (hx : x.Ok w w.heap.size) :
    Calls Try.prog 40 #[x.val] w fun e w' => e = .returned (.bool (cardGood x)) ∧ Below w.heap.size w w' := by
  obtain ⟨xcid, xX, xls, xc⟩ := x
  obtain ⟨hx1, hx2, hx3, hx4⟩ := hx
  dsimp only at hx1 hx2 hx3 hx4 ⊢
  have k0 := Blk.new w [.int .u64 (xcid : Int), .slice xX xls.length xc] 38
  have hb0 := (Below.refl w.heap.size w).alloc (Nat.le_refl _) (.cells #[.int .u64 (xcid : Int), .slice xX xls.length xc] 38)
  unfold CardM.val
  go_enter Try.func40, Try.ntmps40
  go_upto_region 1 with fail
  obtain ⟨w1, hw1⟩ : ∃ w1, w.alloc (.cells #[.int .u64 (xcid : Int), .slice xX xls.length xc] 38) = w1 := ⟨_, rfl⟩
  have k1 : Blk w1 w.heap.size [.int .u64 (xcid : Int), .slice xX xls.length xc] 38 := by rw [← hw1]; exact k0
  have hb1 : Below w.heap.size w w1 := by rw [← hw1]; exact hb0
  rw [hw1]
  clear hw1 k0 hb0
  have c1 := k1.cell (j := 1) rfl
  have KC : Kept (∀ W, Below w1.heap.size w1 W → Blk W w.heap.size [.int .u64 (xcid : Int), .slice xX xls.length xc] 38) := ⟨fun W h => k1.next h⟩
  have KR : Kept (∀ W, Below w1.heap.size w1 W → RdLines W W.heap.size xX xls) := ⟨fun W h => (hx2.next hb1).next h⟩
  have HB1 := kept hb1
  have hlw : w.heap.size < w1.heap.size := k1.lt
  clear hb1 k1 hx2
  go_wp2
  go_loopw [10] (fun i wr => ∃ k : Nat, k ≤ xls.length ∧ i = .int .i64 (k : Int) ∧ Kept (LinesUp xls k) ∧ Below w1.heap.size w1 wr) (fun i _ => xls.length - (intOf i).toNat)
  case atStart => exact ⟨0, Nat.zero_le _, rfl, ⟨linesUp_zero xls⟩, Below.refl _ _⟩
  case round =>
    obtain ⟨k, hk, rfl, hup, hbr⟩ := hrel
    clear c1
    by_cases hlt : k < xls.length
    · have hkn : (k : Int) < (xls.length : Int) := by omega
      obtain ⟨z, hz⟩ : ∃ z, xls[k]? = some z := ⟨_, List.getElem?_eq_getElem hlt⟩
      obtain ⟨b1, o1, hX, hbb, hz1, hz2, hz3, hzo⟩ := (KR.out wr hbr).at_ hz
      obtain ⟨p, hp⟩ : ∃ p, xls[k - 1]? = some p := ⟨_, List.getElem?_eq_getElem (by omega)⟩
      have hbr' := hbr
      have HBR := kept hbr'
      obtain ⟨zf, zt, zA, zm, zc⟩ := z
      dsimp only at hz1 hz2 hz3 hzo
      obtain rfl := hX
      clear hbr hbr'
      go_upto_region 4 with fail
      have ka := Blk.new wr [.int .u8 (zf : Int), .string zt, .slice zA zm.length zc] 41
      have hbx := below_new HBR.out (.cells #[.int .u8 (zf : Int), .string zt, .slice zA zm.length zc] 41)
      have hzx := (LineM.Ok.next (x := ⟨zf, zt, zA, zm, zc⟩) hzo ((Below.refl wr.heap.size wr).alloc (Nat.le_refl _) (.cells #[.int .u8 (zf : Int), .string zt, .slice zA zm.length zc] 41)))
      obtain ⟨wx, hwx⟩ : ∃ wx, wr.alloc (.cells #[.int .u8 (zf : Int), .string zt, .slice zA zm.length zc] 41) = wx := ⟨_, rfl⟩
      rw [hwx] at ka hbx hzx ⊢
      have hlr : wr.heap.size < wx.heap.size := ka.lt
      have hlx := hbx.size
      have CL := kept (fun (W : World) (h : Below wx.heap.size wx W) => cline_any ⟨zf, zt, zA, zm, zc⟩ W (hzx.next h))
      have HS : Kept (∀ W, Below wx.heap.size wx W → W.cell? ⟨wr.heap.size, 0, none⟩ = some (.int .u8 (zf : Int)) ∧ W.cell? ⟨wr.heap.size, 1, none⟩ = some (.string zt) ∧ W.cell? ⟨wr.heap.size, 2, none⟩ = some (.slice zA zm.length zc) ∧ W.cell? ⟨w.heap.size, 1, none⟩ = some (.slice (some ⟨b1, o1, none⟩) xls.length xc) ∧ W.cell? ⟨b1, o1 + (k - 1) * 3, none⟩ = some (.int .u8 (p.f : Int))) := ⟨fun W h => by
        have hk3 := ka.next h
        have hw3 := KC.out W (below_next hbx h)
        obtain ⟨b2, o2, hbo, _, hp1, _⟩ := (KR.out W (below_next hbx h)).at_ hp
        injection hbo with hbo
        injection hbo with hbb hoo _
        subst hbb hoo
        exact ⟨hk3.cell (j := 0) rfl, hk3.cell (j := 1) rfl, hk3.cell (j := 2) rfl, hw3.cell (j := 1) rfl, hp1⟩⟩
      obtain ⟨s0, s1, s2, s3, s4⟩ := HS.out wx (Below.refl _ _)
      have HBX := kept hbx
      have hwx0 : Below wx.heap.size wx wx := Below.refl _ _
      have hwx1 : Below wx.heap.size wx wx.drew := (Below.refl _ _).drew
      have HST : Kept (lineAt xls k = true → LinesUp xls (k + 1)) := ⟨fun h => linesUp_step hup.out h⟩
      have HBD : Kept (lineAt xls k = false → cardGood ⟨xcid, some ⟨b1, o1, none⟩, xls, xc⟩ = false) := ⟨fun h => by unfold cardGood; rw [lines_bad hlt h, Bool.false_and]⟩
      have hpk : lineAt xls k = (lineGood zf zt zm && (k == 0 || decide (p.f < zf))) := by
        unfold lineAt
        simp only [List.getD, hz, hp, Option.getD_some]
      have HPK := kept hpk
      clear hz1 hz2 hz3 hzo hz hp ka hbx hzx hwx KR KC hpk hup
      unfold LineM.val at CL
      dsimp only at CL
      cases h1 : lineGood zf zt zm with
      | false =>
        rw [h1] at CL
        have HF := kept (HBD.out (by rw [HPK.out, h1, Bool.false_and]))
        clear h1 HPK HST HBD
        refine wp_region_any (by kernel_rfl) ?_
        change wpAny _ _ _ _ _ _ _ (World.drew _)
        refine wpAny_ready (rs := [0]) (by kernel_rfl) (by simp) ?_
        refine AllReady.cons rfl (fun K hK => ?_) AllReady.nil
        go_simp
        go_wp2_with fail
        try simp only [Act.put, List.setIfInBounds_toArray, List.set_cons_zero, List.set_cons_succ, List.getElem_toArray, List.getElem_cons_zero, List.getElem_cons_succ]
        refine wpAny_ready (rs := [1]) (by kernel_rfl) (by simp) ?_
        refine AllReady.cons rfl (fun K hK => ?_) AllReady.nil
        go_simp
        go_wp2_with (go_at_call 67; refine (CL.out _ (by assumption)).mono ?_; rintro e x1 ⟨rfl, hx1⟩; have hk1 : Below wx.heap.size wx x1 := below_next (by assumption) hx1; have hz1 := hk1.size)
        try simp only [Act.put, List.setIfInBounds_toArray, List.set_cons_zero, List.set_cons_succ, List.getElem_toArray, List.getElem_cons_zero, List.getElem_cons_succ]
        refine wpAny_take (i := 2) (v := ?_) rfl (by kernel_rfl) (by kernel_rfl) (by kernel_rfl) (fun _ _ _ h => h) (Or.inl ⟨by rfl, ?_⟩) ?_
        case refine_2 => (intro w; go_simp; try with_reducible rfl)
        try simp only [Act.put, List.setIfInBounds_toArray, List.set_cons_zero, List.set_cons_succ, List.getElem_toArray, List.getElem_cons_zero, List.getElem_cons_succ]
        refine wpAny_take (i := 3) (v := ?_) rfl (by kernel_rfl) (by kernel_rfl) (by kernel_rfl) (fun _ _ _ h => h) (Or.inl ⟨by rfl, ?_⟩) ?_
        case refine_2 => (intro w; go_simp; try with_reducible rfl)
        try simp only [Act.put, List.setIfInBounds_toArray, List.set_cons_zero, List.set_cons_succ, List.getElem_toArray, List.getElem_cons_zero, List.getElem_cons_succ]
        refine wpAny_take (i := 4) (v := undef) rfl (by kernel_rfl) (by kernel_rfl) (by kernel_rfl) (fun _ _ _ h => h) (Or.inr ⟨by rfl, rfl⟩) ?_
        try simp only [Act.put, List.setIfInBounds_toArray, List.set_cons_zero, List.set_cons_succ, List.getElem_toArray, List.getElem_cons_zero, List.getElem_cons_succ]
        refine wpAny_take (i := 5) (v := undef) rfl (by kernel_rfl) (by kernel_rfl) (by kernel_rfl) (fun _ _ _ h => h) (Or.inr ⟨by rfl, rfl⟩) ?_
        try simp only [Act.put, List.setIfInBounds_toArray, List.set_cons_zero, List.set_cons_succ, List.getElem_toArray, List.getElem_cons_zero, List.getElem_cons_succ]
        refine wpAny_take (i := 6) (v := undef) rfl (by kernel_rfl) (by kernel_rfl) (by kernel_rfl) (fun _ _ _ h => h) (Or.inr ⟨by rfl, rfl⟩) ?_
        try simp only [Act.put, List.setIfInBounds_toArray, List.set_cons_zero, List.set_cons_succ, List.getElem_toArray, List.getElem_cons_zero, List.getElem_cons_succ]
        refine wpAny_take (i := 7) (v := undef) rfl (by kernel_rfl) (by kernel_rfl) (by kernel_rfl) (fun _ _ _ h => h) (Or.inr ⟨by rfl, rfl⟩) ?_
        try simp only [Act.put, List.setIfInBounds_toArray, List.set_cons_zero, List.set_cons_succ, List.getElem_toArray, List.getElem_cons_zero, List.getElem_cons_succ]
        refine wpAny_take (i := 8) (v := undef) rfl (by kernel_rfl) (by kernel_rfl) (by kernel_rfl) (fun _ _ _ h => h) (Or.inr ⟨by rfl, rfl⟩) ?_
        try simp only [Act.put, List.setIfInBounds_toArray, List.set_cons_zero, List.set_cons_succ, List.getElem_toArray, List.getElem_cons_zero, List.getElem_cons_succ]
        refine wpAny_take (i := 9) (v := undef) rfl (by kernel_rfl) (by kernel_rfl) (by kernel_rfl) (fun _ _ _ h => h) (Or.inr ⟨by rfl, rfl⟩) ?_
        try simp only [Act.put, List.setIfInBounds_toArray, List.set_cons_zero, List.set_cons_succ, List.getElem_toArray, List.getElem_cons_zero, List.getElem_cons_succ]
        refine wpAny_take (i := 10) (v := undef) rfl (by kernel_rfl) (by kernel_rfl) (by kernel_rfl) (fun _ _ _ h => h) (Or.inr ⟨by rfl, rfl⟩) ?_
        try simp only [Act.put, List.setIfInBounds_toArray, List.set_cons_zero, List.set_cons_succ, List.getElem_toArray, List.getElem_cons_zero, List.getElem_cons_succ]
        refine wpAny_take (i := 11) (v := undef) rfl (by kernel_rfl) (by kernel_rfl) (by kernel_rfl) (fun _ _ _ h => h) (Or.inr ⟨by rfl, rfl⟩) ?_
        try simp only [Act.put, List.setIfInBounds_toArray, List.set_cons_zero, List.set_cons_succ, List.getElem_toArray, List.getElem_cons_zero, List.getElem_cons_succ]
        refine wpAny_take (i := 12) (v := undef) rfl (by kernel_rfl) (by kernel_rfl) (by kernel_rfl) (fun _ _ _ h => h) (Or.inr ⟨by rfl, rfl⟩) ?_
        try simp only [Act.put, List.setIfInBounds_toArray, List.set_cons_zero, List.set_cons_succ, List.getElem_toArray, List.getElem_cons_zero, List.getElem_cons_succ]
        refine wpAny_take (i := 13) (v := undef) rfl (by kernel_rfl) (by kernel_rfl) (by kernel_rfl) (fun _ _ _ h => h) (Or.inr ⟨by rfl, rfl⟩) ?_
        try simp only [Act.put, List.setIfInBounds_toArray, List.set_cons_zero, List.set_cons_succ, List.getElem_toArray, List.getElem_cons_zero, List.getElem_cons_succ]
        refine wpAny_take (i := 14) (v := undef) rfl (by kernel_rfl) (by kernel_rfl) (by kernel_rfl) (fun _ _ _ h => h) (Or.inr ⟨by rfl, rfl⟩) ?_
        try simp only [Act.put, List.setIfInBounds_toArray, List.set_cons_zero, List.set_cons_succ, List.getElem_toArray, List.getElem_cons_zero, List.getElem_cons_succ]
        refine wpAny_take (i := 15) (v := undef) rfl (by kernel_rfl) (by kernel_rfl) (by kernel_rfl) (fun _ _ _ h => h) (Or.inr ⟨by rfl, rfl⟩) ?_
        try simp only [Act.put, List.setIfInBounds_toArray, List.set_cons_zero, List.set_cons_succ, List.getElem_toArray, List.getElem_cons_zero, List.getElem_cons_succ]
        refine wpAny_take (i := 16) (v := undef) rfl (by kernel_rfl) (by kernel_rfl) (by kernel_rfl) (fun _ _ _ h => h) (Or.inr ⟨by rfl, rfl⟩) ?_
        try simp only [Act.put, List.setIfInBounds_toArray, List.set_cons_zero, List.set_cons_succ, List.getElem_toArray, List.getElem_cons_zero, List.getElem_cons_succ]
        refine wpAny_take (i := 17) (v := undef) rfl (by kernel_rfl) (by kernel_rfl) (by kernel_rfl) (fun _ _ _ h => h) (Or.inr ⟨by rfl, rfl⟩) ?_
        try simp only [Act.put, List.setIfInBounds_toArray, List.set_cons_zero, List.set_cons_succ, List.getElem_toArray, List.getElem_cons_zero, List.getElem_cons_succ]
        refine wpAny_take (i := 18) (v := ?_) rfl (by kernel_rfl) (by kernel_rfl) (by kernel_rfl) (fun _ _ _ h => h) (Or.inl ⟨by rfl, ?_⟩) ?_
        case refine_2 => (intro w; go_simp; try with_reducible rfl)
        try simp only [Act.put, List.setIfInBounds_toArray, List.set_cons_zero, List.set_cons_succ, List.getElem_toArray, List.getElem_cons_zero, List.getElem_cons_succ]
        refine wpAny_done (by kernel_rfl) ?_ _
        go_wp2
        go_ret
        exact ⟨ret_bool HF.out.symm, below_next HB1.out (below_next HBX.out hk1)⟩
      | true =>
        rw [h1] at CL
        by_cases hk0 : k = 0
        · have h3 : ¬ ((k : Int) > 0) := by omega
          have h6 : decide (0 < k) = false := decide_eq_false (by omega)
          have HU := kept (HST.out (by rw [HPK.out, h1, hk0]; rfl))
          clear h1 HPK HST HBD hk0
          refine wp_region_any (by kernel_rfl) ?_
          change wpAny _ _ _ _ _ _ _ (World.drew _)
          refine wpAny_ready (rs := [0]) (by kernel_rfl) (by simp) ?_
          refine AllReady.cons rfl (fun K hK => ?_) AllReady.nil
          go_simp
          go_wp2_with fail
          try simp only [Act.put, List.setIfInBounds_toArray, List.set_cons_zero, List.set_cons_succ, List.getElem_toArray, List.getElem_cons_zero, List.getElem_cons_succ]
          refine wpAny_ready (rs := [1]) (by kernel_rfl) (by simp) ?_
          refine AllReady.cons rfl (fun K hK => ?_) AllReady.nil
          go_simp
          go_wp2_with (go_at_call 67; refine (CL.out _ (by assumption)).mono ?_; rintro e x1 ⟨rfl, hx1⟩; have hk1 : Below wx.heap.size wx x1 := below_next (by assumption) hx1; have hz1 := hk1.size)
          try simp only [Act.put, List.setIfInBounds_toArray, List.set_cons_zero, List.set_cons_succ, List.getElem_toArray, List.getElem_cons_zero, List.getElem_cons_succ]
          refine wpAny_take (i := 2) (v := ?_) rfl (by kernel_rfl) (by kernel_rfl) (by kernel_rfl) (fun _ _ _ h => h) (Or.inl ⟨by rfl, ?_⟩) ?_
          case refine_2 => (intro w; go_simp; try with_reducible rfl)
          try simp only [Act.put, List.setIfInBounds_toArray, List.set_cons_zero, List.set_cons_succ, List.getElem_toArray, List.getElem_cons_zero, List.getElem_cons_succ]
          refine wpAny_take (i := 3) (v := ?_) rfl (by kernel_rfl) (by kernel_rfl) (by kernel_rfl) (fun _ _ _ h => h) (Or.inl ⟨by rfl, ?_⟩) ?_
          case refine_2 => (intro w; go_simp; try with_reducible rfl)
          try simp only [Act.put, List.setIfInBounds_toArray, List.set_cons_zero, List.set_cons_succ, List.getElem_toArray, List.getElem_cons_zero, List.getElem_cons_succ]
          refine wpAny_take (i := 4) (v := ?_) rfl (by kernel_rfl) (by kernel_rfl) (by kernel_rfl) (fun _ _ _ h => h) (Or.inl ⟨by rfl, ?_⟩) ?_
          case refine_2 => (intro w; go_simp; try with_reducible rfl)
          try simp only [Act.put, List.setIfInBounds_toArray, List.set_cons_zero, List.set_cons_succ, List.getElem_toArray, List.getElem_cons_zero, List.getElem_cons_succ]
          refine wpAny_take (i := 5) (v := ?_) rfl (by kernel_rfl) (by kernel_rfl) (by kernel_rfl) (fun _ _ _ h => h) (Or.inl ⟨by rfl, ?_⟩) ?_
          case refine_2 => (intro w; go_simp; try with_reducible rfl)
          try simp only [Act.put, List.setIfInBounds_toArray, List.set_cons_zero, List.set_cons_succ, List.getElem_toArray, List.getElem_cons_zero, List.getElem_cons_succ]
          refine wpAny_take (i := 6) (v := ?_) rfl (by kernel_rfl) (by kernel_rfl) (by kernel_rfl) (fun _ _ _ h => h) (Or.inl ⟨by rfl, ?_⟩) ?_
          case refine_2 => (intro w; go_simp; try with_reducible rfl)
          try simp only [Act.put, List.setIfInBounds_toArray, List.set_cons_zero, List.set_cons_succ, List.getElem_toArray, List.getElem_cons_zero, List.getElem_cons_succ]
          refine wpAny_take (i := 7) (v := undef) rfl (by kernel_rfl) (by kernel_rfl) (by kernel_rfl) (fun _ _ _ h => h) (Or.inr ⟨by rfl, rfl⟩) ?_
          try simp only [Act.put, List.setIfInBounds_toArray, List.set_cons_zero, List.set_cons_succ, List.getElem_toArray, List.getElem_cons_zero, List.getElem_cons_succ]
          refine wpAny_take (i := 8) (v := undef) rfl (by kernel_rfl) (by kernel_rfl) (by kernel_rfl) (fun _ _ _ h => h) (Or.inr ⟨by rfl, rfl⟩) ?_
          try simp only [Act.put, List.setIfInBounds_toArray, List.set_cons_zero, List.set_cons_succ, List.getElem_toArray, List.getElem_cons_zero, List.getElem_cons_succ]
          refine wpAny_take (i := 9) (v := undef) rfl (by kernel_rfl) (by kernel_rfl) (by kernel_rfl) (fun _ _ _ h => h) (Or.inr ⟨by rfl, rfl⟩) ?_
          try simp only [Act.put, List.setIfInBounds_toArray, List.set_cons_zero, List.set_cons_succ, List.getElem_toArray, List.getElem_cons_zero, List.getElem_cons_succ]
          refine wpAny_take (i := 10) (v := undef) rfl (by kernel_rfl) (by kernel_rfl) (by kernel_rfl) (fun _ _ _ h => h) (Or.inr ⟨by rfl, rfl⟩) ?_
          try simp only [Act.put, List.setIfInBounds_toArray, List.set_cons_zero, List.set_cons_succ, List.getElem_toArray, List.getElem_cons_zero, List.getElem_cons_succ]
          refine wpAny_take (i := 11) (v := undef) rfl (by kernel_rfl) (by kernel_rfl) (by kernel_rfl) (fun _ _ _ h => h) (Or.inr ⟨by rfl, rfl⟩) ?_
          try simp only [Act.put, List.setIfInBounds_toArray, List.set_cons_zero, List.set_cons_succ, List.getElem_toArray, List.getElem_cons_zero, List.getElem_cons_succ]
          refine wpAny_take (i := 12) (v := undef) rfl (by kernel_rfl) (by kernel_rfl) (by kernel_rfl) (fun _ _ _ h => h) (Or.inr ⟨by rfl, rfl⟩) ?_
          try simp only [Act.put, List.setIfInBounds_toArray, List.set_cons_zero, List.set_cons_succ, List.getElem_toArray, List.getElem_cons_zero, List.getElem_cons_succ]
          refine wpAny_take (i := 13) (v := undef) rfl (by kernel_rfl) (by kernel_rfl) (by kernel_rfl) (fun _ _ _ h => h) (Or.inr ⟨by rfl, rfl⟩) ?_
          try simp only [Act.put, List.setIfInBounds_toArray, List.set_cons_zero, List.set_cons_succ, List.getElem_toArray, List.getElem_cons_zero, List.getElem_cons_succ]
          refine wpAny_take (i := 14) (v := undef) rfl (by kernel_rfl) (by kernel_rfl) (by kernel_rfl) (fun _ _ _ h => h) (Or.inr ⟨by rfl, rfl⟩) ?_
          try simp only [Act.put, List.setIfInBounds_toArray, List.set_cons_zero, List.set_cons_succ, List.getElem_toArray, List.getElem_cons_zero, List.getElem_cons_succ]
          refine wpAny_take (i := 15) (v := undef) rfl (by kernel_rfl) (by kernel_rfl) (by kernel_rfl) (fun _ _ _ h => h) (Or.inr ⟨by rfl, rfl⟩) ?_
          try simp only [Act.put, List.setIfInBounds_toArray, List.set_cons_zero, List.set_cons_succ, List.getElem_toArray, List.getElem_cons_zero, List.getElem_cons_succ]
          refine wpAny_take (i := 16) (v := undef) rfl (by kernel_rfl) (by kernel_rfl) (by kernel_rfl) (fun _ _ _ h => h) (Or.inr ⟨by rfl, rfl⟩) ?_
          try simp only [Act.put, List.setIfInBounds_toArray, List.set_cons_zero, List.set_cons_succ, List.getElem_toArray, List.getElem_cons_zero, List.getElem_cons_succ]
          refine wpAny_take (i := 17) (v := ?_) rfl (by kernel_rfl) (by kernel_rfl) (by kernel_rfl) (fun _ _ _ h => h) (Or.inl ⟨by rfl, ?_⟩) ?_
          case refine_2 => (intro w; go_simp; try with_reducible rfl)
          try simp only [Act.put, List.setIfInBounds_toArray, List.set_cons_zero, List.set_cons_succ, List.getElem_toArray, List.getElem_cons_zero, List.getElem_cons_succ]
          refine wpAny_take (i := 18) (v := ?_) rfl (by kernel_rfl) (by kernel_rfl) (by kernel_rfl) (fun _ _ _ h => h) (Or.inl ⟨by rfl, ?_⟩) ?_
          case refine_2 => (intro w; go_simp; try with_reducible rfl)
          try simp only [Act.put, List.setIfInBounds_toArray, List.set_cons_zero, List.set_cons_succ, List.getElem_toArray, List.getElem_cons_zero, List.getElem_cons_succ]
          refine wpAny_done (by kernel_rfl) ?_ _
          go_wp2
          go_roundw
          case rel => exact ⟨k + 1, by omega, by go_num, HU, below_next HBX.out hk1⟩
          case measure => simp [intOf]; omega
        · have h3 : ((k : Int) > 0) := by omega
          have h6 : decide (0 < k) = true := decide_eq_true (by omega)
          have h4 : ((k : Int) - 1) = ((k - 1 : Nat) : Int) := by omega
          have h7 : (((k - 1 : Nat) : Int) < (xls.length : Int)) := by omega
          have h8 : (0 : Int) ≤ ((k - 1 : Nat) : Int) := by omega
          have h9 : k - 1 < xls.length := by omega
          have hk1 : (k == 0) = false := by simpa using hk0
          obtain ⟨j, rfl⟩ : ∃ j, k = j + 1 := ⟨k - 1, by omega⟩
          have h10 : ((j : Int) < (xls.length : Int)) := by omega
          simp only [Nat.add_sub_cancel] at HS s4
          clear h4 h7 h8 h9
          have h12 : ¬ ((j : Int) < 0) := by omega
          have h13 : j < xls.length := by omega
          have h11 : IntKind.i64.wrap (j : Int) = (j : Int) := wrap_small j (by omega)
          have h14 : (0 : Int) ≤ (j : Int) := by omega
          by_cases h5 : p.f < zf
          · have HU := kept (HST.out (by rw [HPK.out, h1, hk1, decide_eq_true h5]; rfl))
            have e5 : ¬ ((p.f : Int) ≥ (zf : Int)) := by omega
            clear h1 HPK HST HBD hk0 hk1 h5
            go_region_held3 (fun W => W.cell? ⟨wr.heap.size, 0, none⟩ = some (.int .u8 (zf : Int)) ∧ W.cell? ⟨wr.heap.size, 1, none⟩ = some (.string zt) ∧ W.cell? ⟨wr.heap.size, 2, none⟩ = some (.slice zA zm.length zc) ∧ W.cell? ⟨w.heap.size, 1, none⟩ = some (.slice (some ⟨b1, o1, none⟩) xls.length xc) ∧ W.cell? ⟨b1, o1 + j * 3, none⟩ = some (.int .u8 (p.f : Int))) (exact HS.out _ (by assumption)) (first | (go_at_call 67; ((with_reducible refine (CL.out _ (by assumption)).mono ?_); rintro e x1 ⟨rfl, hx1⟩; have hk1 : Below wx.heap.size wx x1 := below_next (by assumption) hx1; have hz1 := hk1.size)))
            go_wp2
            go_roundw
            case rel => exact ⟨j + 1 + 1, by omega, by go_num, HU, below_next HBX.out hk1⟩
            case measure => simp [intOf]; omega
          · have HF := kept (HBD.out (by rw [HPK.out, h1, hk1, decide_eq_false h5]; rfl))
            have e5 : ((p.f : Int) ≥ (zf : Int)) := by omega
            clear h1 HPK HST HBD hk0 hk1 h5
            go_region_held3 (fun W => W.cell? ⟨wr.heap.size, 0, none⟩ = some (.int .u8 (zf : Int)) ∧ W.cell? ⟨wr.heap.size, 1, none⟩ = some (.string zt) ∧ W.cell? ⟨wr.heap.size, 2, none⟩ = some (.slice zA zm.length zc) ∧ W.cell? ⟨w.heap.size, 1, none⟩ = some (.slice (some ⟨b1, o1, none⟩) xls.length xc) ∧ W.cell? ⟨b1, o1 + j * 3, none⟩ = some (.int .u8 (p.f : Int))) (exact HS.out _ (by assumption)) (first | (go_at_call 67; ((with_reducible refine (CL.out _ (by assumption)).mono ?_); rintro e x1 ⟨rfl, hx1⟩; have hk1 : Below wx.heap.size wx x1 := below_next (by assumption) hx1; have hz1 := hk1.size)))
            go_wp2
            go_ret
            exact ⟨ret_bool HF.out.symm, below_next HB1.out (below_next HBX.out hk1)⟩
    · have hkn : ¬ ((k : Int) < (xls.length : Int)) := by omega
      have kw := KC.out wr hbr
      have c0 := kw.cell (j := 0) rfl
      have hbr2 := hbr
      have HG : Kept (cardGood ⟨xcid, xX, xls, xc⟩ = (dotOk (devN xcid) (lowN xcid) && decide (0 < xls.length))) := ⟨by unfold cardGood; rw [lines_full hlt hup.out, Bool.true_and]⟩
      clear hbr hup
      go_wp2_with fail
      refine (unpack_any xcid _ hx1).mono ?_
      rintro e w2 ⟨d, n, rfl, hx2⟩
      have hb2 := below_next hbr2 hx2
      have hb3 := below_new hb2 (.cells #[.int .u16 (d : Int), .int .u64 (n : Int)] 46)
      have c1 := (KC.out _ hb3).cell (j := 1) rfl
      have HB3 := kept (below_next HB1.out hb3)
      clear hb2 hb3 hx2 kw hbr2
      generalize dotOk (devN xcid) (lowN xcid) = u at *
      cases u with
      | false =>
        have HF : Kept (cardGood ⟨xcid, xX, xls, xc⟩ = false) := ⟨by rw [HG.out, Bool.false_and]⟩
        go_wp2
        go_ret
        exact ⟨ret_bool HF.out.symm, HB3.out⟩
      | true =>
        have HF : Kept (cardGood ⟨xcid, xX, xls, xc⟩ = decide (0 < xls.length)) := ⟨by rw [HG.out, Bool.true_and]⟩
        go_wp2
        go_ret
        exact ⟨ret_bool (by rw [HF.out]), HB3.out⟩
end Go.Proofs.Ytnmcclkpgbdenaa.Card
