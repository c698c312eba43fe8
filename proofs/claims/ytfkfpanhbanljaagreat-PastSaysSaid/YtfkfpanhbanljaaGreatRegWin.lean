/- Layer 14 (reg): who wins: the walks of slices.MaxFunc, reg.Winner, and the document's. -/
import Derived.Test.YtfkfpanhbanljaaGreatSetT
import Derived.Test.YtfkfpanhbanljaaGreatSetAA
namespace Go.Proofs.YtfkfpanhbanljaaGreat.Reg
open Go.RowKit Go.Proofs.YtfkfpanhbanljaaGreat.Mem Go.Proofs.YtfkfpanhbanljaaGreat.Card Go.Proofs.YtfkfpanhbanljaaGreat.LaidS

def valE : Elem ValM := ⟨ValM.cells, 3, by decide, fun _ => rfl, fun x u hu => by
  simp only [ValM.cells, List.mem_cons, List.not_mem_nil, or_false] at hu
  rcases hu with rfl | rfl | rfl <;> rfl⟩
theorem win_snoc (x0 : ValM) (l : List ValM) {k : Nat} {x : ValM} (h : l[k]? = some x) : winF x0 (l.take (k + 1)) = if ahead x (winF x0 (l.take k)) then x else winF x0 (l.take k) := by
  have hlt := (List.getElem?_eq_some_iff.1 h).1
  have hx := (List.getElem?_eq_some_iff.1 h).2
  rw [List.take_succ_eq_append_getElem hlt, hx]
  unfold winF
  rw [List.foldl_append]
  rfl
def vZ : List Value := [.int .u16 0, .int .u64 0, .string ⟨#[]⟩]
/-- two blocks of values of the call's own, side by side -/
def Vw (w W : World) (g : Nat) (L Z : List Value) : Prop := Below w.heap.size w W ∧ w.heap.size ≤ g ∧ Blk W g L 99 ∧ Blk W w.heap.size Z 99 ∧ g ≠ w.heap.size
section
variable {w W W' : World} {g : Nat} {L L' Z Z' : List Value}
theorem Vw.next (h : Vw w W g L Z) (hb : Below W.heap.size W W') : Vw w W' g L Z := ⟨h.1.trans (hb.mono h.1.size), h.2.1, h.2.2.1.next hb, h.2.2.2.1.next hb, h.2.2.2.2⟩
theorem Vw.set (h : Vw w W g L Z) (hk : Blk W' g L' 99) (hu : Upd (fun k => k = g) W W') : Vw w W' g L' Z :=
  ⟨h.1.trans (hu.below h.1.size fun i _ e => by have := h.2.1; omega), h.2.1, hk, h.2.2.2.1.upd hu (fun e => h.2.2.2.2 e.symm), h.2.2.2.2⟩
theorem Vw.res (h : Vw w W g L Z) (hk : Blk W' w.heap.size Z' 99) (hu : Upd (fun k => k = w.heap.size) W W') : Vw w W' g L Z' :=
  ⟨h.1.trans (hu.below h.1.size fun i _ e => by omega), h.2.1, h.2.2.1.upd hu h.2.2.2.2, hk, h.2.2.2.2⟩
end
set_option maxRecDepth 100000 in
set_option maxHeartbeats 1000000 in
theorem maxf_any (A : Option Addr) (x0 : ValM) (l : List ValM) (c : Nat) (w : World) (hr : valE.Rd w w.heap.size A (x0 :: l)) (hsz : l.length ≤ 4611686018427387904) :
    Calls Tryz.prog 88 #[.slice A (x0 :: l).length c, .func (.func 89) #[] #[]] w fun e w' => e = .returned (winF x0 l).val ∧ Below w.heap.size w w' := by
  have hln : (x0 :: l).length = l.length + 1 := rfl
  rw [hln]
  obtain ⟨b, o, rfl, hbb, hc0⟩ := hr.at_ (i := 0) (x := x0) rfl
  have HR := kept hr
  have a0 : w.cell? ⟨b, o, none⟩ = some (.int .u16 (x0.dev : Int)) := hc0 0 _ rfl
  have a1 : w.cell? ⟨b, o + 1, none⟩ = some (.int .u64 (x0.n : Int)) := hc0 1 _ rfl
  have a2 : w.cell? ⟨b, o + 2, none⟩ = some (.string x0.t) := hc0 2 _ rfl
  have hlp : ¬ ((l.length : Int) + 1 < 1) := by omega
  have hlq : (0 : Int) < (l.length : Int) + 1 := by omega
  have HLN : Kept ((x0 :: l).length = l.length + 1) := ⟨rfl⟩
  clear hr hc0 hln
  go_enter Tryz.func88, Tryz.ntmps88
  go_wp2_with fail
  have HV : Kept (Vw w ((w.alloc (.cells vZ.toArray 99)).alloc (.cells x0.cells.toArray 99)) (w.heap.size + 1) x0.cells vZ) :=
    ⟨((Below.refl _ _).alloc (Nat.le_refl _) _).alloc (by simp) _, by omega, Blk.newAt _ x0.cells _ (by simp), (Blk.new w vZ _).alloc _, by omega⟩
  clear a0 a1 a2
  go_loopw [6] (fun i wr => ∃ j : Nat, 1 ≤ j ∧ j ≤ l.length + 1 ∧ i = .int .i64 (j : Int) ∧ Kept (Vw w wr (w.heap.size + 1) (winF x0 (l.take (j - 1))).cells vZ)) (fun i _ => l.length + 1 - (intOf i).toNat)
  case atStart => exact ⟨1, Nat.le_refl _, by omega, rfl, HV⟩
  case round =>
    obtain ⟨j, hj1, hj2, rfl, hin⟩ := hrel
    by_cases hlt : j < l.length + 1
    · obtain ⟨x, hx⟩ : ∃ x, l[j - 1]? = some x := ⟨_, List.getElem?_eq_getElem (by omega)⟩
      have hx' : (x0 :: l)[j]? = some x := by
        rw [show j = (j - 1) + 1 by omega]; simpa using hx
      obtain ⟨b', o', hbo, hbb', hcs⟩ := ((HR.out.below hin.out.1)).at_ hx'
      obtain ⟨rfl, rfl⟩ : b = b' ∧ o = o' := by injection hbo with h1; injection h1 with h2 h3 _; exact ⟨h2, h3⟩
      have HS := kept (win_snoc x0 l hx)
      rw [show j - 1 + 1 = j by omega] at HS
      obtain ⟨m, hm⟩ : ∃ m, winF x0 (l.take (j - 1)) = m := ⟨_, rfl⟩
      rw [hm] at hin HS
      have HC := kept (fun W => clov_any x m W)
      have HP := kept (cmpV_pos x m)
      have c0 : wr.cell? ⟨b, o + j * 3, none⟩ = some (.int .u16 (x.dev : Int)) := hcs 0 _ rfl
      have c1 : wr.cell? ⟨b, o + j * 3 + 1, none⟩ = some (.int .u64 (x.n : Int)) := hcs 1 _ rfl
      have c2 : wr.cell? ⟨b, o + j * 3 + 2, none⟩ = some (.string x.t) := hcs 2 _ rfl
      have m0 : wr.cell? ⟨w.heap.size + 1, 0, none⟩ = some (.int .u16 (m.dev : Int)) := hin.out.2.2.1.cell (j := 0) rfl
      have m1 : wr.cell? ⟨w.heap.size + 1, 1, none⟩ = some (.int .u64 (m.n : Int)) := hin.out.2.2.1.cell (j := 1) rfl
      have m2 : wr.cell? ⟨w.heap.size + 1, 2, none⟩ = some (.string m.t) := hin.out.2.2.1.cell (j := 2) rfl
      have hjn : (j : Int) < (l.length : Int) + 1 := by omega
      have hbw : b < wr.heap.size := by have := hin.out.1.size; omega
      have hvw := hin.out.2.2.1.lt
      have HCB : Kept (∀ W, Below wr.heap.size wr W → W.cell? ⟨b, o + j * 3, none⟩ = some (.int .u16 (x.dev : Int)) ∧ W.cell? ⟨b, o + j * 3 + 1, none⟩ = some (.int .u64 (x.n : Int)) ∧ W.cell? ⟨b, o + j * 3 + 2, none⟩ = some (.string x.t) ∧ W.cell? ⟨w.heap.size + 1, 0, none⟩ = some (.int .u16 (m.dev : Int)) ∧ W.cell? ⟨w.heap.size + 1, 1, none⟩ = some (.int .u64 (m.n : Int)) ∧ W.cell? ⟨w.heap.size + 1, 2, none⟩ = some (.string m.t)) :=
        ⟨fun W hb => ⟨(hb.cell (p := ⟨b, o + j * 3, none⟩) hbw).trans c0, (hb.cell (p := ⟨b, o + j * 3 + 1, none⟩) hbw).trans c1, (hb.cell (p := ⟨b, o + j * 3 + 2, none⟩) hbw).trans c2, (hb.cell (p := ⟨w.heap.size + 1, 0, none⟩) hvw).trans m0, (hb.cell (p := ⟨w.heap.size + 1, 1, none⟩) hvw).trans m1, (hb.cell (p := ⟨w.heap.size + 1, 2, none⟩) hvw).trans m2⟩⟩
      obtain ⟨q, hq⟩ : ∃ q, cmpV x m = q := ⟨_, rfl⟩
      rw [hq] at HP
      unfold ValM.val at HC
      rw [hq] at HC
      obtain ⟨t, ht⟩ : ∃ t, ahead x m = t := ⟨_, rfl⟩
      rw [ht] at HP HS
      have hdr : Below wr.heap.size wr wr.drew := (Below.refl _ _).drew
      have HX := kept hx
      have HM := kept hm
      clear hx hx' hm hq ht hcs hbo
      go_upto_region 7 with fail
      go_cut [27] (fun p wx => p = .bool t ∧ Below wr.heap.size wr wx)
      case first =>
        go_region_held3 (fun W => W.cell? ⟨b, o + j * 3, none⟩ = some (.int .u16 (x.dev : Int)) ∧ W.cell? ⟨b, o + j * 3 + 1, none⟩ = some (.int .u64 (x.n : Int)) ∧ W.cell? ⟨b, o + j * 3 + 2, none⟩ = some (.string x.t) ∧ W.cell? ⟨w.heap.size + 1, 0, none⟩ = some (.int .u16 (m.dev : Int)) ∧ W.cell? ⟨w.heap.size + 1, 1, none⟩ = some (.int .u64 (m.n : Int)) ∧ W.cell? ⟨w.heap.size + 1, 2, none⟩ = some (.string m.t)) (exact HCB.out _ (by assumption)) (first
          | (go_at_call 89; ((with_reducible refine (HC.out _).mono ?_); rintro e x1 ⟨rfl, hx1⟩; have hk1 : Below wr.heap.size wr x1 := (Below.refl wr.heap.size wr).drew.trans hx1)))
        go_wp2_with fail
        go_meet
        exact ⟨by rw [← HP.out], hk1⟩
      case rest =>
        obtain ⟨rfl, hb5⟩ := hcut
        obtain ⟨w5, rfl⟩ : ∃ w5 : World, w5 = wc := ⟨_, rfl⟩
        have H5 := kept (hin.out.next hb5)
        cases t with
        | true =>
          have HS2 : Kept (winF x0 (l.take j) = x) := ⟨by rw [HS.out]; rfl⟩
          have hk5 := H5.out.2.2.1
          obtain ⟨n0, n1, n2, _, _, _⟩ := HCB.out _ hb5
          clear c0 c1 c2 m0 m1 m2 hb5 HCB hin HC HP hdr
          go_wp2_with (refine wpl_storeB rfl _ _ _ rfl (w.heap.size + 1) x.cells rfl rfl _ _ hk5 rfl rfl rfl ?_; intro w6 hk6 hu6; have H6 := kept (H5.out.set hk6 hu6); clear hk6 hu6)
          go_roundw
          case rel => exact ⟨j + 1, by omega, by omega, by go_num, by rw [Nat.add_sub_cancel, HS2.out]; exact H6⟩
          case measure => simp [intOf]; omega
        | false =>
          have HS2 : Kept (winF x0 (l.take j) = m) := ⟨by rw [HS.out]; rfl⟩
          clear c0 c1 c2 m0 m1 m2 hb5 HCB hin HC HP hdr
          go_wp2_with fail
          go_roundw
          case rel => exact ⟨j + 1, by omega, by omega, by go_num, by rw [Nat.add_sub_cancel, HS2.out]; exact H5⟩
          case measure => simp [intOf]; omega
    · obtain rfl : j = l.length + 1 := by omega
      rw [Nat.add_sub_cancel, List.take_length] at hin
      have hjn : ¬ ((l.length + 1 : Nat) : Int) < (l.length : Int) + 1 := by omega
      obtain ⟨m, hm⟩ : ∃ m, winF x0 l = m := ⟨_, rfl⟩
      rw [hm] at hin
      have HM := kept hm
      have hk4 : Blk wr w.heap.size vZ 99 := hin.out.2.2.2.1
      have hk5 : Blk wr (w.heap.size + 1) [.int .u16 (m.dev : Int), .int .u64 (m.n : Int), .string m.t] 99 := hin.out.2.2.1
      clear hm HR
      go_wp2_with (first | (refine wpl_loadB rfl _ _ rfl (w.heap.size + 1) rfl _ _ hk5 _ rfl rfl rfl ?_) | (refine wpl_storeB rfl _ _ _ rfl w.heap.size m.cells rfl rfl _ _ hk4 rfl rfl rfl ?_; intro w6 hk6 hu6; have H6 := kept (hin.out.res hk6 hu6); clear hk6 hu6))
      exact bodyPost_ret (res_cell_one rfl _ w.heap.size _ m.cells _ rfl H6.out.2.2.2.1 rfl rfl rfl) rfl ⟨by rw [HM.out]; rfl, H6.out.1⟩
set_option maxRecDepth 100000 in
theorem winner_any (A : Option Addr) (l : List ValM) (c : Nat) (w : World) (hr : valE.Rd w w.heap.size A l) (hsz : l.length ≤ 4611686018427387904) :
    Calls Tryz.prog 74 #[.slice A l.length c] w fun e w' => e = .returned (.tuple #[(winM l).val, .bool (!l.isEmpty)]) ∧ Below w.heap.size w w' := by
  have hb0 : Below w.heap.size w (w.alloc (.cells vZ.toArray 99)) := (Below.refl _ _).alloc (Nat.le_refl _) _
  have hk0 : Blk (w.alloc (.cells vZ.toArray 99)) w.heap.size vZ 99 := Blk.new w vZ _
  cases l with
  | nil =>
    clear hr
    have HB := kept hb0
    have HK := kept hk0
    clear hk0 hb0
    go_enter Tryz.func74, Tryz.ntmps74
    go_wp2
    exact bodyPost_ret (res_cell_tmp rfl _ w.heap.size _ vZ _ rfl HK.out rfl rfl rfl) rfl ⟨rfl, HB.out⟩
  | cons x l =>
    have CM := kept (maxf_any A x l c _ (hr.next hb0) (by simp only [List.length_cons] at hsz; omega))
    have HB := kept hb0
    have HK := kept hk0
    have hln : (x :: l).length = l.length + 1 := rfl
    rw [hln] at CM ⊢
    have HW : Kept (winM (x :: l) = winF x l) := ⟨rfl⟩
    have hlp : (((l.length : Int) + 1) == 0) = false := by simp; omega
    generalize winF x l = m at *
    unfold ValM.val at CM
    clear hr hb0 hk0 hln
    go_enter Tryz.func74, Tryz.ntmps74
    go_wp2_with fail
    refine CM.out.mono ?_
    rintro e w1 ⟨rfl, hb1⟩
    have hk1 : Blk w1 w.heap.size vZ 99 := HK.out.next hb1
    have HB1 := kept (HB.out.trans (hb1.mono HB.out.size))
    clear hb1 CM HK HB
    go_wp2_with (refine wpl_storeB rfl _ _ _ rfl w.heap.size m.cells rfl rfl _ _ hk1 rfl rfl rfl ?_; intro w6 hk6 hu6; have HK6 := kept hk6; have HB6 := kept (HB1.out.trans (hu6.below HB1.out.size fun i _ e => by omega)); clear hk6 hu6)
    exact bodyPost_ret (res_cell_tmp rfl _ w.heap.size _ m.cells _ rfl HK6.out rfl rfl rfl) rfl ⟨by rw [HW.out]; rfl, HB6.out⟩
theorem rahead_any (x y : ValM) (w : World) : Calls Tryz.prog 96 #[x.val, y.val] w fun e w' => e = .returned (.bool (ahead x y)) ∧ Below w.heap.size w w' := by
  obtain ⟨xd, xn, xt⟩ := x
  obtain ⟨yd, yn, yt⟩ := y
  have HB3 := kept (((Below.refl w.heap.size w).alloc (Nat.le_refl _) (.cells #[.int .u16 (xd : Int), .int .u64 (xn : Int), .string xt] 99)).alloc (by simp) (.cells #[.int .u16 (yd : Int), .int .u64 (yn : Int), .string yt] 99))
  have HA : Kept (ahead ⟨xd, xn, xt⟩ ⟨yd, yn, yt⟩ = (decide (yn < xn) || (decide (xn = yn) && decide (yd < xd)))) := ⟨rfl⟩
  unfold ValM.val
  dsimp only
  by_cases h1 : yn < xn
  · have HT : Kept (ahead ⟨xd, xn, xt⟩ ⟨yd, yn, yt⟩ = true) := ⟨by rw [HA.out, decide_eq_true h1]; rfl⟩
    clear HA
    go_enter Tryz.func96, Tryz.ntmps96
    go_wp2
    go_ret
    exact ⟨by rw [HT.out]; rfl, HB3.out⟩
  · by_cases h2 : xn = yn
    · have HT : Kept (ahead ⟨xd, xn, xt⟩ ⟨yd, yn, yt⟩ = decide (yd < xd)) := ⟨by rw [HA.out, decide_eq_false h1, decide_eq_true h2]; rfl⟩
      clear HA
      subst h2
      by_cases h3 : yd < xd
      all_goals
        have h4 := h3
        go_enter Tryz.func96, Tryz.ntmps96
        go_wp2
        go_ret
        exact ⟨by first | (rw [HT.out, decide_eq_true h4]; rfl) | (rw [HT.out, decide_eq_false h4]; rfl), HB3.out⟩
    · have HT : Kept (ahead ⟨xd, xn, xt⟩ ⟨yd, yn, yt⟩ = false) := ⟨by rw [HA.out, decide_eq_false h1, decide_eq_false h2]; rfl⟩
      have h3 : ((xn : Int) == (yn : Int)) = false := by simpa using (fun e : (xn : Int) = (yn : Int) => h2 (by omega))
      clear HA h2
      go_enter Tryz.func96, Tryz.ntmps96
      go_wp2
      go_ret
      exact ⟨by rw [HT.out]; rfl, HB3.out⟩
set_option maxRecDepth 100000 in
set_option maxHeartbeats 1000000 in
theorem rwinner_any (A : Option Addr) (l : List ValM) (c : Nat) (w : World) (hr : valE.Rd w w.heap.size A l) (hsz : l.length ≤ 4611686018427387904) :
    Calls Tryz.prog 78 #[.slice A l.length c] w fun e w' => e = .returned (.tuple #[(winM l).val, .bool (!l.isEmpty)]) ∧ Below w.heap.size w w' := by
  have hb0 : Below w.heap.size w (w.alloc (.cells vZ.toArray 99)) := (Below.refl _ _).alloc (Nat.le_refl _) _
  have hk0 : Blk (w.alloc (.cells vZ.toArray 99)) w.heap.size vZ 99 := Blk.new w vZ _
  cases l with
  | nil =>
    clear hr
    have HB := kept hb0
    have HK := kept hk0
    clear hk0 hb0
    go_enter Tryz.func78, Tryz.ntmps78
    go_wp2
    exact bodyPost_ret (res_cell_tmp rfl _ w.heap.size _ vZ _ rfl HK.out rfl rfl rfl) rfl ⟨rfl, HB.out⟩
  | cons x0 l =>
    have hln : (x0 :: l).length = l.length + 1 := rfl
    rw [hln]
    obtain ⟨b, o, rfl, hbb, hc0⟩ := hr.at_ (i := 0) (x := x0) rfl
    have HR := kept hr
    have HW : Kept (winM (x0 :: l) = winF x0 l) := ⟨rfl⟩
    have a0 : w.cell? ⟨b, o, none⟩ = some (.int .u16 (x0.dev : Int)) := hc0 0 _ rfl
    have a1 : w.cell? ⟨b, o + 1, none⟩ = some (.int .u64 (x0.n : Int)) := hc0 1 _ rfl
    have a2 : w.cell? ⟨b, o + 2, none⟩ = some (.string x0.t) := hc0 2 _ rfl
    have hlp : (((l.length : Int) + 1) == 0) = false := by simp; omega
    have hlq : (0 : Int) < (l.length : Int) + 1 := by omega
    simp only [List.length_cons] at hsz
    clear hr hc0 hln hb0 hk0
    go_enter Tryz.func78, Tryz.ntmps78
    go_wp2_with fail
    have HV : Kept (Vw w ((w.alloc (.cells vZ.toArray 99)).alloc (.cells x0.cells.toArray 99)) (w.heap.size + 1) x0.cells vZ) :=
      ⟨((Below.refl _ _).alloc (Nat.le_refl _) _).alloc (by simp) _, by omega, Blk.newAt _ x0.cells _ (by simp), (Blk.new w vZ _).alloc _, by omega⟩
    clear a0 a1 a2 hlp
    go_loopw [5] (fun i wr => ∃ j : Nat, 1 ≤ j ∧ j ≤ l.length + 1 ∧ i = .int .i64 (j : Int) ∧ Kept (Vw w wr (w.heap.size + 1) (winF x0 (l.take (j - 1))).cells vZ)) (fun i _ => l.length + 1 - (intOf i).toNat)
    case atStart => exact ⟨1, Nat.le_refl _, by omega, rfl, HV⟩
    case round =>
      obtain ⟨j, hj1, hj2, rfl, hin⟩ := hrel
      by_cases hlt : j < l.length + 1
      · obtain ⟨x, hx⟩ : ∃ x, l[j - 1]? = some x := ⟨_, List.getElem?_eq_getElem (by omega)⟩
        have hx' : (x0 :: l)[j]? = some x := by
          rw [show j = (j - 1) + 1 by omega]; simpa using hx
        obtain ⟨b', o', hbo, hbb', hcs⟩ := ((HR.out.below hin.out.1)).at_ hx'
        obtain ⟨rfl, rfl⟩ : b = b' ∧ o = o' := by injection hbo with h1; injection h1 with h2 h3 _; exact ⟨h2, h3⟩
        have HS := kept (win_snoc x0 l hx)
        rw [show j - 1 + 1 = j by omega] at HS
        obtain ⟨m, hm⟩ : ∃ m, winF x0 (l.take (j - 1)) = m := ⟨_, rfl⟩
        rw [hm] at hin HS
        have HC := kept (fun W => rahead_any x m W)
        have c0 : wr.cell? ⟨b, o + j * 3, none⟩ = some (.int .u16 (x.dev : Int)) := hcs 0 _ rfl
        have c1 : wr.cell? ⟨b, o + j * 3 + 1, none⟩ = some (.int .u64 (x.n : Int)) := hcs 1 _ rfl
        have c2 : wr.cell? ⟨b, o + j * 3 + 2, none⟩ = some (.string x.t) := hcs 2 _ rfl
        have m0 : wr.cell? ⟨w.heap.size + 1, 0, none⟩ = some (.int .u16 (m.dev : Int)) := hin.out.2.2.1.cell (j := 0) rfl
        have m1 : wr.cell? ⟨w.heap.size + 1, 1, none⟩ = some (.int .u64 (m.n : Int)) := hin.out.2.2.1.cell (j := 1) rfl
        have m2 : wr.cell? ⟨w.heap.size + 1, 2, none⟩ = some (.string m.t) := hin.out.2.2.1.cell (j := 2) rfl
        have hjn : (j : Int) < (l.length : Int) + 1 := by omega
        have hbw : b < wr.heap.size := by have := hin.out.1.size; omega
        have hvw := hin.out.2.2.1.lt
        have HCB : Kept (∀ W, Below wr.heap.size wr W → W.cell? ⟨b, o + j * 3, none⟩ = some (.int .u16 (x.dev : Int)) ∧ W.cell? ⟨b, o + j * 3 + 1, none⟩ = some (.int .u64 (x.n : Int)) ∧ W.cell? ⟨b, o + j * 3 + 2, none⟩ = some (.string x.t) ∧ W.cell? ⟨w.heap.size + 1, 0, none⟩ = some (.int .u16 (m.dev : Int)) ∧ W.cell? ⟨w.heap.size + 1, 1, none⟩ = some (.int .u64 (m.n : Int)) ∧ W.cell? ⟨w.heap.size + 1, 2, none⟩ = some (.string m.t)) :=
          ⟨fun W hb => ⟨(hb.cell (p := ⟨b, o + j * 3, none⟩) hbw).trans c0, (hb.cell (p := ⟨b, o + j * 3 + 1, none⟩) hbw).trans c1, (hb.cell (p := ⟨b, o + j * 3 + 2, none⟩) hbw).trans c2, (hb.cell (p := ⟨w.heap.size + 1, 0, none⟩) hvw).trans m0, (hb.cell (p := ⟨w.heap.size + 1, 1, none⟩) hvw).trans m1, (hb.cell (p := ⟨w.heap.size + 1, 2, none⟩) hvw).trans m2⟩⟩
        unfold ValM.val at HC
        obtain ⟨t, ht⟩ : ∃ t, ahead x m = t := ⟨_, rfl⟩
        rw [ht] at HC HS
        have hdr : Below wr.heap.size wr wr.drew := (Below.refl _ _).drew
        clear hx hx' hm ht hcs hbo
        go_upto_region 7 with fail
        go_cut [24] (fun p wx => p = .bool t ∧ Below wr.heap.size wr wx)
        case first =>
          go_region_held3 (fun W => W.cell? ⟨b, o + j * 3, none⟩ = some (.int .u16 (x.dev : Int)) ∧ W.cell? ⟨b, o + j * 3 + 1, none⟩ = some (.int .u64 (x.n : Int)) ∧ W.cell? ⟨b, o + j * 3 + 2, none⟩ = some (.string x.t) ∧ W.cell? ⟨w.heap.size + 1, 0, none⟩ = some (.int .u16 (m.dev : Int)) ∧ W.cell? ⟨w.heap.size + 1, 1, none⟩ = some (.int .u64 (m.n : Int)) ∧ W.cell? ⟨w.heap.size + 1, 2, none⟩ = some (.string m.t)) (exact HCB.out _ (by assumption)) (first
            | (go_at_call 96; ((with_reducible refine (HC.out _).mono ?_); rintro e x1 ⟨rfl, hx1⟩; have hk1 : Below wr.heap.size wr x1 := (Below.refl wr.heap.size wr).drew.trans hx1)))
          go_wp2_with fail
          go_meet
          exact ⟨rfl, hk1⟩
        case rest =>
          obtain ⟨rfl, hb5⟩ := hcut
          obtain ⟨w5, rfl⟩ : ∃ w5 : World, w5 = wc := ⟨_, rfl⟩
          have H5 := kept (hin.out.next hb5)
          cases t with
          | true =>
            have HS2 : Kept (winF x0 (l.take j) = x) := ⟨by rw [HS.out]; rfl⟩
            have hk5 := H5.out.2.2.1
            obtain ⟨n0, n1, n2, _, _, _⟩ := HCB.out _ hb5
            clear c0 c1 c2 m0 m1 m2 hb5 HCB hin HC hdr
            go_wp2_with (refine wpl_storeB rfl _ _ _ rfl (w.heap.size + 1) x.cells rfl rfl _ _ hk5 rfl rfl rfl ?_; intro w6 hk6 hu6; have H6 := kept (H5.out.set hk6 hu6); clear hk6 hu6)
            go_roundw
            case rel => exact ⟨j + 1, by omega, by omega, by go_num, by rw [Nat.add_sub_cancel, HS2.out]; exact H6⟩
            case measure => simp [intOf]; omega
          | false =>
            have HS2 : Kept (winF x0 (l.take j) = m) := ⟨by rw [HS.out]; rfl⟩
            clear c0 c1 c2 m0 m1 m2 hb5 HCB hin HC hdr
            go_wp2_with fail
            go_roundw
            case rel => exact ⟨j + 1, by omega, by omega, by go_num, by rw [Nat.add_sub_cancel, HS2.out]; exact H5⟩
            case measure => simp [intOf]; omega
      · obtain rfl : j = l.length + 1 := by omega
        rw [Nat.add_sub_cancel, List.take_length] at hin
        have hjn : ¬ ((l.length + 1 : Nat) : Int) < (l.length : Int) + 1 := by omega
        obtain ⟨m, hm⟩ : ∃ m, winF x0 l = m := ⟨_, rfl⟩
        rw [hm] at hin
        have HM := kept hm
        have hk4 : Blk wr w.heap.size vZ 99 := hin.out.2.2.2.1
        have hk5 : Blk wr (w.heap.size + 1) [.int .u16 (m.dev : Int), .int .u64 (m.n : Int), .string m.t] 99 := hin.out.2.2.1
        clear hm HR
        go_wp2_with (first | (refine wpl_loadB rfl _ _ rfl (w.heap.size + 1) rfl _ _ hk5 _ rfl rfl rfl ?_) | (refine wpl_storeB rfl _ _ _ rfl w.heap.size m.cells rfl rfl _ _ hk4 rfl rfl rfl ?_; intro w6 hk6 hu6; have H6 := kept (hin.out.res hk6 hu6); clear hk6 hu6))
        exact bodyPost_ret (res_cell_tmp rfl _ w.heap.size _ m.cells _ rfl H6.out.2.2.2.1 rfl rfl rfl) rfl ⟨by rw [HW.out, HM.out]; rfl, H6.out.1⟩
end Go.Proofs.YtfkfpanhbanljaaGreat.Reg
