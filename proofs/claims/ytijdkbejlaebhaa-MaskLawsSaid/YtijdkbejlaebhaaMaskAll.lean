/- The walks of layer 40, continued: the reference's Put, Of, All, Size, the reference's Same, the example. -/
import Derived.Test.YtijdkbejlaebhaaMaskPut
namespace Go.Proofs.Ytijdkbejlaebhaa.Mask
open Go.RowKit Go.Proofs.Ytijdkbejlaebhaa.Mem

set_option maxRecDepth 100000 in
theorem rput_any (A : Option Addr) (n c : Nat) (m : List Nat) (i : Int) (w : World) (hn : n = m.length) (hw : AllW m) (hr : Rd w w.heap.size A (WB m)) (hc : m.length ≤ c) (hsz : m.length ≤ 17592186040000) (hi : i ≤ 9223372036854775807) (hi0 : -9223372036854775808 ≤ i) :
    Calls Try.prog 18 #[.slice A n c, .int .i64 i] w (GivesW w (putI m i)) := by
  subst hn
  by_cases hout : i < 0 ∨ 1024 ≤ i
  · have hp : putI m i = trim m := by unfold putI; rw [if_pos hout]
    rw [hp]
    have hcase : (i < 0) ∨ (¬ i < 0 ∧ 1024 ≤ i) := by omega
    have HO := Lib.hid (rorder_any A m.length c m w rfl hr hc (by omega))
    clear hout hp
    rcases hcase with h | ⟨h, h'⟩
    all_goals
      go_enter Try.func18, Try.ntmps18
      go_wp2_with fail
      refine HO.out.mono ?_
      rintro e w1 ⟨A1, c1, rfl, hown, hc1, hb1⟩
      go_wp2
      go_ret
      exact ⟨A1, c1, rfl, hown, hc1, hb1⟩
  · obtain ⟨k, rfl⟩ := Int.eq_ofNat_of_zero_le (show 0 ≤ i by omega)
    have hk : k < 1024 := by omega
    have hp : putI m (k : Int) = joinN m (oneN k) := by unfold putI; rw [if_neg hout]; rfl
    rw [hp]
    obtain ⟨w1, hmk, hown1, hb1⟩ := make_words w (k / 64 + 1) (by omega)
    rw [show ((k / 64 + 1 : Nat) : Int) = (k : Int) / 64 + 1 from by omega] at hmk
    have hii := fun W => bit_any (k % 64) W (Nat.mod_lt _ (by decide))
    rw [show ((k % 64 : Nat) : Int) = (k : Int) % 64 from by omega] at hii
    have HI := Lib.hid hii
    obtain ⟨g, hg, hg1, hg2, hgc, hgf, hgs⟩ := hown1.spot (WB_get (List.replicate (k / 64 + 1) 0) (k / 64) (by simp))
    obtain rfl : g = w.heap.size := (congrArg Addr.block (Option.some.inj hg)).symm
    clear hg
    obtain ⟨s1, s2⟩ := hgs (.int .u64 ((2 ^ (k % 64) : Nat) : Int))
    rw [show (WB (List.replicate (k / 64 + 1) 0)).set (k / 64) (.int .u64 ((2 ^ (k % 64) : Nat) : Int)) = WB ((List.replicate (k / 64 + 1) 0).set (k / 64) (2 ^ (k % 64))) from by simp [WB, List.map_set], one_set] at s1
    have hb9 : Below w.heap.size w (w1.setCell ⟨w.heap.size, k / 64, none⟩ (.int .u64 ((2 ^ (k % 64) : Nat) : Int))) := hb1.setCell (Nat.le_refl _) _
    have hsz9 := hb9.size
    have HJ := Lib.hid (rjoin_any A (some ⟨w.heap.size, 0, none⟩) m.length (k / 64 + 1) c (k / 64 + 1) m (oneN k) _ rfl (one_length k).symm hw (one_all k) ((hr.below hb9).more hsz9) s1.rd (by omega) (by rw [one_length]; omega))
    rw [show ((k / 64 + 1 : Nat)) = (k / 64 + 1 : Nat) from rfl] at HJ
    generalize 2 ^ (k % 64) = p at *
    generalize (List.replicate (k / 64 + 1) 0).getD (k / 64) 0 = z0 at *
    clear hgs hii hp hout s1 s2 hown1 hsz9 hb1 hr hw
    have hq : (k : Int) / 64 = ((k / 64 : Nat) : Int) := by omega
    rw [hq] at hmk
    have hql : k / 64 < 16 := by omega
    generalize k / 64 = q at *
    go_enter Try.func18, Try.ntmps18
    go_wp2_with fail
    refine (HI.out _).mono ?_
    rintro e w' ⟨rfl, rfl⟩
    go_wp2_with fail
    refine HJ.out.mono ?_
    rintro e w2 ⟨A1, c1, rfl, hown, hc1, hb2⟩
    go_wp2
    go_ret
    exact ⟨A1, c1, rfl, hown.mono hb9.size, hc1, hb9.trans (hb2.mono hb9.size)⟩
/-- whole numbers of 64 bits -/
def AllI (l : List Int) : Prop := ∀ x ∈ l, -9223372036854775808 ≤ x ∧ x ≤ 9223372036854775807
theorem of_any (A : Option Addr) (n c : Nat) (l : List Int) (w : World) (hn : n = l.length) (hl : AllI l) (hr : Rd w w.heap.size A (IB l)) (hsz : l.length ≤ 9223372036854775807) :
    Calls Try.prog 24 #[.slice A n c] w (GivesW w (ofI l)) := by
  subst hn
  have HT := Lib.hid (of_take l)
  go_enter Try.func24, Try.ntmps24
  go_wp2
  go_loopw [3, 8] (fun v i wr => ∃ (k : Nat) (D : Option Addr) (cc : Nat) (r : List Nat), k ≤ l.length ∧ i = .int .i64 (k : Int) ∧ v = .slice D r.length cc ∧ Hid (r = ofI (l.take k)) ∧ Own wr w.heap.size 35 (.slice D r.length cc) (WB r) ∧ Below w.heap.size w wr) (fun _ i _ => l.length - (intOf i).toNat)
  case atStart => exact ⟨0, none, 0, [], Nat.zero_le _, rfl, rfl, rfl, Own.nilv _ _ _, Below.refl _ _⟩
  case round =>
    obtain ⟨k, D, cc, r, hk, rfl, rfl, hr', hown, hb⟩ := hrel
    have hsw := hb.size
    by_cases hlt : k < l.length
    · obtain ⟨b, o, rfl, hbb, hcell⟩ := (hr.below hb).at_ (IB_get l k hlt)
      have hx := hl (l.getD k 0) (by have : l.getD k 0 = l[k] := by simp [List.getD, hlt]
                                     rw [this]; exact List.getElem_mem hlt)
      have hT := HT.out k hlt
      rw [← hr'.out] at hT
      have hrl : r.length ≤ 16 := by rw [hr'.out]; exact of_length _
      have hra : AllW r := by rw [hr'.out]; exact of_all _
      have HP := Lib.hid (put_any D r.length cc r (l.getD k 0) wr rfl hra hown.rd (by omega) hx.2 hx.1)
      have HR := Lib.hid hT
      generalize l.getD k 0 = x at *
      clear hT hr'
      go_wp2_with fail
      refine HP.out.mono ?_
      rintro e w1 ⟨A1, c1, rfl, hown1, hc1, hb1⟩
      go_wp2
      go_roundw
      case rel => exact ⟨k + 1, A1, c1, _, by omega, by go_num, rfl, HR.out.symm, hown1.mono hsw, hb.trans (hb1.mono hsw)⟩
      case measure => simp [intOf]; omega
    · have hz : r = ofI l := by rw [hr'.out, List.take_of_length_le (by omega)]
      clear hr'
      go_wp2
      go_ret
      exact givesW_mk hz hown hb
theorem rall_any (A : Option Addr) (n c : Nat) (m : List Nat) (w : World) (hn : n = m.length) (hw : AllW m) (hr : Rd w w.heap.size A (WB m)) (hsz : m.length ≤ 274877906000) :
    Calls Try.prog 19 #[.slice A n c] w (GivesI w (allI m)) := by
  subst hn
  have HH := Lib.hid (fun (W : World) (hB : Below w.heap.size w W) (i : Nat) (hi : i < 64 * m.length) => rhas_any A m.length c m (i : Int) W rfl hw ((hr.below hB).more hB.size) (by omega) (by omega))
  have HM : Hid (allI m = allTo m (64 * m.length)) := rfl
  go_enter Try.func19, Try.ntmps19
  go_wp2
  go_loopw [3, 4] (fun v i wr => ∃ (k : Nat) (D : Option Addr) (cc : Nat) (r : List Int), k ≤ 64 * m.length ∧ i = .int .i64 (k : Int) ∧ v = .slice D r.length cc ∧ Hid (r = allTo m k) ∧ Own wr w.heap.size 3 (.slice D r.length cc) (IB r) ∧ Below w.heap.size w wr) (fun _ i _ => 64 * m.length - (intOf i).toNat)
  case atStart => exact ⟨0, none, 0, [], Nat.zero_le _, rfl, rfl, rfl, Own.nilv _ _ _, Below.refl _ _⟩
  case round =>
    obtain ⟨k, D, cc, r, hk, rfl, rfl, hr', hown, hb⟩ := hrel
    have hsw := hb.size
    have hrl : r.length ≤ k := by rw [hr'.out]; exact allTo_length _ _
    by_cases hlt : k < 64 * m.length
    · have hh := HH.out wr hb k hlt
      have hik : hasI m (k : Int) = hasN m k := by unfold hasI; rw [decide_eq_true (by omega)]; rfl
      rw [hik] at hh
      have hz4 : r.length + [(k : Int)].length ≤ 17592186044416 := by simp; omega
      cases hbit : hasN m k with
      | true =>
        rw [hbit] at hh
        have HC := Lib.hid hh
        have HY := Lib.hid (allTo_yes hbit)
        clear hh hik hbit
        go_wp2_with (first
          | (go_at_call 21; refine HC.out.mono ?_; rintro e w' ⟨rfl, rfl⟩)
          | (at_builtin; refine wpl_appI rfl (.tmp 15) (.tmp 17) rfl w.heap.size _ r rfl (hown.alloc _) _ _ _ _ [(k : Int)] rfl rfl (rd_oneI _ (k : Int)) hz4 (by (simp; omega)) ?_; intro A4 c4 w4 r4 hr4 hown4 hg4 hb4))
        go_roundw
        case rel => exact ⟨k + 1, A4, c4, r4, by omega, by go_num, rfl, (by show r4 = _; rw [hr4.out, hr'.out, HY.out]), hown4, (hb.alloc hsw _).trans hb4⟩
        case measure => simp [intOf]; omega
      | false =>
        rw [hbit] at hh
        have HC := Lib.hid hh
        have HY := Lib.hid (allTo_no hbit)
        clear hh hik hbit
        go_wp2_with (go_at_call 21; refine HC.out.mono ?_; rintro e w' ⟨rfl, rfl⟩)
        go_roundw
        case rel => exact ⟨k + 1, D, cc, r, by omega, by go_num, rfl, (by show r = _; rw [hr'.out, HY.out]), hown, hb⟩
        case measure => simp [intOf]; omega
    · obtain rfl : k = 64 * m.length := by omega
      have hz : r = allI m := by rw [hr'.out, HM.out]
      clear hr'
      go_wp2
      go_ret
      exact givesI_mk hz hown hb
end Go.Proofs.Ytijdkbejlaebhaa.Mask
