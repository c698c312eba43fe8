/- The walks of layer 40, continued: All, Size, the reference's Same, the example. -/
import Derived.Test.YtnmcclkpgbdenaaMaskAll
namespace Go.Proofs.Ytnmcclkpgbdenaa.Mask
open Go.RowKit Go.Proofs.Ytnmcclkpgbdenaa.Mem

set_option maxHeartbeats 400000 in
theorem all_any (A : Option Addr) (n c : Nat) (m : List Nat) (w : World) (hn : n = m.length) (hw : AllW m) (hr : Rd w w.heap.size A (WB m)) (hsz : m.length ≤ 274877906000) :
    Calls Try.prog 63 #[.slice A n c] w (GivesI w (allI m)) := by
  subst hn
  have HM : Hid (allI m = allTo m (64 * m.length)) := rfl
  have HX := Lib.hid (fun k => wordN_lt hw k)
  go_enter Try.func63, Try.ntmps63
  go_wp2
  go_loopw [3, 9] (fun v i wr => ∃ (k : Nat) (D : Option Addr) (cc : Nat) (r : List Int), k ≤ m.length ∧ i = .int .i64 (k : Int) ∧ v = .slice D r.length cc ∧ Hid (r = allTo m (64 * k)) ∧ Own wr w.heap.size 3 (.slice D r.length cc) (IB r) ∧ Below w.heap.size w wr) (fun _ i _ => m.length - (intOf i).toNat)
  case atStart => exact ⟨0, none, 0, [], Nat.zero_le _, rfl, rfl, rfl, Own.nilv _ _ _, Below.refl _ _⟩
  case round =>
    obtain ⟨k, D, cc, r, hk, rfl, rfl, hr', hown, hb⟩ := hrel
    by_cases hlt : k < m.length
    · obtain ⟨b, o, rfl, hbb, hcell⟩ := (hr.below hb).at_ (WB_get m k hlt)
      have hxl := HX.out k
      have hxe : m.getD k 0 = wordN m k := rfl
      rw [hxe] at hcell
      have HW := Lib.hid (fun j (hj : j < 64) => hasN_word (m := m) (k := k) hj)
      have HR := Lib.hid (fun j (hj : j ≤ 64) h => allTo_rest (m := m) (k := k) (j := j) hj h)
      obtain ⟨x, hx⟩ : ∃ x, x = wordN m k := ⟨_, rfl⟩
      rw [← hx] at hcell hxl HW HR
      clear hxe hx
      go_wp2
      obtain ⟨wo, rfl⟩ : ∃ wo : World, wo = wr := ⟨_, rfl⟩
      go_loopw [3, 5, 6] (fun v q i wr => ∃ (j y : Nat) (D : Option Addr) (cc : Nat) (r : List Int), j ≤ 64 ∧ Hid (y = x / 2 ^ j) ∧ y < 18446744073709551616 ∧ q = .int .u64 (y : Int) ∧ i = .int .i64 (64 * (k : Int) + (j : Int)) ∧ v = .slice D r.length cc ∧ Hid (r = allTo m (64 * k + j)) ∧ Own wr w.heap.size 3 (.slice D r.length cc) (IB r) ∧ Below w.heap.size w wr) (fun _ q _ _ => (intOf q).toNat)
      case atStart => exact ⟨0, x, D, cc, r, by omega, (by show x = _; simp), hxl, rfl, (by simp), rfl, hr', hown, hb⟩
      case round =>
        obtain ⟨j, y, D, cc, r, hj, hy, hyl, rfl, rfl, rfl, hr', hown, hb⟩ := hrel
        have hsw := hb.size
        have hrl : r.length ≤ 64 * k + j := by rw [hr'.out]; exact allTo_length _ _
        by_cases hy0 : 0 < y
        · have hj2 : j < 64 := by
            rcases Nat.lt_or_ge j 64 with h | h
            · exact h
            · have h64 : j = 64 := by omega
              have := hy.out
              rw [h64, Nat.div_eq_of_lt (show x < 2 ^ 64 from hxl)] at this
              omega
          have hz4 : r.length + [(64 * (k : Int) + (j : Int))].length ≤ 17592186044416 := by simp; omega
          have hh := HW.out j hj2
          rw [← hy.out] at hh
          have h1 := and_1 y hyl
          have hy2 : Hid (y / 2 = x / 2 ^ (j + 1)) := by show _ = _; rw [hy.out, Nat.pow_succ, Nat.div_div_eq_div_mul]
          have hjj : ((64 * k + j : Nat) : Int) = 64 * (k : Int) + (j : Int) := by omega
          by_cases hbit : y % 2 = 1
          · have HY := Lib.hid (allTo_yes (m := m) (N := 64 * k + j) (by rw [hh, decide_eq_true hbit]))
            rw [hjj] at HY
            rw [hbit] at h1
            clear hh hjj hbit hy
            go_wp2_with (at_builtin; refine wpl_appI rfl (.tmp 23) (.tmp 25) rfl w.heap.size _ r rfl (hown.alloc _) _ _ _ _ [(64 * (k : Int) + (j : Int))] rfl rfl (rd_oneI _ _) hz4 (by (simp; omega)) ?_; intro A4 c4 w4 r4 hr4 hown4 hg4 hb4)
            go_roundw
            case rel => exact ⟨j + 1, y / 2, A4, c4, r4, by omega, hy2, by omega, by go_num, by go_num, rfl, (by show r4 = _; rw [hr4.out, hr'.out]; exact HY.out.symm), hown4, (hb.alloc hsw _).trans hb4⟩
            case measure => simp [intOf]; omega
          · have HY := Lib.hid (allTo_no (m := m) (N := 64 * k + j) (by rw [hh, decide_eq_false hbit]))
            rw [show y % 2 = 0 from by omega] at h1
            clear hh hjj hbit hy
            go_wp2
            go_roundw
            case rel => exact ⟨j + 1, y / 2, D, cc, r, by omega, hy2, by omega, by go_num, by go_num, rfl, (by show r = _; rw [hr'.out]; exact HY.out.symm), hown, hb⟩
            case measure => simp [intOf]; omega
        · obtain rfl : y = 0 := by omega
          have hend := HR.out j hj hy.out.symm
          have HE := Lib.hid hend
          clear hend hy
          go_wp2
          go_roundw
          case rel => exact ⟨k + 1, D, cc, r, by omega, by go_num, rfl, (by show r = _; rw [hr'.out, ← HE.out]; rfl), hown, hb⟩
          case measure => simp [intOf]; omega
    · obtain rfl : k = m.length := by omega
      have hz : r = allI m := by rw [hr'.out, HM.out]
      clear hr'
      go_wp2
      go_ret
      exact givesI_mk hz hown hb
theorem rd_lit2W (w : World) (a b : Nat) : Rd (w.alloc (.cells #[.int .u64 (a : Int), .int .u64 (b : Int)] 35)) (w.heap.size + 1) (some ⟨w.heap.size, 0, none⟩) (WB [a, b]) := Rd.new w [.int .u64 (a : Int), .int .u64 (b : Int)] 35
theorem rd_lit2I (w : World) (a b : Int) : Rd (w.alloc (.cells #[.int .i64 a, .int .i64 b] 3)) (w.heap.size + 1) (some ⟨w.heap.size, 0, none⟩) (IB [a, b]) := Rd.new w [.int .i64 a, .int .i64 b] 3
end Go.Proofs.Ytnmcclkpgbdenaa.Mask
