import Derived.Test.YtfkfpanhbanljaaGreatMaskWalks
import Derived.Lib.MinMax
/- The walks of layer 40, continued: the comparison of masks, and of lists of integers. -/
namespace Go.Proofs.YtfkfpanhbanljaaGreat.Mask
open Go.RowKit Go.Proofs.YtfkfpanhbanljaaGreat.Mem

theorem take_lastI (m : List Int) (j : Nat) (h : j < m.length) : m.take (j + 1) = m.take j ++ [m.getD j 0] := by
  rw [List.take_succ_eq_append_getElem h]; simp [List.getD, h]
theorem eq_any (B B' : Nat) (A A' : Option Addr) (n m c c' : Nat) (a b : List Nat) (w : World) (hn : n = a.length) (hm : m = b.length) (h1 : Rd w B A (WB a)) (h2 : Rd w B' A' (WB b)) (hsz : a.length ≤ 9223372036854775807) :
    Calls Tryz.prog 12 #[.slice A n c, .slice A' m c'] w fun e w' => e = .returned (.bool (decide (a = b))) ∧ ∃ q, w' = w.drewN q := by
  subst hn hm
  by_cases hl : a.length = b.length
  · have hne : ((a.length : Int) != (b.length : Int)) = false := by simp; omega
    have HL := Lib.hid hl
    clear hl
    go_enter Tryz.func12, Tryz.ntmps12
    go_wp2
    go_loopw [5] (fun i wr => ∃ k q : Nat, k ≤ a.length ∧ i = .int .i64 (k : Int) ∧ Hid (a.take k = b.take k) ∧ wr = w.drewN q) (fun i _ => a.length - (intOf i).toNat)
    case atStart => exact ⟨0, 0, Nat.zero_le _, rfl, rfl, rfl⟩
    case round =>
      obtain ⟨k, q, hk, rfl, ht, rfl⟩ := hrel
      by_cases hlt : k < a.length
      · have hlt2 : k < b.length := by rw [← HL.out]; exact hlt
        obtain ⟨b1, o1, rfl, hb1, hc1⟩ := h1.at_ (WB_get a k hlt)
        obtain ⟨b2, o2, rfl, hb2, hc2⟩ := h2.at_ (WB_get b k hlt2)
        by_cases hxy : a.getD k 0 = b.getD k 0
        · have ht2 : Hid (a.take (k + 1) = b.take (k + 1)) := by show _ = _; rw [take_last a k hlt, take_last b k hlt2, ht.out, hxy]
          rw [hxy] at hc1
          generalize b.getD k 0 = y at *
          clear hxy ht
          go_wp2
          go_quiet (fail)
          go_wp2
          go_roundw
          case rel => exact ⟨k + 1, q + nq, by omega, by go_num, ht2, by simp⟩
          case measure => simp [intOf]; omega
        · have hf : decide (a = b) = false := decide_eq_false (fun e => hxy (by rw [e]))
          have HF := Lib.hid hf
          have hb : ((a.getD k 0 : Int) != (b.getD k 0 : Int)) = true := by rw [bne_iff_ne]; intro h; exact hxy (by omega)
          generalize a.getD k 0 = x at *
          generalize b.getD k 0 = y at *
          clear hxy ht hf
          go_wp2
          go_quiet (fail)
          go_wp2
          go_ret
          exact ⟨ret_bool HF.out.symm, q + nq, by simp⟩
      · have hf : decide (a = b) = true := by
          have e1 : a.take k = a := List.take_of_length_le (by omega)
          have e2 : b.take k = b := List.take_of_length_le (by rw [← HL.out]; omega)
          have := ht.out
          rw [e1, e2] at this
          exact decide_eq_true this
        have HF := Lib.hid hf
        clear hf ht
        go_wp2
        go_ret
        exact ⟨ret_bool HF.out.symm, q, rfl⟩
  · have hne : ((a.length : Int) != (b.length : Int)) = true := by simp; omega
    have hf : decide (a = b) = false := decide_eq_false (fun e => hl (by rw [e]))
    have HF := Lib.hid hf
    clear hf hl
    go_enter Tryz.func12, Tryz.ntmps12
    go_wp2
    go_ret
    exact ⟨ret_bool HF.out.symm, 0, rfl⟩
end Go.Proofs.YtfkfpanhbanljaaGreat.Mask

/- The walks of layer 40, continued: what is done with all words of two masks. -/
namespace Go.Proofs.YtfkfpanhbanljaaGreat.Mask
open Go.RowKit Go.Proofs.YtfkfpanhbanljaaGreat.Mem

/-- the beginning of a row of the call's own -/
theorem own_trim {w : World} {base : Nat} {A : Option Addr} {n c : Nat} {m : List Nat} (h : Own w base 33 (.slice A n c) (WB m)) : Own w base 33 (.slice A (trim m).length c) (WB (trim m)) := by
  obtain ⟨z, he, _⟩ := trim_spec m
  have hw : WB m = WB (trim m) ++ WB (List.replicate z 0) := by rw [← WB_append, ← he]
  have hl := trim_length m
  unfold Own at h ⊢
  rw [WB_length] at h ⊢
  refine ⟨by rw [WB_length]; omega, ?_⟩
  rcases h.2 with ⟨h1, h0⟩ | ⟨g, cap, cur, h1, hb, hg, hnc, hcm, hcs, htake⟩
  · injection h1 with e1 e2 e3
    have : m = [] := List.eq_nil_of_length_eq_zero h0
    subst this e1 e3
    exact .inl ⟨rfl, rfl⟩
  · injection h1 with e1 e2 e3
    subst e1 e3
    refine .inr ⟨g, c, cur, rfl, hb, hg, by omega, hcm, hcs, ?_⟩
    rw [Nat.mul_one] at htake ⊢
    have h2 := congrArg (List.take (trim m).length) htake
    rw [List.take_take, Nat.min_eq_left hl, hw] at h2
    rw [h2, ← WB_length (trim m), List.take_left]
theorem andNot_raw (x y : Nat) (hx : x < 18446744073709551616) (hy : y < 18446744073709551616) : bits .andNot .u64 (x : Int) (y : Int) = ((andNot x y : Nat) : Int) := by
  rw [u64_andNot_nat x y hx hy]
  congr 1
  apply Nat.eq_of_testBit_eq
  intro j
  rw [andNot_bit, Nat.testBit_and, show 18446744073709551615 - y = 2 ^ 64 - (y + 1) from by omega, Nat.testBit_two_pow_sub_succ hy]
  by_cases hj : j < 64
  · simp [hj]
  · rw [Nat.testBit_lt_two_pow (Nat.lt_of_lt_of_le (show x < 2 ^ 64 from hx) (Nat.pow_le_pow_right (by decide) (by omega)))]
    rfl
theorem eachJ_any (A A' : Option Addr) (n m c c' : Nat) (a b : List Nat) (w : World) (hn : n = a.length) (hm : m = b.length) (ha : AllW a) (hb : AllW b) (h1 : Rd w w.heap.size A (WB a)) (h2 : Rd w w.heap.size A' (WB b)) (hsz : a.length ≤ 17592186044416) (hsz2 : b.length ≤ 17592186044416) :
    Calls Tryz.prog 36 #[.slice A n c, .slice A' m c', .func (.func 37) #[] #[]] w (GivesW w (trim (zipW (· ||| ·) a b))) := by
  subst hn hm
  have hzl := zipW_length (· ||| ·) a b
  obtain ⟨N, hN⟩ : ∃ N, N = max a.length b.length := ⟨_, rfl⟩
  have hNl : N ≤ 17592186044416 := by omega
  obtain ⟨w1, hmk, hown1, hb1⟩ := make_words w N hNl
  have HW1 := Lib.hid (fun (W : World) (hB : Below w.heap.size w W) (i : Nat) => word_any A _ c a i W rfl ((h1.below hB).more hB.size))
  have HW2 := Lib.hid (fun (W : World) (hB : Below w.heap.size w W) (i : Nat) => word_any A' _ c' b i W rfl ((h2.below hB).more hB.size))
  have HZ := Lib.hid (fun k (hk : k < N) => wordN_zip' (· ||| ·) a b k (by omega))
  have HA := Lib.hid (fun k => wordN_lt ha k)
  have HB := Lib.hid (fun k => wordN_lt hb k)
  have HZL : Hid ((zipW (· ||| ·) a b).length = N) := by show _ = _; rw [hzl, hN]
  have hmax : max (a.length : Int) (b.length : Int) = (N : Int) := by omega
  rw [show List.replicate N 0 = upTo (zipW (· ||| ·) a b) 0 from by rw [upTo_zero, HZL.out]] at hown1
  generalize zipW (· ||| ·) a b = z at *
  have HN := Lib.hid hN
  clear hN hzl ha hb h1 h2
  go_enter Tryz.func36, Tryz.ntmps36
  go_wp2
  go_loopw [17] (fun i wr => ∃ k : Nat, k ≤ N ∧ i = .int .i64 (k : Int) ∧ Own wr w.heap.size 33 (.slice (some ⟨w.heap.size, 0, none⟩) N N) (WB (upTo z k)) ∧ Below w.heap.size w wr) (fun i _ => N - (intOf i).toNat)
  case atStart => exact ⟨0, Nat.zero_le _, rfl, hown1, hb1⟩
  case round =>
    obtain ⟨k, hk, rfl, hown, hbl⟩ := hrel
    by_cases hlt : k < N
    · have hl := upTo_length z k (by rw [HZL.out]; exact hk)
      obtain ⟨g, hg, hg1, hg2, hgc, hgf, hgs⟩ := hown.spot (WB_get (upTo z k) k (by rw [hl, HZL.out]; exact hlt))
      obtain rfl : g = w.heap.size := (congrArg Addr.block (Option.some.inj hg)).symm
      clear hg
      have hset := upTo_set z k (by rw [HZL.out]; exact hlt)
      have hzk : wordN z k = wordN a k ||| wordN b k := HZ.out k hlt
      rw [hzk] at hset
      clear hzk
      have hx := HA.out k
      have hy := HB.out k
      have C1 := Lib.hid (HW1.out wr hbl k)
      have C2 := Lib.hid (HW2.out wr hbl k)
      generalize wordN a k = x at *
      generalize wordN b k = y at *
      have hop := u64_or_nat x y hx hy
      obtain ⟨s1, s2⟩ := hgs (.int .u64 ((x ||| y : Nat) : Int))
      rw [show (WB (upTo z k)).set k (.int .u64 ((x ||| y : Nat) : Int)) = WB ((upTo z k).set k (x ||| y)) from by simp [WB, List.map_set], hset] at s1
      have hb2 : Below w.heap.size w (wr.setCell ⟨w.heap.size, k, none⟩ (.int .u64 ((x ||| y : Nat) : Int))) := hbl.setCell (Nat.le_refl _) _
      generalize x ||| y = v at *
      clear hgs hset hown hl
      go_wp2_with fail
      refine C1.out.mono ?_
      rintro e w' ⟨rfl, rfl⟩
      go_wp2_with fail
      refine C2.out.mono ?_
      rintro e w' ⟨rfl, rfl⟩
      go_wp2_with go_in
      go_roundw
      case rel => exact ⟨k + 1, by omega, by go_num, s1, hb2⟩
      case measure => simp [intOf]; omega
    · obtain rfl : k = N := by omega
      rw [show upTo z k = z from by rw [← HZL.out]; exact upTo_all z] at hown
      have hrd := hown.rd
      have HO := Lib.hid (order_any (some ⟨w.heap.size, 0, none⟩) k k z wr HZL.out.symm hrd (by rw [HZL.out]; exact Nat.le_refl _) (by rw [HZL.out]; omega))
      go_wp2_with fail
      refine HO.out.mono ?_
      rintro e w' ⟨rfl, rfl⟩
      go_wp2
      go_ret
      exact ⟨_, _, rfl, own_trim hown, by have := trim_length z; rw [HZL.out] at this; exact this, hbl⟩
end Go.Proofs.YtfkfpanhbanljaaGreat.Mask

/- The walks of layer 40, continued: Join, Meet, Minus, Same, of the package and of its reference. -/
namespace Go.Proofs.YtfkfpanhbanljaaGreat.Mask
open Go.RowKit Go.Proofs.YtfkfpanhbanljaaGreat.Mem

theorem join_any (A A' : Option Addr) (n m c c' : Nat) (a b : List Nat) (w : World) (hn : n = a.length) (hm : m = b.length) (ha : AllW a) (hb : AllW b) (h1 : Rd w w.heap.size A (WB a)) (h2 : Rd w w.heap.size A' (WB b)) (hsz : a.length ≤ 17592186044416) (hsz2 : b.length ≤ 17592186044416) :
    Calls Tryz.prog 26 #[.slice A n c, .slice A' m c'] w (GivesW w (joinN a b)) := by
  have C := Lib.hid (eachJ_any A A' n m c c' a b w hn hm ha hb h1 h2 hsz hsz2)
  clear hn hm
  go_enter Tryz.func26, Tryz.ntmps26
  go_wp2_with fail
  refine C.out.mono ?_
  rintro e w1 ⟨A1, c1, rfl, hown, hc1, hb1⟩
  go_wp2
  go_ret
  exact ⟨A1, c1, rfl, hown, hc1, hb1⟩
set_option maxHeartbeats 400000 in
theorem rsetJ_any (A A' : Option Addr) (n m c c' : Nat) (a b : List Nat) (w : World) (hn : n = a.length) (hm : m = b.length) (ha : AllW a) (hb : AllW b) (h1 : Rd w w.heap.size A (WB a)) (h2 : Rd w w.heap.size A' (WB b)) (hsz : a.length ≤ 17592186044416) (hsz2 : b.length ≤ 17592186044416) :
    Calls Tryz.prog 51 #[.slice A n c, .slice A' m c', .int .i64 0] w (GivesW w (trim (zipW (· ||| ·) a b))) := by
  have HW1 := Lib.hid (fun (W : World) (hB : Below w.heap.size w W) (i : Nat) => rword_any A n c a i W hn ((h1.below hB).more hB.size))
  have HW2 := Lib.hid (fun (W : World) (hB : Below w.heap.size w W) (i : Nat) => rword_any A' m c' b i W hm ((h2.below hB).more hB.size))
  have HA := Lib.hid (fun k => wordN_lt ha k)
  have HB := Lib.hid (fun k => wordN_lt hb k)
  have HT := Lib.hid (fun k hk => zip_take (· ||| ·) a b k hk)
  have HZL := Lib.hid (zipW_length (· ||| ·) a b)
  rw [← hn, ← hm] at HZL HT
  have hnm : n ≤ 17592186044416 ∧ m ≤ 17592186044416 := by omega
  obtain ⟨hnl, hml⟩ := hnm
  generalize zipW (· ||| ·) a b = z at *
  clear hn hm ha hb h1 h2 hsz hsz2
  by_cases hcmp : n < m
  · rw [Nat.max_eq_right (Nat.le_of_lt hcmp)] at HZL HT
    go_enter Tryz.func51, Tryz.ntmps51
    go_wp2
    go_loopw [8, 9] (fun v i wr => ∃ (k : Nat) (D : Option Addr) (cc : Nat) (r : List Nat), k ≤ m ∧ i = .int .i64 (k : Int) ∧ v = .slice D r.length cc ∧ Hid (r = z.take k) ∧ Own wr w.heap.size 33 (.slice D r.length cc) (WB r) ∧ Below w.heap.size w wr) (fun _ i _ => m - (intOf i).toNat)
    case atStart => exact ⟨0, none, 0, [], Nat.zero_le _, rfl, rfl, rfl, Own.nilv _ _ _, Below.refl _ _⟩
    case round =>
      obtain ⟨k, D, cc, r, hk, rfl, rfl, hr, hown, hbl⟩ := hrel
      have hrl : r.length ≤ k := by rw [hr.out, List.length_take]; omega
      have hsw := hbl.size
      by_cases hlt : k < m
      · have hx := HA.out k
        have hy := HB.out k
        have C1 := Lib.hid (HW1.out wr hbl k)
        have C2 := Lib.hid (HW2.out wr hbl k)
        have hT : z.take (k + 1) = z.take k ++ [wordN a k ||| wordN b k] := HT.out k hlt
        rw [← hr.out] at hT
        generalize wordN a k = x at *
        generalize wordN b k = y at *
        have hop := u64_or_nat x y hx hy
        have HR := Lib.hid hT
        clear hT hr
        obtain ⟨v, hv⟩ : ∃ v : Nat, v = x ||| y := ⟨_, rfl⟩
        rw [← hv] at hop HR
        clear hv
        have hz4 : r.length + [v].length ≤ 17592186044416 := by simp; omega
        go_wp2_with fail
        refine C1.out.mono ?_
        rintro e w' ⟨rfl, rfl⟩
        go_wp2_with fail
        refine C2.out.mono ?_
        rintro e w' ⟨rfl, rfl⟩
        go_wp2_with (at_builtin; refine wpl_appW rfl (.tmp 47) (.tmp 49) rfl w.heap.size _ r rfl (hown.alloc _) _ _ _ _ [v] rfl rfl (rd_oneW _ v) hz4 (by (simp; omega)) ?_; intro A4 c4 w4 r4 hr4 hown4 hg4 hb4)
        go_roundw
        case rel => exact ⟨k + 1, A4, c4, r4, by omega, by go_num, rfl, (by show r4 = _; rw [hr4.out, HR.out]), hown4, (hbl.alloc hsw _).trans hb4⟩
        case measure => simp [intOf]; omega
      · have hz : r = z := by rw [hr.out]; exact List.take_of_length_le (by rw [HZL.out]; omega)
        subst hz
        have hle : r.length ≤ cc := by
          obtain ⟨_, _, he, hle, _⟩ := hown.form
          rw [WB_length] at hle
          injection he with _ _ h3
          omega
        have HO := Lib.hid (rorder_any D r.length cc r wr rfl hown.rd hle (by omega))
        go_wp2_with fail
        refine HO.out.mono ?_
        rintro e w1 ⟨A1, c1, rfl, hown1, hc1, hb1⟩
        go_wp2
        go_ret
        exact ⟨A1, c1, rfl, hown1.mono hsw, hc1, hbl.trans (hb1.mono hsw)⟩
  · rw [Nat.max_eq_left (Nat.not_lt.1 hcmp)] at HZL HT
    go_enter Tryz.func51, Tryz.ntmps51
    go_wp2
    go_loopw [8, 9] (fun v i wr => ∃ (k : Nat) (D : Option Addr) (cc : Nat) (r : List Nat), k ≤ n ∧ i = .int .i64 (k : Int) ∧ v = .slice D r.length cc ∧ Hid (r = z.take k) ∧ Own wr w.heap.size 33 (.slice D r.length cc) (WB r) ∧ Below w.heap.size w wr) (fun _ i _ => n - (intOf i).toNat)
    case atStart => exact ⟨0, none, 0, [], Nat.zero_le _, rfl, rfl, rfl, Own.nilv _ _ _, Below.refl _ _⟩
    case round =>
      obtain ⟨k, D, cc, r, hk, rfl, rfl, hr, hown, hbl⟩ := hrel
      have hrl : r.length ≤ k := by rw [hr.out, List.length_take]; omega
      have hsw := hbl.size
      by_cases hlt : k < n
      · have hx := HA.out k
        have hy := HB.out k
        have C1 := Lib.hid (HW1.out wr hbl k)
        have C2 := Lib.hid (HW2.out wr hbl k)
        have hT : z.take (k + 1) = z.take k ++ [wordN a k ||| wordN b k] := HT.out k hlt
        rw [← hr.out] at hT
        generalize wordN a k = x at *
        generalize wordN b k = y at *
        have hop := u64_or_nat x y hx hy
        have HR := Lib.hid hT
        clear hT hr
        obtain ⟨v, hv⟩ : ∃ v : Nat, v = x ||| y := ⟨_, rfl⟩
        rw [← hv] at hop HR
        clear hv
        have hz4 : r.length + [v].length ≤ 17592186044416 := by simp; omega
        go_wp2_with fail
        refine C1.out.mono ?_
        rintro e w' ⟨rfl, rfl⟩
        go_wp2_with fail
        refine C2.out.mono ?_
        rintro e w' ⟨rfl, rfl⟩
        go_wp2_with (at_builtin; refine wpl_appW rfl (.tmp 47) (.tmp 49) rfl w.heap.size _ r rfl (hown.alloc _) _ _ _ _ [v] rfl rfl (rd_oneW _ v) hz4 (by (simp; omega)) ?_; intro A4 c4 w4 r4 hr4 hown4 hg4 hb4)
        go_roundw
        case rel => exact ⟨k + 1, A4, c4, r4, by omega, by go_num, rfl, (by show r4 = _; rw [hr4.out, HR.out]), hown4, (hbl.alloc hsw _).trans hb4⟩
        case measure => simp [intOf]; omega
      · have hz : r = z := by rw [hr.out]; exact List.take_of_length_le (by rw [HZL.out]; omega)
        subst hz
        have hle : r.length ≤ cc := by
          obtain ⟨_, _, he, hle, _⟩ := hown.form
          rw [WB_length] at hle
          injection he with _ _ h3
          omega
        have HO := Lib.hid (rorder_any D r.length cc r wr rfl hown.rd hle (by omega))
        go_wp2_with fail
        refine HO.out.mono ?_
        rintro e w1 ⟨A1, c1, rfl, hown1, hc1, hb1⟩
        go_wp2
        go_ret
        exact ⟨A1, c1, rfl, hown1.mono hsw, hc1, hbl.trans (hb1.mono hsw)⟩
set_option maxHeartbeats 400000 in
theorem rsetM_any (A A' : Option Addr) (n m c c' : Nat) (a b : List Nat) (w : World) (hn : n = a.length) (hm : m = b.length) (ha : AllW a) (hb : AllW b) (h1 : Rd w w.heap.size A (WB a)) (h2 : Rd w w.heap.size A' (WB b)) (hsz : a.length ≤ 17592186044416) (hsz2 : b.length ≤ 17592186044416) :
    Calls Tryz.prog 51 #[.slice A n c, .slice A' m c', .int .i64 1] w (GivesW w (trim (zipW (· &&& ·) a b))) := by
  have HW1 := Lib.hid (fun (W : World) (hB : Below w.heap.size w W) (i : Nat) => rword_any A n c a i W hn ((h1.below hB).more hB.size))
  have HW2 := Lib.hid (fun (W : World) (hB : Below w.heap.size w W) (i : Nat) => rword_any A' m c' b i W hm ((h2.below hB).more hB.size))
  have HA := Lib.hid (fun k => wordN_lt ha k)
  have HB := Lib.hid (fun k => wordN_lt hb k)
  have HT := Lib.hid (fun k hk => zip_take (· &&& ·) a b k hk)
  have HZL := Lib.hid (zipW_length (· &&& ·) a b)
  rw [← hn, ← hm] at HZL HT
  have hnm : n ≤ 17592186044416 ∧ m ≤ 17592186044416 := by omega
  obtain ⟨hnl, hml⟩ := hnm
  generalize zipW (· &&& ·) a b = z at *
  clear hn hm ha hb h1 h2 hsz hsz2
  by_cases hcmp : n < m
  · rw [Nat.max_eq_right (Nat.le_of_lt hcmp)] at HZL HT
    go_enter Tryz.func51, Tryz.ntmps51
    go_wp2
    go_loopw [8, 9] (fun v i wr => ∃ (k : Nat) (D : Option Addr) (cc : Nat) (r : List Nat), k ≤ m ∧ i = .int .i64 (k : Int) ∧ v = .slice D r.length cc ∧ Hid (r = z.take k) ∧ Own wr w.heap.size 33 (.slice D r.length cc) (WB r) ∧ Below w.heap.size w wr) (fun _ i _ => m - (intOf i).toNat)
    case atStart => exact ⟨0, none, 0, [], Nat.zero_le _, rfl, rfl, rfl, Own.nilv _ _ _, Below.refl _ _⟩
    case round =>
      obtain ⟨k, D, cc, r, hk, rfl, rfl, hr, hown, hbl⟩ := hrel
      have hrl : r.length ≤ k := by rw [hr.out, List.length_take]; omega
      have hsw := hbl.size
      by_cases hlt : k < m
      · have hx := HA.out k
        have hy := HB.out k
        have C1 := Lib.hid (HW1.out wr hbl k)
        have C2 := Lib.hid (HW2.out wr hbl k)
        have hT : z.take (k + 1) = z.take k ++ [wordN a k &&& wordN b k] := HT.out k hlt
        rw [← hr.out] at hT
        generalize wordN a k = x at *
        generalize wordN b k = y at *
        have hor := u64_or_nat x y hx hy
        have hop := u64_and_nat x y hx hy
        have HR := Lib.hid hT
        clear hT hr
        obtain ⟨v, hv⟩ : ∃ v : Nat, v = x &&& y := ⟨_, rfl⟩
        rw [← hv] at hop HR
        clear hv
        have hz4 : r.length + [v].length ≤ 17592186044416 := by simp; omega
        go_wp2_with fail
        refine C1.out.mono ?_
        rintro e w' ⟨rfl, rfl⟩
        go_wp2_with fail
        refine C2.out.mono ?_
        rintro e w' ⟨rfl, rfl⟩
        go_wp2_with (at_builtin; refine wpl_appW rfl (.tmp 47) (.tmp 49) rfl w.heap.size _ r rfl (hown.alloc _) _ _ _ _ [v] rfl rfl (rd_oneW _ v) hz4 (by (simp; omega)) ?_; intro A4 c4 w4 r4 hr4 hown4 hg4 hb4)
        go_roundw
        case rel => exact ⟨k + 1, A4, c4, r4, by omega, by go_num, rfl, (by show r4 = _; rw [hr4.out, HR.out]), hown4, (hbl.alloc hsw _).trans hb4⟩
        case measure => simp [intOf]; omega
      · have hz : r = z := by rw [hr.out]; exact List.take_of_length_le (by rw [HZL.out]; omega)
        subst hz
        have hle : r.length ≤ cc := by
          obtain ⟨_, _, he, hle, _⟩ := hown.form
          rw [WB_length] at hle
          injection he with _ _ h3
          omega
        have HO := Lib.hid (rorder_any D r.length cc r wr rfl hown.rd hle (by omega))
        go_wp2_with fail
        refine HO.out.mono ?_
        rintro e w1 ⟨A1, c1, rfl, hown1, hc1, hb1⟩
        go_wp2
        go_ret
        exact ⟨A1, c1, rfl, hown1.mono hsw, hc1, hbl.trans (hb1.mono hsw)⟩
  · rw [Nat.max_eq_left (Nat.not_lt.1 hcmp)] at HZL HT
    go_enter Tryz.func51, Tryz.ntmps51
    go_wp2
    go_loopw [8, 9] (fun v i wr => ∃ (k : Nat) (D : Option Addr) (cc : Nat) (r : List Nat), k ≤ n ∧ i = .int .i64 (k : Int) ∧ v = .slice D r.length cc ∧ Hid (r = z.take k) ∧ Own wr w.heap.size 33 (.slice D r.length cc) (WB r) ∧ Below w.heap.size w wr) (fun _ i _ => n - (intOf i).toNat)
    case atStart => exact ⟨0, none, 0, [], Nat.zero_le _, rfl, rfl, rfl, Own.nilv _ _ _, Below.refl _ _⟩
    case round =>
      obtain ⟨k, D, cc, r, hk, rfl, rfl, hr, hown, hbl⟩ := hrel
      have hrl : r.length ≤ k := by rw [hr.out, List.length_take]; omega
      have hsw := hbl.size
      by_cases hlt : k < n
      · have hx := HA.out k
        have hy := HB.out k
        have C1 := Lib.hid (HW1.out wr hbl k)
        have C2 := Lib.hid (HW2.out wr hbl k)
        have hT : z.take (k + 1) = z.take k ++ [wordN a k &&& wordN b k] := HT.out k hlt
        rw [← hr.out] at hT
        generalize wordN a k = x at *
        generalize wordN b k = y at *
        have hor := u64_or_nat x y hx hy
        have hop := u64_and_nat x y hx hy
        have HR := Lib.hid hT
        clear hT hr
        obtain ⟨v, hv⟩ : ∃ v : Nat, v = x &&& y := ⟨_, rfl⟩
        rw [← hv] at hop HR
        clear hv
        have hz4 : r.length + [v].length ≤ 17592186044416 := by simp; omega
        go_wp2_with fail
        refine C1.out.mono ?_
        rintro e w' ⟨rfl, rfl⟩
        go_wp2_with fail
        refine C2.out.mono ?_
        rintro e w' ⟨rfl, rfl⟩
        go_wp2_with (at_builtin; refine wpl_appW rfl (.tmp 47) (.tmp 49) rfl w.heap.size _ r rfl (hown.alloc _) _ _ _ _ [v] rfl rfl (rd_oneW _ v) hz4 (by (simp; omega)) ?_; intro A4 c4 w4 r4 hr4 hown4 hg4 hb4)
        go_roundw
        case rel => exact ⟨k + 1, A4, c4, r4, by omega, by go_num, rfl, (by show r4 = _; rw [hr4.out, HR.out]), hown4, (hbl.alloc hsw _).trans hb4⟩
        case measure => simp [intOf]; omega
      · have hz : r = z := by rw [hr.out]; exact List.take_of_length_le (by rw [HZL.out]; omega)
        subst hz
        have hle : r.length ≤ cc := by
          obtain ⟨_, _, he, hle, _⟩ := hown.form
          rw [WB_length] at hle
          injection he with _ _ h3
          omega
        have HO := Lib.hid (rorder_any D r.length cc r wr rfl hown.rd hle (by omega))
        go_wp2_with fail
        refine HO.out.mono ?_
        rintro e w1 ⟨A1, c1, rfl, hown1, hc1, hb1⟩
        go_wp2
        go_ret
        exact ⟨A1, c1, rfl, hown1.mono hsw, hc1, hbl.trans (hb1.mono hsw)⟩
set_option maxHeartbeats 400000 in
theorem rsetD_any (A A' : Option Addr) (n m c c' : Nat) (a b : List Nat) (w : World) (hn : n = a.length) (hm : m = b.length) (ha : AllW a) (hb : AllW b) (h1 : Rd w w.heap.size A (WB a)) (h2 : Rd w w.heap.size A' (WB b)) (hsz : a.length ≤ 17592186044416) (hsz2 : b.length ≤ 17592186044416) :
    Calls Tryz.prog 51 #[.slice A n c, .slice A' m c', .int .i64 2] w (GivesW w (trim (zipW andNot a b))) := by
  have HW1 := Lib.hid (fun (W : World) (hB : Below w.heap.size w W) (i : Nat) => rword_any A n c a i W hn ((h1.below hB).more hB.size))
  have HW2 := Lib.hid (fun (W : World) (hB : Below w.heap.size w W) (i : Nat) => rword_any A' m c' b i W hm ((h2.below hB).more hB.size))
  have HA := Lib.hid (fun k => wordN_lt ha k)
  have HB := Lib.hid (fun k => wordN_lt hb k)
  have HT := Lib.hid (fun k hk => zip_take andNot a b k hk)
  have HZL := Lib.hid (zipW_length andNot a b)
  rw [← hn, ← hm] at HZL HT
  have hnm : n ≤ 17592186044416 ∧ m ≤ 17592186044416 := by omega
  obtain ⟨hnl, hml⟩ := hnm
  generalize zipW andNot a b = z at *
  clear hn hm ha hb h1 h2 hsz hsz2
  by_cases hcmp : n < m
  · rw [Nat.max_eq_right (Nat.le_of_lt hcmp)] at HZL HT
    go_enter Tryz.func51, Tryz.ntmps51
    go_wp2
    go_loopw [8, 9] (fun v i wr => ∃ (k : Nat) (D : Option Addr) (cc : Nat) (r : List Nat), k ≤ m ∧ i = .int .i64 (k : Int) ∧ v = .slice D r.length cc ∧ Hid (r = z.take k) ∧ Own wr w.heap.size 33 (.slice D r.length cc) (WB r) ∧ Below w.heap.size w wr) (fun _ i _ => m - (intOf i).toNat)
    case atStart => exact ⟨0, none, 0, [], Nat.zero_le _, rfl, rfl, rfl, Own.nilv _ _ _, Below.refl _ _⟩
    case round =>
      obtain ⟨k, D, cc, r, hk, rfl, rfl, hr, hown, hbl⟩ := hrel
      have hrl : r.length ≤ k := by rw [hr.out, List.length_take]; omega
      have hsw := hbl.size
      by_cases hlt : k < m
      · have hx := HA.out k
        have hy := HB.out k
        have C1 := Lib.hid (HW1.out wr hbl k)
        have C2 := Lib.hid (HW2.out wr hbl k)
        have hT : z.take (k + 1) = z.take k ++ [andNot (wordN a k) (wordN b k)] := HT.out k hlt
        rw [← hr.out] at hT
        generalize wordN a k = x at *
        generalize wordN b k = y at *
        have hor := u64_or_nat x y hx hy
        have hand := u64_and_nat x y hx hy
        have hqx : x &&& y ≤ x := Nat.and_le_left
        have hop : (x : Int) - ((x &&& y : Nat) : Int) = ((andNot x y : Nat) : Int) := by unfold andNot; omega
        have HR := Lib.hid hT
        clear hT hr
        obtain ⟨v, hv⟩ : ∃ v : Nat, v = andNot x y := ⟨_, rfl⟩
        rw [← hv] at hop HR
        clear hv
        have hz4 : r.length + [v].length ≤ 17592186044416 := by simp; omega
        go_wp2_with fail
        refine C1.out.mono ?_
        rintro e w' ⟨rfl, rfl⟩
        go_wp2_with fail
        refine C2.out.mono ?_
        rintro e w' ⟨rfl, rfl⟩
        go_wp2_with (at_builtin; refine wpl_appW rfl (.tmp 47) (.tmp 49) rfl w.heap.size _ r rfl (hown.alloc _) _ _ _ _ [v] rfl rfl (rd_oneW _ v) hz4 (by (simp; omega)) ?_; intro A4 c4 w4 r4 hr4 hown4 hg4 hb4)
        go_roundw
        case rel => exact ⟨k + 1, A4, c4, r4, by omega, by go_num, rfl, (by show r4 = _; rw [hr4.out, HR.out]), hown4, (hbl.alloc hsw _).trans hb4⟩
        case measure => simp [intOf]; omega
      · have hz : r = z := by rw [hr.out]; exact List.take_of_length_le (by rw [HZL.out]; omega)
        subst hz
        have hle : r.length ≤ cc := by
          obtain ⟨_, _, he, hle, _⟩ := hown.form
          rw [WB_length] at hle
          injection he with _ _ h3
          omega
        have HO := Lib.hid (rorder_any D r.length cc r wr rfl hown.rd hle (by omega))
        go_wp2_with fail
        refine HO.out.mono ?_
        rintro e w1 ⟨A1, c1, rfl, hown1, hc1, hb1⟩
        go_wp2
        go_ret
        exact ⟨A1, c1, rfl, hown1.mono hsw, hc1, hbl.trans (hb1.mono hsw)⟩
  · rw [Nat.max_eq_left (Nat.not_lt.1 hcmp)] at HZL HT
    go_enter Tryz.func51, Tryz.ntmps51
    go_wp2
    go_loopw [8, 9] (fun v i wr => ∃ (k : Nat) (D : Option Addr) (cc : Nat) (r : List Nat), k ≤ n ∧ i = .int .i64 (k : Int) ∧ v = .slice D r.length cc ∧ Hid (r = z.take k) ∧ Own wr w.heap.size 33 (.slice D r.length cc) (WB r) ∧ Below w.heap.size w wr) (fun _ i _ => n - (intOf i).toNat)
    case atStart => exact ⟨0, none, 0, [], Nat.zero_le _, rfl, rfl, rfl, Own.nilv _ _ _, Below.refl _ _⟩
    case round =>
      obtain ⟨k, D, cc, r, hk, rfl, rfl, hr, hown, hbl⟩ := hrel
      have hrl : r.length ≤ k := by rw [hr.out, List.length_take]; omega
      have hsw := hbl.size
      by_cases hlt : k < n
      · have hx := HA.out k
        have hy := HB.out k
        have C1 := Lib.hid (HW1.out wr hbl k)
        have C2 := Lib.hid (HW2.out wr hbl k)
        have hT : z.take (k + 1) = z.take k ++ [andNot (wordN a k) (wordN b k)] := HT.out k hlt
        rw [← hr.out] at hT
        generalize wordN a k = x at *
        generalize wordN b k = y at *
        have hor := u64_or_nat x y hx hy
        have hand := u64_and_nat x y hx hy
        have hqx : x &&& y ≤ x := Nat.and_le_left
        have hop : (x : Int) - ((x &&& y : Nat) : Int) = ((andNot x y : Nat) : Int) := by unfold andNot; omega
        have HR := Lib.hid hT
        clear hT hr
        obtain ⟨v, hv⟩ : ∃ v : Nat, v = andNot x y := ⟨_, rfl⟩
        rw [← hv] at hop HR
        clear hv
        have hz4 : r.length + [v].length ≤ 17592186044416 := by simp; omega
        go_wp2_with fail
        refine C1.out.mono ?_
        rintro e w' ⟨rfl, rfl⟩
        go_wp2_with fail
        refine C2.out.mono ?_
        rintro e w' ⟨rfl, rfl⟩
        go_wp2_with (at_builtin; refine wpl_appW rfl (.tmp 47) (.tmp 49) rfl w.heap.size _ r rfl (hown.alloc _) _ _ _ _ [v] rfl rfl (rd_oneW _ v) hz4 (by (simp; omega)) ?_; intro A4 c4 w4 r4 hr4 hown4 hg4 hb4)
        go_roundw
        case rel => exact ⟨k + 1, A4, c4, r4, by omega, by go_num, rfl, (by show r4 = _; rw [hr4.out, HR.out]), hown4, (hbl.alloc hsw _).trans hb4⟩
        case measure => simp [intOf]; omega
      · have hz : r = z := by rw [hr.out]; exact List.take_of_length_le (by rw [HZL.out]; omega)
        subst hz
        have hle : r.length ≤ cc := by
          obtain ⟨_, _, he, hle, _⟩ := hown.form
          rw [WB_length] at hle
          injection he with _ _ h3
          omega
        have HO := Lib.hid (rorder_any D r.length cc r wr rfl hown.rd hle (by omega))
        go_wp2_with fail
        refine HO.out.mono ?_
        rintro e w1 ⟨A1, c1, rfl, hown1, hc1, hb1⟩
        go_wp2
        go_ret
        exact ⟨A1, c1, rfl, hown1.mono hsw, hc1, hbl.trans (hb1.mono hsw)⟩
theorem rjoin_any (A A' : Option Addr) (n m c c' : Nat) (a b : List Nat) (w : World) (hn : n = a.length) (hm : m = b.length) (ha : AllW a) (hb : AllW b) (h1 : Rd w w.heap.size A (WB a)) (h2 : Rd w w.heap.size A' (WB b)) (hsz : a.length ≤ 17592186044416) (hsz2 : b.length ≤ 17592186044416) :
    Calls Tryz.prog 42 #[.slice A n c, .slice A' m c'] w (GivesW w (joinN a b)) := by
  have C := Lib.hid (rsetJ_any A A' n m c c' a b w hn hm ha hb h1 h2 hsz hsz2)
  clear hn hm
  go_enter Tryz.func42, Tryz.ntmps42
  go_wp2_with fail
  refine C.out.mono ?_
  rintro e w1 ⟨A1, c1, rfl, hown, hc1, hb1⟩
  go_wp2
  go_ret
  exact ⟨A1, c1, rfl, hown, hc1, hb1⟩
end Go.Proofs.YtfkfpanhbanljaaGreat.Mask

/- The walks of layer 40, continued: Put, Of, All, Size, the reference's Same. -/
namespace Go.Proofs.YtfkfpanhbanljaaGreat.Mask
open Go.RowKit Go.Proofs.YtfkfpanhbanljaaGreat.Mem

theorem below_next {w w1 w2 : World} (h : Below w.heap.size w w1) (h2 : Below w1.heap.size w1 w2) : Below w.heap.size w w2 := h.trans (h2.mono h.size)
theorem below_new {w w1 : World} (h : Below w.heap.size w w1) (o : Obj) : Below w.heap.size w (w1.alloc o) := h.alloc h.size o
theorem ownW_cap {w : World} {base : Nat} {A : Option Addr} {n c : Nat} {r : List Nat} (h : Own w base 33 (.slice A n c) (WB r)) : r.length ≤ c := by
  obtain ⟨_, _, he, hle, _⟩ := h.form
  rw [WB_length] at hle
  injection he with _ _ h3
  omega
theorem shl_one {i : Nat} (h : i < 64) : IntKind.u64.wrap (1 * 2 ^ i) = ((2 ^ i : Nat) : Int) := by rw [Int.one_mul]; exact bit_wrap h
/-- words with a number of zeros behind -/
def padN (m : List Nat) (d : Nat) : List Nat := m ++ List.replicate d 0
theorem padN_length (m : List Nat) (d : Nat) : (padN m d).length = m.length + d := by unfold padN; simp
theorem padN_more (m : List Nat) (d : Nat) : padN m (d + 1) = padN m d ++ [0] := by unfold padN; rw [List.replicate_succ', List.append_assoc]
theorem padN_get (m : List Nat) (d k : Nat) : (padN m d).getD k 0 = wordN m k := wordN_append_zeros m d k
set_option maxHeartbeats 400000 in
theorem put_any (A : Option Addr) (n c : Nat) (m : List Nat) (i : Int) (w : World) (hn : n = m.length) (hw : AllW m) (hr : Rd w w.heap.size A (WB m)) (hsz : m.length ≤ 17592186040000) (hi : i ≤ 9223372036854775807) (hi0 : -9223372036854775808 ≤ i) :
    Calls Tryz.prog 40 #[.slice A n c, .int .i64 i] w (GivesW w (putI m i)) := by
  subst hn
  have hz1 : ([] : List Nat).length + m.length ≤ 17592186044416 := by simp; omega
  by_cases hout : i < 0 ∨ 1024 ≤ i
  · have hp : putI m i = trim m := by unfold putI; rw [if_pos hout]
    rw [hp]
    have HG : Hid True := trivial
    have hcase : (i < 0) ∨ (¬ i < 0 ∧ 1024 ≤ i) := by omega
    clear hout hp
    rcases hcase with h | ⟨h, h'⟩
    all_goals
      go_enter Tryz.func40, Tryz.ntmps40
      go_wp2_with (at_builtin; refine wpl_appW rfl (.const (.slice none 0 0)) (.tmp 6) rfl w.heap.size _ [] rfl (Own.nilv _ _ _) w.heap.size A _ c m rfl rfl hr hz1 (Nat.le_refl _) ?_; intro A2 c2 w2 r2 hr2 hown2 hg2 hb2; obtain rfl : r2 = m := by (have := hr2.out; simpa using this))
      have HO := Lib.hid (order_any A2 r2.length c2 r2 w2 rfl hown2.rd (ownW_cap hown2) (by omega))
      refine HO.out.mono ?_
      rintro e w' ⟨rfl, rfl⟩
      go_wp2
      go_ret
      exact ⟨_, _, rfl, own_trim hown2, by have := trim_length r2; have := ownW_cap hown2; omega, hb2⟩
  · obtain ⟨k, rfl⟩ := Int.eq_ofNat_of_zero_le (show 0 ≤ i by omega)
    have hk : k < 1024 := by omega
    have hp : putI m (k : Int) = joinN m (oneN k) := by unfold putI; rw [if_neg hout]; rfl
    rw [hp, ← put_set m k (max m.length (k / 64 + 1)) rfl]
    have h63 := and_63 k (by omega)
    have hsh := bit_wrap (show k % 64 < 64 by omega)
    have hp64 : 2 ^ (k % 64) < 18446744073709551616 := Nat.lt_of_le_of_lt (Nat.pow_le_pow_right (by decide) (show k % 64 ≤ 63 by omega)) (by decide)
    have hor := u64_or_nat (wordN m (k / 64)) (2 ^ (k % 64)) (wordN_lt hw _) hp64
    have HP := Lib.hid (show padN m (max m.length (k / 64 + 1) - m.length) = m ++ List.replicate (max m.length (k / 64 + 1) - m.length) 0 from rfl)
    rw [← HP.out]
    clear hp HP hout
    generalize 2 ^ (k % 64) = p at *
    clear hp64
    go_enter Tryz.func40, Tryz.ntmps40
    go_wp2_with (at_builtin; refine wpl_appW rfl (.const (.slice none 0 0)) (.tmp 6) rfl w.heap.size _ [] rfl (Own.nilv _ _ _) w.heap.size A _ c m rfl rfl hr hz1 (Nat.le_refl _) ?_; intro A2 c2 w2 r2 hr2 hown2 hg2 hb2; obtain rfl : r2 = m := by (have := hr2.out; simpa using this))
    go_loopw [5] (fun v wr => ∃ (d : Nat) (D : Option Addr) (cc : Nat) (r : List Nat), d ≤ max r2.length (k / 64 + 1) - r2.length ∧ v = .slice D r.length cc ∧ Hid (r = padN r2 d) ∧ Own wr w.heap.size 33 (.slice D r.length cc) (WB r) ∧ Below w.heap.size w wr) (fun v _ => (k / 64 + 1) - lenOfV v)
    case atStart => exact ⟨0, A2, c2, r2, Nat.zero_le _, rfl, by show _ = _; unfold padN; simp, hown2, hb2⟩
    case round =>
      obtain ⟨d, D, cc, r, hd, rfl, hr', hown, hb⟩ := hrel
      have hrl : r.length = r2.length + d := by rw [hr'.out, padN_length]
      have hsw := hb.size
      by_cases hgo : r.length ≤ k / 64
      · have hz4 : r.length + [0].length ≤ 17592186044416 := by simp; omega
        have hd2 : d + 1 ≤ max r2.length (k / 64 + 1) - r2.length := by omega
        have HRL := Lib.hid hrl
        clear hrl
        go_wp2_with (at_builtin; refine wpl_appW rfl (.tmp 21) (.tmp 22) rfl w.heap.size _ r rfl (hown.alloc _) _ _ _ _ [0] rfl rfl (rd_oneW _ 0) hz4 (by (simp; omega)) ?_; intro A4 c4 w4 r4 hr4 hown4 hg4 hb4)
        go_roundw
        case rel => exact ⟨d + 1, A4, c4, r4, hd2, rfl, (by show r4 = _; rw [hr4.out, hr'.out, padN_more]), hown4, (hb.alloc hsw _).trans hb4⟩
        case measure => simp [lenOfV]; rw [hr4.out]; simp; omega
      · have hdd : d = max r2.length (k / 64 + 1) - r2.length := by omega
        have hlt : k / 64 < r.length := by omega
        obtain ⟨g, rfl, hg1, hg3, hgc, hgf, hgs⟩ := hown.spot (WB_get r (k / 64) hlt)
        have hx : r.getD (k / 64) 0 = wordN r2 (k / 64) := by rw [hr'.out]; exact padN_get _ _ _
        rw [hx] at hgc
        obtain ⟨s1, s2⟩ := hgs (.int .u64 ((wordN r2 (k / 64) ||| p : Nat) : Int))
        rw [show (WB r).set (k / 64) (.int .u64 ((wordN r2 (k / 64) ||| p : Nat) : Int)) = WB (r.set (k / 64) (wordN r2 (k / 64) ||| p)) from by simp [WB, List.map_set]] at s1
        have hres : Hid (r.set (k / 64) (wordN r2 (k / 64) ||| p) = (padN r2 (max r2.length (k / 64 + 1) - r2.length)).set (k / 64) (wordN r2 (k / 64) ||| p)) := by show _ = _; rw [hr'.out, hdd]
        have hrl2 : Hid ((r.set (k / 64) (wordN r2 (k / 64) ||| p)).length = r.length) := by show _ = _; rw [List.length_set]
        have hb9 : Below w.heap.size w (wr.setCell ⟨g, k / 64, none⟩ (.int .u64 ((wordN r2 (k / 64) ||| p : Nat) : Int))) := hb.setCell hg1 _
        generalize r.set (k / 64) (wordN r2 (k / 64) ||| p) = t at *
        generalize wordN r2 (k / 64) ||| p = v at *
        generalize wordN r2 (k / 64) = x at *
        have s1' : Own (wr.setCell ⟨g, k / 64, none⟩ (.int .u64 (v : Int))) w.heap.size 33 (.slice (some ⟨g, 0, none⟩) t.length cc) (WB t) := by rw [hrl2.out]; exact s1
        have hcc : t.length ≤ cc := ownW_cap s1'
        have HO := Lib.hid (order_any (some ⟨g, 0, none⟩) r.length cc t _ hrl2.out.symm s1'.rd hcc (by have := hrl2.out; omega))
        clear hgs hx hdd hrl s1 hown
        go_wp2_with fail
        refine HO.out.mono ?_
        rintro e w' ⟨rfl, rfl⟩
        go_wp2
        go_ret
        rw [← hres.out]
        have hot := own_trim s1'
        exact ⟨_, _, rfl, hot, ownW_cap hot, hb9⟩
end Go.Proofs.YtfkfpanhbanljaaGreat.Mask

/- The walks of layer 40, continued: the reference's Put, Of, All, Size, the reference's Same, the example. -/
namespace Go.Proofs.YtfkfpanhbanljaaGreat.Mask
open Go.RowKit Go.Proofs.YtfkfpanhbanljaaGreat.Mem

set_option maxRecDepth 100000 in
theorem rput_any (A : Option Addr) (n c : Nat) (m : List Nat) (i : Int) (w : World) (hn : n = m.length) (hw : AllW m) (hr : Rd w w.heap.size A (WB m)) (hc : m.length ≤ c) (hsz : m.length ≤ 17592186040000) (hi : i ≤ 9223372036854775807) (hi0 : -9223372036854775808 ≤ i) :
    Calls Tryz.prog 32 #[.slice A n c, .int .i64 i] w (GivesW w (putI m i)) := by
  subst hn
  by_cases hout : i < 0 ∨ 1024 ≤ i
  · have hp : putI m i = trim m := by unfold putI; rw [if_pos hout]
    rw [hp]
    have hcase : (i < 0) ∨ (¬ i < 0 ∧ 1024 ≤ i) := by omega
    have HO := Lib.hid (rorder_any A m.length c m w rfl hr hc (by omega))
    clear hout hp
    rcases hcase with h | ⟨h, h'⟩
    all_goals
      go_enter Tryz.func32, Tryz.ntmps32
      go_wp2_with fail
      refine HO.out.mono ?_
      rintro e w1 ⟨A1, c1, rfl, hown, hc1, hb1⟩
      go_wp2
      go_ret
      exact ⟨A1, c1, rfl, hown, hc1, hb1⟩
  · obtain ⟨k, rfl⟩ := Int.eq_ofNat_of_zero_le (show 0 ≤ i by omega)
    have hk : k < 1024 := by omega
    have hp : putI m (k : Int) = joinN m (oneN k) := by unfold putI; rw [if_neg hout]; rfl
    rw [hp]
    obtain ⟨w1, hmk, hown1, hb1⟩ := make_words w (k / 64 + 1) (by omega)
    rw [show ((k / 64 + 1 : Nat) : Int) = (k : Int) / 64 + 1 from by omega] at hmk
    have hii := fun W => bit_any (k % 64) W (Nat.mod_lt _ (by decide))
    rw [show ((k % 64 : Nat) : Int) = (k : Int) % 64 from by omega] at hii
    have HI := Lib.hid hii
    obtain ⟨g, hg, hg1, hg2, hgc, hgf, hgs⟩ := hown1.spot (WB_get (List.replicate (k / 64 + 1) 0) (k / 64) (by simp))
    obtain rfl : g = w.heap.size := (congrArg Addr.block (Option.some.inj hg)).symm
    clear hg
    obtain ⟨s1, s2⟩ := hgs (.int .u64 ((2 ^ (k % 64) : Nat) : Int))
    rw [show (WB (List.replicate (k / 64 + 1) 0)).set (k / 64) (.int .u64 ((2 ^ (k % 64) : Nat) : Int)) = WB ((List.replicate (k / 64 + 1) 0).set (k / 64) (2 ^ (k % 64))) from by simp [WB, List.map_set], one_set] at s1
    have hb9 : Below w.heap.size w (w1.setCell ⟨w.heap.size, k / 64, none⟩ (.int .u64 ((2 ^ (k % 64) : Nat) : Int))) := hb1.setCell (Nat.le_refl _) _
    have hsz9 := hb9.size
    have HJ := Lib.hid (rjoin_any A (some ⟨w.heap.size, 0, none⟩) m.length (k / 64 + 1) c (k / 64 + 1) m (oneN k) _ rfl (one_length k).symm hw (one_all k) ((hr.below hb9).more hsz9) s1.rd (by omega) (by rw [one_length]; omega))
    rw [show ((k / 64 + 1 : Nat)) = (k / 64 + 1 : Nat) from rfl] at HJ
    generalize 2 ^ (k % 64) = p at *
    generalize (List.replicate (k / 64 + 1) 0).getD (k / 64) 0 = z0 at *
    clear hgs hii hp hout s1 s2 hown1 hsz9 hb1 hr hw
    have hq : (k : Int) / 64 = ((k / 64 : Nat) : Int) := by omega
    rw [hq] at hmk
    have hql : k / 64 < 16 := by omega
    generalize k / 64 = q at *
    go_enter Tryz.func32, Tryz.ntmps32
    go_wp2_with fail
    refine (HI.out _).mono ?_
    rintro e w' ⟨rfl, rfl⟩
    go_wp2_with fail
    refine HJ.out.mono ?_
    rintro e w2 ⟨A1, c1, rfl, hown, hc1, hb2⟩
    go_wp2
    go_ret
    exact ⟨A1, c1, rfl, hown.mono hb9.size, hc1, hb9.trans (hb2.mono hb9.size)⟩
/-- whole numbers of 64 bits -/
def AllI (l : List Int) : Prop := ∀ x ∈ l, -9223372036854775808 ≤ x ∧ x ≤ 9223372036854775807
theorem of_any (A : Option Addr) (n c : Nat) (l : List Int) (w : World) (hn : n = l.length) (hl : AllI l) (hr : Rd w w.heap.size A (IB l)) (hsz : l.length ≤ 9223372036854775807) :
    Calls Tryz.prog 31 #[.slice A n c] w (GivesW w (ofI l)) := by
  subst hn
  have HT := Lib.hid (of_take l)
  go_enter Tryz.func31, Tryz.ntmps31
  go_wp2
  go_loopw [3, 8] (fun v i wr => ∃ (k : Nat) (D : Option Addr) (cc : Nat) (r : List Nat), k ≤ l.length ∧ i = .int .i64 (k : Int) ∧ v = .slice D r.length cc ∧ Hid (r = ofI (l.take k)) ∧ Own wr w.heap.size 33 (.slice D r.length cc) (WB r) ∧ Below w.heap.size w wr) (fun _ i _ => l.length - (intOf i).toNat)
  case atStart => exact ⟨0, none, 0, [], Nat.zero_le _, rfl, rfl, rfl, Own.nilv _ _ _, Below.refl _ _⟩
  case round =>
    obtain ⟨k, D, cc, r, hk, rfl, rfl, hr', hown, hb⟩ := hrel
    have hsw := hb.size
    by_cases hlt : k < l.length
    · obtain ⟨b, o, rfl, hbb, hcell⟩ := (hr.below hb).at_ (IB_get l k hlt)
      have hx := hl (l.getD k 0) (by have : l.getD k 0 = l[k] := by simp [List.getD, hlt]
                                     rw [this]; exact List.getElem_mem hlt)
      have hT := HT.out k hlt
      rw [← hr'.out] at hT
      have hrl : r.length ≤ 16 := by rw [hr'.out]; exact of_length _
      have hra : AllW r := by rw [hr'.out]; exact of_all _
      have HP := Lib.hid (put_any D r.length cc r (l.getD k 0) wr rfl hra hown.rd (by omega) hx.2 hx.1)
      have HR := Lib.hid hT
      generalize l.getD k 0 = x at *
      clear hT hr'
      go_wp2_with fail
      refine HP.out.mono ?_
      rintro e w1 ⟨A1, c1, rfl, hown1, hc1, hb1⟩
      go_wp2
      go_roundw
      case rel => exact ⟨k + 1, A1, c1, _, by omega, by go_num, rfl, HR.out.symm, hown1.mono hsw, hb.trans (hb1.mono hsw)⟩
      case measure => simp [intOf]; omega
    · have hz : r = ofI l := by rw [hr'.out, List.take_of_length_le (by omega)]
      clear hr'
      go_wp2
      go_ret
      exact givesW_mk hz hown hb
end Go.Proofs.YtfkfpanhbanljaaGreat.Mask

/- The walks of layer 40, continued: All, Size, the reference's Same, the example. -/
namespace Go.Proofs.YtfkfpanhbanljaaGreat.Mask
open Go.RowKit Go.Proofs.YtfkfpanhbanljaaGreat.Mem

set_option maxHeartbeats 400000 in
theorem all_any (A : Option Addr) (n c : Nat) (m : List Nat) (w : World) (hn : n = m.length) (hw : AllW m) (hr : Rd w w.heap.size A (WB m)) (hsz : m.length ≤ 274877906000) :
    Calls Tryz.prog 29 #[.slice A n c] w (GivesI w (allI m)) := by
  subst hn
  have HM : Hid (allI m = allTo m (64 * m.length)) := rfl
  have HX := Lib.hid (fun k => wordN_lt hw k)
  go_enter Tryz.func29, Tryz.ntmps29
  go_wp2
  go_loopw [3, 9] (fun v i wr => ∃ (k : Nat) (D : Option Addr) (cc : Nat) (r : List Int), k ≤ m.length ∧ i = .int .i64 (k : Int) ∧ v = .slice D r.length cc ∧ Hid (r = allTo m (64 * k)) ∧ Own wr w.heap.size 3 (.slice D r.length cc) (IB r) ∧ Below w.heap.size w wr) (fun _ i _ => m.length - (intOf i).toNat)
  case atStart => exact ⟨0, none, 0, [], Nat.zero_le _, rfl, rfl, rfl, Own.nilv _ _ _, Below.refl _ _⟩
  case round =>
    obtain ⟨k, D, cc, r, hk, rfl, rfl, hr', hown, hb⟩ := hrel
    by_cases hlt : k < m.length
    · obtain ⟨b, o, rfl, hbb, hcell⟩ := (hr.below hb).at_ (WB_get m k hlt)
      have hxl := HX.out k
      have hxe : m.getD k 0 = wordN m k := rfl
      rw [hxe] at hcell
      have HW := Lib.hid (fun j (hj : j < 64) => hasN_word (m := m) (k := k) hj)
      have HR := Lib.hid (fun j (hj : j ≤ 64) h => allTo_rest (m := m) (k := k) (j := j) hj h)
      obtain ⟨x, hx⟩ : ∃ x, x = wordN m k := ⟨_, rfl⟩
      rw [← hx] at hcell hxl HW HR
      clear hxe hx
      go_wp2
      obtain ⟨wo, rfl⟩ : ∃ wo : World, wo = wr := ⟨_, rfl⟩
      go_loopw [3, 5, 6] (fun v q i wr => ∃ (j y : Nat) (D : Option Addr) (cc : Nat) (r : List Int), j ≤ 64 ∧ Hid (y = x / 2 ^ j) ∧ y < 18446744073709551616 ∧ q = .int .u64 (y : Int) ∧ i = .int .i64 (64 * (k : Int) + (j : Int)) ∧ v = .slice D r.length cc ∧ Hid (r = allTo m (64 * k + j)) ∧ Own wr w.heap.size 3 (.slice D r.length cc) (IB r) ∧ Below w.heap.size w wr) (fun _ q _ _ => (intOf q).toNat)
      case atStart => exact ⟨0, x, D, cc, r, by omega, (by show x = _; simp), hxl, rfl, (by simp), rfl, hr', hown, hb⟩
      case round =>
        obtain ⟨j, y, D, cc, r, hj, hy, hyl, rfl, rfl, rfl, hr', hown, hb⟩ := hrel
        have hsw := hb.size
        have hrl : r.length ≤ 64 * k + j := by rw [hr'.out]; exact allTo_length _ _
        by_cases hy0 : 0 < y
        · have hj2 : j < 64 := by
            rcases Nat.lt_or_ge j 64 with h | h
            · exact h
            · have h64 : j = 64 := by omega
              have := hy.out
              rw [h64, Nat.div_eq_of_lt (show x < 2 ^ 64 from hxl)] at this
              omega
          have hz4 : r.length + [(64 * (k : Int) + (j : Int))].length ≤ 17592186044416 := by simp; omega
          have hh := HW.out j hj2
          rw [← hy.out] at hh
          have h1 := and_1 y hyl
          have hy2 : Hid (y / 2 = x / 2 ^ (j + 1)) := by show _ = _; rw [hy.out, Nat.pow_succ, Nat.div_div_eq_div_mul]
          have hjj : ((64 * k + j : Nat) : Int) = 64 * (k : Int) + (j : Int) := by omega
          by_cases hbit : y % 2 = 1
          · have HY := Lib.hid (allTo_yes (m := m) (N := 64 * k + j) (by rw [hh, decide_eq_true hbit]))
            rw [hjj] at HY
            rw [hbit] at h1
            clear hh hjj hbit hy
            go_wp2_with (at_builtin; refine wpl_appI rfl (.tmp 23) (.tmp 25) rfl w.heap.size _ r rfl (hown.alloc _) _ _ _ _ [(64 * (k : Int) + (j : Int))] rfl rfl (rd_oneI _ _) hz4 (by (simp; omega)) ?_; intro A4 c4 w4 r4 hr4 hown4 hg4 hb4)
            go_roundw
            case rel => exact ⟨j + 1, y / 2, A4, c4, r4, by omega, hy2, by omega, by go_num, by go_num, rfl, (by show r4 = _; rw [hr4.out, hr'.out]; exact HY.out.symm), hown4, (hb.alloc hsw _).trans hb4⟩
            case measure => simp [intOf]; omega
          · have HY := Lib.hid (allTo_no (m := m) (N := 64 * k + j) (by rw [hh, decide_eq_false hbit]))
            rw [show y % 2 = 0 from by omega] at h1
            clear hh hjj hbit hy
            go_wp2
            go_roundw
            case rel => exact ⟨j + 1, y / 2, D, cc, r, by omega, hy2, by omega, by go_num, by go_num, rfl, (by show r = _; rw [hr'.out]; exact HY.out.symm), hown, hb⟩
            case measure => simp [intOf]; omega
        · obtain rfl : y = 0 := by omega
          have hend := HR.out j hj hy.out.symm
          have HE := Lib.hid hend
          clear hend hy
          go_wp2
          go_roundw
          case rel => exact ⟨k + 1, D, cc, r, by omega, by go_num, rfl, (by show r = _; rw [hr'.out, ← HE.out]; rfl), hown, hb⟩
          case measure => simp [intOf]; omega
    · obtain rfl : k = m.length := by omega
      have hz : r = allI m := by rw [hr'.out, HM.out]
      clear hr'
      go_wp2
      go_ret
      exact givesI_mk hz hown hb
theorem rd_lit2W (w : World) (a b : Nat) : Rd (w.alloc (.cells #[.int .u64 (a : Int), .int .u64 (b : Int)] 33)) (w.heap.size + 1) (some ⟨w.heap.size, 0, none⟩) (WB [a, b]) := Rd.new w [.int .u64 (a : Int), .int .u64 (b : Int)] 33
theorem rd_lit2I (w : World) (a b : Int) : Rd (w.alloc (.cells #[.int .i64 a, .int .i64 b] 3)) (w.heap.size + 1) (some ⟨w.heap.size, 0, none⟩) (IB [a, b]) := Rd.new w [.int .i64 a, .int .i64 b] 3
end Go.Proofs.YtfkfpanhbanljaaGreat.Mask
