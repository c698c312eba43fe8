/- The walks of layer 40, continued: what is done with all words of two masks. -/
import Derived.Test.YtnmcclkpgbdenaaMaskEq
import Derived.Lib.MinMax
namespace Go.Proofs.Ytnmcclkpgbdenaa.Mask
open Go.RowKit Go.Proofs.Ytnmcclkpgbdenaa.Mem

/-- the beginning of a row of the call's own -/
theorem own_trim {w : World} {base : Nat} {A : Option Addr} {n c : Nat} {m : List Nat} (h : Own w base 35 (.slice A n c) (WB m)) : Own w base 35 (.slice A (trim m).length c) (WB (trim m)) := by
  obtain ⟨z, he, _⟩ := trim_spec m
  have hw : WB m = WB (trim m) ++ WB (List.replicate z 0) := by rw [← WB_append, ← he]
  have hl := trim_length m
  unfold Own at h ⊢
  rw [WB_length] at h ⊢
  refine ⟨by rw [WB_length]; omega, ?_⟩
  rcases h.2 with ⟨h1, h0⟩ | ⟨g, cap, cur, h1, hb, hg, hnc, hcm, hcs, htake⟩
  · injection h1 with e1 e2 e3
    have : m = [] := List.eq_nil_of_length_eq_zero h0
    subst this e1 e3
    exact .inl ⟨rfl, rfl⟩
  · injection h1 with e1 e2 e3
    subst e1 e3
    refine .inr ⟨g, c, cur, rfl, hb, hg, by omega, hcm, hcs, ?_⟩
    rw [Nat.mul_one] at htake ⊢
    have h2 := congrArg (List.take (trim m).length) htake
    rw [List.take_take, Nat.min_eq_left hl, hw] at h2
    rw [h2, ← WB_length (trim m), List.take_left]
theorem andNot_raw (x y : Nat) (hx : x < 18446744073709551616) (hy : y < 18446744073709551616) : bits .andNot .u64 (x : Int) (y : Int) = ((andNot x y : Nat) : Int) := by
  rw [u64_andNot_nat x y hx hy]
  congr 1
  apply Nat.eq_of_testBit_eq
  intro j
  rw [andNot_bit, Nat.testBit_and, show 18446744073709551615 - y = 2 ^ 64 - (y + 1) from by omega, Nat.testBit_two_pow_sub_succ hy]
  by_cases hj : j < 64
  · simp [hj]
  · rw [Nat.testBit_lt_two_pow (Nat.lt_of_lt_of_le (show x < 2 ^ 64 from hx) (Nat.pow_le_pow_right (by decide) (by omega)))]
    rfl
theorem eachJ_any (A A' : Option Addr) (n m c c' : Nat) (a b : List Nat) (w : World) (hn : n = a.length) (hm : m = b.length) (ha : AllW a) (hb : AllW b) (h1 : Rd w w.heap.size A (WB a)) (h2 : Rd w w.heap.size A' (WB b)) (hsz : a.length ≤ 17592186044416) (hsz2 : b.length ≤ 17592186044416) :
    Calls Try.prog 90 #[.slice A n c, .slice A' m c', .func (.func 91) #[] #[]] w (GivesW w (trim (zipW (· ||| ·) a b))) := by
  subst hn hm
  have hzl := zipW_length (· ||| ·) a b
  obtain ⟨N, hN⟩ : ∃ N, N = max a.length b.length := ⟨_, rfl⟩
  have hNl : N ≤ 17592186044416 := by omega
  obtain ⟨w1, hmk, hown1, hb1⟩ := make_words w N hNl
  have HW1 := Lib.hid (fun (W : World) (hB : Below w.heap.size w W) (i : Nat) => word_any A _ c a i W rfl ((h1.below hB).more hB.size))
  have HW2 := Lib.hid (fun (W : World) (hB : Below w.heap.size w W) (i : Nat) => word_any A' _ c' b i W rfl ((h2.below hB).more hB.size))
  have HZ := Lib.hid (fun k (hk : k < N) => wordN_zip' (· ||| ·) a b k (by omega))
  have HA := Lib.hid (fun k => wordN_lt ha k)
  have HB := Lib.hid (fun k => wordN_lt hb k)
  have HZL : Hid ((zipW (· ||| ·) a b).length = N) := by show _ = _; rw [hzl, hN]
  have hmax : max (a.length : Int) (b.length : Int) = (N : Int) := by omega
  rw [show List.replicate N 0 = upTo (zipW (· ||| ·) a b) 0 from by rw [upTo_zero, HZL.out]] at hown1
  generalize zipW (· ||| ·) a b = z at *
  have HN := Lib.hid hN
  clear hN hzl ha hb h1 h2
  go_enter Try.func90, Try.ntmps90
  go_wp2
  go_loopw [17] (fun i wr => ∃ k : Nat, k ≤ N ∧ i = .int .i64 (k : Int) ∧ Own wr w.heap.size 35 (.slice (some ⟨w.heap.size, 0, none⟩) N N) (WB (upTo z k)) ∧ Below w.heap.size w wr) (fun i _ => N - (intOf i).toNat)
  case atStart => exact ⟨0, Nat.zero_le _, rfl, hown1, hb1⟩
  case round =>
    obtain ⟨k, hk, rfl, hown, hbl⟩ := hrel
    by_cases hlt : k < N
    · have hl := upTo_length z k (by rw [HZL.out]; exact hk)
      obtain ⟨g, hg, hg1, hg2, hgc, hgf, hgs⟩ := hown.spot (WB_get (upTo z k) k (by rw [hl, HZL.out]; exact hlt))
      obtain rfl : g = w.heap.size := (congrArg Addr.block (Option.some.inj hg)).symm
      clear hg
      have hset := upTo_set z k (by rw [HZL.out]; exact hlt)
      have hzk : wordN z k = wordN a k ||| wordN b k := HZ.out k hlt
      rw [hzk] at hset
      clear hzk
      have hx := HA.out k
      have hy := HB.out k
      have C1 := Lib.hid (HW1.out wr hbl k)
      have C2 := Lib.hid (HW2.out wr hbl k)
      generalize wordN a k = x at *
      generalize wordN b k = y at *
      have hop := u64_or_nat x y hx hy
      obtain ⟨s1, s2⟩ := hgs (.int .u64 ((x ||| y : Nat) : Int))
      rw [show (WB (upTo z k)).set k (.int .u64 ((x ||| y : Nat) : Int)) = WB ((upTo z k).set k (x ||| y)) from by simp [WB, List.map_set], hset] at s1
      have hb2 : Below w.heap.size w (wr.setCell ⟨w.heap.size, k, none⟩ (.int .u64 ((x ||| y : Nat) : Int))) := hbl.setCell (Nat.le_refl _) _
      generalize x ||| y = v at *
      clear hgs hset hown hl
      go_wp2_with fail
      refine C1.out.mono ?_
      rintro e w' ⟨rfl, rfl⟩
      go_wp2_with fail
      refine C2.out.mono ?_
      rintro e w' ⟨rfl, rfl⟩
      go_wp2_with go_in
      go_roundw
      case rel => exact ⟨k + 1, by omega, by go_num, s1, hb2⟩
      case measure => simp [intOf]; omega
    · obtain rfl : k = N := by omega
      rw [show upTo z k = z from by rw [← HZL.out]; exact upTo_all z] at hown
      have hrd := hown.rd
      have HO := Lib.hid (order_any (some ⟨w.heap.size, 0, none⟩) k k z wr HZL.out.symm hrd (by rw [HZL.out]; exact Nat.le_refl _) (by rw [HZL.out]; omega))
      go_wp2_with fail
      refine HO.out.mono ?_
      rintro e w' ⟨rfl, rfl⟩
      go_wp2
      go_ret
      exact ⟨_, _, rfl, own_trim hown, by have := trim_length z; rw [HZL.out] at this; exact this, hbl⟩
end Go.Proofs.Ytnmcclkpgbdenaa.Mask
