/- The walks of layer 40, continued: Put, Of, All, Size, the reference's Same. -/
import Derived.Test.YtnmcclkpgbdenaaMaskJoin
namespace Go.Proofs.Ytnmcclkpgbdenaa.Mask
open Go.RowKit Go.Proofs.Ytnmcclkpgbdenaa.Mem

theorem below_next {w w1 w2 : World} (h : Below w.heap.size w w1) (h2 : Below w1.heap.size w1 w2) : Below w.heap.size w w2 := h.trans (h2.mono h.size)
theorem below_new {w w1 : World} (h : Below w.heap.size w w1) (o : Obj) : Below w.heap.size w (w1.alloc o) := h.alloc h.size o
theorem ownW_cap {w : World} {base : Nat} {A : Option Addr} {n c : Nat} {r : List Nat} (h : Own w base 35 (.slice A n c) (WB r)) : r.length ≤ c := by
  obtain ⟨_, _, he, hle, _⟩ := h.form
  rw [WB_length] at hle
  injection he with _ _ h3
  omega
theorem shl_one {i : Nat} (h : i < 64) : IntKind.u64.wrap (1 * 2 ^ i) = ((2 ^ i : Nat) : Int) := by rw [Int.one_mul]; exact bit_wrap h
/-- words with a number of zeros behind -/
def padN (m : List Nat) (d : Nat) : List Nat := m ++ List.replicate d 0
theorem padN_length (m : List Nat) (d : Nat) : (padN m d).length = m.length + d := by unfold padN; simp
theorem padN_more (m : List Nat) (d : Nat) : padN m (d + 1) = padN m d ++ [0] := by unfold padN; rw [List.replicate_succ', List.append_assoc]
theorem padN_get (m : List Nat) (d k : Nat) : (padN m d).getD k 0 = wordN m k := wordN_append_zeros m d k
set_option maxHeartbeats 400000 in
theorem put_any (A : Option Addr) (n c : Nat) (m : List Nat) (i : Int) (w : World) (hn : n = m.length) (hw : AllW m) (hr : Rd w w.heap.size A (WB m)) (hsz : m.length ≤ 17592186040000) (hi : i ≤ 9223372036854775807) (hi0 : -9223372036854775808 ≤ i) :
    Calls Try.prog 92 #[.slice A n c, .int .i64 i] w (GivesW w (putI m i)) := by
  subst hn
  have hz1 : ([] : List Nat).length + m.length ≤ 17592186044416 := by simp; omega
  by_cases hout : i < 0 ∨ 1024 ≤ i
  · have hp : putI m i = trim m := by unfold putI; rw [if_pos hout]
    rw [hp]
    have HG : Hid True := trivial
    have hcase : (i < 0) ∨ (¬ i < 0 ∧ 1024 ≤ i) := by omega
    clear hout hp
    rcases hcase with h | ⟨h, h'⟩
    all_goals
      go_enter Try.func92, Try.ntmps92
      go_wp2_with (at_builtin; refine wpl_appW rfl (.const (.slice none 0 0)) (.tmp 6) rfl w.heap.size _ [] rfl (Own.nilv _ _ _) w.heap.size A _ c m rfl rfl hr hz1 (Nat.le_refl _) ?_; intro A2 c2 w2 r2 hr2 hown2 hg2 hb2; obtain rfl : r2 = m := by (have := hr2.out; simpa using this))
      have HO := Lib.hid (order_any A2 r2.length c2 r2 w2 rfl hown2.rd (ownW_cap hown2) (by omega))
      refine HO.out.mono ?_
      rintro e w' ⟨rfl, rfl⟩
      go_wp2
      go_ret
      exact ⟨_, _, rfl, own_trim hown2, by have := trim_length r2; have := ownW_cap hown2; omega, hb2⟩
  · obtain ⟨k, rfl⟩ := Int.eq_ofNat_of_zero_le (show 0 ≤ i by omega)
    have hk : k < 1024 := by omega
    have hp : putI m (k : Int) = joinN m (oneN k) := by unfold putI; rw [if_neg hout]; rfl
    rw [hp, ← put_set m k (max m.length (k / 64 + 1)) rfl]
    have h63 := and_63 k (by omega)
    have hsh := bit_wrap (show k % 64 < 64 by omega)
    have hp64 : 2 ^ (k % 64) < 18446744073709551616 := Nat.lt_of_le_of_lt (Nat.pow_le_pow_right (by decide) (show k % 64 ≤ 63 by omega)) (by decide)
    have hor := u64_or_nat (wordN m (k / 64)) (2 ^ (k % 64)) (wordN_lt hw _) hp64
    have HP := Lib.hid (show padN m (max m.length (k / 64 + 1) - m.length) = m ++ List.replicate (max m.length (k / 64 + 1) - m.length) 0 from rfl)
    rw [← HP.out]
    clear hp HP hout
    generalize 2 ^ (k % 64) = p at *
    clear hp64
    go_enter Try.func92, Try.ntmps92
    go_wp2_with (at_builtin; refine wpl_appW rfl (.const (.slice none 0 0)) (.tmp 6) rfl w.heap.size _ [] rfl (Own.nilv _ _ _) w.heap.size A _ c m rfl rfl hr hz1 (Nat.le_refl _) ?_; intro A2 c2 w2 r2 hr2 hown2 hg2 hb2; obtain rfl : r2 = m := by (have := hr2.out; simpa using this))
    go_loopw [5] (fun v wr => ∃ (d : Nat) (D : Option Addr) (cc : Nat) (r : List Nat), d ≤ max r2.length (k / 64 + 1) - r2.length ∧ v = .slice D r.length cc ∧ Hid (r = padN r2 d) ∧ Own wr w.heap.size 35 (.slice D r.length cc) (WB r) ∧ Below w.heap.size w wr) (fun v _ => (k / 64 + 1) - lenOfV v)
    case atStart => exact ⟨0, A2, c2, r2, Nat.zero_le _, rfl, by show _ = _; unfold padN; simp, hown2, hb2⟩
    case round =>
      obtain ⟨d, D, cc, r, hd, rfl, hr', hown, hb⟩ := hrel
      have hrl : r.length = r2.length + d := by rw [hr'.out, padN_length]
      have hsw := hb.size
      by_cases hgo : r.length ≤ k / 64
      · have hz4 : r.length + [0].length ≤ 17592186044416 := by simp; omega
        have hd2 : d + 1 ≤ max r2.length (k / 64 + 1) - r2.length := by omega
        have HRL := Lib.hid hrl
        clear hrl
        go_wp2_with (at_builtin; refine wpl_appW rfl (.tmp 21) (.tmp 22) rfl w.heap.size _ r rfl (hown.alloc _) _ _ _ _ [0] rfl rfl (rd_oneW _ 0) hz4 (by (simp; omega)) ?_; intro A4 c4 w4 r4 hr4 hown4 hg4 hb4)
        go_roundw
        case rel => exact ⟨d + 1, A4, c4, r4, hd2, rfl, (by show r4 = _; rw [hr4.out, hr'.out, padN_more]), hown4, (hb.alloc hsw _).trans hb4⟩
        case measure => simp [lenOfV]; rw [hr4.out]; simp; omega
      · have hdd : d = max r2.length (k / 64 + 1) - r2.length := by omega
        have hlt : k / 64 < r.length := by omega
        obtain ⟨g, rfl, hg1, hg3, hgc, hgf, hgs⟩ := hown.spot (WB_get r (k / 64) hlt)
        have hx : r.getD (k / 64) 0 = wordN r2 (k / 64) := by rw [hr'.out]; exact padN_get _ _ _
        rw [hx] at hgc
        obtain ⟨s1, s2⟩ := hgs (.int .u64 ((wordN r2 (k / 64) ||| p : Nat) : Int))
        rw [show (WB r).set (k / 64) (.int .u64 ((wordN r2 (k / 64) ||| p : Nat) : Int)) = WB (r.set (k / 64) (wordN r2 (k / 64) ||| p)) from by simp [WB, List.map_set]] at s1
        have hres : Hid (r.set (k / 64) (wordN r2 (k / 64) ||| p) = (padN r2 (max r2.length (k / 64 + 1) - r2.length)).set (k / 64) (wordN r2 (k / 64) ||| p)) := by show _ = _; rw [hr'.out, hdd]
        have hrl2 : Hid ((r.set (k / 64) (wordN r2 (k / 64) ||| p)).length = r.length) := by show _ = _; rw [List.length_set]
        have hb9 : Below w.heap.size w (wr.setCell ⟨g, k / 64, none⟩ (.int .u64 ((wordN r2 (k / 64) ||| p : Nat) : Int))) := hb.setCell hg1 _
        generalize r.set (k / 64) (wordN r2 (k / 64) ||| p) = t at *
        generalize wordN r2 (k / 64) ||| p = v at *
        generalize wordN r2 (k / 64) = x at *
        have s1' : Own (wr.setCell ⟨g, k / 64, none⟩ (.int .u64 (v : Int))) w.heap.size 35 (.slice (some ⟨g, 0, none⟩) t.length cc) (WB t) := by rw [hrl2.out]; exact s1
        have hcc : t.length ≤ cc := ownW_cap s1'
        have HO := Lib.hid (order_any (some ⟨g, 0, none⟩) r.length cc t _ hrl2.out.symm s1'.rd hcc (by have := hrl2.out; omega))
        clear hgs hx hdd hrl s1 hown
        go_wp2_with fail
        refine HO.out.mono ?_
        rintro e w' ⟨rfl, rfl⟩
        go_wp2
        go_ret
        rw [← hres.out]
        have hot := own_trim s1'
        exact ⟨_, _, rfl, hot, ownW_cap hot, hb9⟩
end Go.Proofs.Ytnmcclkpgbdenaa.Mask
