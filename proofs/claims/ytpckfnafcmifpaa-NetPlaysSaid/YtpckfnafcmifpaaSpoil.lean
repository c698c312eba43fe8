/- The walks of layer 5, continued: Spoil, twice. -/
import Derived.Test.YtpckfnafcmifpaaSealWalks
import Derived.Test.YtpckfnafcmifpaaTurned
namespace Go.Proofs.Ytpckfnafcmifpaa.Seal
open Go.RowKit Go.Proofs.Ytpckfnafcmifpaa.Mem Go.Proofs.Ytpckfnafcmifpaa.Crc

/-- the first bit that is turned -/
def firstBit (l : List Nat) (at_ : Int) : Nat := (at_ % (8 * (l.length : Int))).toNat
theorem firstBit_lt {l : List Nat} (at_ : Int) (h : 0 < l.length) : firstBit l at_ < 8 * l.length := by
  unfold firstBit
  have h1 := Int.emod_nonneg at_ (show 8 * (l.length : Int) ≠ 0 by omega)
  have h2 := Int.emod_lt_of_pos at_ (show 0 < 8 * (l.length : Int) by omega)
  omega
theorem tmod_pos (a N : Int) (h : 0 < N) : -N < a.tmod N ∧ a.tmod N < N ∧ (0 ≤ a.tmod N → a.tmod N = a % N) ∧ (a.tmod N < 0 → a.tmod N + N = a % N) := by
  rcases Int.lt_or_le a 0 with h0 | h0
  · obtain ⟨b, rfl⟩ : ∃ b, a = -b := ⟨-a, by omega⟩
    rw [Int.neg_tmod, Int.tmod_eq_emod_of_nonneg (by omega)]
    have h1 := Int.emod_nonneg b (show N ≠ 0 by omega)
    have h2 := Int.emod_lt_of_pos b h
    have e : (-b) % N = (-(b % N)) % N := by
      have h3 := Int.emod_add_mul_ediv b N
      have : -b = -(b % N) + N * (-(b / N)) := by rw [Int.mul_neg]; omega
      rw [this, Int.add_mul_emod_self_left]
    generalize hd : b % N = d at *
    refine ⟨by omega, by omega, fun hp => ?_, fun hn => ?_⟩
    · have hz : d = 0 := by omega
      rw [e, hz]; simp
    · rw [e]
      have : -d = (-d + N) + N * (-1) := by rw [Int.mul_neg]; omega
      rw [this, Int.add_mul_emod_self_left, Int.emod_eq_of_lt (by omega) (by omega)]
      omega
  · rw [Int.tmod_eq_emod_of_nonneg h0]
    have h1 := Int.emod_nonneg a (show N ≠ 0 by omega)
    have h2 := Int.emod_lt_of_pos a h
    exact ⟨by omega, by omega, fun _ => rfl, fun hn => by omega⟩
theorem first_eq {l : List Nat} (at_ : Int) (h : 0 < l.length) : at_ % (8 * (l.length : Int)) = (firstBit l at_ : Int) := by
  unfold firstBit
  rw [Int.toNat_of_nonneg (Int.emod_nonneg _ (by omega))]
theorem tmod_first (l : List Nat) (at_ : Int) (h : 0 < l.length) : (at_.tmod (8 * (l.length : Int)) + 8 * (l.length : Int)) % (8 * (l.length : Int)) = (firstBit l at_ : Int) := by
  obtain ⟨h1, h2, h3, h4⟩ := tmod_pos at_ (8 * (l.length : Int)) (by omega)
  rcases Int.lt_or_le (at_.tmod (8 * (l.length : Int))) 0 with h0 | h0
  · rw [h4 h0, Int.emod_emod_of_dvd _ (Int.dvd_refl _), first_eq at_ h]
  · rw [Int.add_emod_right, h3 h0, Int.emod_emod_of_dvd _ (Int.dvd_refl _), first_eq at_ h]
theorem rspoil_any (A : Option Addr) (n c : Nat) (l : List Nat) (at_ : Int) (m : Nat) (w : World) (hn : n = l.length) (hr : Rd w w.heap.size A (BB l)) (hl : AllB l) (hm : m < 4294967296) (h0 : 0 < l.length) (hsz : l.length ≤ 140737488355328) :
    Calls Try.prog 33 #[.slice A n c, .int .i64 at_, .int .u32 (m : Int)] w (Turns w l (firstBit l at_) m) := by
  subst hn
  have hne : (8 * (l.length : Int) == 0) = false := by simp; intro e; rw [e] at h0; exact absurd h0 (by decide)
  have hf := firstBit_lt at_ h0
  have ht := tmod_first l at_ h0
  have C1 := Lib.hid (turned_any A _ c l (firstBit l at_) m w rfl hr hl hm (Nat.le_of_lt hf) hsz)
  generalize firstBit l at_ = k at *
  obtain ⟨hlo, hhi, _, _⟩ := tmod_pos at_ (8 * (l.length : Int)) (by omega)
  go_enter Try.func33, Try.ntmps33
  go_wp2_with fail
  refine C1.out.mono ?_
  rintro e w1 ⟨A1, c1, cnt, rfl, hcn, hown, hc1, hb1⟩
  have HC := Lib.hid hcn
  clear hcn
  go_wp2_with fail
  go_ret2
  exact ⟨A1, c1, cnt, rfl, HC.out, hown, hc1, hb1⟩
theorem rspoil_nil (A : Option Addr) (c : Nat) (at_ : Int) (m : Nat) (w : World) :
    Calls Try.prog 33 #[.slice A 0 c, .int .i64 at_, .int .u32 (m : Int)] w fun e w' => e = .returned (.tuple #[.slice none 0 0, .int .i64 0]) ∧ w = w' := by
  go_enter Try.func33, Try.ntmps33
  go_wp2
  go_ret2
  exact ⟨rfl, rfl⟩
theorem shl8 {b r : Nat} (hb : b < 2) (hr : r < 8) : IntKind.u8.wrap ((b : Int) * 2 ^ r) = ((b * 2 ^ r : Nat) : Int) := by
  have hp := pow8_lt hr
  have e : (b : Int) * 2 ^ r = ((b * 2 ^ r : Nat) : Int) := by simp
  rw [e, IntKind.wrap_u8']
  have : b * 2 ^ r ≤ 1 * 2 ^ r := Nat.mul_le_mul_right _ (by omega)
  omega
theorem and7 (k : Nat) (hk : k < 18446744073709551616) : bits .and .u64 (k : Int) 7 = ((k % 8 : Nat) : Int) := by
  have h := u64_and_nat k 7 hk (by decide)
  rw [nat_mask3] at h
  exact h
theorem and1 (q : Nat) (hq : q < 4294967296) : bits .and .u32 (q : Int) 1 = ((q % 2 : Nat) : Int) := by
  have h := u32_and_nat q 1 hq (by decide)
  rw [nat_mask1] at h
  exact h
/-- one bit of the mask: it is turned, or not -/
theorem turn_any {l x : List Nat} {at_ m i : Nat} (hx : ∀ y ∈ x, y < 256) (hlen : x.length = l.length) (he : leN x = leN l ^^^ 2 ^ at_ * maskTo m i (8 * l.length - at_)) (hk : at_ + i < 8 * l.length) :
    leN (x.set ((at_ + i) / 8) (x.getD ((at_ + i) / 8) 0 ^^^ (m / 2 ^ i % 2 * 2 ^ ((at_ + i) % 8)))) = leN l ^^^ 2 ^ at_ * maskTo m (i + 1) (8 * l.length - at_) ∧
      ∀ y ∈ x.set ((at_ + i) / 8) (x.getD ((at_ + i) / 8) 0 ^^^ (m / 2 ^ i % 2 * 2 ^ ((at_ + i) % 8))), y < 256 := by
  rcases Nat.mod_two_eq_zero_or_one (m / 2 ^ i) with h0 | h1
  · rw [h0, Nat.zero_mul, Nat.xor_zero, maskTo_nobit (by rw [h0]; omega)]
    have hself : x.set ((at_ + i) / 8) (x.getD ((at_ + i) / 8) 0) = x := by
      have hlt : (at_ + i) / 8 < x.length := by omega
      have : x.getD ((at_ + i) / 8) 0 = x[(at_ + i) / 8] := by simp [List.getD, hlt]
      rw [this, List.set_getElem_self]
    rw [hself]
    exact ⟨he, hx⟩
  · rw [h1, Nat.one_mul]
    exact ⟨turn_step hx hlen he hk h1, set_all hx (by omega)⟩
set_option maxHeartbeats 1000000 in
theorem spoil_walk (A : Option Addr) (c : Nat) (l : List Nat) (at_ : Int) (k m : Nat) (w : World) (hr : Rd w w.heap.size A (BB l)) (hl : AllB l) (hm : m < 4294967296) (hf : k < 8 * l.length) (hsz : l.length ≤ 140737488355328) (h0 : 0 < l.length)
    (hne : (8 * (l.length : Int) == 0) = false) (hlo : -(8 * (l.length : Int)) < at_.tmod (8 * (l.length : Int))) (hhi : at_.tmod (8 * (l.length : Int)) < 8 * (l.length : Int))
    (hcase : (at_.tmod (8 * (l.length : Int)) < 0 ∧ at_.tmod (8 * (l.length : Int)) + 8 * (l.length : Int) = (k : Int)) ∨ (¬ at_.tmod (8 * (l.length : Int)) < 0 ∧ at_.tmod (8 * (l.length : Int)) = (k : Int))) :
    Calls Try.prog 48 #[.slice A l.length c, .int .i64 at_, .int .u32 (m : Int)] w (Gives w (spoilt l k m)) := by
  have hz1 : ([] : List Nat).length + l.length ≤ 140737488355328 := by simp; omega
  rcases hcase with ⟨hneg, hk⟩ | ⟨hneg, hk⟩
  all_goals
    go_enter Try.func48, Try.ntmps48
    go_wp2_with (at_builtin; refine wpl_app rfl (.const (.slice none 0 0)) (.tmp 10) rfl w.heap.size _ [] rfl (Own.nilv _ _ _) w.heap.size A _ c l rfl rfl hr hz1 (Nat.le_refl _) ?_; intro A2 c2 w2 r2 hr2 hown2 hg2 hb2; obtain rfl : r2 = l := by (have := hr2.out; simpa using this))
    have hc2 : r2.length ≤ c2 := by
      obtain ⟨_, _, he, hle2, _, _⟩ := hown2.form
      rw [BB_length] at hle2
      injection he with _ _ h3
      omega
    clear hg2 hr2 hz1 hlo hhi hneg hk hne
    go_loopw [2, 9] (fun mm kv wr => ∃ (j q kk : Nat) (x : List Nat), Hid (q = m / 2 ^ j) ∧ q < 4294967296 ∧ Hid (kk = k + j) ∧ kk ≤ 8 * r2.length ∧ kv = .int .i64 (kk : Int) ∧ mm = .int .u32 (q : Int) ∧
        Hid (x.length = r2.length) ∧ Hid (leN x = leN r2 ^^^ 2 ^ k * maskTo m j (8 * r2.length - k)) ∧ AllB x ∧ Own wr w.heap.size 5 (.slice A2 r2.length c2) (BB x) ∧ Below w.heap.size w wr) (fun _ kv _ => (8 * (r2.length : Int) - intOf kv).toNat)
    case atStart =>
      refine ⟨0, m, k, r2, by show m = m / 2 ^ 0; simp, hm, rfl, by omega, rfl, rfl, rfl, ?_, hl, hown2, hb2⟩
      show leN r2 = _; rw [maskTo_zero]; simp
    case round =>
      obtain ⟨j, q, kk, x, hq, hql, hkk, hkl, rfl, rfl, hxl, hxe, hxa, hown, hb⟩ := hrel
      by_cases hin : 0 < q ∧ kk < 8 * r2.length
      · obtain ⟨hq0, hkn⟩ := hin
        have hxlen := hxl.out
        have hown' : Own wr w.heap.size 5 (.slice A2 x.length c2) (BB x) := by rw [hxlen]; exact hown
        obtain ⟨g, rfl, hg1, hg2, hgc, hgf, hgs⟩ := own_at hown' (k := kk / 8) (by omega)
        have hxb : x.getD (kk / 8) 0 < 256 := hxa _ (by simp [List.getD, show kk / 8 < x.length from by omega])
        obtain ⟨hst, hsa⟩ := turn_any hxa hxlen hxe.out (by rw [← hkk.out]; exact hkn)
        rw [← hkk.out, ← hq.out] at hst hsa
        have ha1 := and1 q hql
        have ha7 := and7 kk (by omega)
        have hsh := shl8 (b := q % 2) (r := kk % 8) (Nat.mod_lt _ (by decide)) (Nat.mod_lt _ (by decide))
        have hb2l : q % 2 * 2 ^ (kk % 8) < 256 := by
          have h1 := pow8_lt (Nat.mod_lt kk (by decide : 0 < 8))
          have h2 : q % 2 * 2 ^ (kk % 8) ≤ 1 * 2 ^ (kk % 8) := Nat.mul_le_mul_right _ (by omega)
          omega
        have hxor := u8_xor_nat (x.getD (kk / 8) 0) (q % 2 * 2 ^ (kk % 8)) hxb hb2l
        obtain ⟨s1, s2⟩ := hgs (x.getD (kk / 8) 0 ^^^ (q % 2 * 2 ^ (kk % 8)))
        generalize hx' : x.set (kk / 8) (x.getD (kk / 8) 0 ^^^ (q % 2 * 2 ^ (kk % 8))) = x' at *
        have HX' := Lib.hid hx'
        generalize x.getD (kk / 8) 0 ^^^ (q % 2 * 2 ^ (kk % 8)) = y at *
        generalize q % 2 * 2 ^ (kk % 8) = pb at *
        have hb1 : q % 2 < 2 := Nat.mod_lt _ (by decide)
        generalize q % 2 = b1 at *
        have hr8 : kk % 8 < 8 := Nat.mod_lt _ (by decide)
        generalize kk % 8 = r8 at *
        generalize x.getD (kk / 8) 0 = z at *
        have hk8 : kk / 8 < r2.length := by omega
        have HS := Lib.hid hst
        have hxl2 : Hid (x'.length = r2.length) := by show x'.length = _; rw [← HX'.out, List.length_set]; exact hxlen
        rw [hxlen] at s1
        have hb2' : Below w.heap.size w (wr.setCell ⟨g, kk / 8, none⟩ (.int .u8 (y : Int))) := hb.setCell hg1 _
        have hq2 : Hid (q / 2 = m / 2 ^ (j + 1)) := by
          show q / 2 = _
          rw [hq.out, Nat.div_div_eq_div_mul, Nat.pow_succ]
        clear hxlen hst hx' hown hown' hgs hxe hxa hq hxl
        go_wp2
        go_roundw
        case rel => exact ⟨j + 1, q / 2, kk + 1, x', hq2, by omega, (by show kk + 1 = k + (j + 1); rw [hkk.out]; omega), by omega, by go_num, Crc.val_int (by omega), hxl2, HS, hsa, s1, hb2'⟩
        case measure => simp [intOf]; omega
      · have hfin : x = spoilt r2 k m := by
          refine spoilt_of hxa hxl.out ?_
          rw [hxe.out]
          congr 2
          by_cases hq0 : q = 0
          · refine maskTo_top ?_
            have h1 := hq.out
            rw [hq0] at h1
            have h2 : 0 < 2 ^ j := Nat.two_pow_pos j
            rcases Nat.lt_or_ge m (2 ^ j) with h | h
            · exact h
            · have := Nat.div_pos h h2; omega
          · have hjm : 8 * r2.length - k ≤ j := by have := hkk.out; omega
            unfold maskTo
            exact Nat.mod_mod_of_dvd _ (Nat.pow_dvd_pow 2 hjm)
        rw [hfin] at hown
        have HF := Lib.hid (spoilt_length r2 k m)
        clear hfin hxe hq hkk hxl hxa
        by_cases hq0 : 0 < q
        · have hkn : ¬ kk < 8 * r2.length := fun h => hin ⟨hq0, h⟩
          clear hin
          go_wp2
          go_ret
          rw [← HF.out] at hown ⊢
          exact ⟨A2, c2, rfl, hown, by rw [HF.out]; exact hc2, hb⟩
        · obtain rfl : q = 0 := by omega
          clear hin
          go_wp2
          go_ret
          rw [← HF.out] at hown ⊢
          exact ⟨A2, c2, rfl, hown, by rw [HF.out]; exact hc2, hb⟩
/-- seal.Spoil gives bytes of its own -/
theorem spoil_any (A : Option Addr) (n c : Nat) (l : List Nat) (at_ : Int) (m : Nat) (w : World) (hn : n = l.length) (hr : Rd w w.heap.size A (BB l)) (hl : AllB l) (hm : m < 4294967296) (h0 : 0 < l.length) (hsz : l.length ≤ 140737488355328) :
    Calls Try.prog 48 #[.slice A n c, .int .i64 at_, .int .u32 (m : Int)] w (Gives w (spoilt l (firstBit l at_) m)) := by
  subst hn
  have hne : (8 * (l.length : Int) == 0) = false := by simp; intro e; rw [e] at h0; exact absurd h0 (by decide)
  have hf := firstBit_lt at_ h0
  have hfe := first_eq at_ h0
  obtain ⟨hlo, hhi, ht1, ht2⟩ := tmod_pos at_ (8 * (l.length : Int)) (by omega)
  rw [hfe] at ht1 ht2
  generalize firstBit l at_ = k at *
  have hr1 := hr
  have hz1 : ([] : List Nat).length + l.length ≤ 140737488355328 := by simp; omega
  have HT1 := Lib.hid ht1
  have HT2 := Lib.hid ht2
  clear ht1 ht2 hfe
  by_cases hneg : at_.tmod (8 * (l.length : Int)) < 0
  · have hk := HT2.out hneg
    exact spoil_walk A c l at_ k m w hr hl hm hf hsz h0 hne hlo hhi (.inl ⟨hneg, hk⟩)
  · have hk := HT1.out (by omega)
    exact spoil_walk A c l at_ k m w hr hl hm hf hsz h0 hne hlo hhi (.inr ⟨hneg, hk⟩)
theorem spoil_nil (A : Option Addr) (c : Nat) (at_ : Int) (m : Nat) (w : World) :
    Calls Try.prog 48 #[.slice A 0 c, .int .i64 at_, .int .u32 (m : Int)] w fun e w' => e = .returned (.slice none 0 0) ∧ Below w.heap.size w w' := by
  go_enter Try.func48, Try.ntmps48
  go_wp2_with (at_builtin; refine wpl_app rfl (.const (.slice none 0 0)) (.tmp 10) rfl w.heap.size _ [] rfl (Own.nilv _ _ _) w.heap.size A _ c [] rfl rfl Rd.nil (by simp) (Nat.le_refl _) ?_; intro A2 c2 w2 r2 hr2 hown2 hg2 hb2; obtain rfl : r2 = [] := hr2.out)
  go_ret
  exact ⟨rfl, hb2⟩
end Go.Proofs.Ytpckfnafcmifpaa.Seal
