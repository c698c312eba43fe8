/- The walk of the reference's Turned: bytes of which the bits of a mask are turned, and whether there were any. -/
import Derived.Test.YtpckfnafcmifpaaCrcOf
import Derived.Test.YtpckfnafcmifpaaTurnMath
namespace Go.Proofs.Ytpckfnafcmifpaa.Crc
open Go.RowKit Go.Proofs.Ytpckfnafcmifpaa.Mem

theorem own_at {w : World} {base : Nat} {A : Option Addr} {c : Nat} {x : List Nat} (h : Own w base 5 (.slice A x.length c) (BB x)) {k : Nat} (hk : k < x.length) :
    ∃ g, A = some ⟨g, 0, none⟩ ∧ base ≤ g ∧ g < w.heap.size ∧ w.cell? ⟨g, k, none⟩ = some (.int .u8 (x.getD k 0 : Int)) ∧ w.frozen? ⟨g, k, none⟩ = false ∧
      ∀ y : Nat, Own (w.setCell ⟨g, k, none⟩ (.int .u8 (y : Int))) base 5 (.slice (some ⟨g, 0, none⟩) x.length c) (BB (x.set k y)) ∧ w.grownBy (w.setCell ⟨g, k, none⟩ (.int .u8 (y : Int))) (some g) := by
  obtain ⟨g, cap, hv, hbg, hgl⟩ := World.ownsRow.form h (by rw [BB_length]; omega)
  injection hv with h1 h2 h3
  subst h1 h3
  have h' : w.ownsRow base 5 1 (.slice (some ⟨g, 0, none⟩) x.length c) x.length (BB x) := by
    have := h
    unfold Own at this
    rwa [BB_length] at this
  refine ⟨g, rfl, hbg, hgl, ?_, h'.frozenAt k, fun y => ?_⟩
  · rw [h'.cellAt k (by omega), BB_get x k hk]
  · obtain ⟨s1, s2⟩ := h'.stored k (.int .u8 (y : Int))
    refine ⟨?_, s2⟩
    unfold Own
    rw [BB_length, List.length_set]
    have e : BB (x.set k y) = (BB x).set k (.int .u8 (y : Int)) := by simp [BB, List.map_set]
    rw [e]
    exact s1
theorem pow8_lt {r : Nat} (h : r < 8) : 2 ^ r < 256 := Nat.pow_lt_pow_right (n := 8) (by decide) h
/-- what Turned gives: the bytes, and a number that is 0 just if no bit was turned -/
def Turns (w : World) (l : List Nat) (k m : Nat) (en : Ending) (w' : World) : Prop :=
  ∃ A c n, en = .returned (.tuple #[.slice A l.length c, .int .i64 ((n : Nat) : Int)]) ∧ (n = 0 ↔ m % 2 ^ (8 * l.length - k) = 0) ∧ Own w' w.heap.size 5 (.slice A l.length c) (BB (spoilt l k m)) ∧ l.length ≤ c ∧ Below w.heap.size w w'
set_option maxHeartbeats 1000000 in
theorem turned_any (A : Option Addr) (n c : Nat) (l : List Nat) (at_ m : Nat) (w : World) (hn : n = l.length) (hr : Rd w w.heap.size A (BB l)) (hl : AllB l) (hm : m < 4294967296) (hat : at_ ≤ 8 * l.length) (hsz : l.length ≤ 140737488355328) :
    Calls Try.prog 51 #[.slice A n c, .int .i64 (at_ : Int), .int .u32 (m : Int)] w (Turns w l at_ m) := by
  subst hn
  have hown1 : Own (w.alloc (.cells #[] 5)) w.heap.size 5 (.slice (some ⟨w.heap.size, 0, none⟩) 0 0) (BB []) := Own.new w w.heap.size 5 [] (Nat.le_refl _) (by simp)
  have hr1 := hr.alloc (Nat.le_refl _) (.cells #[] 5)
  have hz1 : ([] : List Nat).length + l.length ≤ 140737488355328 := by simp; omega
  go_enter Try.func51, Try.ntmps51
  go_wp2_with (at_builtin; refine wpl_app rfl (.tmp 14) (.tmp 15) rfl w.heap.size _ [] rfl hown1 w.heap.size A _ c l rfl rfl hr1 hz1 (by simp) ?_; intro A2 c2 w2 r2 hr2 hown2 hg2 hb2)
  have hb02 : Below w.heap.size w w2 := ((Below.refl _ _).alloc (Nat.le_refl _) _).trans hb2
  have er2 : r2 = l := by have := hr2.out; simpa using this
  subst er2
  clear hg2 hb2 hr2 hown1 hr1 hz1
  have hc2 : r2.length ≤ c2 := by
    obtain ⟨_, _, he, hle2, _, _⟩ := hown2.form
    rw [BB_length] at hle2
    injection he with _ _ h3
    omega
  go_loopw [9, 10, 2] (fun nn i mm wr => ∃ (j cnt q : Nat) (x : List Nat), j ≤ 32 ∧ Hid (q = m / 2 ^ j) ∧ q < 4294967296 ∧ i = .int .i64 (j : Int) ∧ mm = .int .u32 (q : Int) ∧ nn = .int .i64 (cnt : Int) ∧ cnt ≤ j ∧
      Hid (cnt = 0 ↔ maskTo m j (8 * r2.length - at_) = 0) ∧ Hid (x.length = r2.length) ∧ Hid (leN x = leN r2 ^^^ 2 ^ at_ * maskTo m j (8 * r2.length - at_)) ∧ AllB x ∧ Own wr w.heap.size 5 (.slice A2 r2.length c2) (BB x) ∧ Below w.heap.size w wr) (fun _ i _ _ => 32 - (intOf i).toNat)
  case atStart =>
    refine ⟨0, 0, m, r2, by omega, by show m = m / 2 ^ 0; simp, hm, rfl, rfl, rfl, by omega, ?_, rfl, ?_, hl, hown2, hb02⟩
    · show 0 = 0 ↔ _; rw [maskTo_zero]
    · show leN r2 = _; rw [maskTo_zero]; simp
  case round =>
    obtain ⟨j, cnt, q, x, hj, hq, hql, rfl, rfl, rfl, hcj, hcnt, hxl, hxe, hxa, hown, hb⟩ := hrel
    by_cases h0 : j < 32
    · have hq2 : Hid (q / 2 = m / 2 ^ (j + 1)) := by
        show q / 2 = _
        rw [hq.out, Nat.div_div_eq_div_mul, Nat.pow_succ]
      obtain ⟨k, hk⟩ : ∃ k, at_ + j = k := ⟨_, rfl⟩
      have hki : (at_ : Int) + (j : Int) = (k : Int) := by omega
      have HK := Lib.hid hk
      have hkb : k ≤ 1125899906842656 := by omega
      clear hk
      by_cases hbit : q % 2 = 1
      · have hbb : ((q : Int) % 2 == 1) = true := by simp; omega
        by_cases hin : k < 8 * r2.length
        · have hxlen := hxl.out
          have hown' : Own wr w.heap.size 5 (.slice A2 x.length c2) (BB x) := by rw [hxlen]; exact hown
          obtain ⟨g, rfl, hg1, hg2, hgc, hgf, hgs⟩ := own_at hown' (k := k / 8) (by omega)
          have hxb : x.getD (k / 8) 0 < 256 := hxa _ (by simp [List.getD, show k / 8 < x.length from by omega])
          have hst := turn_step hxa hxlen hxe.out (by rw [HK.out]; exact hin) (by rw [← hq.out]; exact hbit)
          rw [HK.out] at hst
          have hsa := set_all hxa (k := k) (by omega)
          have hne := (maskTo_bit (m := m) (i := j) (M := 8 * r2.length - at_) (by have := HK.out; omega) (by rw [← hq.out]; exact hbit)).2
          have hp8 := pow8_lt (Nat.mod_lt k (by decide : 0 < 8))
          have hxor := u8_xor_nat (x.getD (k / 8) 0) (2 ^ (k % 8)) hxb hp8
          obtain ⟨s1, s2⟩ := hgs (x.getD (k / 8) 0 ^^^ 2 ^ (k % 8))
          generalize hx' : x.set (k / 8) (x.getD (k / 8) 0 ^^^ 2 ^ (k % 8)) = x' at *
          have HX' := Lib.hid hx'
          generalize hy : x.getD (k / 8) 0 ^^^ 2 ^ (k % 8) = y at *
          have hk8 : k / 8 < r2.length := by omega
          have HS := Lib.hid hst
          have HN := Lib.hid hne
          have hxl2 : Hid (x'.length = r2.length) := by show x'.length = _; rw [← HX'.out, List.length_set]; exact hxlen
          generalize x.getD (k / 8) 0 = z at *
          generalize hr8 : k % 8 = r8 at *
          have hr8' : r8 < 8 := by omega
          have HR8 := Lib.hid hr8
          have hkr : (k : Int) % 8 = (r8 : Int) := by omega
          have HXo := Lib.hid hxor
          rw [hxlen] at s1
          clear hxlen hst hne hx' hy hown hown' hgs hr8 hxor hxe hxa hcnt hq hxl hxb
          go_wp2
          go_loop [12, 13] (fun b t => ∃ u p : Nat, u ≤ r8 ∧ t = .int .i64 (u : Int) ∧ b = .int .u8 (p : Int) ∧ p < 256 ∧ Hid (p = 2 ^ u)) (fun _ t => r8 - (intOf t).toNat)
          case atStart => exact ⟨0, 1, by omega, rfl, rfl, by omega, rfl⟩
          case round =>
            obtain ⟨u, pw, hu, rfl, rfl, hpl, hpw⟩ := hrel
            by_cases hur : u < r8
            · have hp2 : Hid (pw * 2 = 2 ^ (u + 1)) := by show pw * 2 = _; rw [hpw.out, Nat.pow_succ]
              have hp2l : pw * 2 < 256 := by rw [hp2.out]; exact pow8_lt (by omega)
              go_wp2
              go_round
              case rel => exact ⟨u + 1, pw * 2, by omega, by go_num, val_int (by omega), hp2l, hp2⟩
              case measure => simp [intOf]; omega
            · have hxr : bits .xor .u8 (z : Int) (pw : Int) = (y : Int) := by
                rw [hpw.out, show u = r8 from by omega]; exact HXo.out
              have hb2 : Below w.heap.size w (wr.setCell ⟨g, k / 8, none⟩ (.int .u8 (y : Int))) := hb.setCell hg1 _
              go_wp2
              go_roundw
              case rel =>
                refine ⟨j + 1, cnt + 1, q / 2, x', by omega, hq2, by omega, by go_num, val_int (by omega), by go_num, by omega, ?_, hxl2, HS, hsa, s1, hb2⟩
                show cnt + 1 = 0 ↔ _
                exact ⟨fun h => by omega, fun h => absurd h HN.out⟩
              case measure => simp [intOf]; omega
        · have hm1 := maskTo_nobit (m := m) (i := j) (M := 8 * r2.length - at_) (fun h => by have := HK.out; omega)
          rw [← hm1] at hxe hcnt
          have HE := hxe
          have HC := hcnt
          clear hm1 hxe hcnt
          go_wp2
          go_roundw
          case rel => exact ⟨j + 1, cnt, q / 2, x, by omega, hq2, by omega, by go_num, val_int (by omega), rfl, by omega, HC, hxl, HE, hxa, hown, hb⟩
          case measure => simp [intOf]; omega
      · have hbb : ((q : Int) % 2 == 1) = false := by simp; omega
        have hm1 := maskTo_nobit (m := m) (i := j) (M := 8 * r2.length - at_) (fun h => by rw [← hq.out] at h; exact hbit h.1)
        rw [← hm1] at hxe hcnt
        have HE := hxe
        have HC := hcnt
        clear hm1 hxe hcnt
        go_wp2
        go_roundw
        case rel => exact ⟨j + 1, cnt, q / 2, x, by omega, hq2, by omega, by go_num, val_int (by omega), rfl, by omega, HC, hxl, HE, hxa, hown, hb⟩
        case measure => simp [intOf]; omega
    · have hj32 : j = 32 := by omega
      have hxs : x = spoilt r2 at_ m := spoilt_of hxa hxl.out (by rw [hxe.out, hj32, maskTo_32 hm])
      have hcs : cnt = 0 ↔ m % 2 ^ (8 * r2.length - at_) = 0 := by rw [hcnt.out, hj32, maskTo_32 hm]
      rw [hxs] at hown
      have HCS := Lib.hid hcs
      clear hxs hcs hcnt hxe hj32
      go_wp2
      go_ret2
      exact ⟨A2, c2, cnt, rfl, HCS.out, hown, hc2, hb⟩
end Go.Proofs.Ytpckfnafcmifpaa.Crc
