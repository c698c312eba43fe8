/- The walks of layer 3, continued: the reference's Read. -/
import Derived.Test.YtdlghabpnpbebaaDoorNumWalksB
namespace Go.Proofs.YtdlghabpnpbebaaDoor.Num
open Go.RowKit Go.Proofs.YtdlghabpnpbebaaDoor.Shift Go.Proofs.YtdlghabpnpbebaaDoor.Mem

set_option maxHeartbeats 1000000 in
/-- the reference's answer is the same: an error's number is an int -/
theorem rread_any (A : Option Addr) (n c : Nat) (l : List Nat) (at_ : Int) (w : World) (hn : n = l.length) (hl : AllB l) (_hle : l.length ≤ c) (hc : l.length ≤ 140737488355328) (hr : Rd w w.heap.size A (BB l)) :
    Calls Tryd.prog 64 #[.slice A n c, .int .i64 at_] w fun e w' => e = outV (readNum l at_) ∧ w = w' := by
  subst hn
  unfold readNum
  by_cases h1 : at_ < 0
  · have hd : decide (at_ < 0) = true := by simpa using h1
    rw [if_pos h1]
    go_enter Tryd.func64, Tryd.ntmps64
    go_wp2
    go_ret3
    exact ⟨rfl, rfl⟩
  rw [if_neg h1]
  obtain ⟨k, rfl⟩ := Int.eq_ofNat_of_zero_le (Int.not_lt.1 h1)
  rw [Int.toNat_natCast]
  clear h1
  by_cases h2 : l.length < k
  · have e : readAt l k = ⟨0, 0, 1⟩ := by unfold readAt; rw [if_pos h2]
    rw [e]
    go_enter Tryd.func64, Tryd.ntmps64
    go_wp2
    go_ret3
    exact ⟨rfl, rfl⟩
  by_cases h3 : k = l.length
  · have e : readAt l k = ⟨0, 0, 2⟩ := by unfold readAt; rw [if_neg h2, if_pos h3]
    rw [e]
    have hb : ((k : Int) == (l.length : Int)) = true := by simp; omega
    have hk1 : k ≤ l.length := by omega
    have hk2 : l.length ≤ k := by omega
    clear h3 e
    go_enter Tryd.func64, Tryd.ntmps64
    go_wp2
    go_ret3
    exact ⟨rfl, rfl⟩
  have hk : k < l.length := by omega
  obtain ⟨b, o, rfl, hb, hcell⟩ := get_at hr hk
  have hx := hcell k hk
  have hxb : l.getD k 0 < 256 := hl _ (by simp [List.getD, hk])
  have hne : ((k : Int) == (l.length : Int)) = false := by simp; omega
  generalize hxx : l.getD k 0 = x at *
  have HX := Lib.hid hxx
  have HC := Lib.hid hcell
  have HL := Lib.hid hl
  generalize hN : l.length = N at *
  have HN := Lib.hid hN
  clear h2 h3 hcell hxx hl hN hr
  have hk' : k < l.length := by rw [HN.out]; exact hk
  cases hbf : badForm l k
  · have hb2 := hbf
    rw [bad_of HX.out rfl] at hb2
    have h8 : x ≤ 8 := by
      rcases Nat.lt_or_ge 8 x with h | h
      · rw [decide_eq_true h, Bool.true_or] at hb2; cases hb2
      · exact h
    have hpos : 0 < x → k + 1 < N → 0 < l.getD (k + 1) 0 ∧ l.getD (k + 1) 0 < 256 ∧ w.cell? ⟨b, o + (k + 1), none⟩ = some (.int .u8 (l.getD (k + 1) 0 : Int)) := by
      intro h1 h2
      refine ⟨?_, HL.out _ (by have := HN.out; simp [List.getD, show k + 1 < l.length from by omega]), HC.out _ h2⟩
      rcases Nat.eq_zero_or_pos (l.getD (k + 1) 0) with e | e
      · rw [e, decide_eq_true h1, decide_eq_true (p := k + 1 < l.length) (by rw [HN.out]; exact h2)] at hb2; simp at hb2
      · exact e
    have HP := Lib.hid hpos
    clear hb2 hpos
    by_cases hf : N < k + 1 + x
    · rw [at_few hk' HX.out hbf (by rw [HN.out]; exact hf)]
      clear hbf hk'
      have h0 : 0 < x := by omega
      by_cases h1 : k + 1 < N
      · obtain ⟨hy0, hy1, hyc⟩ := HP.out h0 h1
        generalize l.getD (k + 1) 0 = y at *
        have hyn : ((y : Int) == 0) = false := by simp; omega
        go_enter Tryd.func64, Tryd.ntmps64
        go_wp2
        go_ret3
        exact ⟨rfl, rfl⟩
      · go_enter Tryd.func64, Tryd.ntmps64
        go_wp2
        go_ret3
        exact ⟨rfl, rfl⟩
    · have hml : ((l.drop (k + 1)).take x).length = x := by rw [List.length_take, List.length_drop, HN.out]; omega
      have hget : ∀ j, j < x → ((l.drop (k + 1)).take x).getD j 0 = l.getD (k + 1 + j) 0 := by
        intro j hj
        simp only [List.getD]
        rw [List.getElem?_take, if_pos (by exact hj), List.getElem?_drop]
      have hal : AllB ((l.drop (k + 1)).take x) := fun z hz => HL.out z (List.mem_of_mem_drop (List.mem_of_mem_take hz))
      rw [at_ok hk' HX.out hbf (by rw [HN.out]; omega)]
      generalize (l.drop (k + 1)).take x = m at *
      have HM := Lib.hid hml
      have HG := Lib.hid hget
      have HA := Lib.hid hal
      clear hml hget hal hbf hk'
      by_cases h0 : 0 < x
      · obtain ⟨hy0, hy1, hyc⟩ := HP.out h0 (by omega)
        generalize l.getD (k + 1) 0 = y at *
        have hyn : ((y : Int) == 0) = false := by simp; omega
        go_enter Tryd.func64, Tryd.ntmps64
        go_wp2
        go_loop [9, 10] (fun v i => ∃ j : Nat, j ≤ x ∧ i = .int .i64 ((j : Int) + 1) ∧ v = .int .u64 (beN (m.take j) : Nat)) (fun _ i => (x + 1 - intOf i).toNat)
        case atStart => exact ⟨0, by omega, rfl, rfl⟩
        case round =>
          obtain ⟨j, hj, rfl, rfl⟩ := hrel
          by_cases hlt : j < x
          · have hcj := HC.out (k + (j + 1)) (by omega)
            rw [show k + (j + 1) = k + 1 + j from by omega, ← HG.out j hlt, show o + (k + 1 + j) = o + (k + (j + 1)) from by omega] at hcj
            have hbj : m.getD j 0 < 256 := by
              have : m.getD j 0 ∈ m := by
                have := HM.out
                simp [List.getD, show j < m.length from by omega]
              exact HA.out _ this
            have hbt := beN_take m j (by have := HM.out; omega)
            have hvl : beN (m.take j) < 72057594037927936 := by
              have h1 := beN_lt (m.take j) (fun z hz => HA.out z (List.mem_of_mem_take hz))
              have h2 : 256 ^ (m.take j).length ≤ 256 ^ 7 := Nat.pow_le_pow_right (by decide) (by rw [List.length_take]; omega)
              have h3 : (256 : Nat) ^ 7 = 72057594037927936 := rfl
              omega
            generalize m.getD j 0 = z at *
            generalize hv2 : beN (m.take (j + 1)) = v2 at *
            generalize beN (m.take j) = v1 at *
            have HV2 := Lib.hid hv2
            have HBT := Lib.hid hbt
            clear hv2 hbt
            go_wp2
            go_round
            case rel => exact ⟨j + 1, by omega, by go_num, val_int (by rw [HV2.out, HBT.out]; omega)⟩
            case measure => simp [intOf]; omega
          · have ej : m.take j = m := List.take_of_length_le (by have := HM.out; omega)
            rw [ej]
            clear ej
            go_wp2
            go_ret3
            exact ⟨rfl, rfl⟩
      · obtain rfl : x = 0 := by omega
        have e0 : beN m = 0 := by rw [List.eq_nil_of_length_eq_zero HM.out]; rfl
        rw [e0]
        clear e0 h0
        go_enter Tryd.func64, Tryd.ntmps64
        go_wp2
        refine wp_loop_rounds 1 ?_
        rw [rounds_succ]
        go_wp2
        go_ret3
        exact ⟨rfl, rfl⟩
  · rw [at_bad hk' hbf]
    rw [bad_of HX.out rfl, HN.out] at hbf
    rcases Nat.lt_or_ge 8 x with h8 | h8
    · clear hbf hk'
      go_enter Tryd.func64, Tryd.ntmps64
      go_wp2
      go_ret3
      exact ⟨rfl, rfl⟩
    · rw [decide_eq_false (by omega), Bool.false_or, Bool.and_eq_true, Bool.and_eq_true, decide_eq_true_eq, decide_eq_true_eq, decide_eq_true_eq] at hbf
      obtain ⟨h0, h1, hy⟩ := hbf
      have hyc := HC.out _ h1
      rw [hy] at hyc
      clear hy hk'
      go_enter Tryd.func64, Tryd.ntmps64
      go_wp2
      go_ret3
      exact ⟨rfl, rfl⟩
end Go.Proofs.YtdlghabpnpbebaaDoor.Num
