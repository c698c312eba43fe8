/- The walks of layer 3, continued: Read where a number stands, and in all. -/
import Derived.Test.YtdlghabpnpbebaaDoorNumWalksB
namespace Go.Proofs.YtdlghabpnpbebaaDoor.Num
open Go.RowKit Go.Proofs.YtdlghabpnpbebaaDoor.Shift Go.Proofs.YtdlghabpnpbebaaDoor.Mem

theorem or_byte (v x : Nat) (hv : v < 72057594037927936) (hx : x < 256) : bits .or .u64 ((v : Int) * 256) (x : Int) = ((v * 256 + x : Nat) : Int) := by
  rw [show (v : Int) * 256 = ((256 * v : Nat) : Int) from by omega, u64_or_nat _ _ (by omega) (by omega)]
  have := nat_or_add 8 v x hx
  rw [show (2 : Nat) ^ 8 = 256 from rfl] at this
  rw [this, Nat.mul_comm]
theorem read_ok (b o N c k x : Nat) (m : List Nat) (w : World) (hc : N ≤ 140737488355328) (hN : N ≤ c) (hk : k + 1 < c) (hkN : k < N) (hx : w.cell? ⟨b, o + k, none⟩ = some (.int .u8 (x : Int))) (h8 : x ≤ 8)
    (hm : m.length = x) (hal : AllB m) (hcm : ∀ j, j < x → w.cell? ⟨b, o + (k + 1) + j, none⟩ = some (.int .u8 (m.getD j 0 : Int))) (h0 : 0 < x → 0 < m.getD 0 0) (hf : k + 1 + x ≤ N) :
    Calls Tryd.prog 75 #[.slice (some ⟨b, o, none⟩) N c, .int .i64 (k : Int)] w fun e w' => e = outV ⟨beN m, k + 1 + x, 0⟩ ∧ Below w.heap.size w w' := by
  have hck : ¬ c = k + 1 := by omega
  have hne : ((k : Int) == (N : Int)) = false := by simp; omega
  have hf1 : x ≤ N - (k + 1) := by omega
  have hf2 : x ≤ c - (k + 1) := by omega
  have HM := Lib.hid hm
  have HC := Lib.hid hcm
  clear hm hcm
  by_cases hx0 : 0 < x
  · have hy := h0 hx0
    have hyc := HC.out 0 hx0
    have hyb : m.getD 0 0 < 256 := by
      have : m.getD 0 0 ∈ m := by
        have := HM.out
        simp [List.getD, show 0 < m.length from by omega]
      exact hal _ this
    generalize hgy : m.getD 0 0 = y at *
    have HY := Lib.hid hgy
    have hyn : ((y : Int) == 0) = false := by simp; omega
    have h1' : 0 < N - (k + 1) := by omega
    simp only [Nat.add_zero] at hyc
    clear h0 hgy
    go_enter Tryd.func75, Tryd.ntmps75
    go_wp2
    go_quiet (fail)
    go_wp2
    go_loop [9, 60] (fun v i => ∃ j : Nat, j ≤ x ∧ i = .int .i64 j ∧ v = .int .u64 (beN (m.take j) : Nat)) (fun _ i => x - (intOf i).toNat)
    case atStart => exact ⟨0, by omega, rfl, rfl⟩
    case round =>
      obtain ⟨j, hj, rfl, rfl⟩ := hrel
      by_cases hlt : j < x
      · have hcj := HC.out j hlt
        have hbj : m.getD j 0 < 256 := by
          have : m.getD j 0 ∈ m := by
            have := HM.out
            simp [List.getD, show j < m.length from by omega]
          exact hal _ this
        have hbt := beN_take m j (by have := HM.out; omega)
        have hvl : beN (m.take j) < 72057594037927936 := by
          have h1 := beN_lt (m.take j) (fun z hz => hal z (List.mem_of_mem_take hz))
          have h2 : 256 ^ (m.take j).length ≤ 256 ^ 7 := Nat.pow_le_pow_right (by decide) (by rw [List.length_take]; omega)
          have h3 : (256 : Nat) ^ 7 = 72057594037927936 := rfl
          omega
        have hor := or_byte (beN (m.take j)) (m.getD j 0) hvl hbj
        rw [← hbt] at hor
        generalize m.getD j 0 = z at *
        generalize hv2 : beN (m.take (j + 1)) = v2 at *
        have HV2 := Lib.hid hv2
        generalize beN (m.take j) = v1 at *
        clear hbt hv2
        go_wp2
        go_round
        case rel => exact ⟨j + 1, by omega, by go_num, val_int (by rw [HV2.out])⟩
        case measure => simp [intOf]; omega
      · have ej : m.take j = m := List.take_of_length_le (by have := HM.out; omega)
        rw [ej]
        clear ej
        go_wp2
        go_ret3
        exact ⟨rfl, below_drewN' _ _⟩
  · obtain rfl : x = 0 := by omega
    have e0 : beN m = 0 := by rw [List.eq_nil_of_length_eq_zero HM.out]; rfl
    have E0 := Lib.hid e0
    clear e0 h0
    go_enter Tryd.func75, Tryd.ntmps75
    go_wp2
    go_quiet (fail)
    go_wp2
    refine wp_loop_rounds 1 ?_
    rw [rounds_succ]
    go_wp2
    go_ret3
    exact ⟨by rw [E0.out]; rfl, below_drewN' _ _⟩
/-- num.Read, whatever the bytes and the place -/
theorem read_any (A : Option Addr) (n c : Nat) (l : List Nat) (at_ : Int) (w : World) (hn : n = l.length) (hl : AllB l) (hle : l.length ≤ c) (hc : l.length ≤ 140737488355328) (hr : Rd w w.heap.size A (BB l)) :
    Calls Tryd.prog 75 #[.slice A n c, .int .i64 at_] w fun e w' => e = outV (readNum l at_) ∧ Below w.heap.size w w' := by
  subst hn
  by_cases hsh : at_ < 0 ∨ (l.length : Int) ≤ at_
  · exact (read_short A c l at_ w hsh).mono fun e w' ⟨he, hw⟩ => ⟨he, by rw [← hw]; exact Below.refl _ _⟩
  obtain ⟨k, rfl⟩ := Int.eq_ofNat_of_zero_le (show 0 ≤ at_ by omega)
  have hk : k < l.length := by omega
  rw [readNum_nat]
  obtain ⟨b, o, rfl, hb, hcell⟩ := get_at hr hk
  have hx := hcell k hk
  have hxb : l.getD k 0 < 256 := hl _ (by simp [List.getD, hk])
  by_cases hck : c = k + 1
  · have hN : l.length = k + 1 := by omega
    subst hck
    refine (read_edge b o l.length k (l.getD k 0) w hN hx hxb (by omega)).mono fun e w' ⟨he, hw⟩ => ⟨?_, hw⟩
    rw [he]
    have hbad : badForm l k = decide (8 < l.getD k 0) := by
      rw [bad_of rfl rfl]
      have : ¬ k + 1 < l.length := by omega
      simp [this]
    by_cases h8 : 8 < l.getD k 0
    · rw [if_pos h8, at_bad hk (by rw [hbad]; simpa using h8)]
    · rw [if_neg h8]
      have hb0 : badForm l k = false := by rw [hbad]; simpa using h8
      by_cases h0 : 0 < l.getD k 0
      · rw [if_pos h0, at_few hk rfl hb0 (by omega)]
      · rw [if_neg h0, at_ok hk rfl hb0 (by omega), show l.getD k 0 = 0 from by omega]
        rfl
  · have hk1 : k + 1 < c := by omega
    cases hbf : badForm l k
    · have hb2 := hbf
      rw [bad_of rfl rfl] at hb2
      have h8 : l.getD k 0 ≤ 8 := by
        rcases Nat.lt_or_ge 8 (l.getD k 0) with h | h
        · rw [decide_eq_true h, Bool.true_or] at hb2; cases hb2
        · exact h
      have hpos : 0 < l.getD k 0 → k + 1 < l.length → 0 < l.getD (k + 1) 0 := by
        intro h1 h2
        rcases Nat.eq_zero_or_pos (l.getD (k + 1) 0) with e | e
        · rw [e, decide_eq_true h1, decide_eq_true h2] at hb2; simp at hb2
        · exact e
      by_cases hf : l.length < k + 1 + l.getD k 0
      · rw [at_few hk rfl hbf hf]
        refine read_few b o l.length c k (l.getD k 0) (l.getD (k + 1) 0) w hc hk1 hk hx h8 (by omega) (fun h => ⟨hpos (by omega) h, hl _ (by simp [List.getD, h]), hcell _ h⟩) hf
      · rw [at_ok hk rfl hbf (by omega)]
        have hml : ((l.drop (k + 1)).take (l.getD k 0)).length = l.getD k 0 := by rw [List.length_take, List.length_drop]; omega
        have hget : ∀ j, j < l.getD k 0 → ((l.drop (k + 1)).take (l.getD k 0)).getD j 0 = l.getD (k + 1 + j) 0 := by
          intro j hj
          simp only [List.getD]
          rw [List.getElem?_take, if_pos (by exact hj), List.getElem?_drop]
        refine read_ok b o l.length c k (l.getD k 0) _ w hc hle hk1 hk hx h8 hml (fun z hz => hl z (List.mem_of_mem_drop (List.mem_of_mem_take hz))) (fun j hj => ?_) (fun h => ?_) (by omega)
        · rw [hget j hj, Nat.add_assoc]
          exact hcell _ (by omega)
        · rw [hget 0 h]
          exact hpos h (by omega)
    · rw [at_bad hk hbf]
      rw [bad_of rfl rfl] at hbf
      refine read_bad b o l.length c k (l.getD k 0) (l.getD (k + 1) 0) w hc hk1 hk hx hxb ?_
      rcases Nat.lt_or_ge 8 (l.getD k 0) with h | h
      · exact .inl h
      · rw [decide_eq_false (by omega), Bool.false_or, Bool.and_eq_true, Bool.and_eq_true, decide_eq_true_eq, decide_eq_true_eq, decide_eq_true_eq] at hbf
        exact .inr ⟨hbf.1, hbf.2.1, hbf.2.2, hcell _ hbf.2.1⟩
end Go.Proofs.YtdlghabpnpbebaaDoor.Num
