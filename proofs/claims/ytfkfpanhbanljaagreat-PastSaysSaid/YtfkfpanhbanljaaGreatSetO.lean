import Derived.Test.YtfkfpanhbanljaaGreatSetN
import Derived.BigQuiet
import Derived.Deep.DeepCutAuto
import Derived.Test.YtfkfpanhbanljaaGreatSetJ
import Derived.BigRegion
/- Sorting numbers: insertion sort of a range. (printed by tools/genqd.py) -/
namespace Go.Proofs.YtfkfpanhbanljaaGreat.SortQ
open Go.Proofs.YtfkfpanhbanljaaGreat.SortW Go.Proofs.YtfkfpanhbanljaaGreat.SortY Go.RowKit Go.Proofs.YtfkfpanhbanljaaGreat.Mem

set_option maxRecDepth 100000 in
set_option maxHeartbeats 4000000 in
theorem insr_any (base : Nat) (A : Option Addr) (n c : Nat) (d : Array Nat) (a b : Nat) (w : World) (h : RowD w base A n c d) (hb : b ≤ n) (han : a ≤ n) (hn : n ≤ 1000) :
    Calls Tryz.prog 60 #[.slice A n c, .int .i64 (a : Int), .int .i64 (b : Int)] w fun e w' => e = .returned (.tuple #[]) ∧ PS base A n c w w' (Go.Sort.insertionSort ltB d a b) := by
  obtain ⟨T, hT⟩ : ∃ T, Go.Sort.insertionSort ltB d a b = T := ⟨_, rfl⟩
  rw [hT]
  have HT : Kept (Go.Sort.insOuter ltB a b (a + 1) d = T) := ⟨hT⟩
  have HP := kept (PS.start h)
  clear h hT
  go_enter Tryz.func60, Tryz.ntmps60
  go_wp2_with fail
  go_loopw [6] (fun i wr => ∃ (k : Nat) (d2 : Array Nat), a + 1 ≤ k ∧ k ≤ n + 1 ∧ i = .int .i64 (k : Int) ∧ Kept (Go.Sort.insOuter ltB a b k d2 = T) ∧ Kept (PS base A n c w wr d2)) (fun i _ => n + 1 - (intOf i).toNat)
  case atStart => exact ⟨a + 1, d, Nat.le_refl _, by omega, by go_num, HT, HP⟩
  case round =>
    clear HP HT
    obtain ⟨k, d2, hk1, hk2, rfl, HT, HP⟩ := hrel
    by_cases hlt : k < b
    · have hkb : (k : Int) < (b : Int) := by omega
      obtain ⟨r, rfl⟩ := HP.out.ad (by omega)
      obtain ⟨D, hD⟩ : ∃ D, Go.Sort.insInner ltB a k d2 = D := ⟨_, rfl⟩
      have HI : Kept (Go.Sort.insOuter ltB a b (k + 1) D = T) := ⟨by rw [← hD, ← io_step hlt]; exact HT.out⟩
      have HD := kept hD
      clear hD HT
      go_wp2_with fail
      go_loopw [7] (fun j wr2 => ∃ (m : Nat) (d3 : Array Nat), m ≤ k ∧ a ≤ m ∧ j = .int .i64 (m : Int) ∧ Kept (Go.Sort.insInner ltB a m d3 = D) ∧ Kept (PS base (some ⟨r, 0, none⟩) n c w wr2 d3)) (fun j _ => (intOf j).toNat)
      case atStart => exact ⟨k, d2, Nat.le_refl _, by omega, rfl, HD, HP⟩
      case round =>
        clear HP HD
        obtain ⟨m, d3, hm, ham, rfl, HD, HP⟩ := hrel
        by_cases hgt : a < m
        · have hgi : (a : Int) < (m : Int) := by omega
          have hgd : decide ((m : Int) > (a : Int)) = true := decide_eq_true hgi
          have hmn : (m : Int) < (n : Int) := by omega
          have hw1 : IntKind.i64.wrap ((m : Int) - 1) = ((m - 1 : Nat) : Int) := by rw [IntKind.wrap_i64]; omega
          have hb1 : (0 : Int) ≤ ((m - 1 : Nat) : Int) := by omega
          have hb2 : ((m - 1 : Nat) : Int) < (n : Int) := by omega
          obtain ⟨c0, f0⟩ := HP.out.at (k := m) (by omega)
          obtain ⟨c1, f1⟩ := HP.out.at (k := m - 1) (by omega)
          have HSW : Kept (∀ W : World, PS base (some ⟨r, 0, none⟩) n c w W d3 → PS base (some ⟨r, 0, none⟩) n c w ((W.setCell ⟨r, m, none⟩ (.int .u64 ((d3[m - 1]! : Nat) : Int))).setCell ⟨r, m - 1, none⟩ (.int .u64 ((d3[m]! : Nat) : Int))) (Go.Sort.swp d3 m (m - 1))) := ⟨fun W h => h.swp (by omega) (by omega)⟩
          have HST : Kept (ltB d3[m]! d3[m - 1]! = true → Go.Sort.insInner ltB a (m - 1) (Go.Sort.swp d3 m (m - 1)) = D) := ⟨fun h => by rw [← ii_step hgt h]; exact HD.out⟩
          have HEN : Kept (ltB d3[m]! d3[m - 1]! = false → d3 = D) := ⟨fun h => by rw [← HD.out]; exact (ii_stop fun _ => h).symm⟩
          clear HD
          generalize d3[m]! = vx at *
          generalize d3[m - 1]! = vy at *
          cases hq : ltB vx vy with
          | false =>
            have CL := kept (fun W => SortW.less_any vx vy false hq W)
            obtain rfl := HEN.out hq
            clear hq HST HEN HSW
            go_wp2_with fail
            go_quiet (first | (go_at_call 66; exact Calls.quiet_of_same (CL.out _)))
            go_wp2_with fail
            go_roundw
            case rel => exact ⟨k + 1, d3, by omega, by omega, by go_num, HI, ⟨HP.out.drewN _⟩⟩
            case measure => simp [intOf]; omega
          | true =>
            have CL := kept (fun W => SortW.less_any vx vy true hq W)
            have HST2 := kept (HST.out hq)
            clear hq HST HEN
            go_wp2_with fail
            go_quiet (first | (go_at_call 66; exact Calls.quiet_of_same (CL.out _)))
            go_upto_region 6 with fail
            have HPQ := kept (HP.out.drewN nq)
            have c0q : (wr.drewN nq).cell? ⟨r, m, none⟩ = some (.int .u64 (vx : Int)) := c0
            have c1q : (wr.drewN nq).cell? ⟨r, m - 1, none⟩ = some (.int .u64 (vy : Int)) := c1
            have f0q : (wr.drewN nq).frozen? ⟨r, m, none⟩ = false := f0
            have f1q : (wr.drewN nq).frozen? ⟨r, m - 1, none⟩ = false := f1
            clear c0 c1 f0 f1 HP
            generalize wr.drewN nq = wq at *
            have hne : ¬ m = m - 1 := by omega
            have hne2 : ¬ m - 1 = m := by omega
            have HF2 := kept (HSW.out wq.drew HPQ.out.drew)
            clear HSW HPQ
            go_region
            all_goals go_wp2_with fail
            all_goals go_roundw
            all_goals first | exact ⟨m - 1, Go.Sort.swp d3 m (m - 1), by omega, by omega, by go_num, HST2, HF2⟩ | (simp [intOf]; omega)
        · have hgi : ¬ (a : Int) < (m : Int) := by omega
          have hgd : decide ((m : Int) > (a : Int)) = false := decide_eq_false hgi
          have HE : Kept (d3 = D) := ⟨by rw [← HD.out]; exact (ii_stop fun h => absurd h hgt).symm⟩
          obtain rfl := HE.out
          clear HD HE
          go_wp2_with fail
          go_quiet (fail)
          go_wp2_with fail
          go_roundw
          case rel => exact ⟨k + 1, d3, by omega, by omega, by go_num, HI, ⟨HP.out.drewN _⟩⟩
          case measure => simp [intOf]; omega
    · have HF : Kept (d2 = T) := ⟨by rw [← HT.out]; exact (io_stop hlt).symm⟩
      have hge : ¬ (k : Int) < (b : Int) := by omega
      obtain rfl := HF.out
      clear HT HF
      go_wp2_with fail
      go_end0
      exact ⟨rfl, HP.out⟩
end Go.Proofs.YtfkfpanhbanljaaGreat.SortQ

/- Sorting numbers: the walk of siftDown. (printed by tools/genqd.py) -/
namespace Go.Proofs.YtfkfpanhbanljaaGreat.SortQ
open Go.Proofs.YtfkfpanhbanljaaGreat.SortW Go.Proofs.YtfkfpanhbanljaaGreat.SortY Go.RowKit Go.Proofs.YtfkfpanhbanljaaGreat.Mem

set_option maxRecDepth 100000 in
set_option maxHeartbeats 4000000 in
theorem sift_any (base : Nat) (A : Option Addr) (n c : Nat) (d : Array Nat) (lo hi f : Nat) (w : World) (h : RowD w base A n c d) (hf : f + hi ≤ n) (hlo : lo ≤ 1000) (hn : n ≤ 1000) :
    Calls Tryz.prog 80 #[.slice A n c, .int .i64 (lo : Int), .int .i64 (hi : Int), .int .i64 (f : Int)] w fun e w' => e = .returned (.tuple #[]) ∧ PS base A n c w w' (Go.Sort.siftDown ltB hi f lo d) := by
  obtain ⟨T, hT⟩ : ∃ T, Go.Sort.siftDown ltB hi f lo d = T := ⟨_, rfl⟩
  rw [hT]
  have HT := kept hT
  have HP := kept (PS.start h)
  clear h hT
  go_enter Tryz.func80, Tryz.ntmps80
  go_wp2_with fail
  go_loopw [8] (fun i wr => ∃ (p : Nat) (d2 : Array Nat), p ≤ 1000 ∧ i = .int .i64 (p : Int) ∧ Kept (Go.Sort.siftDown ltB hi f p d2 = T) ∧ Kept (PS base A n c w wr d2)) (fun i _ => 2002 - (intOf i).toNat)
  case atStart => exact ⟨lo, d, hlo, rfl, HT, HP⟩
  case round =>
    clear HP HT
    obtain ⟨p, d2, hp, rfl, HT, HP⟩ := hrel
    by_cases hch : 2 * p + 1 < hi
    · have hci : ¬ (2 * (p : Int) + 1) ≥ (hi : Int) := by omega
      have hci2 : ¬ (hi : Int) ≤ (2 * (p : Int) + 1) := by omega
      have n0 : f + p < n := by omega
      have n1 : f + (2 * p + 1) < n := by omega
      have x0 : IntKind.i64.wrap (2 * (p : Int) + 1 + 1) = 2 * (p : Int) + 1 + 1 := IntWalk.i64_in _ (by omega)
      obtain ⟨r, rfl⟩ := HP.out.ad (by omega)
      have HST : Kept (_ = T) := ⟨(sift_step (d := d2) (hi := hi) (f := f) (p := p) hch).symm.trans HT.out⟩
      clear HT
      by_cases h2 : 2 * p + 2 < hi
      · have n2 : f + (2 * p + 1 + 1) < n := by omega
        have n3 : f + (2 * p + 1) + 1 < n := by omega
        have h2i : 2 * (p : Int) + 1 + 1 < (hi : Int) := by omega
        have HR : Kept (ltB d2[f + (2 * p + 1)]! d2[f + (2 * p + 1) + 1]! = true → chN d2 hi f p = 2 * p + 2) := ⟨fun h => by unfold chN; exact if_pos ⟨h2, h⟩⟩
        have HL : Kept (ltB d2[f + (2 * p + 1)]! d2[f + (2 * p + 1) + 1]! = false → chN d2 hi f p = 2 * p + 1) := ⟨fun h => by unfold chN; exact if_neg (fun k => Bool.false_ne_true (h.symm.trans k.2))⟩
        obtain ⟨c1, f1⟩ := HP.out.at n1
        obtain ⟨c2, f2⟩ := HP.out.at n3
        obtain ⟨v1, hv1⟩ : ∃ v1, d2[f + (2 * p + 1)]! = v1 := ⟨_, rfl⟩
        obtain ⟨v2, hv2⟩ : ∃ v2, d2[f + (2 * p + 1) + 1]! = v2 := ⟨_, rfl⟩
        rw [hv1] at c1 HR HL
        rw [hv2] at c2 HR HL
        clear hv1 hv2
        cases hq1 : ltB v1 v2 with
        | true =>
          have CA := kept (fun W => SortW.less_any v1 v2 true hq1 W)
          have HCH := kept (HR.out hq1)
          clear HR HL hq1
          go_wp2_with fail
          go_big_quiet (first | (go_at_call 66; exact Calls.quiet_of_same (CA.out _)))
          go_upto_region 5 with fail
          revert nq
          intro nq1
          have HPQ := kept (HP.out.drewN nq1)
          clear c1 f1 c2 f2 HP CA
          generalize wr.drewN nq1 = wr2 at *
          have HP := HPQ
          clear HPQ
          have HST2 : Kept (ltB d2[f + p]! d2[f + (2 * p + 1 + 1)]! = true → Go.Sort.siftDown ltB hi f (2 * p + 2) (Go.Sort.swp d2 (f + p) (f + (2 * p + 1 + 1))) = T) := ⟨fun h => by
            have h0 := HST.out
            rw [HCH.out] at h0
            exact (if_pos h).symm.trans h0⟩
          have HEN2 : Kept (ltB d2[f + p]! d2[f + (2 * p + 1 + 1)]! = false → d2 = T) := ⟨fun h => by
            have h0 := HST.out
            rw [HCH.out] at h0
            exact (if_neg (by rw [h]; exact Bool.false_ne_true)).symm.trans h0⟩
          have HSW : Kept (∀ W : World, PS base (some ⟨r, 0, none⟩) n c w W d2 → PS base (some ⟨r, 0, none⟩) n c w ((W.setCell ⟨r, f + p, none⟩ (.int .u64 ((d2[f + (2 * p + 1 + 1)]! : Nat) : Int))).setCell ⟨r, f + (2 * p + 1 + 1), none⟩ (.int .u64 ((d2[f + p]! : Nat) : Int))) (Go.Sort.swp d2 (f + p) (f + (2 * p + 1 + 1)))) := ⟨fun W h => h.swp n0 n2⟩
          obtain ⟨c0, f0⟩ := HP.out.at n0
          obtain ⟨c2, f2⟩ := HP.out.at n2
          clear HST HCH
          generalize d2[f + p]! = v0 at *
          generalize d2[f + (2 * p + 1 + 1)]! = v2 at *
          cases hq : ltB v0 v2 with
          | false =>
            have CB := kept (fun W => SortW.less_any v0 v2 false hq W)
            obtain rfl := HEN2.out hq
            clear hq HST2 HEN2 HSW
            go_big_quiet (first | (go_at_call 66; exact Calls.quiet_of_same (CB.out _)))
            go_wp2_with fail
            exact bodyPost_ret (results_none rfl _ _ _) rfl ⟨rfl, HP.out.drewN _⟩
          | true =>
            have CB := kept (fun W => SortW.less_any v0 v2 true hq W)
            have HST3 := kept (HST2.out hq)
            clear hq HST2 HEN2
            go_big_quiet (first | (go_at_call 66; exact Calls.quiet_of_same (CB.out _)))
            go_upto_region 6 with fail
            revert nq
            intro nq2
            have HPQ := kept (HP.out.drewN nq2)
            have c0q : (wr2.drewN nq2).cell? ⟨r, f + p, none⟩ = some (.int .u64 (v0 : Int)) := c0
            have c1q : (wr2.drewN nq2).cell? ⟨r, f + (2 * p + 1 + 1), none⟩ = some (.int .u64 (v2 : Int)) := c2
            have f0q : (wr2.drewN nq2).frozen? ⟨r, f + p, none⟩ = false := f0
            have f1q : (wr2.drewN nq2).frozen? ⟨r, f + (2 * p + 1 + 1), none⟩ = false := f2
            clear c0 c2 f0 f2 HP
            generalize wr2.drewN nq2 = wq at *
            have hne : ¬ f + p = f + (2 * p + 1 + 1) := by omega
            have hne2 : ¬ f + (2 * p + 1 + 1) = f + p := by omega
            have HF2 := kept (HSW.out wq.drew HPQ.out.drew)
            clear HSW HPQ
            go_region
            all_goals go_wp2_with fail
            all_goals go_roundw
            all_goals first | exact ⟨2 * p + 2, Go.Sort.swp d2 (f + p) (f + (2 * p + 1 + 1)), by omega, by go_num, HST3, HF2⟩ | (simp [intOf]; omega)
        | false =>
          have CA := kept (fun W => SortW.less_any v1 v2 false hq1 W)
          have HCH := kept (HL.out hq1)
          clear HR HL hq1
          go_wp2_with fail
          go_big_quiet (first | (go_at_call 66; exact Calls.quiet_of_same (CA.out _)))
          go_upto_region 5 with fail
          revert nq
          intro nq1
          have HPQ := kept (HP.out.drewN nq1)
          clear c1 f1 c2 f2 HP CA
          generalize wr.drewN nq1 = wr2 at *
          have HP := HPQ
          clear HPQ
          have HST2 : Kept (ltB d2[f + p]! d2[f + (2 * p + 1)]! = true → Go.Sort.siftDown ltB hi f (2 * p + 1) (Go.Sort.swp d2 (f + p) (f + (2 * p + 1))) = T) := ⟨fun h => by
            have h0 := HST.out
            rw [HCH.out] at h0
            exact (if_pos h).symm.trans h0⟩
          have HEN2 : Kept (ltB d2[f + p]! d2[f + (2 * p + 1)]! = false → d2 = T) := ⟨fun h => by
            have h0 := HST.out
            rw [HCH.out] at h0
            exact (if_neg (by rw [h]; exact Bool.false_ne_true)).symm.trans h0⟩
          have HSW : Kept (∀ W : World, PS base (some ⟨r, 0, none⟩) n c w W d2 → PS base (some ⟨r, 0, none⟩) n c w ((W.setCell ⟨r, f + p, none⟩ (.int .u64 ((d2[f + (2 * p + 1)]! : Nat) : Int))).setCell ⟨r, f + (2 * p + 1), none⟩ (.int .u64 ((d2[f + p]! : Nat) : Int))) (Go.Sort.swp d2 (f + p) (f + (2 * p + 1)))) := ⟨fun W h => h.swp n0 n1⟩
          obtain ⟨c0, f0⟩ := HP.out.at n0
          obtain ⟨c1, f1⟩ := HP.out.at n1
          clear HST HCH
          generalize d2[f + p]! = v0 at *
          generalize d2[f + (2 * p + 1)]! = v1 at *
          cases hq : ltB v0 v1 with
          | false =>
            have CB := kept (fun W => SortW.less_any v0 v1 false hq W)
            obtain rfl := HEN2.out hq
            clear hq HST2 HEN2 HSW
            go_big_quiet (first | (go_at_call 66; exact Calls.quiet_of_same (CB.out _)))
            go_wp2_with fail
            exact bodyPost_ret (results_none rfl _ _ _) rfl ⟨rfl, HP.out.drewN _⟩
          | true =>
            have CB := kept (fun W => SortW.less_any v0 v1 true hq W)
            have HST3 := kept (HST2.out hq)
            clear hq HST2 HEN2
            go_big_quiet (first | (go_at_call 66; exact Calls.quiet_of_same (CB.out _)))
            go_upto_region 6 with fail
            revert nq
            intro nq2
            have HPQ := kept (HP.out.drewN nq2)
            have c0q : (wr2.drewN nq2).cell? ⟨r, f + p, none⟩ = some (.int .u64 (v0 : Int)) := c0
            have c1q : (wr2.drewN nq2).cell? ⟨r, f + (2 * p + 1), none⟩ = some (.int .u64 (v1 : Int)) := c1
            have f0q : (wr2.drewN nq2).frozen? ⟨r, f + p, none⟩ = false := f0
            have f1q : (wr2.drewN nq2).frozen? ⟨r, f + (2 * p + 1), none⟩ = false := f1
            clear c0 c1 f0 f1 HP
            generalize wr2.drewN nq2 = wq at *
            have hne : ¬ f + p = f + (2 * p + 1) := by omega
            have hne2 : ¬ f + (2 * p + 1) = f + p := by omega
            have HF2 := kept (HSW.out wq.drew HPQ.out.drew)
            clear HSW HPQ
            go_region
            all_goals go_wp2_with fail
            all_goals go_roundw
            all_goals first | exact ⟨2 * p + 1, Go.Sort.swp d2 (f + p) (f + (2 * p + 1)), by omega, by go_num, HST3, HF2⟩ | (simp [intOf]; omega)
      · have h2i : ¬ 2 * (p : Int) + 1 + 1 < (hi : Int) := by omega
        have h2d : decide (2 * (p : Int) + 1 + 1 < (hi : Int)) = false := decide_eq_false h2i
        have HCH : Kept (chN d2 hi f p = 2 * p + 1) := ⟨by unfold chN; exact if_neg (fun k => h2 k.1)⟩
        go_wp2_with fail
        go_big_quiet (fail)
        go_upto_region 5 with fail
        revert nq
        intro nq1
        have HPQ := kept (HP.out.drewN nq1)
        clear HP
        generalize wr.drewN nq1 = wr2 at *
        have HP := HPQ
        clear HPQ
        have HST2 : Kept (ltB d2[f + p]! d2[f + (2 * p + 1)]! = true → Go.Sort.siftDown ltB hi f (2 * p + 1) (Go.Sort.swp d2 (f + p) (f + (2 * p + 1))) = T) := ⟨fun h => by
          have h0 := HST.out
          rw [HCH.out] at h0
          exact (if_pos h).symm.trans h0⟩
        have HEN2 : Kept (ltB d2[f + p]! d2[f + (2 * p + 1)]! = false → d2 = T) := ⟨fun h => by
          have h0 := HST.out
          rw [HCH.out] at h0
          exact (if_neg (by rw [h]; exact Bool.false_ne_true)).symm.trans h0⟩
        have HSW : Kept (∀ W : World, PS base (some ⟨r, 0, none⟩) n c w W d2 → PS base (some ⟨r, 0, none⟩) n c w ((W.setCell ⟨r, f + p, none⟩ (.int .u64 ((d2[f + (2 * p + 1)]! : Nat) : Int))).setCell ⟨r, f + (2 * p + 1), none⟩ (.int .u64 ((d2[f + p]! : Nat) : Int))) (Go.Sort.swp d2 (f + p) (f + (2 * p + 1)))) := ⟨fun W h => h.swp n0 n1⟩
        obtain ⟨c0, f0⟩ := HP.out.at n0
        obtain ⟨c1, f1⟩ := HP.out.at n1
        clear HST HCH
        generalize d2[f + p]! = v0 at *
        generalize d2[f + (2 * p + 1)]! = v1 at *
        cases hq : ltB v0 v1 with
        | false =>
          have CB := kept (fun W => SortW.less_any v0 v1 false hq W)
          obtain rfl := HEN2.out hq
          clear hq HST2 HEN2 HSW
          go_big_quiet (first | (go_at_call 66; exact Calls.quiet_of_same (CB.out _)))
          go_wp2_with fail
          exact bodyPost_ret (results_none rfl _ _ _) rfl ⟨rfl, HP.out.drewN _⟩
        | true =>
          have CB := kept (fun W => SortW.less_any v0 v1 true hq W)
          have HST3 := kept (HST2.out hq)
          clear hq HST2 HEN2
          go_big_quiet (first | (go_at_call 66; exact Calls.quiet_of_same (CB.out _)))
          go_upto_region 6 with fail
          revert nq
          intro nq2
          have HPQ := kept (HP.out.drewN nq2)
          have c0q : (wr2.drewN nq2).cell? ⟨r, f + p, none⟩ = some (.int .u64 (v0 : Int)) := c0
          have c1q : (wr2.drewN nq2).cell? ⟨r, f + (2 * p + 1), none⟩ = some (.int .u64 (v1 : Int)) := c1
          have f0q : (wr2.drewN nq2).frozen? ⟨r, f + p, none⟩ = false := f0
          have f1q : (wr2.drewN nq2).frozen? ⟨r, f + (2 * p + 1), none⟩ = false := f1
          clear c0 c1 f0 f1 HP
          generalize wr2.drewN nq2 = wq at *
          have hne : ¬ f + p = f + (2 * p + 1) := by omega
          have hne2 : ¬ f + (2 * p + 1) = f + p := by omega
          have HF2 := kept (HSW.out wq.drew HPQ.out.drew)
          clear HSW HPQ
          go_region
          all_goals go_wp2_with fail
          all_goals go_roundw
          all_goals first | exact ⟨2 * p + 1, Go.Sort.swp d2 (f + p) (f + (2 * p + 1)), by omega, by go_num, HST3, HF2⟩ | (simp [intOf]; omega)
    · have hci : (2 * (p : Int) + 1) ≥ (hi : Int) := by omega
      have HF : Kept (d2 = T) := ⟨by rw [← HT.out, sift_stop hch]⟩
      obtain rfl := HF.out
      go_wp2_with fail
      go_end0
      exact ⟨rfl, HP.out⟩
end Go.Proofs.YtfkfpanhbanljaaGreat.SortQ

/- Sorting numbers: heapSort. (printed by tools/genqd.py) -/
namespace Go.Proofs.YtfkfpanhbanljaaGreat.SortQ
open Go.Proofs.YtfkfpanhbanljaaGreat.SortW Go.Proofs.YtfkfpanhbanljaaGreat.SortY Go.RowKit Go.Proofs.YtfkfpanhbanljaaGreat.Mem

set_option maxRecDepth 100000 in
set_option maxHeartbeats 8000000 in
theorem heap_any (base : Nat) (A : Option Addr) (n c : Nat) (d : Array Nat) (a b : Nat) (w : World) (h : RowD w base A n c d) (hab : a < b) (hb : b ≤ n) (hn : n ≤ 1000) :
    Calls Tryz.prog 61 #[.slice A n c, .int .i64 (a : Int), .int .i64 (b : Int)] w fun e w' => e = .returned (.tuple #[]) ∧ PS base A n c w w' (Go.Sort.heapSort ltB d a b) := by
  obtain ⟨m, hm⟩ : ∃ m, b - a = m := ⟨_, rfl⟩
  obtain ⟨k, hk⟩ : ∃ k, m = k + 1 := ⟨m - 1, by omega⟩
  obtain ⟨T, hT⟩ : ∃ T, Go.Sort.heapSort ltB d a b = T := ⟨_, rfl⟩
  obtain ⟨D1, hD1⟩ : ∃ D1, Go.Sort.heapBuild ltB m a (k / 2 + 1) d = D1 := ⟨_, rfl⟩
  have HB := kept hD1
  have HT : Kept (Go.Sort.heapPop ltB a m D1 = T) := ⟨by
    rw [← hT, ← hD1]
    unfold Go.Sort.heapSort
    rw [hm, hk, Nat.add_sub_cancel]⟩
  rw [hT]
  have HP := kept (PS.start h)
  obtain ⟨r, rfl⟩ := HP.out.ad (by omega)
  clear h hD1 hT
  have hbm : (b : Int) - (a : Int) = (m : Int) := by omega
  have hmk : (m : Int) - 1 = (k : Int) := by omega
  have hw1 : IntKind.i64.wrap ((b : Int) - (a : Int)) = (m : Int) := by rw [IntKind.wrap_i64]; omega
  have hw2 : IntKind.i64.wrap ((m : Int) - 1) = (k : Int) := by rw [IntKind.wrap_i64]; omega
  have hkm : k < m := by omega
  have hkn : k < 1000 := by omega
  clear hk hm
  go_enter Tryz.func61, Tryz.ntmps61
  go_wp2_with fail
  go_loopw [9] (fun i wr => ∃ (q : Nat) (z : Int) (d2 : Array Nat), q ≤ m ∧ z = (q : Int) - 1 ∧ i = .int .i64 z ∧ Kept (Go.Sort.heapBuild ltB m a q d2 = D1) ∧ Kept (PS base (some ⟨r, 0, none⟩) n c w wr d2)) (fun i _ => (intOf i + 1).toNat)
  case atStart => exact ⟨k / 2 + 1, (k : Int) / 2, d, by omega, by omega, rfl, HB, HP⟩
  case round =>
    clear HB HP
    obtain ⟨q, z, d2, hq, hz, rfl, HB, HP⟩ := hrel
    rcases q with _ | p
    · have hzn : ¬ (0 : Int) ≤ z := by omega
      clear hz
      have HD : Kept (d2 = D1) := HB
      obtain rfl := HD.out
      clear HB HD
      go_wp2_with fail
      go_loopw [10] (fun i wr => ∃ (q : Nat) (z : Int) (d2 : Array Nat), q ≤ m ∧ z = (q : Int) - 1 ∧ i = .int .i64 z ∧ Kept (Go.Sort.heapPop ltB a q d2 = T) ∧ Kept (PS base (some ⟨r, 0, none⟩) n c w wr d2)) (fun i _ => (intOf i + 1).toNat)
      case atStart => exact ⟨m, (k : Int), d2, by omega, by omega, rfl, HT, HP⟩
      case round =>
        clear HT HP
        obtain ⟨q, z, d2, hq, hz, rfl, HH, HP⟩ := hrel
        have hin1 : a < n := by omega
        rcases q with _ | p
        · have hzn : ¬ (0 : Int) ≤ z := by omega
          clear hz
          have HD : Kept (d2 = T) := HH
          obtain rfl := HD.out
          clear HH HD
          go_wp2_with fail
          go_end0
          exact ⟨rfl, HP.out⟩
        · obtain rfl : z = (p : Int) := by omega
          have hz0 : (0 : Int) ≤ (p : Int) := by omega
          rcases Nat.eq_zero_or_pos p with rfl | hpos
          · obtain ⟨c0, f0⟩ := HP.out.at hin1
            obtain ⟨dE, hdE⟩ : ∃ dE, Go.Sort.swp d2 a a = dE := ⟨_, rfl⟩
            have HSW : Kept (PS base (some ⟨r, 0, none⟩) n c w ((wr.drew.setCell ⟨r, a, none⟩ (.int .u64 ((d2[a]! : Nat) : Int))).setCell ⟨r, a, none⟩ (.int .u64 ((d2[a]! : Nat) : Int))) dE) := ⟨by rw [← hdE]; exact HP.out.drew.swp hin1 hin1⟩
            have HH2 : Kept (Go.Sort.siftDown ltB 0 a 0 dE = T) := ⟨by rw [← hdE]; exact HH.out⟩
            clear hdE HH HP
            generalize d2[a]! = v0 at *
            go_wp2_with fail
            go_region
            all_goals go_wp2_with fail
            all_goals (refine (sift_any base (some ⟨r, 0, none⟩) n c dE 0 0 a _ HSW.out.row (by omega) (by omega) hn).mono ?_)
            all_goals (rintro e w3 ⟨rfl, hp3⟩)
            all_goals (rw [HH2.out] at hp3)
            all_goals (have HP3 := kept (HSW.out.trans hp3))
            all_goals go_wp2_with fail
            all_goals go_roundw
            all_goals first | exact ⟨0, _, T, by omega, by omega, rfl, ⟨rfl⟩, HP3⟩ | (simp [intOf])
          · have hin2 : a + p < n := by omega
            obtain ⟨c0, f0⟩ := HP.out.at hin1
            obtain ⟨c1, f1⟩ := HP.out.at hin2
            have hne : ¬ a = a + p := by omega
            have hne2 : ¬ a + p = a := by omega
            obtain ⟨dE, hdE⟩ : ∃ dE, Go.Sort.swp d2 a (a + p) = dE := ⟨_, rfl⟩
            have HSW : Kept (PS base (some ⟨r, 0, none⟩) n c w ((wr.drew.setCell ⟨r, a, none⟩ (.int .u64 ((d2[a + p]! : Nat) : Int))).setCell ⟨r, a + p, none⟩ (.int .u64 ((d2[a]! : Nat) : Int))) dE) := ⟨by rw [← hdE]; exact HP.out.drew.swp hin1 hin2⟩
            obtain ⟨dG, hdG⟩ : ∃ dG, Go.Sort.siftDown ltB p a 0 dE = dG := ⟨_, rfl⟩
            have HH2 : Kept (Go.Sort.heapPop ltB a p dG = T) := ⟨by rw [← hdG, ← hdE]; exact HH.out⟩
            have HDG := kept hdG
            have hyl : p + 1 ≤ m := hq
            clear hdE HH HP hdG hz hq
            generalize d2[a]! = v0 at *
            generalize d2[a + p]! = v1 at *
            go_wp2_with fail
            go_region
            all_goals go_wp2_with fail
            all_goals (refine (sift_any base (some ⟨r, 0, none⟩) n c dE 0 p a _ HSW.out.row (by omega) (by omega) hn).mono ?_)
            all_goals (rintro e w3 ⟨rfl, hp3⟩)
            all_goals (rw [HDG.out] at hp3)
            all_goals (have HP3 := kept (HSW.out.trans hp3))
            all_goals go_wp2_with fail
            all_goals go_roundw
            all_goals first | exact ⟨p, _, dG, by omega, by omega, rfl, HH2, HP3⟩ | (simp [intOf]; done) | (simp [intOf]; omega)
    · obtain rfl : z = (p : Int) := by omega
      have hz0 : (0 : Int) ≤ (p : Int) := by omega
      obtain ⟨dG, hdG⟩ : ∃ dG, Go.Sort.siftDown ltB m a p d2 = dG := ⟨_, rfl⟩
      have HB2 : Kept (Go.Sort.heapBuild ltB m a p dG = D1) := ⟨by rw [← hdG]; exact HB.out⟩
      have C := kept (sift_any base (some ⟨r, 0, none⟩) n c d2 p m a _ HP.out.row (by omega) (by omega) hn)
      rw [hdG] at C
      clear hdG HB hz
      go_wp2_with fail
      refine C.out.mono ?_
      rintro e w3 ⟨rfl, hp3⟩
      have HP3 := kept (HP.out.trans hp3)
      clear hp3 HP C
      go_wp2_with fail
      go_roundw
      case rel => exact ⟨p, (p : Int) - 1, dG, by omega, by omega, rfl, HB2, HP3⟩
      case measure => simp only [intOf]; omega
end Go.Proofs.YtfkfpanhbanljaaGreat.SortQ

/- Sorting numbers: breakPatterns: a permutation. (printed by tools/genqd.py) -/
namespace Go.Proofs.YtfkfpanhbanljaaGreat.SortQ
open Go.Proofs.YtfkfpanhbanljaaGreat.SortW Go.Proofs.YtfkfpanhbanljaaGreat.SortY Go.RowKit Go.Proofs.YtfkfpanhbanljaaGreat.Mem Go.Proofs.YtfkfpanhbanljaaGreat.Shift

set_option maxRecDepth 100000 in
set_option maxHeartbeats 8000000 in
theorem break_any (base : Nat) (A : Option Addr) (n c : Nat) (d : Array Nat) (a b : Nat) (w : World) (h : RowD w base A n c d) (hab : a + 8 ≤ b) (h25 : b ≤ a + 25) (hb : b ≤ n) (hn : n ≤ 1000) :
    Calls Tryz.prog 62 #[.slice A n c, .int .i64 (a : Int), .int .i64 (b : Int)] w fun e w' => e = .returned (.tuple #[]) ∧ ∃ d', PS base A n c w w' d' ∧ Go.Sort.PermIn a b d d' := by
  obtain ⟨l, hl⟩ : ∃ l, b - a = l := ⟨_, rfl⟩
  obtain ⟨j0, hj0⟩ : ∃ j0, a + l / 4 * 2 - 1 = j0 := ⟨_, rfl⟩
  have HP := kept (PS.start h)
  obtain ⟨r, rfl⟩ := HP.out.ad (by omega)
  clear h
  have hw1 : IntKind.i64.wrap ((b : Int) - (a : Int)) = (l : Int) := by rw [IntKind.wrap_i64]; omega
  have hbm : (b : Int) - (a : Int) = (l : Int) := by omega
  have hl8 : 8 ≤ l := by omega
  have hl25 : l ≤ 25 := by omega
  have hli : (8 : Int) ≤ (l : Int) := by omega
  have hlw : IntKind.u64.wrap (l : Int) = (l : Int) := by rw [IntKind.wrap_u64]; omega
  have q1 : Int.tdiv (l : Int) 4 = ((l / 4 : Nat) : Int) := (Int.ofNat_tdiv l 4).symm
  have HJ : Kept ((a : Int) + (l : Int) / 4 * 2 - 1 = (j0 : Int) ∧ (a : Int) + (l : Int) / 4 * 2 + 1 = (j0 : Int) + 2) := ⟨by omega⟩
  have hja : a ≤ j0 := by omega
  have hjb : j0 + 2 < b := by omega
  have hbl : b = a + l := by omega
  have HBL := kept hbl
  clear hl hj0 hbl
  have CP := kept (fun W => pow_any l hl8 hl25 W)
  have HS0 : Kept (BS base (some ⟨r, 0, none⟩) n c (w.heap.size) w (w.alloc (.cells #[.int .u64 (l : Int)] 126)) d l) := ⟨⟨HP.out.alloc _, Blk.new w _ _, by omega, Nat.le_refl _⟩⟩
  clear HP
  go_enter Tryz.func62, Tryz.ntmps62
  go_wp2_with fail
  refine (CP.out _).mono ?_
  rintro e w1 ⟨⟨mo, hmo, rfl⟩, rfl⟩
  clear CP
  go_wp2_with fail
  go_loopw [9] (fun i wr => ∃ (q : Nat) (d2 : Array Nat) (x : Nat), j0 ≤ q ∧ q ≤ j0 + 3 ∧ i = .int .i64 (q : Int) ∧ Kept (Go.Sort.PermIn a b d d2) ∧ Kept (BS base (some ⟨r, 0, none⟩) n c (w.heap.size) w wr d2 x)) (fun i _ => j0 + 4 - (intOf i).toNat)
  case atStart => exact ⟨j0, d, l, by omega, by omega, by have := HJ.out.1; go_num, ⟨Go.Sort.permIn_refl d a b⟩, HS0⟩
  case round =>
    clear HS0
    obtain ⟨q, d2, x, hq1, hq2, rfl, HPI, HB⟩ := hrel
    by_cases hle : q ≤ j0 + 2
    · have hlei : (q : Int) ≤ (a : Int) + (l : Int) / 4 * 2 + 1 := by have := HJ.out.2; omega
      have C := kept (next_any x w.heap.size wr HB.out.blk HB.out.lt)
      go_wp2_with fail
      refine C.out.mono ?_
      rintro e w2 ⟨y, hy, rfl, hk, hu⟩
      have HB2 := kept (HB.out.next hk hy hu)
      clear C HB hk hu
      obtain ⟨ot, hot, HO⟩ := and_less y mo hy (by omega)
      have hm1 : IntKind.u64.wrap ((mo : Int) + 1 - 1) = (mo : Int) := by rw [IntKind.wrap_u64]; omega
      have hot2 : ot < 2 * l := by omega
      have how : IntKind.i64.wrap (ot : Int) = (ot : Int) := by rw [IntKind.wrap_i64]; omega
      clear hy
      by_cases hge : l ≤ ot
      · have hgi : (l : Int) ≤ (ot : Int) := by omega
        obtain ⟨t, ht⟩ : ∃ t, ot - l = t := ⟨_, rfl⟩
        have htl : t < l := by omega
        have hti : (ot : Int) - (l : Int) = (t : Int) := by omega
        have hab2 : a + l ≤ b := by have := HBL.out; omega
        clear ht
        go_upto_region 10 with fail
        have hin1 : q < n := by omega
        have hin2 : a + t < n := by omega
        obtain ⟨c0, f0⟩ := HB2.out.ps.at hin1
        obtain ⟨c1, f1⟩ := HB2.out.ps.at hin2
        have HP2 : Kept (Go.Sort.PermIn a b d (Go.Sort.swp d2 q (a + t))) := ⟨Go.Sort.permIn_trans _ _ _ a b HPI.out (Go.Sort.swp_permIn d2 a b q (a + t) (by omega) (by omega) (by omega) (by omega) (by have := HB2.out.ps.size; omega))⟩
        have HS : Kept (BS base (some ⟨r, 0, none⟩) n c (w.heap.size) w ((w2.drew.setCell ⟨r, q, none⟩ (.int .u64 ((d2[a + t]! : Nat) : Int))).setCell ⟨r, a + t, none⟩ (.int .u64 ((d2[q]! : Nat) : Int))) (Go.Sort.swp d2 q (a + t)) y) := ⟨HB2.out.drew.swp hin1 hin2⟩
        clear HB2 HPI
        generalize Go.Sort.swp d2 q (a + t) = d3 at *
        by_cases hij : q = a + t
        · subst hij
          generalize d2[a + t]! = v0 at *
          go_region
          all_goals go_wp2_with fail
          all_goals go_roundw
          all_goals first | exact ⟨a + t + 1, d3, y, by omega, by omega, by go_num, HP2, HS⟩ | (simp [intOf]; omega)
        · have hij2 : ¬ a + t = q := fun h => hij h.symm
          generalize d2[q]! = v0 at *
          generalize d2[a + t]! = v1 at *
          go_region
          all_goals go_wp2_with fail
          all_goals go_roundw
          all_goals first | exact ⟨q + 1, d3, y, by omega, by omega, by go_num, HP2, HS⟩ | (simp [intOf]; omega)
      · have hgi : ¬ (l : Int) ≤ (ot : Int) := by omega
        obtain ⟨t, rfl⟩ : ∃ t, t = ot := ⟨_, rfl⟩
        have htl : t < l := by omega
        have hab2 : a + l ≤ b := by have := HBL.out; omega
        go_upto_region 10 with fail
        have hin1 : q < n := by omega
        have hin2 : a + t < n := by omega
        obtain ⟨c0, f0⟩ := HB2.out.ps.at hin1
        obtain ⟨c1, f1⟩ := HB2.out.ps.at hin2
        have HP2 : Kept (Go.Sort.PermIn a b d (Go.Sort.swp d2 q (a + t))) := ⟨Go.Sort.permIn_trans _ _ _ a b HPI.out (Go.Sort.swp_permIn d2 a b q (a + t) (by omega) (by omega) (by omega) (by omega) (by have := HB2.out.ps.size; omega))⟩
        have HS : Kept (BS base (some ⟨r, 0, none⟩) n c (w.heap.size) w ((w2.drew.setCell ⟨r, q, none⟩ (.int .u64 ((d2[a + t]! : Nat) : Int))).setCell ⟨r, a + t, none⟩ (.int .u64 ((d2[q]! : Nat) : Int))) (Go.Sort.swp d2 q (a + t)) y) := ⟨HB2.out.drew.swp hin1 hin2⟩
        clear HB2 HPI
        generalize Go.Sort.swp d2 q (a + t) = d3 at *
        by_cases hij : q = a + t
        · subst hij
          generalize d2[a + t]! = v0 at *
          go_region
          all_goals go_wp2_with fail
          all_goals go_roundw
          all_goals first | exact ⟨a + t + 1, d3, y, by omega, by omega, by go_num, HP2, HS⟩ | (simp [intOf]; omega)
        · have hij2 : ¬ a + t = q := fun h => hij h.symm
          generalize d2[q]! = v0 at *
          generalize d2[a + t]! = v1 at *
          go_region
          all_goals go_wp2_with fail
          all_goals go_roundw
          all_goals first | exact ⟨q + 1, d3, y, by omega, by omega, by go_num, HP2, HS⟩ | (simp [intOf]; omega)
    · have hlei : ¬ (q : Int) ≤ (a : Int) + (l : Int) / 4 * 2 + 1 := by have := HJ.out.2; omega
      go_wp2_with fail
      go_end0
      exact ⟨rfl, d2, HB.out.ps, HPI.out⟩
end Go.Proofs.YtfkfpanhbanljaaGreat.SortQ
