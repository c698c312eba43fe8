/- Sorting bytes: partitionOrdered. (printed by tools/genpdr.py) -/
import Derived.Test.YtfkfpanhbanljaaGreatSetJ
import Derived.BigQuiet
import Derived.BigRegion
import Derived.Deep.DeepCutAuto
namespace Go.Proofs.YtfkfpanhbanljaaGreat.SortY
open Go.RowKit Go.Proofs.YtfkfpanhbanljaaGreat.Mem

set_option maxRecDepth 100000 in
set_option maxHeartbeats 8000000 in
theorem part_any (base : Nat) (A : Option Addr) (n c : Nat) (d : Array Nat) (a b v : Nat) (w : World) (h : RowD w base A n c d) (hav : a ≤ v) (hvb : v < b) (hb : b ≤ n) (hn : n ≤ 1000) :
    Calls Tryz.prog 107 #[.slice A n c, .int .i64 (a : Int), .int .i64 (b : Int), .int .i64 (v : Int)] w fun e w' => e = .returned (.tuple #[.int .i64 ((Go.Sort.partition ltB d a b v).1 : Int), .bool (Go.Sort.partition ltB d a b v).2.1]) ∧ PS base A n c w w' (Go.Sort.partition ltB d a b v).2.2 := by
  obtain ⟨m, rfl⟩ : ∃ m, b = m + 1 := ⟨b - 1, by omega⟩
  obtain ⟨R, hR⟩ : ∃ R, Go.Sort.partition ltB d a (m + 1) v = R := ⟨_, rfl⟩
  obtain ⟨d0, hd0⟩ : ∃ d0, Go.Sort.swp d a v = d0 := ⟨_, rfl⟩
  obtain ⟨i0, hi0⟩ : ∃ i0, Go.Sort.scanUp (fun x => ltB x d0[a]!) d0 m (a + 1) = i0 := ⟨_, rfl⟩
  obtain ⟨j0, hj0⟩ : ∃ j0, Go.Sort.scanDown (fun x => !ltB x d0[a]!) d0 i0 m = j0 := ⟨_, rfl⟩
  have hin : a + 1 ≤ i0 ∧ i0 ≤ m + 1 := by rw [← hi0]; exact scanUp_in (by omega)
  have hjn : j0 ≤ m ∧ i0 ≤ j0 + 1 := by rw [← hj0]; exact scanDown_in (by omega)
  have HONE : Kept (i0 > j0 → R = (j0, true, Go.Sort.swp d0 j0 a)) := ⟨fun h => by rw [← hR]; exact part_one hd0 hi0 hj0 h⟩
  have HTWO : Kept (¬ i0 > j0 → R = ((Go.Sort.partLoop ltB a (i0 + 1) (j0 - 1) (Go.Sort.swp d0 i0 j0)).1, false, Go.Sort.swp (Go.Sort.partLoop ltB a (i0 + 1) (j0 - 1) (Go.Sort.swp d0 i0 j0)).2 (Go.Sort.partLoop ltB a (i0 + 1) (j0 - 1) (Go.Sort.swp d0 i0 j0)).1 a)) := ⟨fun h => by rw [← hR]; exact part_two hd0 hi0 hj0 h⟩
  rw [hR]
  clear hR
  have HSWE := kept hd0
  have HI0 := kept hi0
  have HSC := kept hi0
  have HJ0 := kept hj0
  have HP := kept (PS.start h)
  obtain ⟨r, rfl⟩ := HP.out.ad (by omega)
  clear h hd0 hi0 hj0
  have hw0 : IntKind.i64.wrap (m : Int) = (m : Int) := IntWalk.i64_in _ (by omega)
  go_enter Tryz.func107, Tryz.ntmps107
  go_upto_region 1 with fail
  go_cut [] (fun wx => Kept (PS base (some ⟨r, 0, none⟩) n c w wx d0))
  case first => as_aux_lemma =>
    clear HONE HTWO HI0 HJ0 HSC
    have hin1 : a < n := by omega
    have hin2 : v < n := by omega
    obtain ⟨c0, f0⟩ := HP.out.at hin1
    obtain ⟨c1, f1⟩ := HP.out.at hin2
    have HSW : Kept (PS base (some ⟨r, 0, none⟩) n c w ((w.drew.setCell ⟨r, a, none⟩ (.int .u8 ((d[v]! : Nat) : Int))).setCell ⟨r, v, none⟩ (.int .u8 ((d[a]! : Nat) : Int))) d0) := ⟨by rw [← HSWE.out]; exact HP.out.drew.swp hin1 hin2⟩
    clear HP HSWE
    by_cases hij : a = v
    · subst hij
      generalize d[a]! = v0 at *
      go_region
      all_goals go_wp2_with fail
      all_goals go_meet
      all_goals exact HSW
    · have hij2 : ¬ v = a := fun h => hij h.symm
      generalize d[a]! = v0 at *
      generalize d[v]! = v1 at *
      go_region
      all_goals go_wp2_with fail
      all_goals go_meet
      all_goals exact HSW
  case rest =>
    clear HP
    have HP := hcut
    clear hcut HSWE
    go_wp2_with fail
    go_loopw [10] (fun i wr => ∃ k : Nat, a + 1 ≤ k ∧ k ≤ m + 1 ∧ i = .int .i64 (k : Int) ∧ Kept (Go.Sort.scanUp (fun x => ltB x d0[a]!) d0 m k = i0) ∧ Kept (PS base (some ⟨r, 0, none⟩) n c w wr d0)) (fun i _ => m + 1 - (intOf i).toNat)
    case atStart => exact ⟨(a + 1), by omega, by omega, by go_num, HSC, HP⟩
    case round =>
      clear HSC HP
      obtain ⟨k, hk1, hk2, rfl, HSC, HP⟩ := hrel
      obtain ⟨BB, hBB⟩ : ∃ BB, (decide (k ≤ m) && ltB d0[k]! d0[a]!) = BB := ⟨_, rfl⟩
      have HBB := kept hBB
      clear hBB
      go_upto_region 3 with fail
      go_cut [43] (fun b wx => b = .bool BB ∧ Kept (PS base (some ⟨r, 0, none⟩) n c w wx d0))
      case first => as_aux_lemma =>
        clear HSC HONE HTWO HI0 HJ0
        by_cases hkj : k ≤ m
        · have hki : (k : Int) ≤ (m : Int) := by omega
          have hkd : decide ((k : Int) ≤ (m : Int)) = true := decide_eq_true hki
          obtain ⟨c0, f0⟩ := HP.out.at (k := k) (by omega)
          obtain ⟨c1, f1⟩ := HP.out.at (k := a) (by omega)
          have HB2 := HBB.out
          rw [decide_eq_true hkj, Bool.true_and] at HB2
          have CL := kept (fun W => less_any (d0[k]!) (d0[a]!) BB HB2 W)
          clear HB2 HBB
          generalize d0[k]! = vk at *
          generalize d0[a]! = va at *
          have hkn : (k : Int) < (n : Int) := by omega
          have han : (a : Int) < (n : Int) := by omega
          go_big_quiet (first | (go_at_call 105; exact Calls.quiet_of_same (CL.out _)))
          go_wp2_with fail
          go_meet
          first | exact ⟨rfl, ⟨HP.out.drewN _⟩⟩ | exact ⟨by cases BB <;> rfl, ⟨HP.out.drewN _⟩⟩
        · have hki : ¬ (k : Int) ≤ (m : Int) := by omega
          have hkd : decide ((k : Int) ≤ (m : Int)) = false := decide_eq_false hki
          have HB2 : Kept (BB = false) := ⟨by rw [← HBB.out, decide_eq_false hkj, Bool.false_and]⟩
          clear HBB
          obtain rfl := HB2.out
          clear HB2
          go_big_quiet (fail)
          go_wp2_with fail
          go_meet
          exact ⟨rfl, ⟨HP.out.drewN _⟩⟩
      case rest =>
        clear HP
        obtain ⟨rfl, HP⟩ := hcut
        have HK : Kept (BB = true → (k ≤ m) ∧ (ltB d0[k]! d0[a]!) = true) := ⟨fun h => by
          have h2 := HBB.out
          rw [h, Bool.and_eq_true] at h2
          exact ⟨of_decide_eq_true h2.1, h2.2⟩⟩
        have HK2 : Kept (BB = false → (k ≤ m) → (ltB d0[k]! d0[a]!) = false) := ⟨fun h h3 => by
          have h2 := HBB.out
          rw [h, decide_eq_true h3, Bool.true_and] at h2
          exact h2⟩
        clear HBB
        cases BB with
        | true =>
          have hkj := (HK.out rfl).1
          have HSC2 : Kept (Go.Sort.scanUp (fun x => ltB x d0[a]!) d0 m (k + 1) = i0) := ⟨by rw [← su_step hkj (HK.out rfl).2]; exact HSC.out⟩
          clear HK HK2 HSC
          go_wp2_with fail
          go_roundw
          case rel => exact ⟨k + 1, by omega, by omega, by go_num, HSC2, HP⟩
          case measure => simp [intOf]; omega
        | false =>
          have HE : Kept (i0 = k) := ⟨by rw [← HSC.out]; exact su_stop (HK2.out rfl)⟩
          clear HK HK2 HSC
          obtain rfl := HE.out
          clear HE
          have HSC := HJ0
          go_wp2_with fail
          go_loopw [11] (fun i wr => ∃ k : Nat, k ≤ m ∧ i0 ≤ k + 1 ∧ i = .int .i64 (k : Int) ∧ Kept (Go.Sort.scanDown (fun x => !ltB x d0[a]!) d0 i0 k = j0) ∧ Kept (PS base (some ⟨r, 0, none⟩) n c w wr d0)) (fun i _ => (intOf i).toNat)
          case atStart => exact ⟨m, by omega, by omega, by go_num, HSC, HP⟩
          case round =>
            clear HSC HP
            obtain ⟨k, hk1, hk2, rfl, HSC, HP⟩ := hrel
            obtain ⟨BB, hBB⟩ : ∃ BB, (decide (i0 ≤ k) && !ltB d0[k]! d0[a]!) = BB := ⟨_, rfl⟩
            have HBB := kept hBB
            clear hBB
            go_upto_region 5 with fail
            go_cut [60] (fun b wx => b = .bool BB ∧ Kept (PS base (some ⟨r, 0, none⟩) n c w wx d0))
            case first => as_aux_lemma =>
              clear HSC HONE HTWO HI0 HJ0
              by_cases hkj : i0 ≤ k
              · have hki : (i0 : Int) ≤ (k : Int) := by omega
                have hkd : decide ((i0 : Int) ≤ (k : Int)) = true := decide_eq_true hki
                obtain ⟨c0, f0⟩ := HP.out.at (k := k) (by omega)
                obtain ⟨c1, f1⟩ := HP.out.at (k := a) (by omega)
                have HB2 := HBB.out
                rw [decide_eq_true hkj, Bool.true_and] at HB2
                have CL := kept (fun W => less_any (d0[k]!) (d0[a]!) (!BB) (by rw [← HB2, Bool.not_not]; rfl) W)
                clear HB2 HBB
                generalize d0[k]! = vk at *
                generalize d0[a]! = va at *
                have hkn : (k : Int) < (n : Int) := by omega
                have han : (a : Int) < (n : Int) := by omega
                go_big_quiet (first | (go_at_call 105; exact Calls.quiet_of_same (CL.out _)))
                go_wp2_with fail
                go_meet
                first | exact ⟨rfl, ⟨HP.out.drewN _⟩⟩ | exact ⟨by cases BB <;> rfl, ⟨HP.out.drewN _⟩⟩
              · have hki : ¬ (i0 : Int) ≤ (k : Int) := by omega
                have hkd : decide ((i0 : Int) ≤ (k : Int)) = false := decide_eq_false hki
                have HB2 : Kept (BB = false) := ⟨by rw [← HBB.out, decide_eq_false hkj, Bool.false_and]⟩
                clear HBB
                obtain rfl := HB2.out
                clear HB2
                go_big_quiet (fail)
                go_wp2_with fail
                go_meet
                exact ⟨rfl, ⟨HP.out.drewN _⟩⟩
            case rest =>
              clear HP
              obtain ⟨rfl, HP⟩ := hcut
              have HK : Kept (BB = true → (i0 ≤ k) ∧ (!ltB d0[k]! d0[a]!) = true) := ⟨fun h => by
                have h2 := HBB.out
                rw [h, Bool.and_eq_true] at h2
                exact ⟨of_decide_eq_true h2.1, h2.2⟩⟩
              have HK2 : Kept (BB = false → (i0 ≤ k) → (!ltB d0[k]! d0[a]!) = false) := ⟨fun h h3 => by
                have h2 := HBB.out
                rw [h, decide_eq_true h3, Bool.true_and] at h2
                exact h2⟩
              clear HBB
              cases BB with
              | true =>
                have hkj := (HK.out rfl).1
                have HSC2 : Kept (Go.Sort.scanDown (fun x => !ltB x d0[a]!) d0 i0 (k - 1) = j0) := ⟨by rw [← sd_step (by omega) hkj (HK.out rfl).2]; exact HSC.out⟩
                clear HK HK2 HSC
                go_wp2_with fail
                go_roundw
                case rel => exact ⟨k - 1, by omega, by omega, by go_num, HSC2, HP⟩
                case measure => simp [intOf]; omega
              | false =>
                have HE : Kept (j0 = k) := ⟨by rw [← HSC.out]; exact sd_stop (HK2.out rfl)⟩
                clear HK HK2 HSC
                obtain rfl := HE.out
                clear HE
                by_cases hgt : i0 > j0
                · have hgi : (j0 : Int) < (i0 : Int) := by omega
                  obtain ⟨dE, hdE⟩ : ∃ dE, Go.Sort.swp d0 j0 a = dE := ⟨_, rfl⟩
                  have HR3 : Kept (R = (j0, true, dE)) := ⟨by rw [HONE.out hgt, hdE]⟩
                  have HSWE := kept hdE
                  clear hdE HONE HTWO HI0 HJ0
                  obtain rfl := HR3.out
                  clear HR3
                  go_upto_region 8 with fail
                  go_cut [] (fun wx => Kept (PS base (some ⟨r, 0, none⟩) n c w wx dE))
                  case first => as_aux_lemma =>
                    skip
                    have hin1 : j0 < n := by omega
                    have hin2 : a < n := by omega
                    obtain ⟨c0, f0⟩ := HP.out.at hin1
                    obtain ⟨c1, f1⟩ := HP.out.at hin2
                    have HSW : Kept (PS base (some ⟨r, 0, none⟩) n c w ((wc.drew.setCell ⟨r, j0, none⟩ (.int .u8 ((d0[a]! : Nat) : Int))).setCell ⟨r, a, none⟩ (.int .u8 ((d0[j0]! : Nat) : Int))) dE) := ⟨by rw [← HSWE.out]; exact HP.out.drew.swp hin1 hin2⟩
                    clear HP HSWE
                    by_cases hij : j0 = a
                    · subst hij
                      generalize d0[j0]! = v0 at *
                      go_region
                      all_goals go_wp2_with fail
                      all_goals go_meet
                      all_goals exact HSW
                    · have hij2 : ¬ a = j0 := fun h => hij h.symm
                      generalize d0[j0]! = v0 at *
                      generalize d0[a]! = v1 at *
                      go_region
                      all_goals go_wp2_with fail
                      all_goals go_meet
                      all_goals exact HSW
                  case rest =>
                    clear HP
                    have HP := hcut
                    clear hcut
                    go_wp2_with fail
                    exact bodyPost_ret (v := .tuple #[.int .i64 (j0 : Int), .bool true]) (by simp [results, Tryz.results107]) rfl ⟨rfl, HP.out⟩
                · have hgi : ¬ (j0 : Int) < (i0 : Int) := by omega
                  have hne : i0 < j0 := scans_ne HI0.out HJ0.out (by omega) (by omega) hgt
                  obtain ⟨dF, hdF⟩ : ∃ dF, Go.Sort.swp d0 i0 j0 = dF := ⟨_, rfl⟩
                  obtain ⟨RR, hRR⟩ : ∃ RR, Go.Sort.partLoop ltB a (i0 + 1) (j0 - 1) dF = RR := ⟨_, rfl⟩
                  have HRR : Kept (R = (RR.1, false, Go.Sort.swp RR.2 RR.1 a)) := ⟨by rw [HTWO.out hgt, hdF, hRR]⟩
                  have HSWE := kept hdF
                  have HPL := kept hRR
                  clear hdF hRR HONE HTWO HI0 HJ0
                  go_upto_region 10 with fail
                  go_cut [] (fun wx => Kept (PS base (some ⟨r, 0, none⟩) n c w wx dF))
                  case first => as_aux_lemma =>
                    clear HRR HPL
                    have hin1 : i0 < n := by omega
                    have hin2 : j0 < n := by omega
                    obtain ⟨c0, f0⟩ := HP.out.at hin1
                    obtain ⟨c1, f1⟩ := HP.out.at hin2
                    have HSW : Kept (PS base (some ⟨r, 0, none⟩) n c w ((wc.drew.setCell ⟨r, i0, none⟩ (.int .u8 ((d0[j0]! : Nat) : Int))).setCell ⟨r, j0, none⟩ (.int .u8 ((d0[i0]! : Nat) : Int))) dF) := ⟨by rw [← HSWE.out]; exact HP.out.drew.swp hin1 hin2⟩
                    clear HP HSWE
                    have hij : ¬ i0 = j0 := by omega
                    clear hne
                    · have hij2 : ¬ j0 = i0 := fun h => hij h.symm
                      generalize d0[i0]! = v0 at *
                      generalize d0[j0]! = v1 at *
                      go_region
                      all_goals go_wp2_with fail
                      all_goals go_meet
                      all_goals exact HSW
                  case rest =>
                    clear HP
                    have HP := hcut
                    clear hcut
                    go_wp2_with fail
                    go_loopw [10, 11] (fun i j wr => ∃ (p q : Nat) (d2 : Array Nat), a + 1 ≤ p ∧ p ≤ q + 1 ∧ q ≤ m ∧ i = .int .i64 (p : Int) ∧ j = .int .i64 (q : Int) ∧ Kept (Go.Sort.partLoop ltB a p q d2 = RR) ∧ Kept (PS base (some ⟨r, 0, none⟩) n c w wr d2)) (fun i j _ => (intOf j).toNat + 2 - (intOf i).toNat)
                    case atStart => exact ⟨i0 + 1, j0 - 1, dF, by omega, by omega, by omega, by go_num, by go_num, HPL, HP⟩
                    case round =>
                      clear HPL HP
                      obtain ⟨p, q, d2, hp1, hp2, hp3, rfl, rfl, HPL, HP⟩ := hrel
                      obtain ⟨i2, hi2⟩ : ∃ i2, Go.Sort.scanUp (fun x => ltB x d2[a]!) d2 q p = i2 := ⟨_, rfl⟩
                      obtain ⟨j2, hj2⟩ : ∃ j2, Go.Sort.scanDown (fun x => !ltB x d2[a]!) d2 i2 q = j2 := ⟨_, rfl⟩
                      have hin2 : p ≤ i2 ∧ i2 ≤ q + 1 := by rw [← hi2]; exact scanUp_in (by omega)
                      have hjn2 : j2 ≤ q ∧ i2 ≤ j2 + 1 := by rw [← hj2]; exact scanDown_in (by omega)
                      have HI2 := kept hi2
                      have HJ2 := kept hj2
                      have HSC := kept hi2
                      clear hi2 hj2
                      go_wp2_with fail
                      go_loopw [10] (fun i wr => ∃ k : Nat, a + 1 ≤ k ∧ k ≤ q + 1 ∧ i = .int .i64 (k : Int) ∧ Kept (Go.Sort.scanUp (fun x => ltB x d2[a]!) d2 q k = i2) ∧ Kept (PS base (some ⟨r, 0, none⟩) n c w wr d2)) (fun i _ => q + 1 - (intOf i).toNat)
                      case atStart => exact ⟨p, by omega, by omega, by go_num, HSC, HP⟩
                      case round =>
                        clear HSC HP
                        obtain ⟨k, hk1, hk2, rfl, HSC, HP⟩ := hrel
                        obtain ⟨BB, hBB⟩ : ∃ BB, (decide (k ≤ q) && ltB d2[k]! d2[a]!) = BB := ⟨_, rfl⟩
                        have HBB := kept hBB
                        clear hBB
                        go_upto_region 13 with fail
                        go_cut [112] (fun b wx => b = .bool BB ∧ Kept (PS base (some ⟨r, 0, none⟩) n c w wx d2))
                        case first => as_aux_lemma =>
                          clear HSC HRR HPL HI2 HJ2
                          by_cases hkj : k ≤ q
                          · have hki : (k : Int) ≤ (q : Int) := by omega
                            have hkd : decide ((k : Int) ≤ (q : Int)) = true := decide_eq_true hki
                            obtain ⟨c0, f0⟩ := HP.out.at (k := k) (by omega)
                            obtain ⟨c1, f1⟩ := HP.out.at (k := a) (by omega)
                            have HB2 := HBB.out
                            rw [decide_eq_true hkj, Bool.true_and] at HB2
                            have CL := kept (fun W => less_any (d2[k]!) (d2[a]!) BB HB2 W)
                            clear HB2 HBB
                            generalize d2[k]! = vk at *
                            generalize d2[a]! = va at *
                            have hkn : (k : Int) < (n : Int) := by omega
                            have han : (a : Int) < (n : Int) := by omega
                            go_big_quiet (first | (go_at_call 105; exact Calls.quiet_of_same (CL.out _)))
                            go_wp2_with fail
                            go_meet
                            first | exact ⟨rfl, ⟨HP.out.drewN _⟩⟩ | exact ⟨by cases BB <;> rfl, ⟨HP.out.drewN _⟩⟩
                          · have hki : ¬ (k : Int) ≤ (q : Int) := by omega
                            have hkd : decide ((k : Int) ≤ (q : Int)) = false := decide_eq_false hki
                            have HB2 : Kept (BB = false) := ⟨by rw [← HBB.out, decide_eq_false hkj, Bool.false_and]⟩
                            clear HBB
                            obtain rfl := HB2.out
                            clear HB2
                            go_big_quiet (fail)
                            go_wp2_with fail
                            go_meet
                            exact ⟨rfl, ⟨HP.out.drewN _⟩⟩
                        case rest =>
                          clear HP
                          obtain ⟨rfl, HP⟩ := hcut
                          have HK : Kept (BB = true → (k ≤ q) ∧ (ltB d2[k]! d2[a]!) = true) := ⟨fun h => by
                            have h2 := HBB.out
                            rw [h, Bool.and_eq_true] at h2
                            exact ⟨of_decide_eq_true h2.1, h2.2⟩⟩
                          have HK2 : Kept (BB = false → (k ≤ q) → (ltB d2[k]! d2[a]!) = false) := ⟨fun h h3 => by
                            have h2 := HBB.out
                            rw [h, decide_eq_true h3, Bool.true_and] at h2
                            exact h2⟩
                          clear HBB
                          cases BB with
                          | true =>
                            have hkj := (HK.out rfl).1
                            have HSC2 : Kept (Go.Sort.scanUp (fun x => ltB x d2[a]!) d2 q (k + 1) = i2) := ⟨by rw [← su_step hkj (HK.out rfl).2]; exact HSC.out⟩
                            clear HK HK2 HSC
                            go_wp2_with fail
                            go_roundw
                            case rel => exact ⟨k + 1, by omega, by omega, by go_num, HSC2, HP⟩
                            case measure => simp [intOf]; omega
                          | false =>
                            have HE : Kept (i2 = k) := ⟨by rw [← HSC.out]; exact su_stop (HK2.out rfl)⟩
                            clear HK HK2 HSC
                            obtain rfl := HE.out
                            clear HE
                            have HSC := HJ2
                            go_wp2_with fail
                            go_loopw [11] (fun i wr => ∃ k : Nat, k ≤ q ∧ i2 ≤ k + 1 ∧ i = .int .i64 (k : Int) ∧ Kept (Go.Sort.scanDown (fun x => !ltB x d2[a]!) d2 i2 k = j2) ∧ Kept (PS base (some ⟨r, 0, none⟩) n c w wr d2)) (fun i _ => (intOf i).toNat)
                            case atStart => exact ⟨q, by omega, by omega, by go_num, HSC, HP⟩
                            case round =>
                              clear HSC HP
                              obtain ⟨k, hk1, hk2, rfl, HSC, HP⟩ := hrel
                              obtain ⟨BB, hBB⟩ : ∃ BB, (decide (i2 ≤ k) && !ltB d2[k]! d2[a]!) = BB := ⟨_, rfl⟩
                              have HBB := kept hBB
                              clear hBB
                              go_upto_region 15 with fail
                              go_cut [129] (fun b wx => b = .bool BB ∧ Kept (PS base (some ⟨r, 0, none⟩) n c w wx d2))
                              case first => as_aux_lemma =>
                                clear HSC HRR HPL HI2 HJ2
                                by_cases hkj : i2 ≤ k
                                · have hki : (i2 : Int) ≤ (k : Int) := by omega
                                  have hkd : decide ((i2 : Int) ≤ (k : Int)) = true := decide_eq_true hki
                                  obtain ⟨c0, f0⟩ := HP.out.at (k := k) (by omega)
                                  obtain ⟨c1, f1⟩ := HP.out.at (k := a) (by omega)
                                  have HB2 := HBB.out
                                  rw [decide_eq_true hkj, Bool.true_and] at HB2
                                  have CL := kept (fun W => less_any (d2[k]!) (d2[a]!) (!BB) (by rw [← HB2, Bool.not_not]; rfl) W)
                                  clear HB2 HBB
                                  generalize d2[k]! = vk at *
                                  generalize d2[a]! = va at *
                                  have hkn : (k : Int) < (n : Int) := by omega
                                  have han : (a : Int) < (n : Int) := by omega
                                  go_big_quiet (first | (go_at_call 105; exact Calls.quiet_of_same (CL.out _)))
                                  go_wp2_with fail
                                  go_meet
                                  first | exact ⟨rfl, ⟨HP.out.drewN _⟩⟩ | exact ⟨by cases BB <;> rfl, ⟨HP.out.drewN _⟩⟩
                                · have hki : ¬ (i2 : Int) ≤ (k : Int) := by omega
                                  have hkd : decide ((i2 : Int) ≤ (k : Int)) = false := decide_eq_false hki
                                  have HB2 : Kept (BB = false) := ⟨by rw [← HBB.out, decide_eq_false hkj, Bool.false_and]⟩
                                  clear HBB
                                  obtain rfl := HB2.out
                                  clear HB2
                                  go_big_quiet (fail)
                                  go_wp2_with fail
                                  go_meet
                                  exact ⟨rfl, ⟨HP.out.drewN _⟩⟩
                              case rest =>
                                clear HP
                                obtain ⟨rfl, HP⟩ := hcut
                                have HK : Kept (BB = true → (i2 ≤ k) ∧ (!ltB d2[k]! d2[a]!) = true) := ⟨fun h => by
                                  have h2 := HBB.out
                                  rw [h, Bool.and_eq_true] at h2
                                  exact ⟨of_decide_eq_true h2.1, h2.2⟩⟩
                                have HK2 : Kept (BB = false → (i2 ≤ k) → (!ltB d2[k]! d2[a]!) = false) := ⟨fun h h3 => by
                                  have h2 := HBB.out
                                  rw [h, decide_eq_true h3, Bool.true_and] at h2
                                  exact h2⟩
                                clear HBB
                                cases BB with
                                | true =>
                                  have hkj := (HK.out rfl).1
                                  have HSC2 : Kept (Go.Sort.scanDown (fun x => !ltB x d2[a]!) d2 i2 (k - 1) = j2) := ⟨by rw [← sd_step (by omega) hkj (HK.out rfl).2]; exact HSC.out⟩
                                  clear HK HK2 HSC
                                  go_wp2_with fail
                                  go_roundw
                                  case rel => exact ⟨k - 1, by omega, by omega, by go_num, HSC2, HP⟩
                                  case measure => simp [intOf]; omega
                                | false =>
                                  have HE : Kept (j2 = k) := ⟨by rw [← HSC.out]; exact sd_stop (HK2.out rfl)⟩
                                  clear HK HK2 HSC
                                  obtain rfl := HE.out
                                  clear HE
                                  by_cases hgt : i2 > j2
                                  · have hgi : (j2 : Int) < (i2 : Int) := by omega
                                    obtain ⟨dE, hdE⟩ : ∃ dE, Go.Sort.swp d2 j2 a = dE := ⟨_, rfl⟩
                                    have HR3 : Kept (R = (j2, false, dE)) := ⟨by rw [HRR.out, ← HPL.out, partl_end HI2.out HJ2.out hgt, hdE]⟩
                                    have HSWE := kept hdE
                                    clear hdE HRR HPL HI2 HJ2
                                    obtain rfl := HR3.out
                                    clear HR3
                                    go_upto_region 21 with fail
                                    go_cut [] (fun wx => Kept (PS base (some ⟨r, 0, none⟩) n c w wx dE))
                                    case first => as_aux_lemma =>
                                      skip
                                      have hin1 : j2 < n := by omega
                                      have hin2 : a < n := by omega
                                      obtain ⟨c0, f0⟩ := HP.out.at hin1
                                      obtain ⟨c1, f1⟩ := HP.out.at hin2
                                      have HSW : Kept (PS base (some ⟨r, 0, none⟩) n c w ((wc.drew.setCell ⟨r, j2, none⟩ (.int .u8 ((d2[a]! : Nat) : Int))).setCell ⟨r, a, none⟩ (.int .u8 ((d2[j2]! : Nat) : Int))) dE) := ⟨by rw [← HSWE.out]; exact HP.out.drew.swp hin1 hin2⟩
                                      clear HP HSWE
                                      by_cases hij : j2 = a
                                      · subst hij
                                        generalize d2[j2]! = v0 at *
                                        go_region
                                        all_goals go_wp2_with fail
                                        all_goals go_meet
                                        all_goals exact HSW
                                      · have hij2 : ¬ a = j2 := fun h => hij h.symm
                                        generalize d2[j2]! = v0 at *
                                        generalize d2[a]! = v1 at *
                                        go_region
                                        all_goals go_wp2_with fail
                                        all_goals go_meet
                                        all_goals exact HSW
                                    case rest =>
                                      clear HP
                                      have HP := hcut
                                      clear hcut
                                      go_wp2_with fail
                                      exact bodyPost_ret (v := .tuple #[.int .i64 (j2 : Int), .bool false]) (by simp [results, Tryz.results107]) rfl ⟨rfl, HP.out⟩
                                  · have hgi : ¬ (j2 : Int) < (i2 : Int) := by omega
                                    have hne : i2 < j2 := scans_ne HI2.out HJ2.out (by omega) (by omega) hgt
                                    obtain ⟨dE, hdE⟩ : ∃ dE, Go.Sort.swp d2 i2 j2 = dE := ⟨_, rfl⟩
                                    have HPL2 : Kept (Go.Sort.partLoop ltB a (i2 + 1) (j2 - 1) dE = RR) := ⟨by rw [← HPL.out, partl_step HI2.out HJ2.out hgt, hdE]⟩
                                    have HSWE := kept hdE
                                    clear hdE HPL HI2 HJ2
                                    go_upto_region 18 with fail
                                    go_cut [] (fun wx => Kept (PS base (some ⟨r, 0, none⟩) n c w wx dE))
                                    case first => as_aux_lemma =>
                                      clear HRR HPL2
                                      have hin1 : i2 < n := by omega
                                      have hin2 : j2 < n := by omega
                                      obtain ⟨c0, f0⟩ := HP.out.at hin1
                                      obtain ⟨c1, f1⟩ := HP.out.at hin2
                                      have HSW : Kept (PS base (some ⟨r, 0, none⟩) n c w ((wc.drew.setCell ⟨r, i2, none⟩ (.int .u8 ((d2[j2]! : Nat) : Int))).setCell ⟨r, j2, none⟩ (.int .u8 ((d2[i2]! : Nat) : Int))) dE) := ⟨by rw [← HSWE.out]; exact HP.out.drew.swp hin1 hin2⟩
                                      clear HP HSWE
                                      have hij : ¬ i2 = j2 := by omega
                                      clear hne
                                      · have hij2 : ¬ j2 = i2 := fun h => hij h.symm
                                        generalize d2[i2]! = v0 at *
                                        generalize d2[j2]! = v1 at *
                                        go_region
                                        all_goals go_wp2_with fail
                                        all_goals go_meet
                                        all_goals exact HSW
                                    case rest =>
                                      clear HP
                                      have HP := hcut
                                      clear hcut
                                      go_wp2_with fail
                                      go_roundw
                                      case rel => exact ⟨i2 + 1, j2 - 1, dE, by omega, by omega, by omega, by go_num, by go_num, HPL2, HP⟩
                                      case measure => simp [intOf]; omega
end Go.Proofs.YtfkfpanhbanljaaGreat.SortY
