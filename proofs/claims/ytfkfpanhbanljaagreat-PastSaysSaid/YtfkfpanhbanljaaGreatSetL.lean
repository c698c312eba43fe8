import Derived.Test.YtfkfpanhbanljaaGreatSetJ
import Derived.BigQuiet
import Derived.BigRegion
import Derived.Deep.DeepCutAuto
/- Sorting bytes: the plain law of pdqsort's loop: what is left to do. -/
namespace Go.Proofs.YtfkfpanhbanljaaGreat.SortY
open Go.RowKit Go.Proofs.YtfkfpanhbanljaaGreat.Mem

/-- what is left to do: whoever sorts [x, y) of e has sorted [a, b) of d -/
structure Left (d : Array Nat) (a b : Nat) (e : Array Nat) (x y : Nat) : Prop where
  le : x ≤ y
  top : y ≤ b
  bot : a ≤ x
  size : e.size = d.size
  below : Go.Sort.Below ltB x y e
  fin : ∀ R, Go.Sort.PermIn x y e R → Go.Sort.SortedIn ltB x y R → Go.Sort.PermIn a b d R ∧ Go.Sort.SortedIn ltB a b R
section
variable {d e e2 : Array Nat} {a b x y v m : Nat} {q : Bool}
theorem Left.start (h : a ≤ b) (hB : Go.Sort.Below ltB a b d) : Left d a b d a b := ⟨h, Nat.le_refl _, Nat.le_refl _, rfl, hB, fun _ h1 h2 => ⟨h1, h2⟩⟩
theorem Left.perm (h : Left d a b e x y) (hb : b ≤ d.size) (hp : Go.Sort.PermIn x y e e2) : Left d a b e2 x y := by
  have h1 := h.size
  have h2 := h.top
  exact ⟨h.le, h.top, h.bot, hp.1.trans h.size, h.below.perm (by omega) hp, fun R h3 h4 => h.fin R (Go.Sort.permIn_trans _ _ _ x y hp h3) h4⟩
theorem Left.eqs (h : Left d a b e x y) (hb : b ≤ d.size) (hx : 0 < x) (h1 : x ≤ v) (h2 : v < y) (hl : ltB e[x - 1]! e[v]! = false) (he : Go.Sort.partitionEqual ltB e x y v = (m, e2)) : x < m ∧ Left d a b e2 m y := by
  have s1 := h.size
  have s2 := h.top
  have s3 := h.bot
  obtain ⟨k1, k2, k3, k4, k5⟩ := Go.Sort.round_eq swoB (Go.Sort.partitionEqual_holds ltB) hx h1 h2 (by omega) h.below hl he
  exact ⟨k1, k2, h.top, by omega, k3.trans h.size, k4, fun R h3 h4 => h.fin R (k5 R h3 h4).1 (k5 R h3 h4).2⟩
theorem Left.parts (h : Left d a b e x y) (hb : b ≤ d.size) (h1 : x ≤ v) (h2 : v < y) (he : Go.Sort.partition ltB e x y v = (m, q, e2)) :
    x ≤ m ∧ m < y ∧ e2.size = d.size ∧ Go.Sort.Below ltB x m e2 ∧ Go.Sort.Below ltB (m + 1) y e2 ∧ (∀ L, Go.Sort.PermIn x m e2 L → Go.Sort.SortedIn ltB x m L → Left d a b L (m + 1) y) ∧ (∀ L, Go.Sort.PermIn (m + 1) y e2 L → Go.Sort.SortedIn ltB (m + 1) y L → Left d a b L x m) := by
  have s1 := h.size
  have s2 := h.top
  have s3 := h.bot
  obtain ⟨k1, k2, k3, k4, k5, k6, k7⟩ := Go.Sort.round_part swoB (Go.Sort.partition_holds ltB) h1 h2 (by omega) h.below he
  refine ⟨k1, k2, k3.trans h.size, k4, k5, fun L h3 h4 => ?_, fun L h3 h4 => ?_⟩
  · obtain ⟨j1, j2⟩ := k6 L h3 h4
    exact ⟨by omega, h.top, by omega, (h3.1.trans k3).trans h.size, j1, fun R h5 h6 => h.fin R (j2 R h5 h6).1 (j2 R h5 h6).2⟩
  · obtain ⟨j1, j2⟩ := k7 L h3 h4
    exact ⟨k1, by omega, h.bot, (h3.1.trans k3).trans h.size, j1, fun R h5 h6 => h.fin R (j2 R h5 h6).1 (j2 R h5 h6).2⟩
end
/-- the end of it: a list of bytes -/
theorem sorted_list {l : List Nat} {e : Array Nat} (hp : Go.Sort.PermIn 0 l.length l.toArray e) (hs : Go.Sort.SortedIn ltB 0 l.length e) : e.toList.Perm l ∧ e.toList.Pairwise (· ≤ ·) := by
  have h1 : e.size = l.length := by have := hp.1; rwa [List.size_toArray] at this
  have h2 := hp.2.2
  rw [← h1, Array.extract_size, h1, show l.toArray.extract 0 l.length = l.toArray by rw [show l.length = l.toArray.size by simp, Array.extract_size]] at h2
  refine ⟨h2, List.pairwise_iff_getElem.2 fun i j hi hj hij => ?_⟩
  rw [Array.length_toList] at hi hj
  have h3 := hs i j (Nat.zero_le _) hij (by omega)
  have e1 : e[i]! = e.toList[i] := by simp [hi]
  have e2 : e[j]! = e.toList[j] := by simp [hj]
  rw [e1, e2] at h3
  simpa [ltB] using h3
end Go.Proofs.YtfkfpanhbanljaaGreat.SortY

/- Sorting bytes: partitionEqualOrdered. (printed by tools/genpdr.py) -/
namespace Go.Proofs.YtfkfpanhbanljaaGreat.SortY
open Go.RowKit Go.Proofs.YtfkfpanhbanljaaGreat.Mem

set_option maxRecDepth 100000 in
set_option maxHeartbeats 8000000 in
theorem parte_any (base : Nat) (A : Option Addr) (n c : Nat) (d : Array Nat) (a b v : Nat) (w : World) (h : RowD w base A n c d) (hav : a ≤ v) (hvb : v < b) (hb : b ≤ n) (hn : n ≤ 1000) :
    Calls Tryz.prog 106 #[.slice A n c, .int .i64 (a : Int), .int .i64 (b : Int), .int .i64 (v : Int)] w fun e w' => e = .returned (.int .i64 ((Go.Sort.partitionEqual ltB d a b v).1 : Int)) ∧ PS base A n c w w' (Go.Sort.partitionEqual ltB d a b v).2 := by
  obtain ⟨m, rfl⟩ : ∃ m, b = m + 1 := ⟨b - 1, by omega⟩
  obtain ⟨R, hR⟩ : ∃ R, Go.Sort.partitionEqual ltB d a (m + 1) v = R := ⟨_, rfl⟩
  obtain ⟨d0, hd0⟩ : ∃ d0, Go.Sort.swp d a v = d0 := ⟨_, rfl⟩
  have HPL : Kept (Go.Sort.partEqLoop ltB a (a + 1) m d0 = R) := ⟨by rw [← hR, ← hd0]; rfl⟩
  rw [hR]
  clear hR
  have HSWE := kept hd0
  have HP := kept (PS.start h)
  obtain ⟨r, rfl⟩ := HP.out.ad (by omega)
  clear h hd0
  have hw0 : IntKind.i64.wrap (m : Int) = (m : Int) := IntWalk.i64_in _ (by omega)
  go_enter Tryz.func106, Tryz.ntmps106
  go_upto_region 1 with fail
  go_cut [] (fun wx => Kept (PS base (some ⟨r, 0, none⟩) n c w wx d0))
  case first => as_aux_lemma =>
    clear HPL
    have hin1 : a < n := by omega
    have hin2 : v < n := by omega
    obtain ⟨c0, f0⟩ := HP.out.at hin1
    obtain ⟨c1, f1⟩ := HP.out.at hin2
    have HSW : Kept (PS base (some ⟨r, 0, none⟩) n c w ((w.drew.setCell ⟨r, a, none⟩ (.int .u8 ((d[v]! : Nat) : Int))).setCell ⟨r, v, none⟩ (.int .u8 ((d[a]! : Nat) : Int))) d0) := ⟨by rw [← HSWE.out]; exact HP.out.drew.swp hin1 hin2⟩
    clear HP HSWE
    by_cases hij : a = v
    · subst hij
      generalize d[a]! = v0 at *
      go_region
      all_goals go_wp2_with fail
      all_goals go_meet
      all_goals exact HSW
    · have hij2 : ¬ v = a := fun h => hij h.symm
      generalize d[a]! = v0 at *
      generalize d[v]! = v1 at *
      go_region
      all_goals go_wp2_with fail
      all_goals go_meet
      all_goals exact HSW
  case rest =>
    clear HP
    have HP := hcut
    clear hcut HSWE
    go_wp2_with fail
    go_loopw [9, 10] (fun i j wr => ∃ (p q : Nat) (d2 : Array Nat), a + 1 ≤ p ∧ p ≤ q + 1 ∧ q ≤ m ∧ i = .int .i64 (p : Int) ∧ j = .int .i64 (q : Int) ∧ Kept (Go.Sort.partEqLoop ltB a p q d2 = R) ∧ Kept (PS base (some ⟨r, 0, none⟩) n c w wr d2)) (fun i j _ => (intOf j).toNat + 2 - (intOf i).toNat)
    case atStart => exact ⟨a + 1, m, d0, by omega, by omega, by omega, by go_num, by go_num, HPL, HP⟩
    case round =>
      clear HPL HP
      obtain ⟨p, q, d2, hp1, hp2, hp3, rfl, rfl, HPL, HP⟩ := hrel
      obtain ⟨i2, hi2⟩ : ∃ i2, Go.Sort.scanUp (fun x => !ltB d2[a]! x) d2 q p = i2 := ⟨_, rfl⟩
      obtain ⟨j2, hj2⟩ : ∃ j2, Go.Sort.scanDown (fun x => ltB d2[a]! x) d2 i2 q = j2 := ⟨_, rfl⟩
      have hin2 : p ≤ i2 ∧ i2 ≤ q + 1 := by rw [← hi2]; exact scanUp_in (by omega)
      have hjn2 : j2 ≤ q ∧ i2 ≤ j2 + 1 := by rw [← hj2]; exact scanDown_in (by omega)
      have HI2 := kept hi2
      have HJ2 := kept hj2
      have HSC := kept hi2
      clear hi2 hj2
      go_wp2_with fail
      go_loopw [9] (fun i wr => ∃ k : Nat, a + 1 ≤ k ∧ k ≤ q + 1 ∧ i = .int .i64 (k : Int) ∧ Kept (Go.Sort.scanUp (fun x => !ltB d2[a]! x) d2 q k = i2) ∧ Kept (PS base (some ⟨r, 0, none⟩) n c w wr d2)) (fun i _ => q + 1 - (intOf i).toNat)
      case atStart => exact ⟨p, by omega, by omega, by go_num, HSC, HP⟩
      case round =>
        clear HSC HP
        obtain ⟨k, hk1, hk2, rfl, HSC, HP⟩ := hrel
        obtain ⟨BB, hBB⟩ : ∃ BB, (decide (k ≤ q) && !ltB d2[a]! d2[k]!) = BB := ⟨_, rfl⟩
        have HBB := kept hBB
        clear hBB
        go_upto_region 3 with fail
        go_cut [43] (fun b wx => b = .bool BB ∧ Kept (PS base (some ⟨r, 0, none⟩) n c w wx d2))
        case first => as_aux_lemma =>
          clear HSC HPL HI2 HJ2
          by_cases hkj : k ≤ q
          · have hki : (k : Int) ≤ (q : Int) := by omega
            have hkd : decide ((k : Int) ≤ (q : Int)) = true := decide_eq_true hki
            obtain ⟨c0, f0⟩ := HP.out.at (k := k) (by omega)
            obtain ⟨c1, f1⟩ := HP.out.at (k := a) (by omega)
            have HB2 := HBB.out
            rw [decide_eq_true hkj, Bool.true_and] at HB2
            have CL := kept (fun W => less_any (d2[a]!) (d2[k]!) (!BB) (by rw [← HB2, Bool.not_not]; rfl) W)
            clear HB2 HBB
            generalize d2[k]! = vk at *
            generalize d2[a]! = va at *
            have hkn : (k : Int) < (n : Int) := by omega
            have han : (a : Int) < (n : Int) := by omega
            go_big_quiet (first | (go_at_call 105; exact Calls.quiet_of_same (CL.out _)))
            go_wp2_with fail
            go_meet
            first | exact ⟨rfl, ⟨HP.out.drewN _⟩⟩ | exact ⟨by cases BB <;> rfl, ⟨HP.out.drewN _⟩⟩
          · have hki : ¬ (k : Int) ≤ (q : Int) := by omega
            have hkd : decide ((k : Int) ≤ (q : Int)) = false := decide_eq_false hki
            have HB2 : Kept (BB = false) := ⟨by rw [← HBB.out, decide_eq_false hkj, Bool.false_and]⟩
            clear HBB
            obtain rfl := HB2.out
            clear HB2
            go_big_quiet (fail)
            go_wp2_with fail
            go_meet
            exact ⟨rfl, ⟨HP.out.drewN _⟩⟩
        case rest =>
          clear HP
          obtain ⟨rfl, HP⟩ := hcut
          have HK : Kept (BB = true → (k ≤ q) ∧ (!ltB d2[a]! d2[k]!) = true) := ⟨fun h => by
            have h2 := HBB.out
            rw [h, Bool.and_eq_true] at h2
            exact ⟨of_decide_eq_true h2.1, h2.2⟩⟩
          have HK2 : Kept (BB = false → (k ≤ q) → (!ltB d2[a]! d2[k]!) = false) := ⟨fun h h3 => by
            have h2 := HBB.out
            rw [h, decide_eq_true h3, Bool.true_and] at h2
            exact h2⟩
          clear HBB
          cases BB with
          | true =>
            have hkj := (HK.out rfl).1
            have HSC2 : Kept (Go.Sort.scanUp (fun x => !ltB d2[a]! x) d2 q (k + 1) = i2) := ⟨by rw [← su_step hkj (HK.out rfl).2]; exact HSC.out⟩
            clear HK HK2 HSC
            go_wp2_with fail
            go_roundw
            case rel => exact ⟨k + 1, by omega, by omega, by go_num, HSC2, HP⟩
            case measure => simp [intOf]; omega
          | false =>
            have HE : Kept (i2 = k) := ⟨by rw [← HSC.out]; exact su_stop (HK2.out rfl)⟩
            clear HK HK2 HSC
            obtain rfl := HE.out
            clear HE
            have HSC := HJ2
            go_wp2_with fail
            go_loopw [10] (fun i wr => ∃ k : Nat, k ≤ q ∧ i2 ≤ k + 1 ∧ i = .int .i64 (k : Int) ∧ Kept (Go.Sort.scanDown (fun x => ltB d2[a]! x) d2 i2 k = j2) ∧ Kept (PS base (some ⟨r, 0, none⟩) n c w wr d2)) (fun i _ => (intOf i).toNat)
            case atStart => exact ⟨q, by omega, by omega, by go_num, HSC, HP⟩
            case round =>
              clear HSC HP
              obtain ⟨k, hk1, hk2, rfl, HSC, HP⟩ := hrel
              obtain ⟨BB, hBB⟩ : ∃ BB, (decide (i2 ≤ k) && ltB d2[a]! d2[k]!) = BB := ⟨_, rfl⟩
              have HBB := kept hBB
              clear hBB
              go_upto_region 5 with fail
              go_cut [59] (fun b wx => b = .bool BB ∧ Kept (PS base (some ⟨r, 0, none⟩) n c w wx d2))
              case first => as_aux_lemma =>
                clear HSC HPL HI2 HJ2
                by_cases hkj : i2 ≤ k
                · have hki : (i2 : Int) ≤ (k : Int) := by omega
                  have hkd : decide ((i2 : Int) ≤ (k : Int)) = true := decide_eq_true hki
                  obtain ⟨c0, f0⟩ := HP.out.at (k := k) (by omega)
                  obtain ⟨c1, f1⟩ := HP.out.at (k := a) (by omega)
                  have HB2 := HBB.out
                  rw [decide_eq_true hkj, Bool.true_and] at HB2
                  have CL := kept (fun W => less_any (d2[a]!) (d2[k]!) BB HB2 W)
                  clear HB2 HBB
                  generalize d2[k]! = vk at *
                  generalize d2[a]! = va at *
                  have hkn : (k : Int) < (n : Int) := by omega
                  have han : (a : Int) < (n : Int) := by omega
                  go_big_quiet (first | (go_at_call 105; exact Calls.quiet_of_same (CL.out _)))
                  go_wp2_with fail
                  go_meet
                  first | exact ⟨rfl, ⟨HP.out.drewN _⟩⟩ | exact ⟨by cases BB <;> rfl, ⟨HP.out.drewN _⟩⟩
                · have hki : ¬ (i2 : Int) ≤ (k : Int) := by omega
                  have hkd : decide ((i2 : Int) ≤ (k : Int)) = false := decide_eq_false hki
                  have HB2 : Kept (BB = false) := ⟨by rw [← HBB.out, decide_eq_false hkj, Bool.false_and]⟩
                  clear HBB
                  obtain rfl := HB2.out
                  clear HB2
                  go_big_quiet (fail)
                  go_wp2_with fail
                  go_meet
                  exact ⟨rfl, ⟨HP.out.drewN _⟩⟩
              case rest =>
                clear HP
                obtain ⟨rfl, HP⟩ := hcut
                have HK : Kept (BB = true → (i2 ≤ k) ∧ (ltB d2[a]! d2[k]!) = true) := ⟨fun h => by
                  have h2 := HBB.out
                  rw [h, Bool.and_eq_true] at h2
                  exact ⟨of_decide_eq_true h2.1, h2.2⟩⟩
                have HK2 : Kept (BB = false → (i2 ≤ k) → (ltB d2[a]! d2[k]!) = false) := ⟨fun h h3 => by
                  have h2 := HBB.out
                  rw [h, decide_eq_true h3, Bool.true_and] at h2
                  exact h2⟩
                clear HBB
                cases BB with
                | true =>
                  have hkj := (HK.out rfl).1
                  have HSC2 : Kept (Go.Sort.scanDown (fun x => ltB d2[a]! x) d2 i2 (k - 1) = j2) := ⟨by rw [← sd_step (by omega) hkj (HK.out rfl).2]; exact HSC.out⟩
                  clear HK HK2 HSC
                  go_wp2_with fail
                  go_roundw
                  case rel => exact ⟨k - 1, by omega, by omega, by go_num, HSC2, HP⟩
                  case measure => simp [intOf]; omega
                | false =>
                  have HE : Kept (j2 = k) := ⟨by rw [← HSC.out]; exact sd_stop (HK2.out rfl)⟩
                  clear HK HK2 HSC
                  obtain rfl := HE.out
                  clear HE
                  by_cases hgt : i2 > j2
                  · have hgi : (j2 : Int) < (i2 : Int) := by omega
                    have HR3 : Kept (R = (i2, d2)) := ⟨by rw [← HPL.out, parte_end HI2.out HJ2.out hgt]⟩
                    clear HPL HI2 HJ2
                    obtain rfl := HR3.out
                    clear HR3
                    go_wp2_with fail
                    go_ret
                    exact ⟨rfl, HP.out⟩
                  · have hgi : ¬ (j2 : Int) < (i2 : Int) := by omega
                    have hne : i2 < j2 := scanse_ne HI2.out HJ2.out (by omega) (by omega) hgt
                    obtain ⟨dE, hdE⟩ : ∃ dE, Go.Sort.swp d2 i2 j2 = dE := ⟨_, rfl⟩
                    have HPL2 : Kept (Go.Sort.partEqLoop ltB a (i2 + 1) (j2 - 1) dE = R) := ⟨by rw [← HPL.out, parte_step HI2.out HJ2.out hgt, hdE]⟩
                    have HSWE := kept hdE
                    clear hdE HPL HI2 HJ2
                    go_upto_region 8 with fail
                    go_cut [] (fun wx => Kept (PS base (some ⟨r, 0, none⟩) n c w wx dE))
                    case first => as_aux_lemma =>
                      clear HPL2
                      have hin1 : i2 < n := by omega
                      have hin2 : j2 < n := by omega
                      obtain ⟨c0, f0⟩ := HP.out.at hin1
                      obtain ⟨c1, f1⟩ := HP.out.at hin2
                      have HSW : Kept (PS base (some ⟨r, 0, none⟩) n c w ((wc.drew.setCell ⟨r, i2, none⟩ (.int .u8 ((d2[j2]! : Nat) : Int))).setCell ⟨r, j2, none⟩ (.int .u8 ((d2[i2]! : Nat) : Int))) dE) := ⟨by rw [← HSWE.out]; exact HP.out.drew.swp hin1 hin2⟩
                      clear HP HSWE
                      have hij : ¬ i2 = j2 := by omega
                      clear hne
                      · have hij2 : ¬ j2 = i2 := fun h => hij h.symm
                        generalize d2[i2]! = v0 at *
                        generalize d2[j2]! = v1 at *
                        go_region
                        all_goals go_wp2_with fail
                        all_goals go_meet
                        all_goals exact HSW
                    case rest =>
                      clear HP
                      have HP := hcut
                      clear hcut
                      go_wp2_with fail
                      go_roundw
                      case rel => exact ⟨i2 + 1, j2 - 1, dE, by omega, by omega, by omega, by go_num, by go_num, HPL2, HP⟩
                      case measure => simp [intOf]; omega
end Go.Proofs.YtfkfpanhbanljaaGreat.SortY

/- Sorting bytes: partialInsertionSort of under 50 bytes: it looks alone. (printed by tools/genpdt.py) -/
namespace Go.Proofs.YtfkfpanhbanljaaGreat.SortY
open Go.RowKit Go.Proofs.YtfkfpanhbanljaaGreat.Mem

set_option maxRecDepth 100000 in
set_option maxHeartbeats 8000000 in
theorem parti_any (base : Nat) (A : Option Addr) (n c : Nat) (d : Array Nat) (a b : Nat) (w : World) (h : RowD w base A n c d) (hab : a < b) (h50 : b - a < 50) (hb : b ≤ n) (hn : n ≤ 1000) :
    Calls Tryz.prog 104 #[.slice A n c, .int .i64 (a : Int), .int .i64 (b : Int)] w fun e w' => e = .returned (.bool (decide (Go.Sort.scanSorted ltB d b (a + 1) = b))) ∧ PS base A n c w w' d := by
  obtain ⟨I, hI⟩ : ∃ I, Go.Sort.scanSorted ltB d b (a + 1) = I := ⟨_, rfl⟩
  rw [hI]
  obtain ⟨RR, hRR⟩ : ∃ RR, decide (I = b) = RR := ⟨_, rfl⟩
  rw [hRR]
  have HR := kept hRR
  have HSC := kept hI
  have HP := kept (PS.start h)
  obtain ⟨r, rfl⟩ := HP.out.ad (by omega)
  clear h hRR hI
  go_enter Tryz.func104, Tryz.ntmps104
  go_wp2_with fail
  go_loopw [7, 8] (fun i j wr => i = .int .i64 ((a : Int) + 1) ∧ j = .int .i64 0 ∧ Kept (PS base (some ⟨r, 0, none⟩) n c w wr d)) (fun _ _ _ => 0)
  case atStart => exact ⟨rfl, rfl, HP⟩
  case round =>
    clear HP
    obtain ⟨rfl, rfl, HP⟩ := hrel
    go_wp2_with fail
    go_loopw [7] (fun i wr => ∃ k : Nat, a + 1 ≤ k ∧ k ≤ b ∧ i = .int .i64 (k : Int) ∧ Kept (Go.Sort.scanSorted ltB d b k = I) ∧ Kept (PS base (some ⟨r, 0, none⟩) n c w wr d)) (fun i _ => b - (intOf i).toNat)
    case atStart => exact ⟨a + 1, by omega, by omega, by go_num, HSC, HP⟩
    case round =>
      clear HSC HP
      obtain ⟨k, hk1, hk2, rfl, HSC, HP⟩ := hrel
      obtain ⟨BB, hBB⟩ : ∃ BB, (decide (k < b) && !ltB d[k]! d[k - 1]!) = BB := ⟨_, rfl⟩
      have HBB := kept hBB
      clear hBB
      go_upto_region 5 with fail
      go_cut [32] (fun b wx => b = .bool BB ∧ Kept (PS base (some ⟨r, 0, none⟩) n c w wx d))
      case first => as_aux_lemma =>
        clear HSC HR
        by_cases hkj : k < b
        · have hki : (k : Int) < (b : Int) := by omega
          have hkd : decide ((k : Int) < (b : Int)) = true := decide_eq_true hki
          obtain ⟨c0, f0⟩ := HP.out.at (k := k) (by omega)
          obtain ⟨c1, f1⟩ := HP.out.at (k := k - 1) (by omega)
          have HB2 := HBB.out
          rw [decide_eq_true hkj, Bool.true_and] at HB2
          have CL := kept (fun W => less_any (d[k]!) (d[k - 1]!) (!BB) (by rw [← HB2, Bool.not_not]; rfl) W)
          clear HB2 HBB
          generalize d[k]! = vk at *
          generalize d[k - 1]! = va at *
          have hkn : (k : Int) < (n : Int) := by omega
          have hw1 : IntKind.i64.wrap ((k : Int) - 1) = ((k - 1 : Nat) : Int) := by rw [IntKind.wrap_i64]; omega
          have hb1 : (0 : Int) ≤ ((k - 1 : Nat) : Int) := by omega
          have hb2 : ((k - 1 : Nat) : Int) < (n : Int) := by omega
          go_quiet (first | (go_at_call 105; exact Calls.quiet_of_same (CL.out _)))
          go_wp2_with fail
          go_meet
          first | exact ⟨rfl, ⟨HP.out.drewN _⟩⟩ | exact ⟨by cases BB <;> rfl, ⟨HP.out.drewN _⟩⟩
        · have hki : ¬ (k : Int) < (b : Int) := by omega
          have hkd : decide ((k : Int) < (b : Int)) = false := decide_eq_false hki
          have HB2 : Kept (BB = false) := ⟨by rw [← HBB.out, decide_eq_false hkj, Bool.false_and]⟩
          clear HBB
          obtain rfl := HB2.out
          clear HB2
          go_big_quiet (fail)
          go_wp2_with fail
          go_meet
          exact ⟨rfl, ⟨HP.out.drewN _⟩⟩
      case rest =>
        clear HP
        obtain ⟨rfl, HP⟩ := hcut
        have HK : Kept (BB = true → k < b ∧ (!ltB d[k]! d[k - 1]!) = true) := ⟨fun h => by
          have h2 := HBB.out
          rw [h, Bool.and_eq_true] at h2
          exact ⟨of_decide_eq_true h2.1, h2.2⟩⟩
        have HK2 : Kept (BB = false → k < b → (!ltB d[k]! d[k - 1]!) = false) := ⟨fun h h3 => by
          have h2 := HBB.out
          rw [h, decide_eq_true h3, Bool.true_and] at h2
          exact h2⟩
        clear HBB
        cases BB with
        | true =>
          have hkj := (HK.out rfl).1
          have HSC2 : Kept (Go.Sort.scanSorted ltB d b (k + 1) = I) := ⟨by rw [← ss_step hkj (by simpa using (HK.out rfl).2)]; exact HSC.out⟩
          clear HK HK2 HSC
          go_wp2_with fail
          go_roundw
          case rel => exact ⟨k + 1, by omega, by omega, by go_num, HSC2, HP⟩
          case measure => simp [intOf]; omega
        | false =>
          have HE : Kept (I = k) := ⟨by rw [← HSC.out]; exact ss_stop (fun h => by simpa using HK2.out rfl h)⟩
          clear HK HK2 HSC
          obtain rfl := HE.out
          clear HE
          by_cases hend : I = b
          · have hei : (I : Int) = (b : Int) := by omega
            have hed : ((I : Int) == (b : Int)) = true := beq_iff_eq.2 hei
            have HRR : Kept (RR = true) := ⟨by rw [← HR.out]; exact decide_eq_true hend⟩
            clear HR
            obtain rfl := HRR.out
            subst hend
            go_wp2_with fail
            go_ret
            exact ⟨rfl, HP.out⟩
          · have hei : ¬ (I : Int) = (b : Int) := by omega
            have hed : ((I : Int) == (b : Int)) = false := beq_eq_false_iff_ne.2 hei
            have HRR : Kept (RR = false) := ⟨by rw [← HR.out]; exact decide_eq_false hend⟩
            clear HR
            obtain rfl := HRR.out
            have h50i : (b : Int) - (a : Int) < 50 := by omega
            go_wp2_with fail
            go_ret
            exact ⟨rfl, HP.out⟩
end Go.Proofs.YtfkfpanhbanljaaGreat.SortY
