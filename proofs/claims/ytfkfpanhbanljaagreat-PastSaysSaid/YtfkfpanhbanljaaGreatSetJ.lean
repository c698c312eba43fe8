import Derived.Test.YtfkfpanhbanljaaGreatSetI
import Derived.BigQuiet
import Derived.Deep.DeepCutAuto
import Derived.BigRegion
/- Sorting bytes: plain words for the walks that follow: each loop's step and end, as the walk spells its tests. -/
namespace Go.Proofs.YtfkfpanhbanljaaGreat.SortY
open Go.RowKit Go.Proofs.YtfkfpanhbanljaaGreat.Mem

theorem swoB : Go.Sort.SWO ltB where
  irrefl x := by simp [ltB]
  trans x y z h1 h2 := by simp [ltB] at *; omega
  ntrans x y z h1 h2 := by simp [ltB] at *; omega
/-- a row holds d, and but for the row nothing that was there has turned -/
structure PS (base : Nat) (A : Option Addr) (n c : Nat) (w wr : World) (d : Array Nat) : Prop where
  row : RowD wr base A n c d
  upd : Upd (fun k => (Value.slice A n c).ownBlock = some k) w wr
section
variable {base : Nat} {A : Option Addr} {n c g : Nat} {w wr w1 w2 : World} {d d2 : Array Nat}
theorem PS.start (h : RowD w base A n c d) : PS base A n c w w d := ⟨h, Upd.refl _ _⟩
theorem PS.drew (h : PS base A n c w wr d) : PS base A n c w wr.drew d := ⟨h.row.drew, h.upd.drew⟩
theorem PS.drewN (h : PS base A n c w wr d) (q : Nat) : PS base A n c w (wr.drewN q) d := ⟨h.row.drewN q, h.upd.drewN q⟩
theorem PS.trans (h : PS base A n c w w1 d) (k : PS base A n c w1 w2 d2) : PS base A n c w w2 d2 := ⟨k.row, h.upd.trans k.upd⟩
theorem PS.ad (h : PS base A n c w wr d) (hn : 0 < n) : ∃ g, A = some ⟨g, 0, none⟩ := by
  obtain ⟨g, h1, -⟩ := h.row.spot hn
  exact ⟨g, h1⟩
theorem PS.at (h : PS base (some ⟨g, 0, none⟩) n c w wr d) {k : Nat} (hk : k < n) : wr.cell? ⟨g, k, none⟩ = some (.int .u8 ((d[k]! : Nat) : Int)) ∧ wr.frozen? ⟨g, k, none⟩ = false := by
  obtain ⟨g1, h1, -, h2, h3⟩ := h.row.spot hk
  obtain rfl : g = g1 := congrArg Addr.block (Option.some.inj h1)
  exact ⟨h2, h3⟩
theorem PS.swp (h : PS base (some ⟨g, 0, none⟩) n c w wr d) {i j : Nat} (hi : i < n) (hj : j < n) : PS base (some ⟨g, 0, none⟩) n c w ((wr.setCell ⟨g, i, none⟩ (.int .u8 ((d[j]! : Nat) : Int))).setCell ⟨g, j, none⟩ (.int .u8 ((d[i]! : Nat) : Int))) (Go.Sort.swp d i j) :=
  ⟨h.row.swp hi hj, (h.upd.setCell (p := ⟨g, i, none⟩) (.inl rfl) _).setCell (p := ⟨g, j, none⟩) (.inl rfl) _⟩
theorem PS.size (h : PS base A n c w wr d) : d.size = n := h.row.1
end
section
variable {d : Array Nat} {a b i j : Nat} {p : Nat → Bool}
theorem io_stop (h : ¬ i < b) : Go.Sort.insOuter ltB a b i d = d := by rw [Go.Sort.insOuter, if_neg h]
theorem io_step (h : i < b) : Go.Sort.insOuter ltB a b i d = Go.Sort.insOuter ltB a b (i + 1) (Go.Sort.insInner ltB a i d) := by rw [Go.Sort.insOuter, if_pos h]
theorem ii_stop (h : a < j → ltB d[j]! d[j - 1]! = false) : Go.Sort.insInner ltB a j d = d := by
  cases j with
  | zero => rfl
  | succ j =>
    have hc : ¬ ((decide (j + 1 > a) && ltB d[j + 1]! d[j]!) = true) := by
      rw [Bool.and_eq_true]
      rintro ⟨h1, h2⟩
      have h3 := h (of_decide_eq_true h1)
      rw [Nat.add_sub_cancel, h2] at h3
      cases h3
    rw [Go.Sort.insInner, if_neg hc]
theorem ii_step (h : a < j) (h2 : ltB d[j]! d[j - 1]! = true) : Go.Sort.insInner ltB a j d = Go.Sort.insInner ltB a (j - 1) (Go.Sort.swp d j (j - 1)) := by
  cases j with
  | zero => omega
  | succ j =>
    rw [Nat.add_sub_cancel] at h2 ⊢
    have hc : (decide (j + 1 > a) && ltB d[j + 1]! d[j]!) = true := by rw [h2, decide_eq_true (by omega)]; rfl
    rw [Go.Sort.insInner, if_pos hc]
theorem su_stop (h : i ≤ j → p d[i]! = false) : Go.Sort.scanUp p d j i = i := by
  have hc : ¬ ((decide (i ≤ j) && p d[i]!) = true) := by
    rw [Bool.and_eq_true]
    rintro ⟨h1, h2⟩
    rw [h (of_decide_eq_true h1)] at h2
    cases h2
  rw [Go.Sort.scanUp, if_neg hc]
theorem su_step (h : i ≤ j) (h2 : p d[i]! = true) : Go.Sort.scanUp p d j i = Go.Sort.scanUp p d j (i + 1) := by
  have hc : (decide (i ≤ j) && p d[i]!) = true := by rw [h2, decide_eq_true h]; rfl
  rw [Go.Sort.scanUp.eq_1, if_pos hc]
theorem sd_stop (h : i ≤ j → p d[j]! = false) : Go.Sort.scanDown p d i j = j := by
  cases j with
  | zero => rfl
  | succ j =>
    have hc : ¬ ((decide (i ≤ j + 1) && p d[j + 1]!) = true) := by
      rw [Bool.and_eq_true]
      rintro ⟨h1, h2⟩
      rw [h (of_decide_eq_true h1)] at h2
      cases h2
    rw [Go.Sort.scanDown, if_neg hc]
theorem sd_step (h0 : 1 ≤ i) (h : i ≤ j) (h2 : p d[j]! = true) : Go.Sort.scanDown p d i j = Go.Sort.scanDown p d i (j - 1) := by
  cases j with
  | zero => omega
  | succ j =>
    have hc : (decide (i ≤ j + 1) && p d[j + 1]!) = true := by rw [h2, decide_eq_true h]; rfl
    rw [Go.Sort.scanDown, if_pos hc, Nat.add_sub_cancel]
theorem ss_stop (h : i < b → ltB d[i]! d[i - 1]! = true) : Go.Sort.scanSorted ltB d b i = i := by
  have hc : ¬ ((decide (i < b) && !ltB d[i]! d[i - 1]!) = true) := by
    rw [Bool.and_eq_true]
    rintro ⟨h1, h2⟩
    rw [h (of_decide_eq_true h1)] at h2
    cases h2
  rw [Go.Sort.scanSorted, if_neg hc]
theorem ss_step (h : i < b) (h2 : ltB d[i]! d[i - 1]! = false) : Go.Sort.scanSorted ltB d b i = Go.Sort.scanSorted ltB d b (i + 1) := by
  have hc : (decide (i < b) && !ltB d[i]! d[i - 1]!) = true := by rw [h2, decide_eq_true h]; rfl
  rw [Go.Sort.scanSorted.eq_1, if_pos hc]
theorem partial_eq (h : b - a < 50) : Go.Sort.partialInsertionSort ltB d a b = (d, decide (Go.Sort.scanSorted ltB d b (a + 1) = b)) := by
  unfold Go.Sort.partialInsertionSort
  rw [Go.Sort.partialIns_succ]
  by_cases e : Go.Sort.scanSorted ltB d b (a + 1) = b
  · simp [e]
  · simp [e, h]
end
/-- partition, by its phases -/
theorem part_one {d d0 : Array Nat} {a b v i j : Nat} (h0 : Go.Sort.swp d a v = d0) (h1 : Go.Sort.scanUp (fun x => ltB x d0[a]!) d0 (b - 1) (a + 1) = i) (h2 : Go.Sort.scanDown (fun x => !ltB x d0[a]!) d0 i (b - 1) = j) (h : i > j) :
    Go.Sort.partition ltB d a b v = (j, true, Go.Sort.swp d0 j a) := by
  subst h0; subst h1; subst h2
  unfold Go.Sort.partition
  exact if_pos h
theorem part_two {d d0 : Array Nat} {a b v i j : Nat} (h0 : Go.Sort.swp d a v = d0) (h1 : Go.Sort.scanUp (fun x => ltB x d0[a]!) d0 (b - 1) (a + 1) = i) (h2 : Go.Sort.scanDown (fun x => !ltB x d0[a]!) d0 i (b - 1) = j) (h : ¬ i > j) :
    Go.Sort.partition ltB d a b v = ((Go.Sort.partLoop ltB a (i + 1) (j - 1) (Go.Sort.swp d0 i j)).1, false, Go.Sort.swp (Go.Sort.partLoop ltB a (i + 1) (j - 1) (Go.Sort.swp d0 i j)).2 (Go.Sort.partLoop ltB a (i + 1) (j - 1) (Go.Sort.swp d0 i j)).1 a) := by
  subst h0; subst h1; subst h2
  unfold Go.Sort.partition
  exact if_neg h
theorem partl_end {d : Array Nat} {a i j i2 j2 : Nat} (h1 : Go.Sort.scanUp (fun x => ltB x d[a]!) d j i = i2) (h2 : Go.Sort.scanDown (fun x => !ltB x d[a]!) d i2 j = j2) (h : i2 > j2) : Go.Sort.partLoop ltB a i j d = (j2, d) := by
  subst h1; subst h2
  rw [Go.Sort.partLoop_eq, if_pos h]
theorem partl_step {d : Array Nat} {a i j i2 j2 : Nat} (h1 : Go.Sort.scanUp (fun x => ltB x d[a]!) d j i = i2) (h2 : Go.Sort.scanDown (fun x => !ltB x d[a]!) d i2 j = j2) (h : ¬ i2 > j2) : Go.Sort.partLoop ltB a i j d = Go.Sort.partLoop ltB a (i2 + 1) (j2 - 1) (Go.Sort.swp d i2 j2) := by
  subst h1; subst h2
  rw [Go.Sort.partLoop_eq ltB a i j d, if_neg h]
theorem parte_end {d : Array Nat} {a i j i2 j2 : Nat} (h1 : Go.Sort.scanUp (fun x => !ltB d[a]! x) d j i = i2) (h2 : Go.Sort.scanDown (fun x => ltB d[a]! x) d i2 j = j2) (h : i2 > j2) : Go.Sort.partEqLoop ltB a i j d = (i2, d) := by
  subst h1; subst h2
  rw [Go.Sort.partEqLoop_eq, if_pos h]
theorem parte_step {d : Array Nat} {a i j i2 j2 : Nat} (h1 : Go.Sort.scanUp (fun x => !ltB d[a]! x) d j i = i2) (h2 : Go.Sort.scanDown (fun x => ltB d[a]! x) d i2 j = j2) (h : ¬ i2 > j2) : Go.Sort.partEqLoop ltB a i j d = Go.Sort.partEqLoop ltB a (i2 + 1) (j2 - 1) (Go.Sort.swp d i2 j2) := by
  subst h1; subst h2
  rw [Go.Sort.partEqLoop_eq ltB a i j d, if_neg h]
theorem scanUp_in {p : Nat → Bool} {d : Array Nat} {i j : Nat} (h : i ≤ j + 1) : i ≤ Go.Sort.scanUp p d j i ∧ Go.Sort.scanUp p d j i ≤ j + 1 :=
  ⟨(Go.Sort.scanUp_spec p d j _ i rfl).1, (Go.Sort.scanUp_spec p d j _ i rfl).2.1 h⟩
theorem scanDown_in {p : Nat → Bool} {d : Array Nat} {i j : Nat} (h : i ≤ j + 1) : Go.Sort.scanDown p d i j ≤ j ∧ i ≤ Go.Sort.scanDown p d i j + 1 :=
  ⟨(Go.Sort.scanDown_spec p d i j).1, (Go.Sort.scanDown_spec p d i j).2.1 h⟩
theorem scans_ne {d : Array Nat} {a i j i2 j2 : Nat} (h1 : Go.Sort.scanUp (fun x => ltB x d[a]!) d j i = i2) (h2 : Go.Sort.scanDown (fun x => !ltB x d[a]!) d i2 j = j2) (h0 : 1 ≤ i2) (hj : j2 ≤ j) (h : ¬ i2 > j2) : i2 < j2 := by
  have k1 := (Go.Sort.scanUp_spec (fun x => ltB x d[a]!) d j _ i rfl).2.2.2
  have k2 := (Go.Sort.scanDown_spec (fun x => !ltB x d[a]!) d i2 j).2.2.2
  rw [h1] at k1
  rw [h2] at k2
  have k3 := k1 (by omega)
  have k4 := k2 (by omega) (by omega)
  rcases Nat.lt_or_ge i2 j2 with h5 | h5
  · exact h5
  · obtain rfl : i2 = j2 := by omega
    simp [k3] at k4
theorem scanse_ne {d : Array Nat} {a i j i2 j2 : Nat} (h1 : Go.Sort.scanUp (fun x => !ltB d[a]! x) d j i = i2) (h2 : Go.Sort.scanDown (fun x => ltB d[a]! x) d i2 j = j2) (h0 : 1 ≤ i2) (hj : j2 ≤ j) (h : ¬ i2 > j2) : i2 < j2 := by
  have k1 := (Go.Sort.scanUp_spec (fun x => !ltB d[a]! x) d j _ i rfl).2.2.2
  have k2 := (Go.Sort.scanDown_spec (fun x => ltB d[a]! x) d i2 j).2.2.2
  rw [h1] at k1
  rw [h2] at k2
  have k3 := k1 (by omega)
  have k4 := k2 (by omega) (by omega)
  rcases Nat.lt_or_ge i2 j2 with h5 | h5
  · exact h5
  · obtain rfl : i2 = j2 := by omega
    simp [k4] at k3
end Go.Proofs.YtfkfpanhbanljaaGreat.SortY

/- Sorting bytes: insertion sort of a range. -/
namespace Go.Proofs.YtfkfpanhbanljaaGreat.SortY
open Go.RowKit Go.Proofs.YtfkfpanhbanljaaGreat.Mem

set_option maxRecDepth 100000 in
set_option maxHeartbeats 4000000 in
theorem insr_any (base : Nat) (A : Option Addr) (n c : Nat) (d : Array Nat) (a b : Nat) (w : World) (h : RowD w base A n c d) (hb : b ≤ n) (han : a ≤ n) (hn : n ≤ 1000) :
    Calls Tryz.prog 99 #[.slice A n c, .int .i64 (a : Int), .int .i64 (b : Int)] w fun e w' => e = .returned (.tuple #[]) ∧ PS base A n c w w' (Go.Sort.insertionSort ltB d a b) := by
  obtain ⟨T, hT⟩ : ∃ T, Go.Sort.insertionSort ltB d a b = T := ⟨_, rfl⟩
  rw [hT]
  have HT : Kept (Go.Sort.insOuter ltB a b (a + 1) d = T) := ⟨hT⟩
  have HP := kept (PS.start h)
  clear h hT
  go_enter Tryz.func99, Tryz.ntmps99
  go_wp2_with fail
  go_loopw [6] (fun i wr => ∃ (k : Nat) (d2 : Array Nat), a + 1 ≤ k ∧ k ≤ n + 1 ∧ i = .int .i64 (k : Int) ∧ Kept (Go.Sort.insOuter ltB a b k d2 = T) ∧ Kept (PS base A n c w wr d2)) (fun i _ => n + 1 - (intOf i).toNat)
  case atStart => exact ⟨a + 1, d, Nat.le_refl _, by omega, by go_num, HT, HP⟩
  case round =>
    clear HP HT
    obtain ⟨k, d2, hk1, hk2, rfl, HT, HP⟩ := hrel
    by_cases hlt : k < b
    · have hkb : (k : Int) < (b : Int) := by omega
      obtain ⟨r, rfl⟩ := HP.out.ad (by omega)
      obtain ⟨D, hD⟩ : ∃ D, Go.Sort.insInner ltB a k d2 = D := ⟨_, rfl⟩
      have HI : Kept (Go.Sort.insOuter ltB a b (k + 1) D = T) := ⟨by rw [← hD, ← io_step hlt]; exact HT.out⟩
      have HD := kept hD
      clear hD HT
      go_wp2_with fail
      go_loopw [7] (fun j wr2 => ∃ (m : Nat) (d3 : Array Nat), m ≤ k ∧ a ≤ m ∧ j = .int .i64 (m : Int) ∧ Kept (Go.Sort.insInner ltB a m d3 = D) ∧ Kept (PS base (some ⟨r, 0, none⟩) n c w wr2 d3)) (fun j _ => (intOf j).toNat)
      case atStart => exact ⟨k, d2, Nat.le_refl _, by omega, rfl, HD, HP⟩
      case round =>
        clear HP HD
        obtain ⟨m, d3, hm, ham, rfl, HD, HP⟩ := hrel
        by_cases hgt : a < m
        · have hgi : (a : Int) < (m : Int) := by omega
          have hgd : decide ((m : Int) > (a : Int)) = true := decide_eq_true hgi
          have hmn : (m : Int) < (n : Int) := by omega
          have hw1 : IntKind.i64.wrap ((m : Int) - 1) = ((m - 1 : Nat) : Int) := by rw [IntKind.wrap_i64]; omega
          have hb1 : (0 : Int) ≤ ((m - 1 : Nat) : Int) := by omega
          have hb2 : ((m - 1 : Nat) : Int) < (n : Int) := by omega
          obtain ⟨c0, f0⟩ := HP.out.at (k := m) (by omega)
          obtain ⟨c1, f1⟩ := HP.out.at (k := m - 1) (by omega)
          have HSW : Kept (∀ W : World, PS base (some ⟨r, 0, none⟩) n c w W d3 → PS base (some ⟨r, 0, none⟩) n c w ((W.setCell ⟨r, m, none⟩ (.int .u8 ((d3[m - 1]! : Nat) : Int))).setCell ⟨r, m - 1, none⟩ (.int .u8 ((d3[m]! : Nat) : Int))) (Go.Sort.swp d3 m (m - 1))) := ⟨fun W h => h.swp (by omega) (by omega)⟩
          have HST : Kept (ltB d3[m]! d3[m - 1]! = true → Go.Sort.insInner ltB a (m - 1) (Go.Sort.swp d3 m (m - 1)) = D) := ⟨fun h => by rw [← ii_step hgt h]; exact HD.out⟩
          have HEN : Kept (ltB d3[m]! d3[m - 1]! = false → d3 = D) := ⟨fun h => by rw [← HD.out]; exact (ii_stop fun _ => h).symm⟩
          clear HD
          generalize d3[m]! = vx at *
          generalize d3[m - 1]! = vy at *
          cases hq : ltB vx vy with
          | false =>
            have CL := kept (fun W => less_any vx vy false hq W)
            obtain rfl := HEN.out hq
            clear hq HST HEN HSW
            go_wp2_with fail
            go_quiet (first | (go_at_call 105; exact Calls.quiet_of_same (CL.out _)))
            go_wp2_with fail
            go_roundw
            case rel => exact ⟨k + 1, d3, by omega, by omega, by go_num, HI, ⟨HP.out.drewN _⟩⟩
            case measure => simp [intOf]; omega
          | true =>
            have CL := kept (fun W => less_any vx vy true hq W)
            have HST2 := kept (HST.out hq)
            clear hq HST HEN
            go_wp2_with fail
            go_quiet (first | (go_at_call 105; exact Calls.quiet_of_same (CL.out _)))
            go_upto_region 6 with fail
            have HPQ := kept (HP.out.drewN nq)
            have c0q : (wr.drewN nq).cell? ⟨r, m, none⟩ = some (.int .u8 (vx : Int)) := c0
            have c1q : (wr.drewN nq).cell? ⟨r, m - 1, none⟩ = some (.int .u8 (vy : Int)) := c1
            have f0q : (wr.drewN nq).frozen? ⟨r, m, none⟩ = false := f0
            have f1q : (wr.drewN nq).frozen? ⟨r, m - 1, none⟩ = false := f1
            clear c0 c1 f0 f1 HP
            generalize wr.drewN nq = wq at *
            have hne : ¬ m = m - 1 := by omega
            have hne2 : ¬ m - 1 = m := by omega
            have HF2 := kept (HSW.out wq.drew HPQ.out.drew)
            clear HSW HPQ
            go_region
            all_goals go_wp2_with fail
            all_goals go_roundw
            all_goals first | exact ⟨m - 1, Go.Sort.swp d3 m (m - 1), by omega, by omega, by go_num, HST2, HF2⟩ | (simp [intOf]; omega)
        · have hgi : ¬ (a : Int) < (m : Int) := by omega
          have hgd : decide ((m : Int) > (a : Int)) = false := decide_eq_false hgi
          have HE : Kept (d3 = D) := ⟨by rw [← HD.out]; exact (ii_stop fun h => absurd h hgt).symm⟩
          obtain rfl := HE.out
          clear HD HE
          go_wp2_with fail
          go_quiet (fail)
          go_wp2_with fail
          go_roundw
          case rel => exact ⟨k + 1, d3, by omega, by omega, by go_num, HI, ⟨HP.out.drewN _⟩⟩
          case measure => simp [intOf]; omega
    · have HF : Kept (d2 = T) := ⟨by rw [← HT.out]; exact (io_stop hlt).symm⟩
      have hge : ¬ (k : Int) < (b : Int) := by omega
      obtain rfl := HF.out
      clear HT HF
      go_wp2_with fail
      go_end0
      exact ⟨rfl, HP.out⟩
end Go.Proofs.YtfkfpanhbanljaaGreat.SortY

/- Sorting bytes: sifting down. -/
namespace Go.Proofs.YtfkfpanhbanljaaGreat.SortY
open Go.RowKit Go.Proofs.YtfkfpanhbanljaaGreat.Mem

/-- one round of siftDown -/
theorem sift_stop {d : Array Nat} {hi f p : Nat} (h : ¬ 2 * p + 1 < hi) : Go.Sort.siftDown ltB hi f p d = d := by rw [Go.Sort.siftDown.eq_1, dif_pos (by omega)]
/-- the child that is taken -/
def chN (d : Array Nat) (hi f p : Nat) : Nat := if 2 * p + 2 < hi ∧ ltB d[f + (2 * p + 1)]! d[f + (2 * p + 2)]! = true then 2 * p + 2 else 2 * p + 1
theorem sift_step {d : Array Nat} {hi f p : Nat} (h : 2 * p + 1 < hi) : Go.Sort.siftDown ltB hi f p d = if ltB d[f + p]! d[f + chN d hi f p]! = true then Go.Sort.siftDown ltB hi f (chN d hi f p) (Go.Sort.swp d (f + p) (f + chN d hi f p)) else d := by
  rw [Go.Sort.siftDown.eq_1, dif_neg (by omega)]
  unfold chN
  have e : f + (2 * p + 1) + 1 = f + (2 * p + 2) := by omega
  rw [e]
  by_cases h1 : 2 * p + 2 < hi ∧ ltB d[f + (2 * p + 1)]! d[f + (2 * p + 2)]! = true
  · rw [if_pos h1]
    have hb : (decide (2 * p + 1 + 1 < hi) && ltB d[f + (2 * p + 1)]! d[f + (2 * p + 2)]!) = true := by rw [h1.2, decide_eq_true (by omega)]; rfl
    rw [if_pos hb]
    cases ltB d[f + p]! d[f + (2 * p + 2)]! with
    | true => simp [h1.1]
    | false => simp
  · rw [if_neg h1]
    have hb : ¬ (decide (2 * p + 1 + 1 < hi) && ltB d[f + (2 * p + 1)]! d[f + (2 * p + 2)]!) = true := by
      intro hc
      rw [Bool.and_eq_true] at hc
      exact h1 ⟨of_decide_eq_true hc.1, hc.2⟩
    rw [if_neg hb]
    cases ltB d[f + p]! d[f + (2 * p + 1)]! with
    | true => simp
    | false => simp
theorem chN_or (d : Array Nat) (hi f p : Nat) : (chN d hi f p = 2 * p + 2 ∧ 2 * p + 2 < hi) ∨ chN d hi f p = 2 * p + 1 := by
  unfold chN
  split
  · rename_i h; exact .inl ⟨rfl, h.1⟩
  · exact .inr rfl
end Go.Proofs.YtfkfpanhbanljaaGreat.SortY

/- Sorting bytes: the walk of siftDown. (printed by tools/gensd.py) -/
namespace Go.Proofs.YtfkfpanhbanljaaGreat.SortY
open Go.RowKit Go.Proofs.YtfkfpanhbanljaaGreat.Mem

set_option maxRecDepth 100000 in
set_option maxHeartbeats 4000000 in
theorem sift_any (base : Nat) (A : Option Addr) (n c : Nat) (d : Array Nat) (lo hi f : Nat) (w : World) (h : RowD w base A n c d) (hf : f + hi ≤ n) (hlo : lo ≤ 1000) (hn : n ≤ 1000) :
    Calls Tryz.prog 110 #[.slice A n c, .int .i64 (lo : Int), .int .i64 (hi : Int), .int .i64 (f : Int)] w fun e w' => e = .returned (.tuple #[]) ∧ PS base A n c w w' (Go.Sort.siftDown ltB hi f lo d) := by
  obtain ⟨T, hT⟩ : ∃ T, Go.Sort.siftDown ltB hi f lo d = T := ⟨_, rfl⟩
  rw [hT]
  have HT := kept hT
  have HP := kept (PS.start h)
  clear h hT
  go_enter Tryz.func110, Tryz.ntmps110
  go_wp2_with fail
  go_loopw [8] (fun i wr => ∃ (p : Nat) (d2 : Array Nat), p ≤ 1000 ∧ i = .int .i64 (p : Int) ∧ Kept (Go.Sort.siftDown ltB hi f p d2 = T) ∧ Kept (PS base A n c w wr d2)) (fun i _ => 2002 - (intOf i).toNat)
  case atStart => exact ⟨lo, d, hlo, rfl, HT, HP⟩
  case round =>
    clear HP HT
    obtain ⟨p, d2, hp, rfl, HT, HP⟩ := hrel
    by_cases hch : 2 * p + 1 < hi
    · have hci : ¬ (2 * (p : Int) + 1) ≥ (hi : Int) := by omega
      have hci2 : ¬ (hi : Int) ≤ (2 * (p : Int) + 1) := by omega
      have n0 : f + p < n := by omega
      have n1 : f + (2 * p + 1) < n := by omega
      have x0 : IntKind.i64.wrap (2 * (p : Int) + 1 + 1) = 2 * (p : Int) + 1 + 1 := IntWalk.i64_in _ (by omega)
      obtain ⟨r, rfl⟩ := HP.out.ad (by omega)
      have HST : Kept (_ = T) := ⟨(sift_step (d := d2) (hi := hi) (f := f) (p := p) hch).symm.trans HT.out⟩
      clear HT
      by_cases h2 : 2 * p + 2 < hi
      · have n2 : f + (2 * p + 1 + 1) < n := by omega
        have n3 : f + (2 * p + 1) + 1 < n := by omega
        have h2i : 2 * (p : Int) + 1 + 1 < (hi : Int) := by omega
        have HR : Kept (ltB d2[f + (2 * p + 1)]! d2[f + (2 * p + 1) + 1]! = true → chN d2 hi f p = 2 * p + 2) := ⟨fun h => by unfold chN; exact if_pos ⟨h2, h⟩⟩
        have HL : Kept (ltB d2[f + (2 * p + 1)]! d2[f + (2 * p + 1) + 1]! = false → chN d2 hi f p = 2 * p + 1) := ⟨fun h => by unfold chN; exact if_neg (fun k => Bool.false_ne_true (h.symm.trans k.2))⟩
        obtain ⟨c1, f1⟩ := HP.out.at n1
        obtain ⟨c2, f2⟩ := HP.out.at n3
        obtain ⟨v1, hv1⟩ : ∃ v1, d2[f + (2 * p + 1)]! = v1 := ⟨_, rfl⟩
        obtain ⟨v2, hv2⟩ : ∃ v2, d2[f + (2 * p + 1) + 1]! = v2 := ⟨_, rfl⟩
        rw [hv1] at c1 HR HL
        rw [hv2] at c2 HR HL
        clear hv1 hv2
        cases hq1 : ltB v1 v2 with
        | true =>
          have CA := kept (fun W => less_any v1 v2 true hq1 W)
          have HCH := kept (HR.out hq1)
          clear HR HL hq1
          go_wp2_with fail
          go_big_quiet (first | (go_at_call 105; exact Calls.quiet_of_same (CA.out _)))
          go_upto_region 5 with fail
          revert nq
          intro nq1
          have HPQ := kept (HP.out.drewN nq1)
          clear c1 f1 c2 f2 HP CA
          generalize wr.drewN nq1 = wr2 at *
          have HP := HPQ
          clear HPQ
          have HST2 : Kept (ltB d2[f + p]! d2[f + (2 * p + 1 + 1)]! = true → Go.Sort.siftDown ltB hi f (2 * p + 2) (Go.Sort.swp d2 (f + p) (f + (2 * p + 1 + 1))) = T) := ⟨fun h => by
            have h0 := HST.out
            rw [HCH.out] at h0
            exact (if_pos h).symm.trans h0⟩
          have HEN2 : Kept (ltB d2[f + p]! d2[f + (2 * p + 1 + 1)]! = false → d2 = T) := ⟨fun h => by
            have h0 := HST.out
            rw [HCH.out] at h0
            exact (if_neg (by rw [h]; exact Bool.false_ne_true)).symm.trans h0⟩
          have HSW : Kept (∀ W : World, PS base (some ⟨r, 0, none⟩) n c w W d2 → PS base (some ⟨r, 0, none⟩) n c w ((W.setCell ⟨r, f + p, none⟩ (.int .u8 ((d2[f + (2 * p + 1 + 1)]! : Nat) : Int))).setCell ⟨r, f + (2 * p + 1 + 1), none⟩ (.int .u8 ((d2[f + p]! : Nat) : Int))) (Go.Sort.swp d2 (f + p) (f + (2 * p + 1 + 1)))) := ⟨fun W h => h.swp n0 n2⟩
          obtain ⟨c0, f0⟩ := HP.out.at n0
          obtain ⟨c2, f2⟩ := HP.out.at n2
          clear HST HCH
          generalize d2[f + p]! = v0 at *
          generalize d2[f + (2 * p + 1 + 1)]! = v2 at *
          cases hq : ltB v0 v2 with
          | false =>
            have CB := kept (fun W => less_any v0 v2 false hq W)
            obtain rfl := HEN2.out hq
            clear hq HST2 HEN2 HSW
            go_big_quiet (first | (go_at_call 105; exact Calls.quiet_of_same (CB.out _)))
            go_wp2_with fail
            exact bodyPost_ret (results_none rfl _ _ _) rfl ⟨rfl, HP.out.drewN _⟩
          | true =>
            have CB := kept (fun W => less_any v0 v2 true hq W)
            have HST3 := kept (HST2.out hq)
            clear hq HST2 HEN2
            go_big_quiet (first | (go_at_call 105; exact Calls.quiet_of_same (CB.out _)))
            go_upto_region 6 with fail
            revert nq
            intro nq2
            have HPQ := kept (HP.out.drewN nq2)
            have c0q : (wr2.drewN nq2).cell? ⟨r, f + p, none⟩ = some (.int .u8 (v0 : Int)) := c0
            have c1q : (wr2.drewN nq2).cell? ⟨r, f + (2 * p + 1 + 1), none⟩ = some (.int .u8 (v2 : Int)) := c2
            have f0q : (wr2.drewN nq2).frozen? ⟨r, f + p, none⟩ = false := f0
            have f1q : (wr2.drewN nq2).frozen? ⟨r, f + (2 * p + 1 + 1), none⟩ = false := f2
            clear c0 c2 f0 f2 HP
            generalize wr2.drewN nq2 = wq at *
            have hne : ¬ f + p = f + (2 * p + 1 + 1) := by omega
            have hne2 : ¬ f + (2 * p + 1 + 1) = f + p := by omega
            have HF2 := kept (HSW.out wq.drew HPQ.out.drew)
            clear HSW HPQ
            go_region
            all_goals go_wp2_with fail
            all_goals go_roundw
            all_goals first | exact ⟨2 * p + 2, Go.Sort.swp d2 (f + p) (f + (2 * p + 1 + 1)), by omega, by go_num, HST3, HF2⟩ | (simp [intOf]; omega)
        | false =>
          have CA := kept (fun W => less_any v1 v2 false hq1 W)
          have HCH := kept (HL.out hq1)
          clear HR HL hq1
          go_wp2_with fail
          go_big_quiet (first | (go_at_call 105; exact Calls.quiet_of_same (CA.out _)))
          go_upto_region 5 with fail
          revert nq
          intro nq1
          have HPQ := kept (HP.out.drewN nq1)
          clear c1 f1 c2 f2 HP CA
          generalize wr.drewN nq1 = wr2 at *
          have HP := HPQ
          clear HPQ
          have HST2 : Kept (ltB d2[f + p]! d2[f + (2 * p + 1)]! = true → Go.Sort.siftDown ltB hi f (2 * p + 1) (Go.Sort.swp d2 (f + p) (f + (2 * p + 1))) = T) := ⟨fun h => by
            have h0 := HST.out
            rw [HCH.out] at h0
            exact (if_pos h).symm.trans h0⟩
          have HEN2 : Kept (ltB d2[f + p]! d2[f + (2 * p + 1)]! = false → d2 = T) := ⟨fun h => by
            have h0 := HST.out
            rw [HCH.out] at h0
            exact (if_neg (by rw [h]; exact Bool.false_ne_true)).symm.trans h0⟩
          have HSW : Kept (∀ W : World, PS base (some ⟨r, 0, none⟩) n c w W d2 → PS base (some ⟨r, 0, none⟩) n c w ((W.setCell ⟨r, f + p, none⟩ (.int .u8 ((d2[f + (2 * p + 1)]! : Nat) : Int))).setCell ⟨r, f + (2 * p + 1), none⟩ (.int .u8 ((d2[f + p]! : Nat) : Int))) (Go.Sort.swp d2 (f + p) (f + (2 * p + 1)))) := ⟨fun W h => h.swp n0 n1⟩
          obtain ⟨c0, f0⟩ := HP.out.at n0
          obtain ⟨c1, f1⟩ := HP.out.at n1
          clear HST HCH
          generalize d2[f + p]! = v0 at *
          generalize d2[f + (2 * p + 1)]! = v1 at *
          cases hq : ltB v0 v1 with
          | false =>
            have CB := kept (fun W => less_any v0 v1 false hq W)
            obtain rfl := HEN2.out hq
            clear hq HST2 HEN2 HSW
            go_big_quiet (first | (go_at_call 105; exact Calls.quiet_of_same (CB.out _)))
            go_wp2_with fail
            exact bodyPost_ret (results_none rfl _ _ _) rfl ⟨rfl, HP.out.drewN _⟩
          | true =>
            have CB := kept (fun W => less_any v0 v1 true hq W)
            have HST3 := kept (HST2.out hq)
            clear hq HST2 HEN2
            go_big_quiet (first | (go_at_call 105; exact Calls.quiet_of_same (CB.out _)))
            go_upto_region 6 with fail
            revert nq
            intro nq2
            have HPQ := kept (HP.out.drewN nq2)
            have c0q : (wr2.drewN nq2).cell? ⟨r, f + p, none⟩ = some (.int .u8 (v0 : Int)) := c0
            have c1q : (wr2.drewN nq2).cell? ⟨r, f + (2 * p + 1), none⟩ = some (.int .u8 (v1 : Int)) := c1
            have f0q : (wr2.drewN nq2).frozen? ⟨r, f + p, none⟩ = false := f0
            have f1q : (wr2.drewN nq2).frozen? ⟨r, f + (2 * p + 1), none⟩ = false := f1
            clear c0 c1 f0 f1 HP
            generalize wr2.drewN nq2 = wq at *
            have hne : ¬ f + p = f + (2 * p + 1) := by omega
            have hne2 : ¬ f + (2 * p + 1) = f + p := by omega
            have HF2 := kept (HSW.out wq.drew HPQ.out.drew)
            clear HSW HPQ
            go_region
            all_goals go_wp2_with fail
            all_goals go_roundw
            all_goals first | exact ⟨2 * p + 1, Go.Sort.swp d2 (f + p) (f + (2 * p + 1)), by omega, by go_num, HST3, HF2⟩ | (simp [intOf]; omega)
      · have h2i : ¬ 2 * (p : Int) + 1 + 1 < (hi : Int) := by omega
        have h2d : decide (2 * (p : Int) + 1 + 1 < (hi : Int)) = false := decide_eq_false h2i
        have HCH : Kept (chN d2 hi f p = 2 * p + 1) := ⟨by unfold chN; exact if_neg (fun k => h2 k.1)⟩
        go_wp2_with fail
        go_big_quiet (fail)
        go_upto_region 5 with fail
        revert nq
        intro nq1
        have HPQ := kept (HP.out.drewN nq1)
        clear HP
        generalize wr.drewN nq1 = wr2 at *
        have HP := HPQ
        clear HPQ
        have HST2 : Kept (ltB d2[f + p]! d2[f + (2 * p + 1)]! = true → Go.Sort.siftDown ltB hi f (2 * p + 1) (Go.Sort.swp d2 (f + p) (f + (2 * p + 1))) = T) := ⟨fun h => by
          have h0 := HST.out
          rw [HCH.out] at h0
          exact (if_pos h).symm.trans h0⟩
        have HEN2 : Kept (ltB d2[f + p]! d2[f + (2 * p + 1)]! = false → d2 = T) := ⟨fun h => by
          have h0 := HST.out
          rw [HCH.out] at h0
          exact (if_neg (by rw [h]; exact Bool.false_ne_true)).symm.trans h0⟩
        have HSW : Kept (∀ W : World, PS base (some ⟨r, 0, none⟩) n c w W d2 → PS base (some ⟨r, 0, none⟩) n c w ((W.setCell ⟨r, f + p, none⟩ (.int .u8 ((d2[f + (2 * p + 1)]! : Nat) : Int))).setCell ⟨r, f + (2 * p + 1), none⟩ (.int .u8 ((d2[f + p]! : Nat) : Int))) (Go.Sort.swp d2 (f + p) (f + (2 * p + 1)))) := ⟨fun W h => h.swp n0 n1⟩
        obtain ⟨c0, f0⟩ := HP.out.at n0
        obtain ⟨c1, f1⟩ := HP.out.at n1
        clear HST HCH
        generalize d2[f + p]! = v0 at *
        generalize d2[f + (2 * p + 1)]! = v1 at *
        cases hq : ltB v0 v1 with
        | false =>
          have CB := kept (fun W => less_any v0 v1 false hq W)
          obtain rfl := HEN2.out hq
          clear hq HST2 HEN2 HSW
          go_big_quiet (first | (go_at_call 105; exact Calls.quiet_of_same (CB.out _)))
          go_wp2_with fail
          exact bodyPost_ret (results_none rfl _ _ _) rfl ⟨rfl, HP.out.drewN _⟩
        | true =>
          have CB := kept (fun W => less_any v0 v1 true hq W)
          have HST3 := kept (HST2.out hq)
          clear hq HST2 HEN2
          go_big_quiet (first | (go_at_call 105; exact Calls.quiet_of_same (CB.out _)))
          go_upto_region 6 with fail
          revert nq
          intro nq2
          have HPQ := kept (HP.out.drewN nq2)
          have c0q : (wr2.drewN nq2).cell? ⟨r, f + p, none⟩ = some (.int .u8 (v0 : Int)) := c0
          have c1q : (wr2.drewN nq2).cell? ⟨r, f + (2 * p + 1), none⟩ = some (.int .u8 (v1 : Int)) := c1
          have f0q : (wr2.drewN nq2).frozen? ⟨r, f + p, none⟩ = false := f0
          have f1q : (wr2.drewN nq2).frozen? ⟨r, f + (2 * p + 1), none⟩ = false := f1
          clear c0 c1 f0 f1 HP
          generalize wr2.drewN nq2 = wq at *
          have hne : ¬ f + p = f + (2 * p + 1) := by omega
          have hne2 : ¬ f + (2 * p + 1) = f + p := by omega
          have HF2 := kept (HSW.out wq.drew HPQ.out.drew)
          clear HSW HPQ
          go_region
          all_goals go_wp2_with fail
          all_goals go_roundw
          all_goals first | exact ⟨2 * p + 1, Go.Sort.swp d2 (f + p) (f + (2 * p + 1)), by omega, by go_num, HST3, HF2⟩ | (simp [intOf]; omega)
    · have hci : (2 * (p : Int) + 1) ≥ (hi : Int) := by omega
      have HF : Kept (d2 = T) := ⟨by rw [← HT.out, sift_stop hch]⟩
      obtain rfl := HF.out
      go_wp2_with fail
      go_end0
      exact ⟨rfl, HP.out⟩
end Go.Proofs.YtfkfpanhbanljaaGreat.SortY

/- Sorting bytes: heapSort. (printed by tools/genpdt.py) -/
namespace Go.Proofs.YtfkfpanhbanljaaGreat.SortY
open Go.RowKit Go.Proofs.YtfkfpanhbanljaaGreat.Mem

set_option maxRecDepth 100000 in
set_option maxHeartbeats 8000000 in
theorem heap_any (base : Nat) (A : Option Addr) (n c : Nat) (d : Array Nat) (a b : Nat) (w : World) (h : RowD w base A n c d) (hab : a < b) (hb : b ≤ n) (hn : n ≤ 1000) :
    Calls Tryz.prog 100 #[.slice A n c, .int .i64 (a : Int), .int .i64 (b : Int)] w fun e w' => e = .returned (.tuple #[]) ∧ PS base A n c w w' (Go.Sort.heapSort ltB d a b) := by
  obtain ⟨m, hm⟩ : ∃ m, b - a = m := ⟨_, rfl⟩
  obtain ⟨k, hk⟩ : ∃ k, m = k + 1 := ⟨m - 1, by omega⟩
  obtain ⟨T, hT⟩ : ∃ T, Go.Sort.heapSort ltB d a b = T := ⟨_, rfl⟩
  obtain ⟨D1, hD1⟩ : ∃ D1, Go.Sort.heapBuild ltB m a (k / 2 + 1) d = D1 := ⟨_, rfl⟩
  have HB := kept hD1
  have HT : Kept (Go.Sort.heapPop ltB a m D1 = T) := ⟨by
    rw [← hT, ← hD1]
    unfold Go.Sort.heapSort
    rw [hm, hk, Nat.add_sub_cancel]⟩
  rw [hT]
  have HP := kept (PS.start h)
  obtain ⟨r, rfl⟩ := HP.out.ad (by omega)
  clear h hD1 hT
  have hbm : (b : Int) - (a : Int) = (m : Int) := by omega
  have hmk : (m : Int) - 1 = (k : Int) := by omega
  have hw1 : IntKind.i64.wrap ((b : Int) - (a : Int)) = (m : Int) := by rw [IntKind.wrap_i64]; omega
  have hw2 : IntKind.i64.wrap ((m : Int) - 1) = (k : Int) := by rw [IntKind.wrap_i64]; omega
  have hkm : k < m := by omega
  have hkn : k < 1000 := by omega
  clear hk hm
  go_enter Tryz.func100, Tryz.ntmps100
  go_wp2_with fail
  go_loopw [9] (fun i wr => ∃ (q : Nat) (z : Int) (d2 : Array Nat), q ≤ m ∧ z = (q : Int) - 1 ∧ i = .int .i64 z ∧ Kept (Go.Sort.heapBuild ltB m a q d2 = D1) ∧ Kept (PS base (some ⟨r, 0, none⟩) n c w wr d2)) (fun i _ => (intOf i + 1).toNat)
  case atStart => exact ⟨k / 2 + 1, (k : Int) / 2, d, by omega, by omega, rfl, HB, HP⟩
  case round =>
    clear HB HP
    obtain ⟨q, z, d2, hq, hz, rfl, HB, HP⟩ := hrel
    rcases q with _ | p
    · have hzn : ¬ (0 : Int) ≤ z := by omega
      clear hz
      have HD : Kept (d2 = D1) := HB
      obtain rfl := HD.out
      clear HB HD
      go_wp2_with fail
      go_loopw [10] (fun i wr => ∃ (q : Nat) (z : Int) (d2 : Array Nat), q ≤ m ∧ z = (q : Int) - 1 ∧ i = .int .i64 z ∧ Kept (Go.Sort.heapPop ltB a q d2 = T) ∧ Kept (PS base (some ⟨r, 0, none⟩) n c w wr d2)) (fun i _ => (intOf i + 1).toNat)
      case atStart => exact ⟨m, (k : Int), d2, by omega, by omega, rfl, HT, HP⟩
      case round =>
        clear HT HP
        obtain ⟨q, z, d2, hq, hz, rfl, HH, HP⟩ := hrel
        have hin1 : a < n := by omega
        rcases q with _ | p
        · have hzn : ¬ (0 : Int) ≤ z := by omega
          clear hz
          have HD : Kept (d2 = T) := HH
          obtain rfl := HD.out
          clear HH HD
          go_wp2_with fail
          go_end0
          exact ⟨rfl, HP.out⟩
        · obtain rfl : z = (p : Int) := by omega
          have hz0 : (0 : Int) ≤ (p : Int) := by omega
          rcases Nat.eq_zero_or_pos p with rfl | hpos
          · obtain ⟨c0, f0⟩ := HP.out.at hin1
            obtain ⟨dE, hdE⟩ : ∃ dE, Go.Sort.swp d2 a a = dE := ⟨_, rfl⟩
            have HSW : Kept (PS base (some ⟨r, 0, none⟩) n c w ((wr.drew.setCell ⟨r, a, none⟩ (.int .u8 ((d2[a]! : Nat) : Int))).setCell ⟨r, a, none⟩ (.int .u8 ((d2[a]! : Nat) : Int))) dE) := ⟨by rw [← hdE]; exact HP.out.drew.swp hin1 hin1⟩
            have HH2 : Kept (Go.Sort.siftDown ltB 0 a 0 dE = T) := ⟨by rw [← hdE]; exact HH.out⟩
            clear hdE HH HP
            generalize d2[a]! = v0 at *
            go_wp2_with fail
            go_region
            all_goals go_wp2_with fail
            all_goals (refine (sift_any base (some ⟨r, 0, none⟩) n c dE 0 0 a _ HSW.out.row (by omega) (by omega) hn).mono ?_)
            all_goals (rintro e w3 ⟨rfl, hp3⟩)
            all_goals (rw [HH2.out] at hp3)
            all_goals (have HP3 := kept (HSW.out.trans hp3))
            all_goals go_wp2_with fail
            all_goals go_roundw
            all_goals first | exact ⟨0, _, T, by omega, by omega, rfl, ⟨rfl⟩, HP3⟩ | (simp [intOf])
          · have hin2 : a + p < n := by omega
            obtain ⟨c0, f0⟩ := HP.out.at hin1
            obtain ⟨c1, f1⟩ := HP.out.at hin2
            have hne : ¬ a = a + p := by omega
            have hne2 : ¬ a + p = a := by omega
            obtain ⟨dE, hdE⟩ : ∃ dE, Go.Sort.swp d2 a (a + p) = dE := ⟨_, rfl⟩
            have HSW : Kept (PS base (some ⟨r, 0, none⟩) n c w ((wr.drew.setCell ⟨r, a, none⟩ (.int .u8 ((d2[a + p]! : Nat) : Int))).setCell ⟨r, a + p, none⟩ (.int .u8 ((d2[a]! : Nat) : Int))) dE) := ⟨by rw [← hdE]; exact HP.out.drew.swp hin1 hin2⟩
            obtain ⟨dG, hdG⟩ : ∃ dG, Go.Sort.siftDown ltB p a 0 dE = dG := ⟨_, rfl⟩
            have HH2 : Kept (Go.Sort.heapPop ltB a p dG = T) := ⟨by rw [← hdG, ← hdE]; exact HH.out⟩
            have HDG := kept hdG
            have hyl : p + 1 ≤ m := hq
            clear hdE HH HP hdG hz hq
            generalize d2[a]! = v0 at *
            generalize d2[a + p]! = v1 at *
            go_wp2_with fail
            go_region
            all_goals go_wp2_with fail
            all_goals (refine (sift_any base (some ⟨r, 0, none⟩) n c dE 0 p a _ HSW.out.row (by omega) (by omega) hn).mono ?_)
            all_goals (rintro e w3 ⟨rfl, hp3⟩)
            all_goals (rw [HDG.out] at hp3)
            all_goals (have HP3 := kept (HSW.out.trans hp3))
            all_goals go_wp2_with fail
            all_goals go_roundw
            all_goals first | exact ⟨p, _, dG, by omega, by omega, rfl, HH2, HP3⟩ | (simp [intOf]; done) | (simp [intOf]; omega)
    · obtain rfl : z = (p : Int) := by omega
      have hz0 : (0 : Int) ≤ (p : Int) := by omega
      obtain ⟨dG, hdG⟩ : ∃ dG, Go.Sort.siftDown ltB m a p d2 = dG := ⟨_, rfl⟩
      have HB2 : Kept (Go.Sort.heapBuild ltB m a p dG = D1) := ⟨by rw [← hdG]; exact HB.out⟩
      have C := kept (sift_any base (some ⟨r, 0, none⟩) n c d2 p m a _ HP.out.row (by omega) (by omega) hn)
      rw [hdG] at C
      clear hdG HB hz
      go_wp2_with fail
      refine C.out.mono ?_
      rintro e w3 ⟨rfl, hp3⟩
      have HP3 := kept (HP.out.trans hp3)
      clear hp3 HP C
      go_wp2_with fail
      go_roundw
      case rel => exact ⟨p, (p : Int) - 1, dG, by omega, by omega, rfl, HB2, HP3⟩
      case measure => simp only [intOf]; omega
end Go.Proofs.YtfkfpanhbanljaaGreat.SortY
