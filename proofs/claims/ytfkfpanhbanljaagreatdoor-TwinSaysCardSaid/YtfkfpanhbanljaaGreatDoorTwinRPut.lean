/- Layer 47 (twin): the document's put and ahead. -/
import Derived.Test.YtfkfpanhbanljaaGreatDoorTwinRAl
import Derived.Test.YtfkfpanhbanljaaGreatDoorSet41
import Derived.BigQuiet
import Derived.Deep.DeepCutAuto
namespace Go.Proofs.YtfkfpanhbanljaaGreatDoor.Twin
open Go.RowKit Go.Proofs.YtfkfpanhbanljaaGreatDoor.Mem Go.Proofs.YtfkfpanhbanljaaGreatDoor.Card Go.Proofs.YtfkfpanhbanljaaGreatDoor.SortW

theorem filt_snoc {α : Type} (p : α → Bool) {l : List α} {k : Nat} {x : α} (hx : l[k]? = some x) : (l.take (k + 1)).filter p = (l.take k).filter p ++ if p x then [x] else [] := by
  obtain ⟨h1, h2⟩ := List.getElem?_eq_some_iff.1 hx
  rw [List.take_succ_eq_append_getElem h1, h2, List.filter_append]
  cases h : p x <;> simp [h]
theorem word_rd {w : World} {B : Nat} {A : Option Addr} {l : List Nat} : wordE.Rd w B A l ↔ Mem.Rd w B A (WB l) := by
  unfold Elem.Rd
  rw [wordE_cells]
set_option maxRecDepth 100000 in
set_option maxHeartbeats 4000000 in
theorem rput_any (A : Option Addr) (l : List Nat) (c : Nat) (n : Nat) (w : World) (hr : wordE.Rd w w.heap.size A l) (hsz : l.length ≤ 1000000) :
    Calls Tryz.prog 61 #[.slice A l.length c, .int .u64 (n : Int)] w (wordE.Gives 28 w (putN l n)) := by
  have HR := kept hr
  have HP : Kept (putN l n = (l.filter fun y => decide (y < n)) ++ [n] ++ l.filter fun y => decide (n < y)) := ⟨rfl⟩
  clear hr
  go_enter Tryz.func61, Tryz.ntmps61
  go_wp2_with fail
  go_loopw [5, 6] (fun t i wr => ∃ (j : Nat) (rs : List Nat) (A' : Option Addr) (c' : Nat), j ≤ l.length ∧ i = .int .i64 (j : Int) ∧ t = .slice A' rs.length c' ∧ Kept (rs = (l.take j).filter fun x => decide (x < n)) ∧ rs.length ≤ j ∧ Kept (wordE.Own wr w.heap.size 28 (.slice A' rs.length c') rs ∧ Below w.heap.size w wr)) (fun _ i _ => l.length - (intOf i).toNat)
  case atStart => exact ⟨0, [], none, 0, Nat.zero_le _, rfl, rfl, ⟨rfl⟩, Nat.zero_le _, ⟨Elem.Own.nilv _ _ _ _, Below.refl _ _⟩⟩
  case round =>
    obtain ⟨j, rs, A', c', hj, rfl, rfl, hrs, hrl, HO⟩ := hrel
    by_cases hlt : j < l.length
    · obtain ⟨x, hx⟩ : ∃ x, l[j]? = some x := ⟨_, List.getElem?_eq_getElem hlt⟩
      obtain ⟨b, o, rfl, hbb, hcs⟩ := (HR.out.below HO.out.2).at_ hx
      have c0 : wr.cell? ⟨b, o + j, none⟩ = some (.int .u64 (x : Int)) := by have := hcs 0 _ rfl; rw [show j * wordE.k + 0 = j from Nat.mul_one j] at this; exact this
      have hjn : (j : Int) < (l.length : Int) := by omega
      have HN := kept (filt_snoc (fun x => decide (x < n)) hx)
      rw [← hrs.out] at HN
      by_cases hp : x < n
      · have hp1 : (x : Int) < (n : Int) := by omega
        rw [decide_eq_true hp] at HN
        have hsw := HO.out.2.size
        have HBB := kept (HO.out.2.alloc hsw (.cells #[.int .u64 (x : Int)] 28))
        have hoB := HO.out.1.alloc (.cells #[.int .u64 (x : Int)] 28)
        have hrn : wordE.Rd (wr.alloc (.cells #[.int .u64 (x : Int)] 28)) (wr.heap.size + 1) (some ⟨wr.heap.size, 0, none⟩) [x] := Mem.Rd.new _ [.int .u64 (x : Int)] 28
        have hz : (rs.length + [x].length) * 8 ≤ 140737488355328 := by simp; omega
        have hbase : w.heap.size ≤ (wr.alloc (.cells #[.int .u64 (x : Int)] 28)).heap.size := by simp; omega
        clear hx hrs hcs HO
        go_wp2_with (at_builtin; refine wpl_appE _ wordE rfl (.tmp 20) (.tmp 25) 49 rfl w.heap.size 28 Tryz.underlying49 u64_info rfl _ rs rfl hoB _ _ _ _ [x] rfl rfl hrn hz (by decide) hbase ?_; intro A2 c2' w2 r2 hr2 hown2 hb2)
        have HO2 := kept (And.intro hown2 (HBB.out.trans hb2))
        have hl2 : r2.length = rs.length + 1 := by rw [hr2.out]; simp
        have HN2 : Kept (r2 = (l.take (j + 1)).filter fun x => decide (x < n)) := ⟨by rw [hr2.out, HN.out]; rfl⟩
        have hl3 : r2.length ≤ j + 1 := by omega
        clear hr2 hoB hrn HBB hb2 c0 hown2 hl2
        go_wp2_with fail
        go_roundw
        case rel => exact ⟨j + 1, r2, A2, c2', by omega, by go_num, rfl, HN2, hl3, HO2⟩
        case measure => simp [intOf]; omega
      · have hp1 : ¬ (x : Int) < (n : Int) := by omega
        rw [decide_eq_false hp] at HN
        have HN2 : Kept (rs = (l.take (j + 1)).filter fun x => decide (x < n)) := ⟨by rw [HN.out]; simp⟩
        clear hx hcs hrs
        go_wp2_with fail
        go_roundw
        case rel => exact ⟨j + 1, rs, A', c', by omega, by go_num, rfl, HN2, by omega, HO⟩
        case measure => simp [intOf]; omega
    · have hjn : ¬ (j : Int) < (l.length : Int) := by omega
      obtain rfl : j = l.length := by omega
      rw [List.take_length] at hrs
      have hsw := HO.out.2.size
      have HBB := kept (HO.out.2.alloc hsw (.cells #[.int .u64 (n : Int)] 28))
      have hoB := HO.out.1.alloc (.cells #[.int .u64 (n : Int)] 28)
      have hrn : wordE.Rd (wr.alloc (.cells #[.int .u64 (n : Int)] 28)) (wr.heap.size + 1) (some ⟨wr.heap.size, 0, none⟩) [n] := Mem.Rd.new _ [.int .u64 (n : Int)] 28
      have hz : (rs.length + [n].length) * 8 ≤ 140737488355328 := by simp; omega
      have hbase : w.heap.size ≤ (wr.alloc (.cells #[.int .u64 (n : Int)] 28)).heap.size := by simp; omega
      have HRS := hrs
      clear hrs HO
      go_wp2_with (at_builtin; refine wpl_appE _ wordE rfl (.tmp 27) (.tmp 29) 49 rfl w.heap.size 28 Tryz.underlying49 u64_info rfl _ rs rfl hoB _ _ _ _ [n] rfl rfl hrn hz (by decide) hbase ?_; intro A1 c1 w1 r1 hr1 hown1 hb1)
      have HO1 := kept (And.intro hown1 (HBB.out.trans hb1))
      have HR1 : Kept (r1 = (l.filter fun y => decide (y < n)) ++ [n]) := ⟨by rw [hr1.out, HRS.out]⟩
      have hl1 : r1.length ≤ l.length + 1 := by rw [hr1.out]; simp; omega
      clear hr1 hoB hrn HBB hb1 HRS hz hbase hown1
      go_wp2_with fail
      go_loopw [5, 7] (fun t i wr => ∃ (j : Nat) (rs : List Nat) (A' : Option Addr) (c' : Nat), j ≤ l.length ∧ i = .int .i64 (j : Int) ∧ t = .slice A' rs.length c' ∧ Kept (rs = r1 ++ (l.take j).filter fun x => decide (n < x)) ∧ rs.length ≤ l.length + 1 + j ∧ Kept (wordE.Own wr w.heap.size 28 (.slice A' rs.length c') rs ∧ Below w.heap.size w wr)) (fun _ i _ => l.length - (intOf i).toNat)
      case atStart => exact ⟨0, r1, A1, c1, Nat.zero_le _, rfl, rfl, ⟨by simp⟩, by omega, HO1⟩
      case round =>
        clear HO1 hsw
        obtain ⟨j, rs, A', c', hj, rfl, rfl, hrs, hrl, HO⟩ := hrel
        by_cases hlt : j < l.length
        · obtain ⟨x, hx⟩ : ∃ x, l[j]? = some x := ⟨_, List.getElem?_eq_getElem hlt⟩
          obtain ⟨b, o, rfl, hbb, hcs⟩ := (HR.out.below HO.out.2).at_ hx
          have c0 : wr.cell? ⟨b, o + j, none⟩ = some (.int .u64 (x : Int)) := by have := hcs 0 _ rfl; rw [show j * wordE.k + 0 = j from Nat.mul_one j] at this; exact this
          have hjn : (j : Int) < (l.length : Int) := by omega
          have HN := kept (filt_snoc (fun x => decide (n < x)) hx)
          by_cases hp : n < x
          · have hp1 : (n : Int) < (x : Int) := by omega
            have HN0 : Kept (rs ++ [x] = r1 ++ (l.take (j + 1)).filter fun x => decide (n < x)) := ⟨by rw [HN.out, hrs.out, decide_eq_true hp, List.append_assoc]; rfl⟩
            have hsw := HO.out.2.size
            have HBB := kept (HO.out.2.alloc hsw (.cells #[.int .u64 (x : Int)] 28))
            have hoB := HO.out.1.alloc (.cells #[.int .u64 (x : Int)] 28)
            have hrn : wordE.Rd (wr.alloc (.cells #[.int .u64 (x : Int)] 28)) (wr.heap.size + 1) (some ⟨wr.heap.size, 0, none⟩) [x] := Mem.Rd.new _ [.int .u64 (x : Int)] 28
            have hz : (rs.length + [x].length) * 8 ≤ 140737488355328 := by simp; omega
            have hbase : w.heap.size ≤ (wr.alloc (.cells #[.int .u64 (x : Int)] 28)).heap.size := by simp; omega
            clear hx hrs hcs HO HN
            go_wp2_with (at_builtin; refine wpl_appE _ wordE rfl (.tmp 43) (.tmp 48) 49 rfl w.heap.size 28 Tryz.underlying49 u64_info rfl _ rs rfl hoB _ _ _ _ [x] rfl rfl hrn hz (by decide) hbase ?_; intro A2 c2' w2 r2 hr2 hown2 hb2)
            have HO2 := kept (And.intro hown2 (HBB.out.trans hb2))
            have hl2 : r2.length = rs.length + 1 := by rw [hr2.out]; simp
            have HN2 : Kept (r2 = r1 ++ (l.take (j + 1)).filter fun x => decide (n < x)) := ⟨by rw [hr2.out, HN0.out]⟩
            have hl3 : r2.length ≤ l.length + 1 + (j + 1) := by omega
            clear hr2 hoB hrn HBB hb2 c0 hown2 hl2
            go_wp2_with fail
            go_roundw
            case rel => exact ⟨j + 1, r2, A2, c2', by omega, by go_num, rfl, HN2, hl3, HO2⟩
            case measure => simp [intOf]; omega
          · have hp1 : ¬ (n : Int) < (x : Int) := by omega
            have HN2 : Kept (rs = r1 ++ (l.take (j + 1)).filter fun x => decide (n < x)) := ⟨by rw [HN.out, hrs.out, decide_eq_false hp]; simp⟩
            clear hx hcs hrs HN
            go_wp2_with fail
            go_roundw
            case rel => exact ⟨j + 1, rs, A', c', by omega, by go_num, rfl, HN2, by omega, HO⟩
            case measure => simp [intOf]; omega
        · have hjn : ¬ (j : Int) < (l.length : Int) := by omega
          obtain rfl : j = l.length := by omega
          have HF : Kept (rs = putN l n) := ⟨by rw [hrs.out, List.take_length, HR1.out, HP.out]⟩
          have HG := kept (Elem.gives HF.out HO.out.1 HO.out.2)
          clear hrs HO
          go_wp2_with fail
          go_ret
          exact HG.out
theorem ahead_drop : ∀ (i : Nat) (a b : List Nat), (∀ j, j < i → a.getD j 0 = b.getD j 0) → i ≤ a.length → i ≤ b.length → aheadL a b = aheadL (a.drop i) (b.drop i)
  | 0, _, _, _, _, _ => rfl
  | i + 1, [], _, _, h, _ => by simp at h
  | i + 1, _ :: _, [], _, _, h => by simp at h
  | i + 1, x :: a, y :: b, he, ha, hb => by
    have h0 : x = y := he 0 (by omega)
    subst h0
    have ih := ahead_drop i a b (fun j hj => he (j + 1) (by omega)) (by simpa using ha) (by simpa using hb)
    rw [List.drop_succ_cons, List.drop_succ_cons, ← ih]
    show (if x = x then aheadL a b else decide (x < x)) = _
    rw [if_pos rfl]
theorem ahead_at {a b : List Nat} {i : Nat} (he : ∀ j, j < i → a.getD j 0 = b.getD j 0) (ha : i < a.length) (hb : i < b.length) (hne : a.getD i 0 ≠ b.getD i 0) : aheadL a b = decide (a.getD i 0 < b.getD i 0) := by
  rw [ahead_drop i a b he (by omega) (by omega), List.drop_eq_getElem_cons ha, List.drop_eq_getElem_cons hb]
  have e1 : a.getD i 0 = a[i] := by simp [List.getD, ha]
  have e2 : b.getD i 0 = b[i] := by simp [List.getD, hb]
  rw [e1, e2] at hne ⊢
  unfold aheadL
  rw [if_neg hne]
theorem ahead_end {a b : List Nat} (he : ∀ j, j < a.length → j < b.length → a.getD j 0 = b.getD j 0) : aheadL a b = decide (a.length < b.length) := by
  rcases Nat.lt_or_ge a.length b.length with h | h
  · rw [ahead_drop a.length a b (fun j hj => he j hj (by omega)) (Nat.le_refl _) (by omega), List.drop_length, decide_eq_true h]
    cases hd : b.drop a.length with
    | nil => have := congrArg List.length hd; simp at this; omega
    | cons y b2 => rfl
  · rw [ahead_drop b.length a b (fun j hj => he j (by omega) hj) h (Nat.le_refl _), List.drop_length, decide_eq_false (by omega)]
    cases hd : a.drop b.length with
    | nil => rfl
    | cons y a2 => rfl
set_option maxRecDepth 100000 in
set_option maxHeartbeats 4000000 in
theorem rahead_any (A B : Option Addr) (a b : List Nat) (ca cb : Nat) (w : World) (ha : Mem.Rd w w.heap.size A (WB a)) (hb : Mem.Rd w w.heap.size B (WB b)) (hla : a.length ≤ 1000000) (hlb : b.length ≤ 1000000) :
    Calls Tryz.prog 62 #[.slice A a.length ca, .slice B b.length cb] w fun e w' => e = .returned (.bool (aheadL a b)) ∧ Below w.heap.size w w' := by
  have HA := kept ha
  have HB := kept hb
  clear ha hb
  go_enter Tryz.func62, Tryz.ntmps62
  go_wp2_with fail
  go_loopw [5] (fun i wr => ∃ k : Nat, k ≤ a.length ∧ k ≤ b.length ∧ i = .int .i64 (k : Int) ∧ Kept (∀ j, j < k → a.getD j 0 = b.getD j 0) ∧ Kept (Below w.heap.size w wr)) (fun i _ => a.length - (intOf i).toNat)
  case atStart => exact ⟨0, Nat.zero_le _, Nat.zero_le _, rfl, ⟨fun j h => absurd h (Nat.not_lt_zero _)⟩, ⟨Below.refl _ _⟩⟩
  case round =>
    obtain ⟨k, hka, hkb, rfl, HE, HW⟩ := hrel
    by_cases h1 : k < a.length
    · have h1n : (k : Int) < (a.length : Int) := by omega
      by_cases h2 : k < b.length
      · have h2n : (k : Int) < (b.length : Int) := by omega
        obtain ⟨b1, o1, rfl, hb1, x0⟩ := HA.out.at_ (WB_get a k h1)
        obtain ⟨b2, o2, rfl, hb2, y0⟩ := HB.out.at_ (WB_get b k h2)
        have x0 := (HW.out.cell (p := ⟨b1, o1 + k, none⟩) hb1).trans x0
        have y0 := (HW.out.cell (p := ⟨b2, o2 + k, none⟩) hb2).trans y0
        have HC : Kept (∀ n, (wr.drewN n).cell? ⟨b1, o1 + k, none⟩ = some (.int .u64 ((a.getD k 0 : Nat) : Int)) ∧ (wr.drewN n).cell? ⟨b2, o2 + k, none⟩ = some (.int .u64 ((b.getD k 0 : Nat) : Int))) := ⟨fun n => ⟨x0, y0⟩⟩
        have HEN : Kept (a.getD k 0 = b.getD k 0 → ∀ j, j < k + 1 → a.getD j 0 = b.getD j 0) := ⟨fun h j hj => by
          rcases Nat.lt_succ_iff_lt_or_eq.1 hj with h3 | rfl
          · exact HE.out j h3
          · exact h⟩
        have HAT := kept (fun hne => ahead_at HE.out h1 h2 hne)
        generalize a.getD k 0 = x at *
        generalize b.getD k 0 = y at *
        by_cases hxy : x = y
        · subst hxy
          have HE2 := kept (HEN.out rfl)
          have e1 : ((x : Int) != (x : Int)) = false := by simp
          clear HEN HAT HE HC
          go_wp2_with fail
          go_quiet (fail)
          go_wp2_with fail
          go_roundw
          case rel => exact ⟨k + 1, by omega, by omega, by go_num, HE2, ⟨HW.out.trans ((below_draw _ wr nq).mono HW.out.size)⟩⟩
          case measure => simp [intOf]; omega
        · have e1 : ((x : Int) != (y : Int)) = true := by simp; omega
          have HR := kept (HAT.out hxy)
          obtain ⟨d, hd⟩ : ∃ d, decide (x < y) = d := ⟨_, rfl⟩
          have hdi : decide ((x : Int) < (y : Int)) = d := by rw [← hd, decide_eq_decide]; omega
          rw [hd] at HR
          clear HEN HAT HE hxy
          go_wp2_with fail
          go_quiet (fail)
          go_wp2_with fail
          obtain ⟨x1, y1⟩ := HC.out nq
          have HW1 : Kept (Below w.heap.size w (wr.drewN nq)) := ⟨HW.out.trans ((below_draw _ wr nq).mono HW.out.size)⟩
          have HC1 : Kept (∀ n, ((wr.drewN nq).drewN n).cell? ⟨b1, o1 + k, none⟩ = some (.int .u64 (x : Int)) ∧ ((wr.drewN nq).drewN n).cell? ⟨b2, o2 + k, none⟩ = some (.int .u64 (y : Int))) := ⟨fun n => ⟨x1, y1⟩⟩
          clear x0 y0 HC HW
          generalize wr.drewN nq = w1 at *
          go_quiet (fail)
          go_wp2_with fail
          go_ret
          rw [HR.out]
          exact ⟨rfl, HW1.out.trans ((below_draw _ w1 nq).mono HW1.out.size)⟩
      · have h2n : ¬ (k : Int) < (b.length : Int) := by omega
        have HR : Kept (aheadL a b = decide (a.length < b.length)) := ⟨ahead_end fun j h3 h4 => HE.out j (by omega)⟩
        have hd : decide (a.length < b.length) = false := decide_eq_false (by omega)
        have hdi : ¬ (a.length : Int) < (b.length : Int) := by omega
        rw [hd] at HR
        clear HE
        go_wp2_with fail
        go_ret
        rw [HR.out]
        exact ⟨rfl, HW.out⟩
    · obtain rfl : k = a.length := by omega
      have h1n : ¬ (a.length : Int) < (a.length : Int) := by omega
      have HR : Kept (aheadL a b = decide (a.length < b.length)) := ⟨ahead_end fun j h3 h4 => HE.out j h3⟩
      clear HE
      by_cases h2 : a.length < b.length
      · have hdi : (a.length : Int) < (b.length : Int) := by omega
        rw [decide_eq_true h2] at HR
        go_wp2_with fail
        go_ret
        rw [HR.out]
        exact ⟨rfl, HW.out⟩
      · have hdi : ¬ (a.length : Int) < (b.length : Int) := by omega
        rw [decide_eq_false h2] at HR
        go_wp2_with fail
        go_ret
        rw [HR.out]
        exact ⟨rfl, HW.out⟩
end Go.Proofs.YtfkfpanhbanljaaGreatDoor.Twin
