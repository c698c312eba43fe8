/- The walks of layer 40, continued: Join, Meet, Minus, Same, of the package and of its reference. -/
import Derived.Test.YtpckfnafcmifpaaMaskEach
namespace Go.Proofs.Ytpckfnafcmifpaa.Mask
open Go.RowKit Go.Proofs.Ytpckfnafcmifpaa.Mem

set_option maxHeartbeats 400000 in
theorem rsetJ_any (A A' : Option Addr) (n m c c' : Nat) (a b : List Nat) (w : World) (hn : n = a.length) (hm : m = b.length) (ha : AllW a) (hb : AllW b) (h1 : Rd w w.heap.size A (WB a)) (h2 : Rd w w.heap.size A' (WB b)) (hsz : a.length ≤ 17592186044416) (hsz2 : b.length ≤ 17592186044416) :
    Calls Try.prog 40 #[.slice A n c, .slice A' m c', .int .i64 0] w (GivesW w (trim (zipW (· ||| ·) a b))) := by
  have HW1 := Lib.hid (fun (W : World) (hB : Below w.heap.size w W) (i : Nat) => rword_any A n c a i W hn ((h1.below hB).more hB.size))
  have HW2 := Lib.hid (fun (W : World) (hB : Below w.heap.size w W) (i : Nat) => rword_any A' m c' b i W hm ((h2.below hB).more hB.size))
  have HA := Lib.hid (fun k => wordN_lt ha k)
  have HB := Lib.hid (fun k => wordN_lt hb k)
  have HT := Lib.hid (fun k hk => zip_take (· ||| ·) a b k hk)
  have HZL := Lib.hid (zipW_length (· ||| ·) a b)
  rw [← hn, ← hm] at HZL HT
  have hnm : n ≤ 17592186044416 ∧ m ≤ 17592186044416 := by omega
  obtain ⟨hnl, hml⟩ := hnm
  generalize zipW (· ||| ·) a b = z at *
  clear hn hm ha hb h1 h2 hsz hsz2
  by_cases hcmp : n < m
  · rw [Nat.max_eq_right (Nat.le_of_lt hcmp)] at HZL HT
    go_enter Try.func40, Try.ntmps40
    go_wp2
    go_loopw [8, 9] (fun v i wr => ∃ (k : Nat) (D : Option Addr) (cc : Nat) (r : List Nat), k ≤ m ∧ i = .int .i64 (k : Int) ∧ v = .slice D r.length cc ∧ Hid (r = z.take k) ∧ Own wr w.heap.size 32 (.slice D r.length cc) (WB r) ∧ Below w.heap.size w wr) (fun _ i _ => m - (intOf i).toNat)
    case atStart => exact ⟨0, none, 0, [], Nat.zero_le _, rfl, rfl, rfl, Own.nilv _ _ _, Below.refl _ _⟩
    case round =>
      obtain ⟨k, D, cc, r, hk, rfl, rfl, hr, hown, hbl⟩ := hrel
      have hrl : r.length ≤ k := by rw [hr.out, List.length_take]; omega
      have hsw := hbl.size
      by_cases hlt : k < m
      · have hx := HA.out k
        have hy := HB.out k
        have C1 := Lib.hid (HW1.out wr hbl k)
        have C2 := Lib.hid (HW2.out wr hbl k)
        have hT : z.take (k + 1) = z.take k ++ [wordN a k ||| wordN b k] := HT.out k hlt
        rw [← hr.out] at hT
        generalize wordN a k = x at *
        generalize wordN b k = y at *
        have hop := u64_or_nat x y hx hy
        have HR := Lib.hid hT
        clear hT hr
        obtain ⟨v, hv⟩ : ∃ v : Nat, v = x ||| y := ⟨_, rfl⟩
        rw [← hv] at hop HR
        clear hv
        have hz4 : r.length + [v].length ≤ 17592186044416 := by simp; omega
        go_wp2_with fail
        refine C1.out.mono ?_
        rintro e w' ⟨rfl, rfl⟩
        go_wp2_with fail
        refine C2.out.mono ?_
        rintro e w' ⟨rfl, rfl⟩
        go_wp2_with (at_builtin; refine wpl_appW rfl (.tmp 47) (.tmp 49) rfl w.heap.size _ r rfl (hown.alloc _) _ _ _ _ [v] rfl rfl (rd_oneW _ v) hz4 (by (simp; omega)) ?_; intro A4 c4 w4 r4 hr4 hown4 hg4 hb4)
        go_roundw
        case rel => exact ⟨k + 1, A4, c4, r4, by omega, by go_num, rfl, (by show r4 = _; rw [hr4.out, HR.out]), hown4, (hbl.alloc hsw _).trans hb4⟩
        case measure => simp [intOf]; omega
      · have hz : r = z := by rw [hr.out]; exact List.take_of_length_le (by rw [HZL.out]; omega)
        subst hz
        have hle : r.length ≤ cc := by
          obtain ⟨_, _, he, hle, _⟩ := hown.form
          rw [WB_length] at hle
          injection he with _ _ h3
          omega
        have HO := Lib.hid (rorder_any D r.length cc r wr rfl hown.rd hle (by omega))
        go_wp2_with fail
        refine HO.out.mono ?_
        rintro e w1 ⟨A1, c1, rfl, hown1, hc1, hb1⟩
        go_wp2
        go_ret
        exact ⟨A1, c1, rfl, hown1.mono hsw, hc1, hbl.trans (hb1.mono hsw)⟩
  · rw [Nat.max_eq_left (Nat.not_lt.1 hcmp)] at HZL HT
    go_enter Try.func40, Try.ntmps40
    go_wp2
    go_loopw [8, 9] (fun v i wr => ∃ (k : Nat) (D : Option Addr) (cc : Nat) (r : List Nat), k ≤ n ∧ i = .int .i64 (k : Int) ∧ v = .slice D r.length cc ∧ Hid (r = z.take k) ∧ Own wr w.heap.size 32 (.slice D r.length cc) (WB r) ∧ Below w.heap.size w wr) (fun _ i _ => n - (intOf i).toNat)
    case atStart => exact ⟨0, none, 0, [], Nat.zero_le _, rfl, rfl, rfl, Own.nilv _ _ _, Below.refl _ _⟩
    case round =>
      obtain ⟨k, D, cc, r, hk, rfl, rfl, hr, hown, hbl⟩ := hrel
      have hrl : r.length ≤ k := by rw [hr.out, List.length_take]; omega
      have hsw := hbl.size
      by_cases hlt : k < n
      · have hx := HA.out k
        have hy := HB.out k
        have C1 := Lib.hid (HW1.out wr hbl k)
        have C2 := Lib.hid (HW2.out wr hbl k)
        have hT : z.take (k + 1) = z.take k ++ [wordN a k ||| wordN b k] := HT.out k hlt
        rw [← hr.out] at hT
        generalize wordN a k = x at *
        generalize wordN b k = y at *
        have hop := u64_or_nat x y hx hy
        have HR := Lib.hid hT
        clear hT hr
        obtain ⟨v, hv⟩ : ∃ v : Nat, v = x ||| y := ⟨_, rfl⟩
        rw [← hv] at hop HR
        clear hv
        have hz4 : r.length + [v].length ≤ 17592186044416 := by simp; omega
        go_wp2_with fail
        refine C1.out.mono ?_
        rintro e w' ⟨rfl, rfl⟩
        go_wp2_with fail
        refine C2.out.mono ?_
        rintro e w' ⟨rfl, rfl⟩
        go_wp2_with (at_builtin; refine wpl_appW rfl (.tmp 47) (.tmp 49) rfl w.heap.size _ r rfl (hown.alloc _) _ _ _ _ [v] rfl rfl (rd_oneW _ v) hz4 (by (simp; omega)) ?_; intro A4 c4 w4 r4 hr4 hown4 hg4 hb4)
        go_roundw
        case rel => exact ⟨k + 1, A4, c4, r4, by omega, by go_num, rfl, (by show r4 = _; rw [hr4.out, HR.out]), hown4, (hbl.alloc hsw _).trans hb4⟩
        case measure => simp [intOf]; omega
      · have hz : r = z := by rw [hr.out]; exact List.take_of_length_le (by rw [HZL.out]; omega)
        subst hz
        have hle : r.length ≤ cc := by
          obtain ⟨_, _, he, hle, _⟩ := hown.form
          rw [WB_length] at hle
          injection he with _ _ h3
          omega
        have HO := Lib.hid (rorder_any D r.length cc r wr rfl hown.rd hle (by omega))
        go_wp2_with fail
        refine HO.out.mono ?_
        rintro e w1 ⟨A1, c1, rfl, hown1, hc1, hb1⟩
        go_wp2
        go_ret
        exact ⟨A1, c1, rfl, hown1.mono hsw, hc1, hbl.trans (hb1.mono hsw)⟩
set_option maxHeartbeats 400000 in
theorem rsetM_any (A A' : Option Addr) (n m c c' : Nat) (a b : List Nat) (w : World) (hn : n = a.length) (hm : m = b.length) (ha : AllW a) (hb : AllW b) (h1 : Rd w w.heap.size A (WB a)) (h2 : Rd w w.heap.size A' (WB b)) (hsz : a.length ≤ 17592186044416) (hsz2 : b.length ≤ 17592186044416) :
    Calls Try.prog 40 #[.slice A n c, .slice A' m c', .int .i64 1] w (GivesW w (trim (zipW (· &&& ·) a b))) := by
  have HW1 := Lib.hid (fun (W : World) (hB : Below w.heap.size w W) (i : Nat) => rword_any A n c a i W hn ((h1.below hB).more hB.size))
  have HW2 := Lib.hid (fun (W : World) (hB : Below w.heap.size w W) (i : Nat) => rword_any A' m c' b i W hm ((h2.below hB).more hB.size))
  have HA := Lib.hid (fun k => wordN_lt ha k)
  have HB := Lib.hid (fun k => wordN_lt hb k)
  have HT := Lib.hid (fun k hk => zip_take (· &&& ·) a b k hk)
  have HZL := Lib.hid (zipW_length (· &&& ·) a b)
  rw [← hn, ← hm] at HZL HT
  have hnm : n ≤ 17592186044416 ∧ m ≤ 17592186044416 := by omega
  obtain ⟨hnl, hml⟩ := hnm
  generalize zipW (· &&& ·) a b = z at *
  clear hn hm ha hb h1 h2 hsz hsz2
  by_cases hcmp : n < m
  · rw [Nat.max_eq_right (Nat.le_of_lt hcmp)] at HZL HT
    go_enter Try.func40, Try.ntmps40
    go_wp2
    go_loopw [8, 9] (fun v i wr => ∃ (k : Nat) (D : Option Addr) (cc : Nat) (r : List Nat), k ≤ m ∧ i = .int .i64 (k : Int) ∧ v = .slice D r.length cc ∧ Hid (r = z.take k) ∧ Own wr w.heap.size 32 (.slice D r.length cc) (WB r) ∧ Below w.heap.size w wr) (fun _ i _ => m - (intOf i).toNat)
    case atStart => exact ⟨0, none, 0, [], Nat.zero_le _, rfl, rfl, rfl, Own.nilv _ _ _, Below.refl _ _⟩
    case round =>
      obtain ⟨k, D, cc, r, hk, rfl, rfl, hr, hown, hbl⟩ := hrel
      have hrl : r.length ≤ k := by rw [hr.out, List.length_take]; omega
      have hsw := hbl.size
      by_cases hlt : k < m
      · have hx := HA.out k
        have hy := HB.out k
        have C1 := Lib.hid (HW1.out wr hbl k)
        have C2 := Lib.hid (HW2.out wr hbl k)
        have hT : z.take (k + 1) = z.take k ++ [wordN a k &&& wordN b k] := HT.out k hlt
        rw [← hr.out] at hT
        generalize wordN a k = x at *
        generalize wordN b k = y at *
        have hor := u64_or_nat x y hx hy
        have hop := u64_and_nat x y hx hy
        have HR := Lib.hid hT
        clear hT hr
        obtain ⟨v, hv⟩ : ∃ v : Nat, v = x &&& y := ⟨_, rfl⟩
        rw [← hv] at hop HR
        clear hv
        have hz4 : r.length + [v].length ≤ 17592186044416 := by simp; omega
        go_wp2_with fail
        refine C1.out.mono ?_
        rintro e w' ⟨rfl, rfl⟩
        go_wp2_with fail
        refine C2.out.mono ?_
        rintro e w' ⟨rfl, rfl⟩
        go_wp2_with (at_builtin; refine wpl_appW rfl (.tmp 47) (.tmp 49) rfl w.heap.size _ r rfl (hown.alloc _) _ _ _ _ [v] rfl rfl (rd_oneW _ v) hz4 (by (simp; omega)) ?_; intro A4 c4 w4 r4 hr4 hown4 hg4 hb4)
        go_roundw
        case rel => exact ⟨k + 1, A4, c4, r4, by omega, by go_num, rfl, (by show r4 = _; rw [hr4.out, HR.out]), hown4, (hbl.alloc hsw _).trans hb4⟩
        case measure => simp [intOf]; omega
      · have hz : r = z := by rw [hr.out]; exact List.take_of_length_le (by rw [HZL.out]; omega)
        subst hz
        have hle : r.length ≤ cc := by
          obtain ⟨_, _, he, hle, _⟩ := hown.form
          rw [WB_length] at hle
          injection he with _ _ h3
          omega
        have HO := Lib.hid (rorder_any D r.length cc r wr rfl hown.rd hle (by omega))
        go_wp2_with fail
        refine HO.out.mono ?_
        rintro e w1 ⟨A1, c1, rfl, hown1, hc1, hb1⟩
        go_wp2
        go_ret
        exact ⟨A1, c1, rfl, hown1.mono hsw, hc1, hbl.trans (hb1.mono hsw)⟩
  · rw [Nat.max_eq_left (Nat.not_lt.1 hcmp)] at HZL HT
    go_enter Try.func40, Try.ntmps40
    go_wp2
    go_loopw [8, 9] (fun v i wr => ∃ (k : Nat) (D : Option Addr) (cc : Nat) (r : List Nat), k ≤ n ∧ i = .int .i64 (k : Int) ∧ v = .slice D r.length cc ∧ Hid (r = z.take k) ∧ Own wr w.heap.size 32 (.slice D r.length cc) (WB r) ∧ Below w.heap.size w wr) (fun _ i _ => n - (intOf i).toNat)
    case atStart => exact ⟨0, none, 0, [], Nat.zero_le _, rfl, rfl, rfl, Own.nilv _ _ _, Below.refl _ _⟩
    case round =>
      obtain ⟨k, D, cc, r, hk, rfl, rfl, hr, hown, hbl⟩ := hrel
      have hrl : r.length ≤ k := by rw [hr.out, List.length_take]; omega
      have hsw := hbl.size
      by_cases hlt : k < n
      · have hx := HA.out k
        have hy := HB.out k
        have C1 := Lib.hid (HW1.out wr hbl k)
        have C2 := Lib.hid (HW2.out wr hbl k)
        have hT : z.take (k + 1) = z.take k ++ [wordN a k &&& wordN b k] := HT.out k hlt
        rw [← hr.out] at hT
        generalize wordN a k = x at *
        generalize wordN b k = y at *
        have hor := u64_or_nat x y hx hy
        have hop := u64_and_nat x y hx hy
        have HR := Lib.hid hT
        clear hT hr
        obtain ⟨v, hv⟩ : ∃ v : Nat, v = x &&& y := ⟨_, rfl⟩
        rw [← hv] at hop HR
        clear hv
        have hz4 : r.length + [v].length ≤ 17592186044416 := by simp; omega
        go_wp2_with fail
        refine C1.out.mono ?_
        rintro e w' ⟨rfl, rfl⟩
        go_wp2_with fail
        refine C2.out.mono ?_
        rintro e w' ⟨rfl, rfl⟩
        go_wp2_with (at_builtin; refine wpl_appW rfl (.tmp 47) (.tmp 49) rfl w.heap.size _ r rfl (hown.alloc _) _ _ _ _ [v] rfl rfl (rd_oneW _ v) hz4 (by (simp; omega)) ?_; intro A4 c4 w4 r4 hr4 hown4 hg4 hb4)
        go_roundw
        case rel => exact ⟨k + 1, A4, c4, r4, by omega, by go_num, rfl, (by show r4 = _; rw [hr4.out, HR.out]), hown4, (hbl.alloc hsw _).trans hb4⟩
        case measure => simp [intOf]; omega
      · have hz : r = z := by rw [hr.out]; exact List.take_of_length_le (by rw [HZL.out]; omega)
        subst hz
        have hle : r.length ≤ cc := by
          obtain ⟨_, _, he, hle, _⟩ := hown.form
          rw [WB_length] at hle
          injection he with _ _ h3
          omega
        have HO := Lib.hid (rorder_any D r.length cc r wr rfl hown.rd hle (by omega))
        go_wp2_with fail
        refine HO.out.mono ?_
        rintro e w1 ⟨A1, c1, rfl, hown1, hc1, hb1⟩
        go_wp2
        go_ret
        exact ⟨A1, c1, rfl, hown1.mono hsw, hc1, hbl.trans (hb1.mono hsw)⟩
set_option maxHeartbeats 400000 in
theorem rsetD_any (A A' : Option Addr) (n m c c' : Nat) (a b : List Nat) (w : World) (hn : n = a.length) (hm : m = b.length) (ha : AllW a) (hb : AllW b) (h1 : Rd w w.heap.size A (WB a)) (h2 : Rd w w.heap.size A' (WB b)) (hsz : a.length ≤ 17592186044416) (hsz2 : b.length ≤ 17592186044416) :
    Calls Try.prog 40 #[.slice A n c, .slice A' m c', .int .i64 2] w (GivesW w (trim (zipW andNot a b))) := by
  have HW1 := Lib.hid (fun (W : World) (hB : Below w.heap.size w W) (i : Nat) => rword_any A n c a i W hn ((h1.below hB).more hB.size))
  have HW2 := Lib.hid (fun (W : World) (hB : Below w.heap.size w W) (i : Nat) => rword_any A' m c' b i W hm ((h2.below hB).more hB.size))
  have HA := Lib.hid (fun k => wordN_lt ha k)
  have HB := Lib.hid (fun k => wordN_lt hb k)
  have HT := Lib.hid (fun k hk => zip_take andNot a b k hk)
  have HZL := Lib.hid (zipW_length andNot a b)
  rw [← hn, ← hm] at HZL HT
  have hnm : n ≤ 17592186044416 ∧ m ≤ 17592186044416 := by omega
  obtain ⟨hnl, hml⟩ := hnm
  generalize zipW andNot a b = z at *
  clear hn hm ha hb h1 h2 hsz hsz2
  by_cases hcmp : n < m
  · rw [Nat.max_eq_right (Nat.le_of_lt hcmp)] at HZL HT
    go_enter Try.func40, Try.ntmps40
    go_wp2
    go_loopw [8, 9] (fun v i wr => ∃ (k : Nat) (D : Option Addr) (cc : Nat) (r : List Nat), k ≤ m ∧ i = .int .i64 (k : Int) ∧ v = .slice D r.length cc ∧ Hid (r = z.take k) ∧ Own wr w.heap.size 32 (.slice D r.length cc) (WB r) ∧ Below w.heap.size w wr) (fun _ i _ => m - (intOf i).toNat)
    case atStart => exact ⟨0, none, 0, [], Nat.zero_le _, rfl, rfl, rfl, Own.nilv _ _ _, Below.refl _ _⟩
    case round =>
      obtain ⟨k, D, cc, r, hk, rfl, rfl, hr, hown, hbl⟩ := hrel
      have hrl : r.length ≤ k := by rw [hr.out, List.length_take]; omega
      have hsw := hbl.size
      by_cases hlt : k < m
      · have hx := HA.out k
        have hy := HB.out k
        have C1 := Lib.hid (HW1.out wr hbl k)
        have C2 := Lib.hid (HW2.out wr hbl k)
        have hT : z.take (k + 1) = z.take k ++ [andNot (wordN a k) (wordN b k)] := HT.out k hlt
        rw [← hr.out] at hT
        generalize wordN a k = x at *
        generalize wordN b k = y at *
        have hor := u64_or_nat x y hx hy
        have hand := u64_and_nat x y hx hy
        have hqx : x &&& y ≤ x := Nat.and_le_left
        have hop : (x : Int) - ((x &&& y : Nat) : Int) = ((andNot x y : Nat) : Int) := by unfold andNot; omega
        have HR := Lib.hid hT
        clear hT hr
        obtain ⟨v, hv⟩ : ∃ v : Nat, v = andNot x y := ⟨_, rfl⟩
        rw [← hv] at hop HR
        clear hv
        have hz4 : r.length + [v].length ≤ 17592186044416 := by simp; omega
        go_wp2_with fail
        refine C1.out.mono ?_
        rintro e w' ⟨rfl, rfl⟩
        go_wp2_with fail
        refine C2.out.mono ?_
        rintro e w' ⟨rfl, rfl⟩
        go_wp2_with (at_builtin; refine wpl_appW rfl (.tmp 47) (.tmp 49) rfl w.heap.size _ r rfl (hown.alloc _) _ _ _ _ [v] rfl rfl (rd_oneW _ v) hz4 (by (simp; omega)) ?_; intro A4 c4 w4 r4 hr4 hown4 hg4 hb4)
        go_roundw
        case rel => exact ⟨k + 1, A4, c4, r4, by omega, by go_num, rfl, (by show r4 = _; rw [hr4.out, HR.out]), hown4, (hbl.alloc hsw _).trans hb4⟩
        case measure => simp [intOf]; omega
      · have hz : r = z := by rw [hr.out]; exact List.take_of_length_le (by rw [HZL.out]; omega)
        subst hz
        have hle : r.length ≤ cc := by
          obtain ⟨_, _, he, hle, _⟩ := hown.form
          rw [WB_length] at hle
          injection he with _ _ h3
          omega
        have HO := Lib.hid (rorder_any D r.length cc r wr rfl hown.rd hle (by omega))
        go_wp2_with fail
        refine HO.out.mono ?_
        rintro e w1 ⟨A1, c1, rfl, hown1, hc1, hb1⟩
        go_wp2
        go_ret
        exact ⟨A1, c1, rfl, hown1.mono hsw, hc1, hbl.trans (hb1.mono hsw)⟩
  · rw [Nat.max_eq_left (Nat.not_lt.1 hcmp)] at HZL HT
    go_enter Try.func40, Try.ntmps40
    go_wp2
    go_loopw [8, 9] (fun v i wr => ∃ (k : Nat) (D : Option Addr) (cc : Nat) (r : List Nat), k ≤ n ∧ i = .int .i64 (k : Int) ∧ v = .slice D r.length cc ∧ Hid (r = z.take k) ∧ Own wr w.heap.size 32 (.slice D r.length cc) (WB r) ∧ Below w.heap.size w wr) (fun _ i _ => n - (intOf i).toNat)
    case atStart => exact ⟨0, none, 0, [], Nat.zero_le _, rfl, rfl, rfl, Own.nilv _ _ _, Below.refl _ _⟩
    case round =>
      obtain ⟨k, D, cc, r, hk, rfl, rfl, hr, hown, hbl⟩ := hrel
      have hrl : r.length ≤ k := by rw [hr.out, List.length_take]; omega
      have hsw := hbl.size
      by_cases hlt : k < n
      · have hx := HA.out k
        have hy := HB.out k
        have C1 := Lib.hid (HW1.out wr hbl k)
        have C2 := Lib.hid (HW2.out wr hbl k)
        have hT : z.take (k + 1) = z.take k ++ [andNot (wordN a k) (wordN b k)] := HT.out k hlt
        rw [← hr.out] at hT
        generalize wordN a k = x at *
        generalize wordN b k = y at *
        have hor := u64_or_nat x y hx hy
        have hand := u64_and_nat x y hx hy
        have hqx : x &&& y ≤ x := Nat.and_le_left
        have hop : (x : Int) - ((x &&& y : Nat) : Int) = ((andNot x y : Nat) : Int) := by unfold andNot; omega
        have HR := Lib.hid hT
        clear hT hr
        obtain ⟨v, hv⟩ : ∃ v : Nat, v = andNot x y := ⟨_, rfl⟩
        rw [← hv] at hop HR
        clear hv
        have hz4 : r.length + [v].length ≤ 17592186044416 := by simp; omega
        go_wp2_with fail
        refine C1.out.mono ?_
        rintro e w' ⟨rfl, rfl⟩
        go_wp2_with fail
        refine C2.out.mono ?_
        rintro e w' ⟨rfl, rfl⟩
        go_wp2_with (at_builtin; refine wpl_appW rfl (.tmp 47) (.tmp 49) rfl w.heap.size _ r rfl (hown.alloc _) _ _ _ _ [v] rfl rfl (rd_oneW _ v) hz4 (by (simp; omega)) ?_; intro A4 c4 w4 r4 hr4 hown4 hg4 hb4)
        go_roundw
        case rel => exact ⟨k + 1, A4, c4, r4, by omega, by go_num, rfl, (by show r4 = _; rw [hr4.out, HR.out]), hown4, (hbl.alloc hsw _).trans hb4⟩
        case measure => simp [intOf]; omega
      · have hz : r = z := by rw [hr.out]; exact List.take_of_length_le (by rw [HZL.out]; omega)
        subst hz
        have hle : r.length ≤ cc := by
          obtain ⟨_, _, he, hle, _⟩ := hown.form
          rw [WB_length] at hle
          injection he with _ _ h3
          omega
        have HO := Lib.hid (rorder_any D r.length cc r wr rfl hown.rd hle (by omega))
        go_wp2_with fail
        refine HO.out.mono ?_
        rintro e w1 ⟨A1, c1, rfl, hown1, hc1, hb1⟩
        go_wp2
        go_ret
        exact ⟨A1, c1, rfl, hown1.mono hsw, hc1, hbl.trans (hb1.mono hsw)⟩
theorem rjoin_any (A A' : Option Addr) (n m c c' : Nat) (a b : List Nat) (w : World) (hn : n = a.length) (hm : m = b.length) (ha : AllW a) (hb : AllW b) (h1 : Rd w w.heap.size A (WB a)) (h2 : Rd w w.heap.size A' (WB b)) (hsz : a.length ≤ 17592186044416) (hsz2 : b.length ≤ 17592186044416) :
    Calls Try.prog 12 #[.slice A n c, .slice A' m c'] w (GivesW w (joinN a b)) := by
  have C := Lib.hid (rsetJ_any A A' n m c c' a b w hn hm ha hb h1 h2 hsz hsz2)
  clear hn hm
  go_enter Try.func12, Try.ntmps12
  go_wp2_with fail
  refine C.out.mono ?_
  rintro e w1 ⟨A1, c1, rfl, hown, hc1, hb1⟩
  go_wp2
  go_ret
  exact ⟨A1, c1, rfl, hown, hc1, hb1⟩
end Go.Proofs.Ytpckfnafcmifpaa.Mask
