/- Layer 22 (disk): the law DiskSure. -/
import Derived.Test.YtenkccfglmkdmaaDiskWorks
import Derived.Test.YtenkccfglmkdmaaDiskSureMath
namespace Go.Proofs.Ytenkccfglmkdmaa.Disk
open Go.RowKit Go.Proofs.Ytenkccfglmkdmaa.Mem

theorem sure_d1 (a : List Nat) (h : a.length ≤ 1000) : (newD 1048576).appM 1 a = (⟨[], 0, a, 0, 1048576, -1, false⟩, 0) := by
  have e : newD 1048576 = ⟨[], 0, [], 0, 1048576, -1, false⟩ := rfl
  rw [e]
  unfold DS.appM
  rw [if_pos (show isF 1 = true from rfl)]
  have hb : DS.burn ⟨[], 0, [], 0, 1048576, -1, false⟩ = ⟨[], 0, [], 0, 1048576, -1, false⟩ := rfl
  rw [hb, if_neg (by simp), if_neg (by simp [DS.used]; omega)]
  rfl
theorem sure_d2 (a : List Nat) : DS.syncM ⟨[], 0, a, 0, 1048576, -1, false⟩ 1 = (⟨[], 0, a, a.length, 1048576, -1, false⟩, 0) := rfl
theorem sure_d3 (a b : List Nat) (h : a.length ≤ 1000) (h2 : b.length ≤ 1000) : DS.appM ⟨[], 0, a, a.length, 1048576, -1, false⟩ 1 b = (⟨[], 0, a ++ b, a.length, 1048576, -1, false⟩, 0) := by
  unfold DS.appM
  rw [if_pos (show isF 1 = true from rfl)]
  have hb : DS.burn ⟨[], 0, a, a.length, 1048576, -1, false⟩ = ⟨[], 0, a, a.length, 1048576, -1, false⟩ := rfl
  rw [hb, if_neg (by simp), if_neg (by simp [DS.used]; omega)]
  rfl
theorem sure_d4 (a b : List Nat) (h : a.length ≤ 1000) (h2 : b.length ≤ 1000) : DS.appM ⟨[], 0, a ++ b, a.length, 1048576, -1, false⟩ 0 b = (⟨b, 0, a ++ b, a.length, 1048576, -1, false⟩, 0) := by
  unfold DS.appM
  rw [if_pos (show isF 0 = true from rfl)]
  have hb : DS.burn ⟨[], 0, a ++ b, a.length, 1048576, -1, false⟩ = ⟨[], 0, a ++ b, a.length, 1048576, -1, false⟩ := rfl
  rw [hb, if_neg (by simp), if_neg (by simp [DS.used]; omega)]
  rfl
theorem sure_d5 (a b : List Nat) (keep : Int) (t : Bool) : DS.crashM ⟨b, 0, a ++ b, a.length, 1048576, -1, false⟩ keep t = ⟨crashB b 0 keep t, keepN b 0 keep, a ++ crashB b 0 keep t, a.length + keepN b 0 keep, 1048576, -1, false⟩ := by
  unfold DS.crashM
  dsimp only
  rw [crash_ab, crash_len, List.length_append, crash_len]
set_option maxRecDepth 100000 in
set_option maxHeartbeats 8000000 in
theorem sure_law (A B : Option Addr) (c e : Nat) (a b : List Nat) (keep : Int) (w : World) (ha : AllB a) (hb : AllB b) (hra : Rd w w.heap.size A (BB a)) (hrb : Rd w w.heap.size B (BB b)) (hla : a.length ≤ 9223372036854775807) (hlb : b.length ≤ 9223372036854775807) :
    Calls Try.prog 3 #[.slice A a.length c, .slice B b.length e, .int .i64 keep] w fun en w' => en = .returned (.bool true) ∧ Below w.heap.size w w' := by
  have CW := kept (fun W => works_any W)
  by_cases hbig : 1000 < a.length ∨ 1000 < b.length
  · clear hra hrb ha hb
    generalize a.length = M at *
    generalize b.length = N at *
    by_cases h1 : 1000 < M
    · go_enter Try.func3, Try.ntmps3
      go_wp2_with fail
      refine (CW.out _).mono ?_
      rintro en w2 ⟨rfl, hb2⟩
      go_wp2
      go_ret
      exact ⟨rfl, hb2⟩
    · have h2 : 1000 < N := by omega
      go_enter Try.func3, Try.ntmps3
      go_wp2_with fail
      refine (CW.out _).mono ?_
      rintro en w2 ⟨rfl, hb2⟩
      go_wp2
      go_ret
      exact ⟨rfl, hb2⟩
  have h1 : a.length ≤ 1000 := by omega
  have h2 : b.length ≤ 1000 := by omega
  clear hbig hla hlb
  have HRA := kept (fun W (h : Below w.heap.size w W) => hra.next h)
  have HRB := kept (fun W (h : Below w.heap.size w W) => hrb.next h)
  have hxa : ∀ g, w.heap.size ≤ g → ∀ x, A = some x → BB a ≠ [] → x.block ≠ g := fun g hg x hx hne => by
    obtain ⟨b', o', e', h3, _⟩ := hra hne
    rw [hx] at e'
    obtain rfl := Option.some.inj e'
    show b' ≠ g
    omega
  have hxb : ∀ g, w.heap.size ≤ g → ∀ x, B = some x → BB b ≠ [] → x.block ≠ g := fun g hg x hx hne => by
    obtain ⟨b', o', e', h3, _⟩ := hrb hne
    rw [hx] at e'
    obtain rfl := Option.some.inj e'
    show b' ≠ g
    omega
  have HXA := kept hxa
  have HXB := kept hxb
  have HAA := kept ha
  have HAB := kept hb
  have HMIN := kept (keepN_min b keep)
  have hkb := keepN_b b keep
  clear hra hrb hxa hxb ha hb
  go_enter Try.func3, Try.ntmps3
  go_wp2_with fail
  go_loopw [7] (fun i wr => ∃ j : Nat, j ≤ 2 ∧ i = .int .i64 (j : Int) ∧ Kept (Below w.heap.size w wr)) (fun i _ => 2 - (intOf i).toNat)
  case atStart => exact ⟨0, by omega, rfl, ⟨Below.refl _ _⟩⟩
  case round =>
    obtain ⟨j, hj, rfl, hB⟩ := hrel
    have hj3 : j = 0 ∨ j = 1 ∨ j = 2 := by omega
    rcases hj3 with rfl | rfl | rfl
    · have C1 := kept (new_any 1048576 wr)
      go_wp2_with fail
      refine C1.out.mono ?_
      rintro en w1 ⟨rfl, hd, hb1⟩
      have HB1 := kept (hB.out.trans (hb1.mono hB.out.size))
      have hgw : w.heap.size ≤ wr.heap.size := hB.out.size
      have C2 := app_any _ _ _ 1 A _ c a w1 hd (by decide) HAA.out rfl (HRA.out w1 HB1.out) (HXA.out _ hgw) (by omega)
      rw [sure_d1 a h1] at C2
      have C2 := kept C2
      have HS1 : Kept (∀ k, k = wr.heap.size → w.heap.size ≤ k) := ⟨fun k hk => by omega⟩
      clear hd hb1 C1
      go_wp2_with fail
      refine C2.out.mono ?_
      rintro en w2 ⟨rfl, S2, hd, hg⟩
      have HB2 := kept (HB1.out.trans (hg.below HB1.out.size HS1.out))
      have HS2 : Kept (∀ k, S2 k → w.heap.size ≤ k) := ⟨hg.base HB1.out.size HS1.out⟩
      have C3 := sync_any _ _ _ 1 w2 hd (by decide)
      rw [sure_d2 a] at C3
      have C3 := kept C3
      clear hd hg C2
      go_wp2_with fail
      refine C3.out.mono ?_
      rintro en w3 ⟨rfl, S3, hd, hg⟩
      have HB3 := kept (HB2.out.trans (hg.below HB2.out.size HS2.out))
      have HS3 : Kept (∀ k, S3 k → w.heap.size ≤ k) := ⟨hg.base HB2.out.size HS2.out⟩
      have C4 := app_any _ _ _ 1 B _ e b w3 hd (by decide) HAB.out rfl (HRB.out w3 HB3.out) (HXB.out _ hgw) (by omega)
      rw [sure_d3 a b h1 h2] at C4
      have C4 := kept C4
      clear hd hg C3
      go_wp2_with fail
      refine C4.out.mono ?_
      rintro en w4 ⟨rfl, S4, hd, hg⟩
      have HB4 := kept (HB3.out.trans (hg.below HB3.out.size HS3.out))
      have HS4 : Kept (∀ k, S4 k → w.heap.size ≤ k) := ⟨hg.base HB3.out.size HS3.out⟩
      have C5 := app_any _ _ _ 0 B _ e b w4 hd (by decide) HAB.out rfl (HRB.out w4 HB4.out) (HXB.out _ hgw) (by omega)
      rw [sure_d4 a b h1 h2] at C5
      have C5 := kept C5
      clear hd hg C4
      go_wp2_with fail
      refine C5.out.mono ?_
      rintro en w5 ⟨rfl, S5, hd, hg⟩
      have HB5 := kept (HB4.out.trans (hg.below HB4.out.size HS4.out))
      have HS5 : Kept (∀ k, S5 k → w.heap.size ≤ k) := ⟨hg.base HB4.out.size HS4.out⟩
      have C6 := crash_any _ _ _ keep false w5 hd
      rw [sure_d5 a b keep false] at C6
      have C6 := kept C6
      clear hd hg C5
      go_wp2_with fail
      refine C6.out.mono ?_
      rintro en w6 ⟨rfl, S6, hd, hg⟩
      have HB6 := kept (HB5.out.trans (hg.below HB5.out.size HS5.out))
      have HD6 := kept hd
      have C7 := kept (down_any _ _ _ w6 hd)
      have C8 := read_any _ _ _ 1 w6 hd (by decide)
      rw [show DS.readM ⟨crashB b 0 keep false, keepN b 0 keep, a ++ crashB b 0 keep false, a.length + keepN b 0 keep, 1048576, -1, false⟩ 1 = a ++ crashB b 0 keep false from rfl] at C8
      have C8 := kept C8
      have C9 := fun W h => read_any _ _ _ 0 W (hd.next (w' := W) h) (by decide)
      rw [show DS.readM ⟨crashB b 0 keep false, keepN b 0 keep, a ++ crashB b 0 keep false, a.length + keepN b 0 keep, 1048576, -1, false⟩ 0 = crashB b 0 keep false from rfl] at C9
      have C9 := kept C9
      have HGET := kept (fun i (hi : i < keepN b 0 keep) => crash_get b keep false hi)
      have hql := crash_len b keep false
      clear hd hg C6 HS1 HS2 HS3 HS4 HS5
      have C10 := fun W (h : Below w6.heap.size w6 W) => sure_any _ _ _ 1 W (HD6.out.next h) (by decide)
      rw [show ((if isF 1 = true then DS.s ⟨crashB b 0 keep false, keepN b 0 keep, a ++ crashB b 0 keep false, a.length + keepN b 0 keep, 1048576, -1, false⟩ 1 else 0 : Nat) : Int) = ((a.length + keepN b 0 keep : Nat) : Int) from rfl] at C10
      have C10 := kept C10
      generalize crashB b 0 keep false = q at *
      generalize keepN b 0 keep = k at *
      go_upto_region 14 with (first | (refine C7.out.mono ?_; rintro en w' ⟨rfl, rfl⟩))
      go_upto_region 15 with (fail)
      rw [HMIN.out]
      have hxl : (a ++ q).length = a.length + k := by rw [List.length_append, hql]
      go_wp2_with fail
      refine C8.out.mono ?_
      rintro en w7 ⟨A8, c8, rfl, hown8, hc8, hb8⟩
      have C9' := kept (C9.out w7 hb8)
      rw [hxl]
      rw [hxl] at hc8 hown8
      go_wp2_with fail
      refine C9'.out.mono ?_
      rintro en w8 ⟨A9, c9, rfl, hown9, hc9, hb9⟩
      rw [hql]
      rw [hql] at hc9 hown9
      have hown8' := hown8.below hb9 (Nat.le_refl _)
      have HB8 := kept (HB6.out.trans ((hb8.trans (hb9.mono hb8.size)).mono HB6.out.size))
      have HB68 : Kept (Below w6.heap.size w6 w8) := ⟨hb8.trans (hb9.mono hb8.size)⟩
      have hm8 : c8 ≤ 9223372036854775807 := (hown8.form.elim fun A' h => h.elim fun c' h => by injection h.1 with _ _ h2; subst h2; have := h.2.2.1; simp only [maxLen] at this; omega)
      have htk : (a ++ q).take a.length = a := by rw [List.take_left']; rfl
      have hrt := hown8'.rd.take a.length
      rw [BB_take, htk] at hrt
      have RS1 := kept (fun m => run_str (w8.drewN m) _ A8 a.length c8 a rfl (hrt.drewN m))
      have RS2 := kept (fun m => run_str (w8.drewN m) _ A a.length c a rfl ((HRA.out w8 HB8.out).drewN m))
      have CQ := kept (fun n => (C10.out (w8.drewN n) (HB68.out.trans (below_draw _ w8 n))).mono fun _ _ h => And.intro h.1 h.2.symm)
      have r1 := RS1.out
      have r2 := RS2.out
      have HO8 := kept hown8'
      have HO9 := kept hown9
      have hac : a.length ≤ c8 := by omega
      have hk2 : k ≤ 1000 := by omega
      have HQL := kept hql
      generalize strB a = sa at *
      clear hown8 hown9 hb8 hb9 hrt htk C7 C8 C9 C9' C10 hql hxl hown8'
      go_upto_region 16 with (fail)
      go_quiet ((go_at_call 14; exact Calls.quiet_of_same (CQ.out _)))
      have HBN : Kept (Below w.heap.size w (w8.drewN nq)) := ⟨HB8.out.trans (below_draw _ w8 nq)⟩
      clear r1 r2 RS1 RS2 CQ
      go_wp2
      go_loop [16] (fun i => ∃ i' : Nat, i' ≤ k ∧ i = .int .i64 (i' : Int)) (fun i => k - (intOf i).toNat)
      case atStart => exact ⟨0, Nat.zero_le _, rfl⟩
      case round =>
        obtain ⟨i, hi, rfl⟩ := hrel
        by_cases hik : i < k
        · obtain ⟨bb, ob, rfl, hbb, hbc⟩ := (HRB.out w8 HB8.out).at_ (BB_get b i (by omega))
          have hqi : i < q.length := by rw [HQL.out]; exact hik
          obtain ⟨g8, rfl, -, -, h8c, -, -⟩ := HO8.out.spot (BB_get (a ++ q) (a.length + i) (by rw [List.length_append]; omega))
          obtain ⟨g9, rfl, -, -, h9c, -, -⟩ := HO9.out.spot (BB_get q i hqi)
          have e8 : (a ++ q).getD (a.length + i) 0 = q.getD i 0 := by rw [List.getD_eq_getElem?_getD, List.getElem?_append_right (by omega), Nat.add_sub_cancel_left, ← List.getD_eq_getElem?_getD]
          rw [e8] at h8c
          have hg := HGET.out i hik
          have hvb : b.getD i 0 < 256 := getD_lt8 HAB.out (by omega)
          rw [if_neg (fun h => by cases h.1)] at hg
          rw [hg] at h8c h9c
          have k8 : (w8.drewN nq).cell? ⟨g8, a.length + i, none⟩ = some (.int .u8 ((b.getD i 0 : Nat) : Int)) := h8c
          have k9 : (w8.drewN nq).cell? ⟨g9, i, none⟩ = some (.int .u8 ((b.getD i 0 : Nat) : Int)) := h9c
          have kb : (w8.drewN nq).cell? ⟨bb, ob + i, none⟩ = some (.int .u8 ((b.getD i 0 : Nat) : Int)) := hbc
          clear h8c h9c hbc hg e8 hqi
          generalize b.getD i 0 = v at *
          go_wp2
          go_round
          case rel => exact ⟨i + 1, by omega, by go_num⟩
          case measure => simp [intOf]; omega
        · go_wp2
          go_roundw
          case rel => exact ⟨1, by omega, rfl, HBN⟩
          case measure => simp [intOf]
    · have C1 := kept (new_any 1048576 wr)
      go_wp2_with fail
      refine C1.out.mono ?_
      rintro en w1 ⟨rfl, hd, hb1⟩
      have HB1 := kept (hB.out.trans (hb1.mono hB.out.size))
      have hgw : w.heap.size ≤ wr.heap.size := hB.out.size
      have C2 := app_any _ _ _ 1 A _ c a w1 hd (by decide) HAA.out rfl (HRA.out w1 HB1.out) (HXA.out _ hgw) (by omega)
      rw [sure_d1 a h1] at C2
      have C2 := kept C2
      have HS1 : Kept (∀ k, k = wr.heap.size → w.heap.size ≤ k) := ⟨fun k hk => by omega⟩
      clear hd hb1 C1
      go_wp2_with fail
      refine C2.out.mono ?_
      rintro en w2 ⟨rfl, S2, hd, hg⟩
      have HB2 := kept (HB1.out.trans (hg.below HB1.out.size HS1.out))
      have HS2 : Kept (∀ k, S2 k → w.heap.size ≤ k) := ⟨hg.base HB1.out.size HS1.out⟩
      have C3 := sync_any _ _ _ 1 w2 hd (by decide)
      rw [sure_d2 a] at C3
      have C3 := kept C3
      clear hd hg C2
      go_wp2_with fail
      refine C3.out.mono ?_
      rintro en w3 ⟨rfl, S3, hd, hg⟩
      have HB3 := kept (HB2.out.trans (hg.below HB2.out.size HS2.out))
      have HS3 : Kept (∀ k, S3 k → w.heap.size ≤ k) := ⟨hg.base HB2.out.size HS2.out⟩
      have C4 := app_any _ _ _ 1 B _ e b w3 hd (by decide) HAB.out rfl (HRB.out w3 HB3.out) (HXB.out _ hgw) (by omega)
      rw [sure_d3 a b h1 h2] at C4
      have C4 := kept C4
      clear hd hg C3
      go_wp2_with fail
      refine C4.out.mono ?_
      rintro en w4 ⟨rfl, S4, hd, hg⟩
      have HB4 := kept (HB3.out.trans (hg.below HB3.out.size HS3.out))
      have HS4 : Kept (∀ k, S4 k → w.heap.size ≤ k) := ⟨hg.base HB3.out.size HS3.out⟩
      have C5 := app_any _ _ _ 0 B _ e b w4 hd (by decide) HAB.out rfl (HRB.out w4 HB4.out) (HXB.out _ hgw) (by omega)
      rw [sure_d4 a b h1 h2] at C5
      have C5 := kept C5
      clear hd hg C4
      go_wp2_with fail
      refine C5.out.mono ?_
      rintro en w5 ⟨rfl, S5, hd, hg⟩
      have HB5 := kept (HB4.out.trans (hg.below HB4.out.size HS4.out))
      have HS5 : Kept (∀ k, S5 k → w.heap.size ≤ k) := ⟨hg.base HB4.out.size HS4.out⟩
      have C6 := crash_any _ _ _ keep true w5 hd
      rw [sure_d5 a b keep true] at C6
      have C6 := kept C6
      clear hd hg C5
      go_wp2_with fail
      refine C6.out.mono ?_
      rintro en w6 ⟨rfl, S6, hd, hg⟩
      have HB6 := kept (HB5.out.trans (hg.below HB5.out.size HS5.out))
      have HD6 := kept hd
      have C7 := kept (down_any _ _ _ w6 hd)
      have C8 := read_any _ _ _ 1 w6 hd (by decide)
      rw [show DS.readM ⟨crashB b 0 keep true, keepN b 0 keep, a ++ crashB b 0 keep true, a.length + keepN b 0 keep, 1048576, -1, false⟩ 1 = a ++ crashB b 0 keep true from rfl] at C8
      have C8 := kept C8
      have C9 := fun W h => read_any _ _ _ 0 W (hd.next (w' := W) h) (by decide)
      rw [show DS.readM ⟨crashB b 0 keep true, keepN b 0 keep, a ++ crashB b 0 keep true, a.length + keepN b 0 keep, 1048576, -1, false⟩ 0 = crashB b 0 keep true from rfl] at C9
      have C9 := kept C9
      have HGET := kept (fun i (hi : i < keepN b 0 keep) => crash_get b keep true hi)
      have hql := crash_len b keep true
      clear hd hg C6 HS1 HS2 HS3 HS4 HS5
      have C10 := fun W (h : Below w6.heap.size w6 W) => sure_any _ _ _ 1 W (HD6.out.next h) (by decide)
      rw [show ((if isF 1 = true then DS.s ⟨crashB b 0 keep true, keepN b 0 keep, a ++ crashB b 0 keep true, a.length + keepN b 0 keep, 1048576, -1, false⟩ 1 else 0 : Nat) : Int) = ((a.length + keepN b 0 keep : Nat) : Int) from rfl] at C10
      have C10 := kept C10
      generalize crashB b 0 keep true = q at *
      generalize keepN b 0 keep = k at *
      go_upto_region 14 with (first | (refine C7.out.mono ?_; rintro en w' ⟨rfl, rfl⟩))
      go_upto_region 15 with (fail)
      rw [HMIN.out]
      have hxl : (a ++ q).length = a.length + k := by rw [List.length_append, hql]
      go_wp2_with fail
      refine C8.out.mono ?_
      rintro en w7 ⟨A8, c8, rfl, hown8, hc8, hb8⟩
      have C9' := kept (C9.out w7 hb8)
      rw [hxl]
      rw [hxl] at hc8 hown8
      go_wp2_with fail
      refine C9'.out.mono ?_
      rintro en w8 ⟨A9, c9, rfl, hown9, hc9, hb9⟩
      rw [hql]
      rw [hql] at hc9 hown9
      have hown8' := hown8.below hb9 (Nat.le_refl _)
      have HB8 := kept (HB6.out.trans ((hb8.trans (hb9.mono hb8.size)).mono HB6.out.size))
      have HB68 : Kept (Below w6.heap.size w6 w8) := ⟨hb8.trans (hb9.mono hb8.size)⟩
      have hm8 : c8 ≤ 9223372036854775807 := (hown8.form.elim fun A' h => h.elim fun c' h => by injection h.1 with _ _ h2; subst h2; have := h.2.2.1; simp only [maxLen] at this; omega)
      have htk : (a ++ q).take a.length = a := by rw [List.take_left']; rfl
      have hrt := hown8'.rd.take a.length
      rw [BB_take, htk] at hrt
      have RS1 := kept (fun m => run_str (w8.drewN m) _ A8 a.length c8 a rfl (hrt.drewN m))
      have RS2 := kept (fun m => run_str (w8.drewN m) _ A a.length c a rfl ((HRA.out w8 HB8.out).drewN m))
      have CQ := kept (fun n => (C10.out (w8.drewN n) (HB68.out.trans (below_draw _ w8 n))).mono fun _ _ h => And.intro h.1 h.2.symm)
      have r1 := RS1.out
      have r2 := RS2.out
      have HO8 := kept hown8'
      have HO9 := kept hown9
      have hac : a.length ≤ c8 := by omega
      have hk2 : k ≤ 1000 := by omega
      have HQL := kept hql
      generalize strB a = sa at *
      clear hown8 hown9 hb8 hb9 hrt htk C7 C8 C9 C9' C10 hql hxl hown8'
      go_upto_region 16 with (fail)
      go_quiet ((go_at_call 14; exact Calls.quiet_of_same (CQ.out _)))
      have HBN : Kept (Below w.heap.size w (w8.drewN nq)) := ⟨HB8.out.trans (below_draw _ w8 nq)⟩
      clear r1 r2 RS1 RS2 CQ
      go_wp2
      go_loop [16] (fun i => ∃ i' : Nat, i' ≤ k ∧ i = .int .i64 (i' : Int)) (fun i => k - (intOf i).toNat)
      case atStart => exact ⟨0, Nat.zero_le _, rfl⟩
      case round =>
        obtain ⟨i, hi, rfl⟩ := hrel
        by_cases hik : i < k
        · obtain ⟨bb, ob, rfl, hbb, hbc⟩ := (HRB.out w8 HB8.out).at_ (BB_get b i (by omega))
          have hqi : i < q.length := by rw [HQL.out]; exact hik
          obtain ⟨g8, rfl, -, -, h8c, -, -⟩ := HO8.out.spot (BB_get (a ++ q) (a.length + i) (by rw [List.length_append]; omega))
          obtain ⟨g9, rfl, -, -, h9c, -, -⟩ := HO9.out.spot (BB_get q i hqi)
          have e8 : (a ++ q).getD (a.length + i) 0 = q.getD i 0 := by rw [List.getD_eq_getElem?_getD, List.getElem?_append_right (by omega), Nat.add_sub_cancel_left, ← List.getD_eq_getElem?_getD]
          rw [e8] at h8c
          have hg := HGET.out i hik
          have hvb : b.getD i 0 < 256 := getD_lt8 HAB.out (by omega)
          by_cases hie : i = k - 1
          · rw [if_pos ⟨by trivial, hie⟩] at hg
            rw [hg] at h8c h9c
            have hxr : bits .xor .u8 ((b.getD i 0 : Nat) : Int) 1 = ((b.getD i 0 ^^^ 1 : Nat) : Int) := u8_xor_nat _ 1 hvb (by decide)
            have k8 : (w8.drewN nq).cell? ⟨g8, a.length + i, none⟩ = some (.int .u8 ((b.getD i 0 ^^^ 1 : Nat) : Int)) := h8c
            have k9 : (w8.drewN nq).cell? ⟨g9, i, none⟩ = some (.int .u8 ((b.getD i 0 ^^^ 1 : Nat) : Int)) := h9c
            have kb : (w8.drewN nq).cell? ⟨bb, ob + i, none⟩ = some (.int .u8 ((b.getD i 0 : Nat) : Int)) := hbc
            clear h8c h9c hbc hg e8 hqi
            generalize b.getD i 0 ^^^ 1 = y at *
            generalize b.getD i 0 = v at *
            obtain rfl : k = i + 1 := by omega
            clear hie
            go_wp2
            go_round
            case rel => exact ⟨i + 1, by omega, by go_num⟩
            case measure => simp [intOf]
          · rw [if_neg (fun h => hie h.2)] at hg
            rw [hg] at h8c h9c
            have k8 : (w8.drewN nq).cell? ⟨g8, a.length + i, none⟩ = some (.int .u8 ((b.getD i 0 : Nat) : Int)) := h8c
            have k9 : (w8.drewN nq).cell? ⟨g9, i, none⟩ = some (.int .u8 ((b.getD i 0 : Nat) : Int)) := h9c
            have kb : (w8.drewN nq).cell? ⟨bb, ob + i, none⟩ = some (.int .u8 ((b.getD i 0 : Nat) : Int)) := hbc
            clear h8c h9c hbc hg e8 hqi
            generalize b.getD i 0 = v at *
            have hik1 : ¬ (i : Int) = (k : Int) - 1 := by omega
            go_wp2
            go_round
            case rel => exact ⟨i + 1, by omega, by go_num⟩
            case measure => simp [intOf]; omega
        · go_wp2
          go_roundw
          case rel => exact ⟨2, by omega, rfl, HBN⟩
          case measure => simp [intOf]
    · go_wp2_with fail
      refine (CW.out _).mono ?_
      rintro en w2 ⟨rfl, hb2⟩
      have HB2 := kept (hB.out.trans (hb2.mono hB.out.size))
      go_wp2
      go_ret
      exact ⟨rfl, HB2.out⟩
end Go.Proofs.Ytenkccfglmkdmaa.Disk
