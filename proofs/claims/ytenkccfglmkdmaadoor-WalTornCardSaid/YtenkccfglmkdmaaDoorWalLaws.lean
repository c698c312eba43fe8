/- The laws of layer 23 (wal). -/
import Derived.Test.YtenkccfglmkdmaaDoorWalSame
import Derived.Test.YtenkccfglmkdmaaDoorTurned
import Derived.Lib.SlBytesConst
namespace Go.Proofs.YtenkccfglmkdmaaDoor.Wal
open Go.RowKit Go.Proofs.YtenkccfglmkdmaaDoor.Mem Go.Proofs.YtenkccfglmkdmaaDoor.Num Go.Proofs.YtenkccfglmkdmaaDoor.Crc Go.Proofs.YtenkccfglmkdmaaDoor.Shift

theorem recsB_ge (L : List (List Nat)) : L.length * 5 ≤ (recsB L).length := by
  unfold recsB
  induction L with
  | nil => simp
  | cons r L ih => have := recB_ge r; rw [List.flatMap_cons, List.length_append, List.length_cons]; omega
theorem bodies_length (ps : List Part) : (bodies ps).length = ps.length := List.length_map ..
theorem works_any (w : World) (hT : Tab w) : Calls Tryd.prog 14 #[] w fun e w' => e = .returned (.bool true) ∧ Below w.heap.size w w' := by
  have kc := fun (w : World) (C : Array Value) (n c : Nat) => Lib.run_convert_bytes_const (P := Tryd.prog) w 22 5 C n c Tryd.underlying22 Tryd.underlying5
  have hr : Rd (w.alloc (.cells #[.int .u8 97] 5 (1, 2))) (w.heap.size + 1) (some ⟨w.heap.size, 0, none⟩) (BB [97]) := Rd.marked w [.int .u8 97] 5 (1, 2)
  have hall : AllB [97] := fun x hx => by simp at hx; omega
  have hb1 := kept ((Below.refl w.heap.size w).alloc (Nat.le_refl _) (.cells #[.int .u8 97] 5 (1, 2)))
  have C1 := kept (put_any _ 1 1 [97] _ rfl (hT.next hb1.out) hall (hr.more (by simp)) (by simp))
  rw [recA] at C1
  clear hr hT
  go_enter Tryd.func14, Tryd.ntmps14
  go_wp2_with fail
  refine C1.out.mono ?_
  rintro e w2 ⟨A2, c2, rfl, ho, hc2, hb2⟩
  have hr2 := ho.rd
  obtain ⟨b, o, rfl, hbb, c0⟩ := hr2.at_ (k := 0) (u := .int .u8 1) rfl
  obtain ⟨_, _, h1, _, c1⟩ := hr2.at_ (k := 1) (u := .int .u8 1) rfl
  obtain ⟨rfl, rfl⟩ : b = _ ∧ o = _ := by injection (Option.some.inj h1) with h2 h3; exact ⟨h2, h3⟩
  obtain ⟨_, _, h1, _, c2'⟩ := hr2.at_ (k := 2) (u := .int .u8 97) rfl
  obtain ⟨rfl, rfl⟩ : b = _ ∧ o = _ := by injection (Option.some.inj h1) with h2 h3; exact ⟨h2, h3⟩
  rw [Nat.add_zero] at c0
  have HB2 := kept (below_next hb1.out hb2)
  have hb3 := kept (below_new HB2.out (.cells #[.int .u8 97] 5 (1, 2)))
  have C2 := kept (size_any (some ⟨w2.heap.size, 0, none⟩) 1 1 [97] (w2.alloc (.cells #[.int .u8 97] 5 (1, 2))) rfl (by simp))
  rw [recA] at C2
  clear ho hr2 hb2 C1
  have hlen7 : ([1, 1, 97, 170, 211, 45, 221] : List Nat).length = 7 := rfl
  rw [hlen7] at C2 hc2 ⊢
  go_wp2_with (refine C2.out.mono ?_; rintro e w3 ⟨rfl, rfl⟩)
  go_ret
  exact ⟨rfl, hb3.out⟩
set_option maxRecDepth 100000 in
set_option maxHeartbeats 4000000 in
theorem says_law (A B : Option Addr) (c d : Nat) (r l : List Nat) (w : World) (hT : Tab w) (hA : Ok w A r) (hB : Ok w B l) (hc : l.length ≤ d) (hcc : d ≤ 140737488351232) (hrc : r.length ≤ c) :
    Calls Tryd.prog 4 #[.slice A r.length c, .slice B l.length d] w fun e w' => e = .returned (.bool true) ∧ Below w.heap.size w w' := by
  have HT := kept (fun (W : World) (h : Below w.heap.size w W) => hT.next h)
  by_cases hlong : 2000 < r.length ∨ 2000 < l.length
  · have C := kept (works_any w hT)
    by_cases h1 : 2000 < r.length
    · clear hlong
      go_enter Tryd.func4, Tryd.ntmps4
      go_wp2_with fail
      refine C.out.mono ?_
      rintro e w2 ⟨rfl, hb2⟩
      go_wp2
      go_ret
      exact ⟨rfl, hb2⟩
    · have h2 : 2000 < l.length := by omega
      clear hlong
      go_enter Tryd.func4, Tryd.ntmps4
      go_wp2_with fail
      refine C.out.mono ?_
      rintro e w2 ⟨rfl, hb2⟩
      go_wp2
      go_ret
      exact ⟨rfl, hb2⟩
  · have hs1 : r.length ≤ 2000 := by omega
    have hs2 : l.length ≤ 2000 := by omega
    clear hlong
    have C1 := kept (scan_any B _ d l w rfl hT hB.2.1 hc (by omega) hB.1 (by omega))
    have C2 := kept (fun W (hW : Below w.heap.size w W) => rscan_any B _ d l W rfl hB.2.1 hc (by omega) (hB.1.next hW) (by omega))
    have C3 := kept (fun W (hW : Below w.heap.size w W) => put_any A _ c r W rfl (HT.out W hW) hA.2.1 (hA.1.next hW) (by omega))
    have C4 := kept (fun W (hW : Below w.heap.size w W) => rput_any A _ c r W rfl hA.2.1 (hA.1.next hW) (by omega))
    have C6 := kept (fun W => size_any A _ c r W rfl (by omega))
    have HAL := kept hA.2.1
    have hrl := recB_le r
    clear hA hB hT
    go_enter Tryd.func4, Tryd.ntmps4
    go_wp2_with fail
    refine C1.out.mono ?_
    rintro e w2 ⟨X, cx, ps, e1, rfl, hsc1, hop1, hb2⟩
    have C2' := kept (C2.out w2 hb2)
    have HS1 := kept hsc1
    have HP1 := kept hop1
    have HB2 := kept hb2
    clear hsc1 hop1 hb2 C1 C2
    go_wp2_with fail
    refine C2'.out.mono ?_
    rintro e w3 ⟨Y, cy, qs, e2, rfl, hsc2, hop2, hb3⟩
    obtain ⟨hbod, rfl⟩ := scans_unique (by omega) HS1.out hsc2
    have HBOD := kept hbod
    have HB3 := kept (below_next HB2.out hb3)
    have HP1' := kept (HP1.out.next hb3).rd
    have HP2 := kept hop2.rd
    have HLE : Kept (ps.length ≤ 9223372036854775807 ∧ qs.length ≤ 9223372036854775807) := ⟨by
      have h1 := HS1.out.choose_spec.1
      have h2 : (recsB (bodies ps)).length ≤ l.length := by rw [h1, List.length_append]; omega
      have h3 := recsB_ge (bodies ps)
      have h4 : (bodies qs).length = (bodies ps).length := by rw [hbod]
      rw [bodies_length] at h3 h4
      rw [bodies_length] at h4
      omega⟩
    have C3' := kept (C3.out w3 HB3.out)
    clear hsc2 hop2 hb3 C2' HP1 HS1 hbod
    go_wp2_with fail
    refine C3'.out.mono ?_
    rintro e w4 ⟨A4, c4, rfl, ho4, hc4, hb4⟩
    have HB4 := kept (below_next HB3.out hb4)
    have HR4 := kept ho4.rd
    have HP1' := kept (HP1'.out.next hb4)
    have HP2 := kept (HP2.out.next hb4)
    have C4' := kept (C4.out w4 HB4.out)
    clear ho4 hb4 C3 C3'
    go_wp2_with fail
    refine C4'.out.mono ?_
    rintro e w5 ⟨A5, c5, rfl, ho5, hc5, hb5⟩
    have HB5 := kept (below_next HB4.out hb5)
    have CQ := kept (lequal_any w5 _ _ A4 A5 _ _ c4 c5 (recB r) (recB r) rfl rfl (recB_all HAL.out) (recB_all HAL.out) (HR4.out.next hb5) ho5.rd)
    rw [decide_eq_true rfl] at CQ
    have HP1' := kept (HP1'.out.next hb5)
    have HP2 := kept (HP2.out.next hb5)
    have C6' := kept (C6.out w5)
    have C7 := kept (C4.out w5 HB5.out)
    clear ho5 hb5 C4'
    go_wp2_with fail
    refine CQ.out.mono ?_
    rintro e w6 ⟨rfl, rfl⟩
    go_wp2_with fail
    refine C6'.out.mono ?_
    rintro e w6 ⟨rfl, rfl⟩
    go_wp2_with fail
    refine C7.out.mono ?_
    rintro e w6 ⟨A6, c6, rfl, ho6, hc6, hb6⟩
    have HB6 := kept (below_next HB5.out hb6)
    have CS := kept (rsame_any X Y _ _ cx cy ps qs w6 rfl rfl (HP1'.out.next hb6) (HP2.out.next hb6) HLE.out.1 HLE.out.2)
    rw [decide_eq_true HBOD.out] at CS
    clear ho6 hb6 C7
    go_wp2_with fail
    refine CS.out.mono ?_
    rintro e w7 ⟨rfl, q, rfl⟩
    have CW := kept (works_any (w6.drewN q) (HT.out _ (HB6.out.trans (below_draw _ _ _))))
    go_wp2_with fail
    refine CW.out.mono ?_
    rintro e w8 ⟨rfl, hb8⟩
    go_wp2
    go_ret
    exact ⟨rfl, below_next (HB6.out.trans (below_draw _ _ _)) hb8⟩
end Go.Proofs.YtenkccfglmkdmaaDoor.Wal
