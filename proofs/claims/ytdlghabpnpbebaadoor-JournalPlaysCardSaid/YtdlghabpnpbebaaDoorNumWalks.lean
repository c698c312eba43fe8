/- The walks of layer 3: what each function of package num, and of its reference, gives. -/
import Derived.Test.YtdlghabpnpbebaaDoorBytes
import Derived.Deep.DeepMust
import Derived.Test.YtdlghabpnpbebaaDoorNumMath
import Derived.Test.YtdlghabpnpbebaaDoorShiftWalksB
namespace Go.Proofs.YtdlghabpnpbebaaDoor.Num
open Go.RowKit Go.Proofs.YtdlghabpnpbebaaDoor.Shift Go.Proofs.YtdlghabpnpbebaaDoor.Mem

theorem append_any (A : Option Addr) (n c : Nat) (l : List Nat) (v : Nat) (w : World) (hn : n = l.length) (hv : v < 18446744073709551616) (hr : Rd w w.heap.size A (BB l)) (hsz : l.length ≤ 140737488355232) :
    Calls Tryd.prog 56 #[.slice A n c, .int .u64 v] w (Gives w (l ++ numB v)) := by
  obtain ⟨i0, hi0, hz0, hz1, hz2⟩ := info_parts u8_info
  have hk := lenB_le v
  generalize hkk : lenB v = k at *
  have hkk' := Lib.hid hkk
  clear hkk
  obtain ⟨w1, hmk, hown1, hg1⟩ := run_make_own (P := Tryd.prog) w w.heap.size 22 5 i0 _ 1 Tryd.underlying22 hi0 hz0 hz1 .i64 .i64 (n + k + 1) (by rw [hz2]; omega) (by simp only [maxLen]; omega) (Nat.le_refl _)
  have hmk' : (Instr.makeSlice 22 (.int .i64 0) (.int .i64 ((n : Int) + (k : Int) + 1))).run Tryd.prog w = .ok (.slice (some ⟨w.heap.size, 0, none⟩) 0 (n + k + 1)) w1 := hmk
  have hb1 : Below w.heap.size w w1 := (Below.refl _ _).grown hg1 (Nat.le_refl _) (by simp)
  clear hmk hg1
  have HN := Lib.hid hn
  have hn64 : n ≤ 140737488355232 := by omega
  clear hn
  go_enter Tryd.func56, Tryd.ntmps56
  go_wp2_with fail
  refine (len_any _ _ hv).mono ?_
  rintro e w' ⟨rfl, rfl⟩
  rw [hkk'.out]
  have hown1' : Own w1 w.heap.size 5 (.slice (some ⟨w.heap.size, 0, none⟩) 0 (n + k + 1)) (BB []) := hown1
  have hr1 := hr.below hb1
  have hs1 := hb1.size
  have hz1 : ([] : List Nat).length + l.length ≤ 140737488355328 := by simp; omega
  go_wp2_with (first
    | (at_builtin; refine wpl_app rfl (.tmp 16) (.tmp 17) rfl w.heap.size _ [] rfl hown1' w.heap.size A n c l rfl HN.out hr1 hz1 hs1 ?_; intro A2 c2 w2 r2 hr2 hown2 hg2 hb2; have hle2 : r2.length ≤ 140737488355232 := by rw [hr2.out]; simpa using hsz)
    | (at_builtin; have hz2 : r2.length + [k].length ≤ 140737488355328 := by (simp; omega)
       refine wpl_app rfl (.tmp 18) (.tmp 21) rfl w.heap.size _ r2 rfl (hown2.alloc _) _ _ _ _ [k] rfl rfl (rd_one w2 k) hz2 (by (have := hb2.size; simp; omega)) ?_; intro A3 c3 w3 r3 hr3 hown3 hg3 hb3))
  have hb03 : Below w.heap.size w w3 := ((hb1.trans hb2).alloc (by have := hb2.size; omega) _).trans hb3
  have hall : Hid (r3 ++ hiB v k = l ++ numB v) := by
    show r3 ++ hiB v k = l ++ numB v
    rw [hr3.out, hr2.out]
    unfold numB
    rw [hkk'.out]
    simp
  clear hg2 hg3 hb2 hb3 hr2 hr3 hown2 hown1 hown1' hr1 hs1 hmk' hb1 hz1 hz2 hle2
  go_loopw [6, 7] (fun x i wr => ∃ (j : Nat) (D : Option Addr) (cc : Nat) (r : List Nat), j ≤ k ∧ i = .int .i64 ((j : Int) - 1) ∧ x = .slice D r.length cc ∧ Hid (r ++ hiB v j = l ++ numB v) ∧ Own wr w.heap.size 5 (.slice D r.length cc) (BB r) ∧ Below w.heap.size w wr) (fun _ i _ => (intOf i + 1).toNat)
  case atStart => exact ⟨k, A3, c3, r3, Nat.le_refl _, rfl, rfl, hall, hown3, hb03⟩
  case round =>
    obtain ⟨j, D, cc, r, hj, rfl, rfl, hr', hown, hb⟩ := hrel
    have hrl : r.length ≤ 140737488355300 := by
      have := congrArg List.length hr'.out
      rw [List.length_append, List.length_append, numB_length, hkk'.out] at this
      omega
    have hsw := hb.size
    by_cases h0 : j = 0
    · subst h0
      go_wp2
      go_ret
      have : r = l ++ numB v := by simpa [hiB] using hr'.out
      rw [← this]
      obtain ⟨_, _, he, hle, _⟩ := hown.form
      exact ⟨D, cc, rfl, hown, by rw [BB_length] at hle; injection he with _ _ h3; omega, hb⟩
    · obtain ⟨j, rfl⟩ : ∃ t, j = t + 1 := ⟨j - 1, by omega⟩
      have hc : ((j + 1 : Nat) : Int) - 1 = (j : Int) := by omega
      rw [hc]
      have hby : byteI v (j : Int) = byteN v j := byteI_nat (by omega)
      have Hby := Lib.hid hby
      clear hc hby h0
      have hz4 : r.length + [byteN v j].length ≤ 140737488355328 := by simp; omega
      go_wp2_with (first
        | (go_at_call 71; refine (byte_any v _ _ (by omega) (by omega)).mono ?_; rintro e w' ⟨rfl, rfl⟩; rw [Hby.out])
        | (at_builtin; refine wpl_app rfl (.tmp 29) (.tmp 33) rfl w.heap.size _ r rfl (hown.alloc _) _ _ _ _ [byteN v j] rfl rfl (rd_one wr (byteN v j)) hz4 (by (simp; omega)) ?_; intro A4 c4 w4 r4 hr4 hown4 hg4 hb4))
      go_roundw
      case rel =>
        refine ⟨j, A4, c4, r4, by omega, rfl, rfl, ?_, hown4, (hb.alloc hsw _).trans hb4⟩
        show r4 ++ hiB v j = l ++ numB v
        rw [hr4.out, ← hr'.out]
        simp [hiB]
      case measure => simp [intOf]
end Go.Proofs.YtdlghabpnpbebaaDoor.Num
