/- The walks of layer 5, continued: Seal. -/
import Derived.Test.YtfbchegfkilhpaaDoorSealWalks
import Derived.Deep.DeepMust
namespace Go.Proofs.YtfbchegfkilhpaaDoor.Seal
open Go.RowKit Go.Proofs.YtfbchegfkilhpaaDoor.Mem Go.Proofs.YtfbchegfkilhpaaDoor.Crc

theorem sum1 (w : World) (A : Option Addr) (l : List Nat) (c : Nat) (hT : Tab w) (h : Ok w A l) :
    Calls Tryd.prog 26 #[.slice (some ⟨w.heap.size, 0, none⟩) 1 1] (w.alloc (.cells #[.slice A l.length c] 24)) fun e w' => e = .returned (arr4 (more 0 l)) ∧ Below w.heap.size w w' := by
  have hp := parts_new w [⟨A, l, c⟩] (by intro p hp; rcases List.mem_singleton.1 hp with rfl; exact h)
  have := sum_any _ 1 1 [⟨A, l, c⟩] _ rfl (hT.alloc _) (hp.more (by simp)) (by simp)
  have e : cat [⟨A, l, c⟩] = l := by simp [cat]
  rw [e] at this
  exact this.mono fun _ _ ⟨he, hw⟩ => ⟨he, ((Below.refl _ _).alloc (Nat.le_refl _) _).trans (hw.mono (by simp))⟩
theorem seal_any (k : Nat) (A : Option Addr) (n c : Nat) (l : List Nat) (w : World) (hn : n = l.length) (hT : Tab w) (hk : k < 256) (hl : AllB l) (hr : Rd w w.heap.size A (BB l)) (hsz : l.length ≤ 140737488355232) :
    Calls Tryd.prog 19 #[.int .u8 (k : Int), .slice A n c] w (Gives w (sealed k l)) := by
  subst hn
  obtain ⟨i0, hi0, hz0, hz1, hz2⟩ := info_parts u8_info
  obtain ⟨w1, hmk, hown1, hg1⟩ := run_make_own (P := Tryd.prog) w w.heap.size 24 5 i0 _ 1 Tryd.underlying24 hi0 hz0 hz1 .i64 .i64 (l.length + 5) (by rw [hz2]; omega) (by simp only [maxLen]; omega) (Nat.le_refl _)
  have hmk' : (Instr.makeSlice 24 (.int .i64 0) (.int .i64 ((l.length : Int) + 5))).run Tryd.prog w = .ok (.slice (some ⟨w.heap.size, 0, none⟩) 0 (l.length + 5)) w1 := hmk
  have hb1 : Below w.heap.size w w1 := (Below.refl _ _).grown hg1 (Nat.le_refl _) (by simp)
  have hown1' : Own w1 w.heap.size 5 (.slice (some ⟨w.heap.size, 0, none⟩) 0 (l.length + 5)) (BB []) := hown1
  have hs1 := hb1.size
  have hzz : ([] : List Nat).length + [k].length ≤ 140737488355328 := by simp
  clear hmk hg1 hown1 hi0 hz0 hz1 hz2
  go_enter Tryd.func19, Tryd.ntmps19
  go_wp2_with (first
    | (at_builtin; refine wpl_app rfl (.tmp 11) (.tmp 13) rfl w.heap.size _ [] rfl (hown1'.alloc _) _ _ _ _ [k] rfl rfl (rd_one w1 k) hzz (by (simp; omega)) ?_; intro A2 c2 w2 r2 hr2 hown2 hg2 hb2; have hle2 : r2.length ≤ 1 := by rw [hr2.out]; exact Nat.le_refl _)
    | (at_builtin; have hb12 : Below w.heap.size w w2 := (hb1.alloc hs1 _).trans hb2
       refine wpl_app rfl (.tmp 14) (.tmp 15) rfl w.heap.size _ r2 rfl hown2 w.heap.size A _ c l rfl rfl (hr.below hb12) (by omega) hb12.size ?_; intro A3 c3 w3 r3 hr3 hown3 hg3 hb3))
  have hb13 : Below w.heap.size w w3 := hb12.trans hb3
  have er3 : r3 = k :: l := by rw [hr3.out, hr2.out]; rfl
  have hall : AllB r3 := by rw [er3]; exact cons_all hk hl
  have hlen : r3.length ≤ 140737488355300 := by rw [er3]; simp; omega
  have hok : Ok w3 A3 r3 := ⟨hown3.rd, hall, by omega⟩
  have hT3 := hT.next hb13
  have hml : more 0 r3 < 4294967296 := more_lt hall (by decide)
  have HS := Lib.hid (show sealed k l = r3 ++ le4 (more 0 r3) from by rw [er3]; rfl)
  have C1 := sum1 w3 A3 r3 c3 hT3 hok
  generalize more 0 r3 = s at *
  clear hg2 hg3 hb2 hb3 hr2 hr3 hown2 hown1' hb1 hb12 hle2 er3 hmk' hs1
  refine C1.mono ?_
  rintro e w4 ⟨rfl, hb4⟩
  unfold arr4
  have hb14 := below_next hb13 hb4
  have hown4 : Own w4 w.heap.size 5 (.slice A3 r3.length c3) (BB r3) := hown3.below hb4 (Nat.le_refl _)
  have hrd4 : Rd (w4.alloc (.cells #[.int .u8 ((s : Int) % 256), .int .u8 ((s : Int) / 256 % 256), .int .u8 ((s : Int) / 65536 % 256), .int .u8 ((s : Int) / 16777216)] 50)) (w4.heap.size + 1) (some ⟨w4.heap.size, 0, none⟩) (BB (le4 s)) := by
    rw [← arr4_cells hml]
    exact Rd.new w4 _ _
  have hz5 : r3.length + (le4 s).length ≤ 140737488355328 := by simp [le4]; omega
  clear C1 hown3 hok hT3
  go_wp2_with (at_builtin; go_must (refine wpl_app rfl (.tmp 20) (.tmp 21) rfl w.heap.size _ r3 rfl (hown4.alloc _) _ _ _ _ (le4 s) rfl rfl hrd4 hz5 (by (have := hb14.size; simp; omega)) ?_); intro A5 c5 w5 r5 hr5 hown5 hg5 hb5)
  go_ret
  have e5 : r5 = sealed k l := by rw [hr5.out, HS.out]
  rw [← e5]
  obtain ⟨_, _, he, hle, _⟩ := hown5.form
  exact ⟨A5, c5, rfl, hown5, by rw [BB_length] at hle; injection he with _ _ h3; omega, (hb14.alloc hb14.size _).trans hb5⟩
end Go.Proofs.YtfbchegfkilhpaaDoor.Seal
