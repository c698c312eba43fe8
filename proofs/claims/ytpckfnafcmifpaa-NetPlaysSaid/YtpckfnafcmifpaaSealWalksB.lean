/- The walks of layer 5, continued: bytes sealed, twice; bytes spoilt, twice. -/
import Derived.Test.YtpckfnafcmifpaaSealWalks
namespace Go.Proofs.Ytpckfnafcmifpaa.Seal
open Go.RowKit Go.Proofs.Ytpckfnafcmifpaa.Mem Go.Proofs.Ytpckfnafcmifpaa.Crc

theorem rd_one' (w : World) (x : Nat) : Rd (w.alloc (.cells #[.int .u8 (x : Int)] 5)) (w.heap.size + 1) (some ⟨w.heap.size, 0, none⟩) (BB [x]) := rd_one w x
theorem rseal_any (k : Nat) (A : Option Addr) (n c : Nat) (l : List Nat) (w : World) (hn : n = l.length) (hk : k < 256) (hl : AllB l) (hr : Rd w w.heap.size A (BB l)) (hsz : l.length ≤ 140737488355232) :
    Calls Try.prog 32 #[.int .u8 (k : Int), .slice A n c] w (Gives w (sealed k l)) := by
  subst hn
  have hown1 : Own (w.alloc (.cells #[.int .u8 (k : Int)] 5)) w.heap.size 5 (.slice (some ⟨w.heap.size, 0, none⟩) 1 1) (BB [k]) := Own.new w w.heap.size 5 (BB [k]) (Nat.le_refl _) (by simp [BB, maxLen])
  have hr1 := hr.alloc (Nat.le_refl _) (.cells #[.int .u8 (k : Int)] 5)
  have hz1 : [k].length + l.length ≤ 140737488355328 := by simp; omega
  go_enter Try.func32, Try.ntmps32
  go_wp2_with (at_builtin; refine wpl_app rfl (.tmp 9) (.tmp 10) rfl w.heap.size _ [k] rfl hown1 w.heap.size A _ c l rfl rfl hr1 hz1 (by simp) ?_; intro A2 c2 w2 r2 hr2 hown2 hg2 hb2)
  have hb02 : Below w.heap.size w w2 := ((Below.refl _ _).alloc (Nat.le_refl _) _).trans hb2
  have er2 : r2 = k :: l := hr2.out
  have hall : AllB r2 := by rw [er2]; exact cons_all hk hl
  have hlen : r2.length ≤ 140737488355300 := by rw [er2]; simp; omega
  have hrd2 := hown2.rd
  clear hg2 hb2 hr2 hown1 hr1 hz1
  have HE := Lib.hid er2
  clear er2
  refine (rmore_any 0 A2 _ c2 r2 _ rfl (by decide) hall hrd2 (by omega)).mono ?_
  rintro e w' ⟨rfl, rfl⟩
  have hml : more 0 r2 < 4294967296 := more_lt hall (by decide)
  have HS := Lib.hid (show sealed k l = r2 ++ le4 (more 0 r2) from by rw [HE.out]; rfl)
  generalize more 0 r2 = s at *
  go_wp2
  go_loopw [5, 6, 7] (fun v sv i wr => ∃ (j q : Nat) (D : Option Addr) (cc : Nat) (r : List Nat), j ≤ 4 ∧ i = .int .i64 (j : Int) ∧ q < 4294967296 ∧ Hid (q = s / 256 ^ j) ∧ sv = .int .u32 (q : Int) ∧ v = .slice D r.length cc ∧ Hid (r = r2 ++ (le4 s).take j) ∧
      Own wr w.heap.size 5 (.slice D r.length cc) (BB r) ∧ Below w.heap.size w wr) (fun _ _ i _ => 4 - (intOf i).toNat)
  case atStart => exact ⟨0, s, A2, c2, r2, by omega, rfl, hml, (by show s = s / 256 ^ 0; simp), rfl, rfl, (by show r2 = _; simp), hown2, hb02⟩
  case round =>
    obtain ⟨j, q, D, cc, r, hj, rfl, hq, hqe, rfl, rfl, hre, hown, hb⟩ := hrel
    have hrl : r.length ≤ 140737488355304 := by rw [hre.out, List.length_append, List.length_take]; simp [le4]; omega
    have hsw := hb.size
    by_cases h0 : j < 4
    · have hb8 : (q : Int) % 256 = ((q % 256 : Nat) : Int) := by omega
      have hz4 : r.length + [q % 256].length ≤ 140737488355328 := by simp; omega
      have hq8 : q % 256 < 256 := by omega
      have hnx : Hid (r ++ [q % 256] = r2 ++ (le4 s).take (j + 1)) := by
        show r ++ [q % 256] = _
        rw [hre.out, hqe.out]
        have : j = 0 ∨ j = 1 ∨ j = 2 ∨ j = 3 := by omega
        rcases this with rfl | rfl | rfl | rfl <;> simp [le4]
      have hq2 : Hid (q / 256 = s / 256 ^ (j + 1)) := by
        show q / 256 = _
        rw [hqe.out, Nat.div_div_eq_div_mul, Nat.pow_succ]
      generalize q % 256 = b at *
      have HB8 := Lib.hid hb8
      clear hre hqe
      go_wp2_with (at_builtin; refine wpl_app rfl (.tmp 18) (.tmp 22) rfl w.heap.size _ r rfl (hown.alloc _) _ _ _ _ [b] rfl rfl (rd_one wr b) hz4 (by (simp; omega)) ?_; intro A4 c4 w4 r4 hr4 hown4 hg4 hb4)
      go_roundw
      case rel =>
        refine ⟨j + 1, q / 256, A4, c4, r4, by omega, by go_num, by omega, hq2, Crc.val_int (by omega), rfl, ?_, hown4, (hb.alloc hsw _).trans hb4⟩
        show r4 = _
        rw [hr4.out]; exact hnx.out
      case measure => simp [intOf]; omega
    · have hfin : r = sealed k l := by rw [HS.out, hre.out, show j = 4 from by omega]; rfl
      have HF := Lib.hid hfin
      clear hfin hre hqe
      go_wp2
      go_ret
      rw [← HF.out]
      obtain ⟨_, _, he, hle, _⟩ := hown.form
      exact ⟨D, cc, rfl, hown, by rw [BB_length] at hle; injection he with _ _ h3; omega, hb⟩
end Go.Proofs.Ytpckfnafcmifpaa.Seal
