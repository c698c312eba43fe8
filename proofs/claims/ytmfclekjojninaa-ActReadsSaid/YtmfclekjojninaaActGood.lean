/- Layer 37 (act): the walk of act.Good. -/
import Derived.Test.YtmfclekjojninaaActMath
namespace Go.Proofs.Ytmfclekjojninaa.Act
open Go.RowKit Go.Proofs.Ytmfclekjojninaa.Mem Go.Proofs.Ytmfclekjojninaa.Card
theorem toList_nil {s : ByteArray} (h : s.toList = []) : s = ⟨#[]⟩ := by
  rw [ByteArray.toList_eq] at h
  obtain ⟨⟨l⟩⟩ := s
  simp at h
  subst h; rfl
set_option maxRecDepth 100000 in
set_option maxHeartbeats 4000000 in
theorem good_any (x : ActM) (w : World) (hx : x.Ok) :
    Calls Try.prog 26 #[x.val] w fun e w' => e = .returned (.bool (good x)) ∧ Below w.heap.size w w' := by
  obtain ⟨xk, xwho, xcid, xf, xt, xp, xa, xm⟩ := x
  obtain ⟨hx1, hx2, hx3, hx4, hx5, ⟨hx6, hx6'⟩, ⟨hx7, hx7'⟩, hx8⟩ := hx
  obtain ⟨b1, hb1⟩ : ∃ b, hasL xk 119 = b := ⟨_, rfl⟩
  have CH1 := kept (fun W => has_any xk 119 W hx1)
  rw [hb1] at CH1
  have HB1 := kept hb1
  clear hb1
  obtain ⟨b2, hb2⟩ : ∃ b, hasL xk 99 = b := ⟨_, rfl⟩
  have CH2 := kept (fun W => has_any xk 99 W hx1)
  rw [hb2] at CH2
  have HB2 := kept hb2
  clear hb2
  obtain ⟨b3, hb3⟩ : ∃ b, hasL xk 102 = b := ⟨_, rfl⟩
  have CH3 := kept (fun W => has_any xk 102 W hx1)
  rw [hb3] at CH3
  have HB3 := kept hb3
  clear hb3
  obtain ⟨b4, hb4⟩ : ∃ b, hasL xk 116 = b := ⟨_, rfl⟩
  have CH4 := kept (fun W => has_any xk 116 W hx1)
  rw [hb4] at CH4
  have HB4 := kept hb4
  clear hb4
  obtain ⟨b5, hb5⟩ : ∃ b, hasL xk 112 = b := ⟨_, rfl⟩
  have CH5 := kept (fun W => has_any xk 112 W hx1)
  rw [hb5] at CH5
  have HB5 := kept hb5
  clear hb5
  obtain ⟨b6, hb6⟩ : ∃ b, hasL xk 97 = b := ⟨_, rfl⟩
  have CH6 := kept (fun W => has_any xk 97 W hx1)
  rw [hb6] at CH6
  have HB6 := kept hb6
  clear hb6
  obtain ⟨b7, hb7⟩ : ∃ b, hasL xk 109 = b := ⟨_, rfl⟩
  have CH7 := kept (fun W => has_any xk 109 W hx1)
  rw [hb7] at CH7
  have HB7 := kept hb7
  clear hb7
  have k0 := kept ((Blk.new w [.int .u8 (xk : Int), .int .u8 (xwho : Int), .int .u64 (xcid : Int), .int .u8 (xf : Int), .string xt, .int .i64 xp, .int .i64 xa, .int .u32 (xm : Int)] 62).alloc (.cells #[.int .u8 (xk : Int), .int .u8 (xwho : Int), .int .u64 (xcid : Int), .int .u8 (xf : Int), .string xt, .int .i64 xp, .int .i64 xa, .int .u32 (xm : Int)] 62))
  have k1 := kept (Blk.newAt (w.alloc (.cells #[.int .u8 (xk : Int), .int .u8 (xwho : Int), .int .u64 (xcid : Int), .int .u8 (xf : Int), .string xt, .int .i64 xp, .int .i64 xa, .int .u32 (xm : Int)] 62)) [.int .u8 (xk : Int), .int .u8 (xwho : Int), .int .u64 (xcid : Int), .int .u8 (xf : Int), .string xt, .int .i64 xp, .int .i64 xa, .int .u32 (xm : Int)] 62 (g := w.heap.size + 1) (by simp))
  have hb0 := kept (((Below.refl w.heap.size w).alloc (Nat.le_refl _) (.cells #[.int .u8 (xk : Int), .int .u8 (xwho : Int), .int .u64 (xcid : Int), .int .u8 (xf : Int), .string xt, .int .i64 xp, .int .i64 xa, .int .u32 (xm : Int)] 62)).alloc (by simp) (.cells #[.int .u8 (xk : Int), .int .u8 (xwho : Int), .int .u64 (xcid : Int), .int .u8 (xf : Int), .string xt, .int .i64 xp, .int .i64 xa, .int .u32 (xm : Int)] 62))
  unfold ActM.val
  dsimp only at hx1 hx2 hx3 hx4 hx5 hx6 hx6' hx7 hx7' hx8 ⊢
  obtain ⟨x, hxx⟩ : ∃ x : ActM, x = ⟨xk, xwho, xcid, xf, xt, xp, xa, xm⟩ := ⟨_, rfl⟩
  rw [← hxx]
  have HX := kept hxx
  clear hxx
  go_enter Try.func26, Try.ntmps26
  go_upto_if 9 with (go_at_call 42; refine (CH1.out _).mono ?_; rintro e w' ⟨rfl, rfl⟩)
  obtain ⟨w0, hw0⟩ : ∃ w0, (w.alloc (.cells #[.int .u8 (xk : Int), .int .u8 (xwho : Int), .int .u64 (xcid : Int), .int .u8 (xf : Int), .string xt, .int .i64 xp, .int .i64 xa, .int .u32 (xm : Int)] 62)).alloc (.cells #[.int .u8 (xk : Int), .int .u8 (xwho : Int), .int .u64 (xcid : Int), .int .u8 (xf : Int), .string xt, .int .i64 xp, .int .i64 xa, .int .u32 (xm : Int)] 62) = w0 := ⟨_, rfl⟩
  have K0 := k0.out
  have K1 := k1.out
  have HB := hb0.out
  rw [hw0] at K0 K1 HB ⊢
  go_cut [] (fun wx => ∃ v1 : Nat, Kept (v1 = if b1 = true then 0 else xwho) ∧ Blk wx (w.heap.size + 1) [.int .u8 (xk : Int), .int .u8 (v1 : Int), .int .u64 (xcid : Int), .int .u8 (xf : Int), .string xt, .int .i64 xp, .int .i64 xa, .int .u32 (xm : Int)] 62 ∧ Blk wx w.heap.size [.int .u8 (xk : Int), .int .u8 (xwho : Int), .int .u64 (xcid : Int), .int .u8 (xf : Int), .string xt, .int .i64 xp, .int .i64 xa, .int .u32 (xm : Int)] 62 ∧ Below w.heap.size w wx)
  case first =>
    have h1 := K1.cell (j := 1) rfl
    have h2 := K1.frozen 1
    have h3 := K1.lt
    have hne : w.heap.size + 1 ≠ w.heap.size := by omega
    cases b1
    · have HF := kept (And.intro K1 (And.intro K0 HB))
      clear K0 K1 HB
      go_wp2
      go_meet
      exact ⟨xwho, ⟨by simp⟩, HF.out⟩
    · have HF := kept (And.intro (K1.set 1 (.int .u8 ((0 : Nat) : Int))) (And.intro (K0.other (p := ⟨w.heap.size + 1, 1, none⟩) hne (.int .u8 ((0 : Nat) : Int))) (HB.setCell (p := ⟨w.heap.size + 1, 1, none⟩) (by simp) (.int .u8 ((0 : Nat) : Int)))))
      clear K0 K1 HB
      go_wp2
      go_meet
      exact ⟨0, ⟨by simp⟩, HF.out⟩
  obtain ⟨v1, E1, K1n, K0n, HBn⟩ := hcut
  clear K0 K1 HB
  have K1 := K1n
  have K0 := K0n
  have HB := HBn
  clear K1n K0n HBn
  obtain ⟨wc1, rfl⟩ : ∃ w, w = wc := ⟨_, rfl⟩
  go_upto_if 12 with (go_at_call 42; refine (CH2.out _).mono ?_; rintro e w' ⟨rfl, rfl⟩)
  go_cut [] (fun wx => ∃ v2 : Nat, Kept (v2 = if b2 = true then 0 else xcid) ∧ Blk wx (w.heap.size + 1) [.int .u8 (xk : Int), .int .u8 (v1 : Int), .int .u64 (v2 : Int), .int .u8 (xf : Int), .string xt, .int .i64 xp, .int .i64 xa, .int .u32 (xm : Int)] 62 ∧ Blk wx w.heap.size [.int .u8 (xk : Int), .int .u8 (xwho : Int), .int .u64 (xcid : Int), .int .u8 (xf : Int), .string xt, .int .i64 xp, .int .i64 xa, .int .u32 (xm : Int)] 62 ∧ Below w.heap.size w wx)
  case first =>
    have h1 := K1.cell (j := 2) rfl
    have h2 := K1.frozen 2
    have h3 := K1.lt
    have hne : w.heap.size + 1 ≠ w.heap.size := by omega
    cases b2
    · have HF := kept (And.intro K1 (And.intro K0 HB))
      clear K0 K1 HB
      go_wp2
      go_meet
      exact ⟨xcid, ⟨by simp⟩, HF.out⟩
    · have HF := kept (And.intro (K1.set 2 (.int .u64 ((0 : Nat) : Int))) (And.intro (K0.other (p := ⟨w.heap.size + 1, 2, none⟩) hne (.int .u64 ((0 : Nat) : Int))) (HB.setCell (p := ⟨w.heap.size + 1, 2, none⟩) (by simp) (.int .u64 ((0 : Nat) : Int)))))
      clear K0 K1 HB
      go_wp2
      go_meet
      exact ⟨0, ⟨by simp⟩, HF.out⟩
  obtain ⟨v2, E2, K1n, K0n, HBn⟩ := hcut
  clear K0 K1 HB
  have K1 := K1n
  have K0 := K0n
  have HB := HBn
  clear K1n K0n HBn
  obtain ⟨wc2, rfl⟩ : ∃ w, w = wc := ⟨_, rfl⟩
  go_upto_if 15 with (go_at_call 42; refine (CH3.out _).mono ?_; rintro e w' ⟨rfl, rfl⟩)
  go_cut [] (fun wx => ∃ v3 : Nat, Kept (v3 = if b3 = true then 0 else xf) ∧ Blk wx (w.heap.size + 1) [.int .u8 (xk : Int), .int .u8 (v1 : Int), .int .u64 (v2 : Int), .int .u8 (v3 : Int), .string xt, .int .i64 xp, .int .i64 xa, .int .u32 (xm : Int)] 62 ∧ Blk wx w.heap.size [.int .u8 (xk : Int), .int .u8 (xwho : Int), .int .u64 (xcid : Int), .int .u8 (xf : Int), .string xt, .int .i64 xp, .int .i64 xa, .int .u32 (xm : Int)] 62 ∧ Below w.heap.size w wx)
  case first =>
    have h1 := K1.cell (j := 3) rfl
    have h2 := K1.frozen 3
    have h3 := K1.lt
    have hne : w.heap.size + 1 ≠ w.heap.size := by omega
    cases b3
    · have HF := kept (And.intro K1 (And.intro K0 HB))
      clear K0 K1 HB
      go_wp2
      go_meet
      exact ⟨xf, ⟨by simp⟩, HF.out⟩
    · have HF := kept (And.intro (K1.set 3 (.int .u8 ((0 : Nat) : Int))) (And.intro (K0.other (p := ⟨w.heap.size + 1, 3, none⟩) hne (.int .u8 ((0 : Nat) : Int))) (HB.setCell (p := ⟨w.heap.size + 1, 3, none⟩) (by simp) (.int .u8 ((0 : Nat) : Int)))))
      clear K0 K1 HB
      go_wp2
      go_meet
      exact ⟨0, ⟨by simp⟩, HF.out⟩
  obtain ⟨v3, E3, K1n, K0n, HBn⟩ := hcut
  clear K0 K1 HB
  have K1 := K1n
  have K0 := K0n
  have HB := HBn
  clear K1n K0n HBn
  obtain ⟨wc3, rfl⟩ : ∃ w, w = wc := ⟨_, rfl⟩
  go_upto_if 18 with (go_at_call 42; refine (CH4.out _).mono ?_; rintro e w' ⟨rfl, rfl⟩)
  go_cut [] (fun wx => ∃ v4 : ByteArray, Kept (v4 = if b4 = true then ⟨#[]⟩ else xt) ∧ Blk wx (w.heap.size + 1) [.int .u8 (xk : Int), .int .u8 (v1 : Int), .int .u64 (v2 : Int), .int .u8 (v3 : Int), .string v4, .int .i64 xp, .int .i64 xa, .int .u32 (xm : Int)] 62 ∧ Blk wx w.heap.size [.int .u8 (xk : Int), .int .u8 (xwho : Int), .int .u64 (xcid : Int), .int .u8 (xf : Int), .string xt, .int .i64 xp, .int .i64 xa, .int .u32 (xm : Int)] 62 ∧ Below w.heap.size w wx)
  case first =>
    have h1 := K1.cell (j := 4) rfl
    have h2 := K1.frozen 4
    have h3 := K1.lt
    have hne : w.heap.size + 1 ≠ w.heap.size := by omega
    cases b4
    · have HF := kept (And.intro K1 (And.intro K0 HB))
      clear K0 K1 HB
      go_wp2
      go_meet
      exact ⟨xt, ⟨by simp⟩, HF.out⟩
    · have HF := kept (And.intro (K1.set 4 (.string ⟨#[]⟩)) (And.intro (K0.other (p := ⟨w.heap.size + 1, 4, none⟩) hne (.string ⟨#[]⟩)) (HB.setCell (p := ⟨w.heap.size + 1, 4, none⟩) (by simp) (.string ⟨#[]⟩))))
      clear K0 K1 HB
      go_wp2
      go_meet
      exact ⟨⟨#[]⟩, ⟨by simp⟩, HF.out⟩
  obtain ⟨v4, E4, K1n, K0n, HBn⟩ := hcut
  clear K0 K1 HB
  have K1 := K1n
  have K0 := K0n
  have HB := HBn
  clear K1n K0n HBn
  obtain ⟨wc4, rfl⟩ : ∃ w, w = wc := ⟨_, rfl⟩
  go_upto_if 21 with (go_at_call 42; refine (CH5.out _).mono ?_; rintro e w' ⟨rfl, rfl⟩)
  go_cut [] (fun wx => ∃ v5 : Int, Kept (v5 = if b5 = true then 0 else xp) ∧ Blk wx (w.heap.size + 1) [.int .u8 (xk : Int), .int .u8 (v1 : Int), .int .u64 (v2 : Int), .int .u8 (v3 : Int), .string v4, .int .i64 v5, .int .i64 xa, .int .u32 (xm : Int)] 62 ∧ Blk wx w.heap.size [.int .u8 (xk : Int), .int .u8 (xwho : Int), .int .u64 (xcid : Int), .int .u8 (xf : Int), .string xt, .int .i64 xp, .int .i64 xa, .int .u32 (xm : Int)] 62 ∧ Below w.heap.size w wx)
  case first =>
    have h1 := K1.cell (j := 5) rfl
    have h2 := K1.frozen 5
    have h3 := K1.lt
    have hne : w.heap.size + 1 ≠ w.heap.size := by omega
    cases b5
    · have HF := kept (And.intro K1 (And.intro K0 HB))
      clear K0 K1 HB
      go_wp2
      go_meet
      exact ⟨xp, ⟨by simp⟩, HF.out⟩
    · have HF := kept (And.intro (K1.set 5 (.int .i64 0)) (And.intro (K0.other (p := ⟨w.heap.size + 1, 5, none⟩) hne (.int .i64 0)) (HB.setCell (p := ⟨w.heap.size + 1, 5, none⟩) (by simp) (.int .i64 0))))
      clear K0 K1 HB
      go_wp2
      go_meet
      exact ⟨0, ⟨by simp⟩, HF.out⟩
  obtain ⟨v5, E5, K1n, K0n, HBn⟩ := hcut
  clear K0 K1 HB
  have K1 := K1n
  have K0 := K0n
  have HB := HBn
  clear K1n K0n HBn
  obtain ⟨wc5, rfl⟩ : ∃ w, w = wc := ⟨_, rfl⟩
  go_upto_if 24 with (go_at_call 42; refine (CH6.out _).mono ?_; rintro e w' ⟨rfl, rfl⟩)
  go_cut [] (fun wx => ∃ v6 : Int, Kept (v6 = if b6 = true then 0 else xa) ∧ Blk wx (w.heap.size + 1) [.int .u8 (xk : Int), .int .u8 (v1 : Int), .int .u64 (v2 : Int), .int .u8 (v3 : Int), .string v4, .int .i64 v5, .int .i64 v6, .int .u32 (xm : Int)] 62 ∧ Blk wx w.heap.size [.int .u8 (xk : Int), .int .u8 (xwho : Int), .int .u64 (xcid : Int), .int .u8 (xf : Int), .string xt, .int .i64 xp, .int .i64 xa, .int .u32 (xm : Int)] 62 ∧ Below w.heap.size w wx)
  case first =>
    have h1 := K1.cell (j := 6) rfl
    have h2 := K1.frozen 6
    have h3 := K1.lt
    have hne : w.heap.size + 1 ≠ w.heap.size := by omega
    cases b6
    · have HF := kept (And.intro K1 (And.intro K0 HB))
      clear K0 K1 HB
      go_wp2
      go_meet
      exact ⟨xa, ⟨by simp⟩, HF.out⟩
    · have HF := kept (And.intro (K1.set 6 (.int .i64 0)) (And.intro (K0.other (p := ⟨w.heap.size + 1, 6, none⟩) hne (.int .i64 0)) (HB.setCell (p := ⟨w.heap.size + 1, 6, none⟩) (by simp) (.int .i64 0))))
      clear K0 K1 HB
      go_wp2
      go_meet
      exact ⟨0, ⟨by simp⟩, HF.out⟩
  obtain ⟨v6, E6, K1n, K0n, HBn⟩ := hcut
  clear K0 K1 HB
  have K1 := K1n
  have K0 := K0n
  have HB := HBn
  clear K1n K0n HBn
  obtain ⟨wc6, rfl⟩ : ∃ w, w = wc := ⟨_, rfl⟩
  go_upto_if 27 with (go_at_call 42; refine (CH7.out _).mono ?_; rintro e w' ⟨rfl, rfl⟩)
  go_cut [] (fun wx => ∃ v7 : Nat, Kept (v7 = if b7 = true then 0 else xm) ∧ Blk wx (w.heap.size + 1) [.int .u8 (xk : Int), .int .u8 (v1 : Int), .int .u64 (v2 : Int), .int .u8 (v3 : Int), .string v4, .int .i64 v5, .int .i64 v6, .int .u32 (v7 : Int)] 62 ∧ Blk wx w.heap.size [.int .u8 (xk : Int), .int .u8 (xwho : Int), .int .u64 (xcid : Int), .int .u8 (xf : Int), .string xt, .int .i64 xp, .int .i64 xa, .int .u32 (xm : Int)] 62 ∧ Below w.heap.size w wx)
  case first =>
    have h1 := K1.cell (j := 7) rfl
    have h2 := K1.frozen 7
    have h3 := K1.lt
    have hne : w.heap.size + 1 ≠ w.heap.size := by omega
    cases b7
    · have HF := kept (And.intro K1 (And.intro K0 HB))
      clear K0 K1 HB
      go_wp2
      go_meet
      exact ⟨xm, ⟨by simp⟩, HF.out⟩
    · have HF := kept (And.intro (K1.set 7 (.int .u32 ((0 : Nat) : Int))) (And.intro (K0.other (p := ⟨w.heap.size + 1, 7, none⟩) hne (.int .u32 ((0 : Nat) : Int))) (HB.setCell (p := ⟨w.heap.size + 1, 7, none⟩) (by simp) (.int .u32 ((0 : Nat) : Int)))))
      clear K0 K1 HB
      go_wp2
      go_meet
      exact ⟨0, ⟨by simp⟩, HF.out⟩
  obtain ⟨v7, E7, K1n, K0n, HBn⟩ := hcut
  clear K0 K1 HB
  have K1 := K1n
  have K0 := K0n
  have HB := HBn
  clear K1n K0n HBn
  obtain ⟨wc7, rfl⟩ : ∃ w, w = wc := ⟨_, rfl⟩
  have g0 := K1.cell (j := 0) rfl
  have g1 := K1.cell (j := 1) rfl
  have g2 := K1.cell (j := 2) rfl
  have g3 := K1.cell (j := 3) rfl
  have g4 := K1.cell (j := 4) rfl
  have g5 := K1.cell (j := 5) rfl
  have g6 := K1.cell (j := 6) rfl
  have g7 := K1.cell (j := 7) rfl
  have q1 := K0.cell (j := 1) rfl
  have q4 := K0.cell (j := 4) rfl
  have q7 := K0.cell (j := 7) rfl
  have l1 := K1.lt
  clear k0 k1 hb0 hw0
  have e1 : (v1 = 0) ↔ (hasN xk 1 = false → xwho = 0) := by
    rw [show hasN xk 1 = b1 from HB1.out, E1.out]
    cases b1 <;> simp
  have e2 : (v2 = 0) ↔ (hasN xk 2 = false → xcid = 0) := by
    rw [show hasN xk 2 = b2 from HB2.out, E2.out]
    cases b2 <;> simp
  have e3 : (v3 = 0) ↔ (hasN xk 3 = false → xf = 0) := by
    rw [show hasN xk 3 = b3 from HB3.out, E3.out]
    cases b3 <;> simp
  have e4 : (v4 = ⟨#[]⟩) ↔ (hasN xk 4 = false → xt = ⟨#[]⟩) := by
    rw [show hasN xk 4 = b4 from HB4.out, E4.out]
    cases b4 <;> simp
  have e5 : (v5 = 0) ↔ (hasN xk 5 = false → xp = 0) := by
    rw [show hasN xk 5 = b5 from HB5.out, E5.out]
    cases b5 <;> simp
  have e6 : (v6 = 0) ↔ (hasN xk 6 = false → xa = 0) := by
    rw [show hasN xk 6 = b6 from HB6.out, E6.out]
    cases b6 <;> simp
  have e7 : (v7 = 0) ↔ (hasN xk 7 = false → xm = 0) := by
    rw [show hasN xk 7 = b7 from HB7.out, E7.out]
    cases b7 <;> simp
  obtain ⟨mb, hmb⟩ : ∃ mb, decide (xwho < 16 ∨ xwho = 255 ∧ 15 ≤ xk) = mb := ⟨_, rfl⟩
  obtain ⟨tb, htb⟩ : ∃ tb, textOk xt = tb := ⟨_, rfl⟩
  obtain ⟨qb, hqb⟩ : ∃ qb, decide (xk ≠ 17 ∨ xm ≤ 1) = qb := ⟨_, rfl⟩
  have HGD : Kept (good x = (decide (1 ≤ xk ∧ xk ≤ 19) && (decide (v1 = 0 ∧ v2 = 0 ∧ v3 = 0 ∧ v4 = ⟨#[]⟩ ∧ v5 = 0 ∧ v6 = 0 ∧ v7 = 0) && (mb && (tb && qb))))) := ⟨by
    rw [HX.out]
    unfold good
    dsimp only
    rw [hmb, htb, hqb]
    rw [show decide (v1 = 0 ∧ v2 = 0 ∧ v3 = 0 ∧ v4 = ⟨#[]⟩ ∧ v5 = 0 ∧ v6 = 0 ∧ v7 = 0) = decide ((hasN xk 1 = false → xwho = 0) ∧ (hasN xk 2 = false → xcid = 0) ∧ (hasN xk 3 = false → xf = 0) ∧ (hasN xk 4 = false → xt = ⟨#[]⟩) ∧ (hasN xk 5 = false → xp = 0) ∧ (hasN xk 6 = false → xa = 0) ∧ (hasN xk 7 = false → xm = 0)) from decide_eq_decide.2 (by rw [e1, e2, e3, e4, e5, e6, e7])]⟩
  have CM := kept (fun W => machine_any xk xwho W hx1 hx2)
  have CT := kept (fun W => text_any xt W)
  rw [hmb] at CM
  rw [htb] at CT
  have HQB := kept hqb
  clear e1 e2 e3 e4 e5 e6 e7 hmb htb hqb CH1 CH2 CH3 CH4 CH5 CH6 CH7 HB1 HB2 HB3 HB4 HB5 HB6 HB7 E1 E2 E3 E4 E5 E6 E7 HX
  have HBW := kept HB
  clear HB K0 K1
  by_cases hk : 1 ≤ xk ∧ xk ≤ 19
  · have HK := kept hk
    obtain ⟨hk1, hk2⟩ := hk
    by_cases he : v1 = 0 ∧ v2 = 0 ∧ v3 = 0 ∧ v4 = ⟨#[]⟩ ∧ v5 = 0 ∧ v6 = 0 ∧ v7 = 0
    · have HE : Kept (good x = (mb && (tb && qb))) := ⟨by rw [HGD.out, decide_eq_true HK.out, decide_eq_true he]; simp⟩
      clear HGD
      obtain ⟨rfl, rfl, rfl, rfl, rfl, rfl, rfl⟩ := he
      cases mb
      · go_wp2_with fail
        refine (CM.out _).mono ?_
        rintro e w' ⟨rfl, rfl⟩
        go_wp2
        go_ret
        exact ⟨ret_bool (by rw [HE.out]; simp), HBW.out⟩
      · cases tb
        · go_wp2_with fail
          refine (CM.out _).mono ?_
          rintro e w' ⟨rfl, rfl⟩
          go_wp2_with fail
          refine (CT.out _).mono ?_
          rintro e w' ⟨rfl, q, rfl⟩
          go_wp2
          go_ret
          exact ⟨ret_bool (by rw [HE.out]; simp), HBW.out.trans (below_draw _ _ _)⟩
        · by_cases h17 : xk = 17
          · subst h17
            have hqm : qb = decide (xm ≤ 1) := by rw [← HQB.out]; simp
            by_cases hm1 : xm ≤ 1
            · have HQ := kept (hqm.trans (decide_eq_true hm1))
              clear hqm
              go_wp2_with fail
              refine (CM.out _).mono ?_
              rintro e w' ⟨rfl, rfl⟩
              go_wp2_with fail
              refine (CT.out _).mono ?_
              rintro e w' ⟨rfl, q, rfl⟩
              go_wp2
              go_ret
              exact ⟨ret_bool (by rw [HE.out, HQ.out]; first | rfl | (simp; done) | (simp; omega)), HBW.out.trans (below_draw _ _ _)⟩
            · have HQ := kept (hqm.trans (decide_eq_false hm1))
              clear hqm
              go_wp2_with fail
              refine (CM.out _).mono ?_
              rintro e w' ⟨rfl, rfl⟩
              go_wp2_with fail
              refine (CT.out _).mono ?_
              rintro e w' ⟨rfl, q, rfl⟩
              go_wp2
              go_ret
              exact ⟨ret_bool (by rw [HE.out, HQ.out]; first | rfl | (simp; done) | (simp; omega)), HBW.out.trans (below_draw _ _ _)⟩
          · have HQ : Kept (qb = true) := ⟨by rw [← HQB.out, decide_eq_true (.inl h17)]⟩
            have b17 : ((xk : Int) != 17) = true := by rw [bne_iff_ne]; omega
            clear h17
            go_wp2_with fail
            refine (CM.out _).mono ?_
            rintro e w' ⟨rfl, rfl⟩
            go_wp2_with fail
            refine (CT.out _).mono ?_
            rintro e w' ⟨rfl, q, rfl⟩
            go_wp2
            go_ret
            exact ⟨ret_bool (by rw [HE.out, HQ.out]; first | rfl | (simp; done)), HBW.out.trans (below_draw _ _ _)⟩
    · have HE : Kept (good x = false) := ⟨by rw [HGD.out, decide_eq_false he]; simp⟩
      have HNE := kept he
      clear HGD he CM CT
      go_wp2_with fail
      all_goals first
        | (go_ret; exact ⟨ret_bool HE.out.symm, HBW.out⟩)
        | (exfalso; have q4 : v4.toList = [] := (by assumption); exact HNE.out ⟨by omega, by omega, by omega, toList_nil q4, by omega, by omega, by omega⟩)
  · have HE : Kept (good x = false) := ⟨by rw [HGD.out, decide_eq_false hk]; simp⟩
    have hkk : xk < 1 ∨ 19 < xk := by omega
    clear HGD hk CM CT
    rcases hkk with h | h
    all_goals
      go_wp2_with fail
      go_ret
      exact ⟨ret_bool HE.out.symm, HBW.out⟩
end Go.Proofs.Ytmfclekjojninaa.Act
