/- Layer 37 (act): the walk of the document's Good. -/
import Derived.Test.YtmfclekjojninaaActGood
namespace Go.Proofs.Ytmfclekjojninaa.Act
open Go.RowKit Go.Proofs.Ytmfclekjojninaa.Mem Go.Proofs.Ytmfclekjojninaa.Card

theorem toList_iff (s : ByteArray) : s = ⟨#[]⟩ ↔ s.toList = [] := ⟨fun h => by rw [h, ByteArray.toList_eq], toList_nil⟩
theorem dec_t {p : Prop} [Decidable p] (h : ¬ p) : true = decide (¬ p) := (decide_eq_true h).symm
theorem dec_f {p : Prop} [Decidable p] (h : p) : false = decide (¬ p) := (decide_eq_false (fun k => k h)).symm
set_option maxRecDepth 100000 in
set_option maxHeartbeats 4000000 in
theorem xgood_any (x : ActM) (w : World) (hx : x.Ok) :
    Calls Try.prog 27 #[x.val] w fun e w' => e = .returned (.bool (good x)) ∧ Below w.heap.size w w' := by
  obtain ⟨xk, xwho, xcid, xf, xt, xp, xa, xm⟩ := x
  obtain ⟨hx1, hx2, hx3, hx4, hx5, ⟨hx6, hx6'⟩, ⟨hx7, hx7'⟩, hx8⟩ := hx
  have k0 := kept (Blk.new w [.int .u8 (xk : Int), .int .u8 (xwho : Int), .int .u64 (xcid : Int), .int .u8 (xf : Int), .string xt, .int .i64 xp, .int .i64 xa, .int .u32 (xm : Int)] 62)
  have hb0 := kept ((Below.refl w.heap.size w).alloc (Nat.le_refl _) (.cells #[.int .u8 (xk : Int), .int .u8 (xwho : Int), .int .u64 (xcid : Int), .int .u8 (xf : Int), .string xt, .int .i64 xp, .int .i64 xa, .int .u32 (xm : Int)] 62))
  unfold ActM.val
  dsimp only at hx1 hx2 hx3 hx4 hx5 hx6 hx6' hx7 hx7' hx8 ⊢
  obtain ⟨x, hxx⟩ : ∃ x : ActM, x = ⟨xk, xwho, xcid, xf, xt, xp, xa, xm⟩ := ⟨_, rfl⟩
  rw [← hxx]
  have HX := kept hxx
  clear hxx
  obtain ⟨b1, hb1⟩ : ∃ b, hasN xk 1 = b := ⟨_, rfl⟩
  have CH1 := kept (fun W => rhas_1 xk W hx1)
  rw [hb1] at CH1
  obtain ⟨b2, hb2⟩ : ∃ b, hasN xk 2 = b := ⟨_, rfl⟩
  have CH2 := kept (fun W => rhas_2 xk W hx1)
  rw [hb2] at CH2
  obtain ⟨b3, hb3⟩ : ∃ b, hasN xk 3 = b := ⟨_, rfl⟩
  have CH3 := kept (fun W => rhas_3 xk W hx1)
  rw [hb3] at CH3
  obtain ⟨b4, hb4⟩ : ∃ b, hasN xk 4 = b := ⟨_, rfl⟩
  have CH4 := kept (fun W => rhas_4 xk W hx1)
  rw [hb4] at CH4
  obtain ⟨b5, hb5⟩ : ∃ b, hasN xk 5 = b := ⟨_, rfl⟩
  have CH5 := kept (fun W => rhas_5 xk W hx1)
  rw [hb5] at CH5
  obtain ⟨b6, hb6⟩ : ∃ b, hasN xk 6 = b := ⟨_, rfl⟩
  have CH6 := kept (fun W => rhas_6 xk W hx1)
  rw [hb6] at CH6
  obtain ⟨b7, hb7⟩ : ∃ b, hasN xk 7 = b := ⟨_, rfl⟩
  have CH7 := kept (fun W => rhas_7 xk W hx1)
  rw [hb7] at CH7
  obtain ⟨tb, htb⟩ : ∃ tb, textOk xt = tb := ⟨_, rfl⟩
  obtain ⟨qb, hqb⟩ : ∃ qb, decide (xk ≠ 17 ∨ xm ≤ 1) = qb := ⟨_, rfl⟩
  have HGD : Kept (good x = (!(decide (¬ ((1 ≤ xk ∧ xk ≤ 19) ∧ (b1 = false → xwho = 0) ∧ (xwho < 16 ∨ xwho = 255 ∧ 15 ≤ xk)))) && (!(decide (¬ ((b2 = false → xcid = 0) ∧ (b3 = false → xf = 0) ∧ (b4 = false → xt.toList = []) ∧ tb = true))) && (!(decide (¬ ((b5 = false → xp = 0) ∧ (b6 = false → xa = 0) ∧ (b7 = false → xm = 0)))) && qb)))) := ⟨by
    rw [HX.out]
    unfold good
    dsimp only
    rw [hb1, hb2, hb3, hb4, hb5, hb6, hb7, htb, hqb]
    rw [Bool.eq_iff_iff]
    simp only [Bool.and_eq_true, decide_eq_true_eq, Bool.not_eq_true', decide_eq_false_iff_not, Decidable.not_not, toList_iff]
    constructor
    · rintro ⟨h1, ⟨h2, h3, h4, h5, h6, h7, h8⟩, h9, h10, h11⟩
      exact ⟨⟨h1, h2, h9⟩, ⟨h3, h4, h5, h10⟩, ⟨h6, h7, h8⟩, h11⟩
    · rintro ⟨⟨h1, h2, h9⟩, ⟨h3, h4, h5, h10⟩, ⟨h6, h7, h8⟩, h11⟩
      exact ⟨h1, ⟨h2, h3, h4, h5, h6, h7, h8⟩, h9, h10, h11⟩⟩
  have CT := kept (fun W => rtext_any xt W (by omega))
  rw [htb] at CT
  have HQB := kept hqb
  clear hb1 hb2 hb3 hb4 hb5 hb6 hb7 htb hqb HX
  go_enter Try.func27, Try.ntmps27
  go_upto_region 2 with fail
  obtain ⟨w0, hw0⟩ : ∃ w0, w.alloc (.cells #[.int .u8 (xk : Int), .int .u8 (xwho : Int), .int .u64 (xcid : Int), .int .u8 (xf : Int), .string xt, .int .i64 xp, .int .i64 xa, .int .u32 (xm : Int)] 62) = w0 := ⟨_, rfl⟩
  have K0 := k0.out
  have HB := hb0.out
  rw [hw0] at K0 HB ⊢
  clear hw0 k0 hb0
  go_cut [0, 39] (fun _ p wx => ∃ r, p = .bool r ∧ Kept (r = decide (¬ ((1 ≤ xk ∧ xk ≤ 19) ∧ (b1 = false → xwho = 0) ∧ (xwho < 16 ∨ xwho = 255 ∧ 15 ≤ xk)))) ∧ Blk wx w.heap.size [.int .u8 (xk : Int), .int .u8 (xwho : Int), .int .u64 (xcid : Int), .int .u8 (xf : Int), .string xt, .int .i64 xp, .int .i64 xa, .int .u32 (xm : Int)] 62 ∧ Below w.heap.size w wx)
  case first =>
    have hk0 := K0.lt
    have g0 := K0.cell (j := 0) rfl
    have g1 := K0.cell (j := 1) rfl
    have g2 := K0.cell (j := 2) rfl
    have g3 := K0.cell (j := 3) rfl
    have g4 := K0.cell (j := 4) rfl
    have g5 := K0.cell (j := 5) rfl
    have g6 := K0.cell (j := 6) rfl
    have g7 := K0.cell (j := 7) rfl
    have HK := kept K0
    have HBK := kept HB
    clear K0 HB
    go_wp2_with (first | (go_at_call_of 45 (Value.int .i64 1); refine (CH1.out _).mono ?_; rintro e w' ⟨rfl, rfl⟩))
    all_goals go_meet
    all_goals
      refine ⟨_, rfl, ⟨?_⟩, HK.out, ?_⟩
      rotate_left
      · first | exact HBK.out | exact HBK.out.trans (below_draw _ _ _)
      clear HK HBK HGD CT HQB CH1 CH2 CH3 CH4 CH5 CH6 CH7 g0 g1 g2 g3 g4 g5 g6 g7
      cases b1
      all_goals first
        | contradiction
        | (rw [Bool.eq_iff_iff]; simp; done)
        | (rw [Bool.eq_iff_iff]; simp; omega)
        | (simp_all; done)
  case rest =>
  obtain ⟨r1, rfl, HR1, K0n, HBn⟩ := hcut
  obtain ⟨wc1, rfl⟩ : ∃ w, w = wc := ⟨_, rfl⟩
  clear K0 HB
  have K0 := K0n
  have HB := HBn
  clear K0n HBn
  cases r1
  rotate_left
  · have HE : Kept (good x = false) := ⟨by rw [HGD.out, ← HR1.out]; simp⟩
    clear K0
    go_wp2
    go_ret
    exact ⟨ret_bool HE.out.symm, HB⟩
  go_upto_region 4 with fail
  go_cut [0, 73] (fun _ p wx => ∃ r, p = .bool r ∧ Kept (r = decide (¬ ((b2 = false → xcid = 0) ∧ (b3 = false → xf = 0) ∧ (b4 = false → xt.toList = []) ∧ tb = true))) ∧ Blk wx w.heap.size [.int .u8 (xk : Int), .int .u8 (xwho : Int), .int .u64 (xcid : Int), .int .u8 (xf : Int), .string xt, .int .i64 xp, .int .i64 xa, .int .u32 (xm : Int)] 62 ∧ Below w.heap.size w wx)
  case first =>
    have hk0 := K0.lt
    have g0 := K0.cell (j := 0) rfl
    have g1 := K0.cell (j := 1) rfl
    have g2 := K0.cell (j := 2) rfl
    have g3 := K0.cell (j := 3) rfl
    have g4 := K0.cell (j := 4) rfl
    have g5 := K0.cell (j := 5) rfl
    have g6 := K0.cell (j := 6) rfl
    have g7 := K0.cell (j := 7) rfl
    have HK := kept K0
    have HBK := kept HB
    clear K0 HB
    go_wp2_with (first | (go_at_call_of 45 (Value.int .i64 2); refine (CH2.out _).mono ?_; rintro e w' ⟨rfl, rfl⟩) | (go_at_call_of 45 (Value.int .i64 3); refine (CH3.out _).mono ?_; rintro e w' ⟨rfl, rfl⟩) | (go_at_call_of 45 (Value.int .i64 4); refine (CH4.out _).mono ?_; rintro e w' ⟨rfl, rfl⟩) | (go_at_call 46; refine (CT.out _).mono ?_; rintro e w' ⟨rfl, q, rfl⟩))
    all_goals go_meet
    all_goals
      refine ⟨_, rfl, ⟨?_⟩, HK.out, ?_⟩
      rotate_left
      · first | exact HBK.out | exact HBK.out.trans (below_draw _ _ _)
      clear HK HBK HGD CT HQB CH1 CH2 CH3 CH4 CH5 CH6 CH7 g0 g1 g2 g3 g4 g5 g6 g7
      cases b2 <;> cases b3 <;> cases b4 <;> cases tb
      all_goals first
        | contradiction
        | (rw [Bool.eq_iff_iff]; simp; done)
        | (rw [Bool.eq_iff_iff]; simp; omega)
        | (simp_all; done)
  case rest =>
  obtain ⟨r2, rfl, HR2, K0n, HBn⟩ := hcut
  obtain ⟨wc2, rfl⟩ : ∃ w, w = wc := ⟨_, rfl⟩
  clear K0 HB
  have K0 := K0n
  have HB := HBn
  clear K0n HBn
  cases r2
  rotate_left
  · have HE : Kept (good x = false) := ⟨by rw [HGD.out, ← HR2.out]; simp⟩
    clear K0
    go_wp2
    go_ret
    exact ⟨ret_bool HE.out.symm, HB⟩
  go_upto_region 6 with fail
  go_cut [0, 101] (fun _ p wx => ∃ r, p = .bool r ∧ Kept (r = decide (¬ ((b5 = false → xp = 0) ∧ (b6 = false → xa = 0) ∧ (b7 = false → xm = 0)))) ∧ Blk wx w.heap.size [.int .u8 (xk : Int), .int .u8 (xwho : Int), .int .u64 (xcid : Int), .int .u8 (xf : Int), .string xt, .int .i64 xp, .int .i64 xa, .int .u32 (xm : Int)] 62 ∧ Below w.heap.size w wx)
  case first =>
    have hk0 := K0.lt
    have g0 := K0.cell (j := 0) rfl
    have g1 := K0.cell (j := 1) rfl
    have g2 := K0.cell (j := 2) rfl
    have g3 := K0.cell (j := 3) rfl
    have g4 := K0.cell (j := 4) rfl
    have g5 := K0.cell (j := 5) rfl
    have g6 := K0.cell (j := 6) rfl
    have g7 := K0.cell (j := 7) rfl
    have HK := kept K0
    have HBK := kept HB
    clear K0 HB
    go_wp2_with (first | (go_at_call_of 45 (Value.int .i64 5); refine (CH5.out _).mono ?_; rintro e w' ⟨rfl, rfl⟩) | (go_at_call_of 45 (Value.int .i64 6); refine (CH6.out _).mono ?_; rintro e w' ⟨rfl, rfl⟩) | (go_at_call_of 45 (Value.int .i64 7); refine (CH7.out _).mono ?_; rintro e w' ⟨rfl, rfl⟩))
    all_goals go_meet
    all_goals
      refine ⟨_, rfl, ⟨?_⟩, HK.out, ?_⟩
      rotate_left
      · first | exact HBK.out | exact HBK.out.trans (below_draw _ _ _)
      clear HK HBK HGD CT HQB CH1 CH2 CH3 CH4 CH5 CH6 CH7 g0 g1 g2 g3 g4 g5 g6 g7
      cases b5 <;> cases b6 <;> cases b7
      all_goals first
        | contradiction
        | (rw [Bool.eq_iff_iff]; simp; done)
        | (rw [Bool.eq_iff_iff]; simp; omega)
        | (simp_all; done)
  case rest =>
  obtain ⟨r3, rfl, HR3, K0n, HBn⟩ := hcut
  obtain ⟨wc3, rfl⟩ : ∃ w, w = wc := ⟨_, rfl⟩
  clear K0 HB
  have K0 := K0n
  have HB := HBn
  clear K0n HBn
  cases r3
  rotate_left
  · have HE : Kept (good x = false) := ⟨by rw [HGD.out, ← HR3.out]; simp⟩
    clear K0
    go_wp2
    go_ret
    exact ⟨ret_bool HE.out.symm, HB⟩

  have HE : Kept (good x = qb) := ⟨by rw [HGD.out, ← HR1.out, ← HR2.out, ← HR3.out]; simp⟩
  have g7 := K0.cell (j := 7) rfl
  have hk0 := K0.lt
  clear K0
  have HBK := kept HB
  clear HB
  go_wp2
  all_goals
    go_ret
    refine ⟨ret_bool ?_, HBK.out⟩
    rw [HE.out, ← HQB.out]
    first
      | (rw [Bool.eq_iff_iff]; simp; done)
      | (rw [Bool.eq_iff_iff]; simp; omega)
end Go.Proofs.Ytmfclekjojninaa.Act
