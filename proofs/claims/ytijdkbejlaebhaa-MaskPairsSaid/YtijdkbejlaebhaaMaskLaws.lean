/- The laws of layer 40, as walks. -/
import Derived.Test.YtijdkbejlaebhaaMaskSize
import Derived.Deep.DeepCutAuto
namespace Go.Proofs.Ytijdkbejlaebhaa.Mask
open Go.RowKit Go.Proofs.Ytijdkbejlaebhaa.Mem

theorem joinN_le (a b : List Nat) : (joinN a b).length ≤ max a.length b.length := by have := trim_length (zipW (· ||| ·) a b); rw [zipW_length] at this; exact this
theorem meetN_le (a b : List Nat) : (meetN a b).length ≤ max a.length b.length := by have := trim_length (zipW (· &&& ·) a b); rw [zipW_length] at this; exact this
theorem minusN_le (a b : List Nat) : (minusN a b).length ≤ max a.length b.length := by have := trim_length (zipW andNot a b); rw [zipW_length] at this; exact this
theorem len2 (a b : List Nat) {x : Nat} (h1 : a.length ≤ 200) (h2 : b.length ≤ 200) (h : x ≤ max a.length b.length) : x ≤ 9223372036854775807 := by omega
theorem pairs_law (A B : Option Addr) (c d : Nat) (a b : List Nat) (w : World) (ha : AllW a) (hb0 : AllW b) (r1 : Rd w w.heap.size A (WB a)) (r2 : Rd w w.heap.size B (WB b)) :
    Calls Try.prog 4 #[.slice A a.length c, .slice B b.length d] w fun e w' => e = .returned (.bool true) ∧ Below w.heap.size w w' := by
  by_cases hbig : a.length ≤ 200 ∧ b.length ≤ 200
  · obtain ⟨hl1, hl2⟩ := hbig
    go_enter Try.func4, Try.ntmps4
    go_wp2_with fail
    refine (join_any A B a.length b.length c d a b _ rfl rfl ha hb0 r1 r2 (by omega) (by omega)).mono ?_
    rintro e w1 ⟨A1, c1, rfl, o1, hc1, h1⟩
    have hs1 := h1
    have hb := hs1
    have r1 := r1.next hs1
    have r2 := r2.next hs1
    have p_join_any := o1.rd
    go_wp2_with fail
    refine (rjoin_any A B a.length b.length c d a b _ rfl rfl ha hb0 r1 r2 (by omega) (by omega)).mono ?_
    rintro e w2 ⟨A2, c2, rfl, o2, hc2, h2⟩
    have hs2 := h2
    have hb := below_next hb hs2
    have r1 := r1.next hs2
    have r2 := r2.next hs2
    have p_join_any := p_join_any.next hs2
    have p_rjoin_any := o2.rd
    go_wp2_with fail
    refine (eq_any _ _ A1 A2 _ _ _ _ (joinN a b) (joinN a b) _ rfl rfl p_join_any p_rjoin_any (len2 _ _ hl1 hl2 (joinN_le a b))).mono ?_
    rintro e w' ⟨rfl, q3, rfl⟩
    have hs3 : Below w2.heap.size w2 (w2.drewN (q3)) := below_draw _ _ _
    have hb := below_next hb hs3
    have r1 := r1.next hs3
    have r2 := r2.next hs3
    have p_join_any := p_join_any.next hs3
    have p_rjoin_any := p_rjoin_any.next hs3
    rw [decide_eq_true rfl]
    go_wp2_with fail
    refine (meet_any A B a.length b.length c d a b _ rfl rfl ha hb0 r1 r2 (by omega) (by omega)).mono ?_
    rintro e w4 ⟨A4, c4, rfl, o4, hc4, h4⟩
    have hs4 := h4
    have hb := below_next hb hs4
    have r1 := r1.next hs4
    have r2 := r2.next hs4
    have p_meet_any := o4.rd
    go_wp2_with fail
    refine (rmeet_any A B a.length b.length c d a b _ rfl rfl ha hb0 r1 r2 (by omega) (by omega)).mono ?_
    rintro e w5 ⟨A5, c5, rfl, o5, hc5, h5⟩
    have hs5 := h5
    have hb := below_next hb hs5
    have r1 := r1.next hs5
    have r2 := r2.next hs5
    have p_meet_any := p_meet_any.next hs5
    have p_rmeet_any := o5.rd
    go_wp2_with fail
    refine (eq_any _ _ A4 A5 _ _ _ _ (meetN a b) (meetN a b) _ rfl rfl p_meet_any p_rmeet_any (len2 _ _ hl1 hl2 (meetN_le a b))).mono ?_
    rintro e w' ⟨rfl, q6, rfl⟩
    have hs6 : Below w5.heap.size w5 (w5.drewN (q6)) := below_draw _ _ _
    have hb := below_next hb hs6
    have r1 := r1.next hs6
    have r2 := r2.next hs6
    have p_meet_any := p_meet_any.next hs6
    have p_rmeet_any := p_rmeet_any.next hs6
    rw [decide_eq_true rfl]
    go_wp2_with fail
    refine (minus_any A B a.length b.length c d a b _ rfl rfl ha hb0 r1 r2 (by omega) (by omega)).mono ?_
    rintro e w7 ⟨A7, c7, rfl, o7, hc7, h7⟩
    have hs7 := h7
    have hb := below_next hb hs7
    have r1 := r1.next hs7
    have r2 := r2.next hs7
    have p_minus_any := o7.rd
    go_wp2_with fail
    refine (rminus_any A B a.length b.length c d a b _ rfl rfl ha hb0 r1 r2 (by omega) (by omega)).mono ?_
    rintro e w8 ⟨A8, c8, rfl, o8, hc8, h8⟩
    have hs8 := h8
    have hb := below_next hb hs8
    have r1 := r1.next hs8
    have r2 := r2.next hs8
    have p_minus_any := p_minus_any.next hs8
    have p_rminus_any := o8.rd
    go_wp2_with fail
    refine (eq_any _ _ A7 A8 _ _ _ _ (minusN a b) (minusN a b) _ rfl rfl p_minus_any p_rminus_any (len2 _ _ hl1 hl2 (minusN_le a b))).mono ?_
    rintro e w' ⟨rfl, q9, rfl⟩
    have hs9 : Below w8.heap.size w8 (w8.drewN (q9)) := below_draw _ _ _
    have hb := below_next hb hs9
    have r1 := r1.next hs9
    have r2 := r2.next hs9
    have p_minus_any := p_minus_any.next hs9
    have p_rminus_any := p_rminus_any.next hs9
    rw [decide_eq_true rfl]
    go_wp2_with fail
    refine (same_any A B a.length b.length c d a b _ rfl rfl ha hb0 r1 r2 (by omega) (by omega)).mono ?_
    rintro e w10 ⟨rfl, h10⟩
    have hs10 := h10
    have hb := below_next hb hs10
    have r1 := r1.next hs10
    have r2 := r2.next hs10
    go_wp2_with fail
    refine (rsame_any A B a.length b.length c d a b _ rfl rfl ha hb0 r1 r2 (by omega) (by omega)).mono ?_
    rintro e w11 ⟨rfl, h11⟩
    have hs11 := h11
    have hb := below_next hb hs11
    have r1 := r1.next hs11
    have r2 := r2.next hs11
    go_wp2_with fail
    refine (works_any _).mono ?_
    rintro e w12 ⟨rfl, h12⟩
    have hs12 := h12
    have hb := below_next hb hs12
    have r1 := r1.next hs12
    have r2 := r2.next hs12
    go_wp2_with fail
    go_ret
    exact ⟨rfl, hb⟩
  · have hcase : 200 < a.length ∨ (¬ 200 < a.length ∧ 200 < b.length) := by omega
    clear hbig
    rcases hcase with h | ⟨h, h'⟩
    all_goals
      go_enter Try.func4, Try.ntmps4
      go_wp2_with fail
      refine (works_any _).mono ?_
      rintro e w1 ⟨rfl, hb⟩
      go_wp2_with fail
      go_ret
      exact ⟨rfl, hb⟩
theorem hasI_join (a b : List Nat) (n : Int) : hasI (joinN a b) n = (hasI a n || hasI b n) := by
  unfold hasI; rw [hasN_join]; cases decide (0 ≤ n) <;> rfl
theorem hasI_meet (a b : List Nat) (n : Int) : hasI (meetN a b) n = (hasI a n && hasI b n) := by
  unfold hasI; rw [hasN_meet]; cases decide (0 ≤ n) <;> rfl
theorem hasI_minus (a b : List Nat) (n : Int) : hasI (minusN a b) n = (hasI a n && !hasI b n) := by
  unfold hasI; rw [hasN_minus]; cases decide (0 ≤ n) <;> rfl
theorem size_le64 (m : List Nat) : (sizeN m : Int) ≤ 64 * (m.length : Int) := by
  have := allTo_length m (64 * m.length)
  have h2 := allI_length m
  unfold allI at h2
  omega
set_option maxRecDepth 100000 in
set_option maxHeartbeats 2000000 in
theorem laws_law (A B : Option Addr) (c d : Nat) (a b : List Nat) (n : Int) (w : World) (ha : AllW a) (hb0 : AllW b) (r1 : Rd w w.heap.size A (WB a)) (r2 : Rd w w.heap.size B (WB b)) (hi : n ≤ 9223372036854775807) (hi0 : -9223372036854775808 ≤ n) :
    Calls Try.prog 5 #[.slice A a.length c, .slice B b.length d, .int .i64 n] w fun e w' => e = .returned (.bool true) ∧ Below w.heap.size w w' := by
  by_cases hbig : a.length ≤ 200 ∧ b.length ≤ 200
  · obtain ⟨hl1, hl2⟩ := hbig
    have hja := join_all ha hb0
    have hma := meet_all ha hb0
    have hxa := minus_all ha hb0
    have hjl : (joinN a b).length ≤ 200 := by have := joinN_le a b; omega
    have hml : (meetN a b).length ≤ 200 := by have := meetN_le a b; omega
    have hxl : (minusN a b).length ≤ 200 := by have := minusN_le a b; omega
    have J := Lib.hid (fun (_ : Unit) => hasI_join a b n)
    have M := Lib.hid (fun (_ : Unit) => hasI_meet a b n)
    have X := Lib.hid (fun (_ : Unit) => hasI_minus a b n)
    have SA := Lib.hid (fun (_ : Unit) => size_add a b)
    have JC := Lib.hid (fun (_ : Unit) => join_comm a b)
    have MC := Lib.hid (fun (_ : Unit) => meet_comm a b)
    have SP := Lib.hid (fun (_ : Unit) => same_parts ha hb0)
    have SZ := Lib.hid (fun (_ : Unit) => size_apart a b)
    go_enter Try.func5, Try.ntmps5
    go_wp2_with fail
    refine (join_any A B a.length b.length c d a b _ rfl rfl ha hb0 r1 r2 (by omega) (by omega)).mono ?_
    rintro e w1 ⟨A1, c1, rfl, o1, hc1, h1⟩
    have hs1 := h1
    have hb := hs1
    have r1 := r1.next hs1
    have r2 := r2.next hs1
    have pj := o1.rd
    go_wp2_with fail
    refine (meet_any A B a.length b.length c d a b _ rfl rfl ha hb0 r1 r2 (by omega) (by omega)).mono ?_
    rintro e w2 ⟨A2, c2, rfl, o2, hc2, h2⟩
    have hs2 := h2
    have hb := below_next hb hs2
    have r1 := r1.next hs2
    have r2 := r2.next hs2
    have pj := pj.next hs2
    have pm := o2.rd
    go_wp2_with fail
    refine (minus_any A B a.length b.length c d a b _ rfl rfl ha hb0 r1 r2 (by omega) (by omega)).mono ?_
    rintro e w3 ⟨A3, c3, rfl, o3, hc3, h3⟩
    have hs3 := h3
    have hb := below_next hb hs3
    have r1 := r1.next hs3
    have r2 := r2.next hs3
    have pj := pj.next hs3
    have pm := pm.next hs3
    have px := o3.rd
    generalize joinN a b = j at *
    generalize meetN a b = m at *
    generalize minusN a b = x at *
    obtain ⟨va, hva⟩ : ∃ v, hasI a n = v := ⟨_, rfl⟩
    obtain ⟨vb, hvb⟩ : ∃ v, hasI b n = v := ⟨_, rfl⟩
    have VA := Lib.hid hva
    have VB := Lib.hid hvb
    have VJ := Lib.hid ((J.out ()).trans (by rw [hva, hvb]))
    have VM := Lib.hid ((M.out ()).trans (by rw [hva, hvb]))
    have VX := Lib.hid ((X.out ()).trans (by rw [hva, hvb]))
    clear hva hvb J M X
    go_upto_region 4 with fail
    go_cut [68] (fun p wr => p = .bool false ∧ wr = w3)
    case first =>
      cases va <;> cases vb
      · go_wp2_with fail
        refine (has_any A1 _ c1 j n _ rfl hja pj hi hi0).mono ?_
        rintro e w' ⟨rfl, rfl⟩
        rw [VJ.out]
        go_wp2_with fail
        refine (has_any A _ c a n _ rfl ha r1 hi hi0).mono ?_
        rintro e w' ⟨rfl, rfl⟩
        rw [VA.out]
        go_wp2_with fail
        refine (has_any B _ d b n _ rfl hb0 r2 hi hi0).mono ?_
        rintro e w' ⟨rfl, rfl⟩
        rw [VB.out]
        go_wp2_with fail
        refine (has_any A2 _ c2 m n _ rfl hma pm hi hi0).mono ?_
        rintro e w' ⟨rfl, rfl⟩
        rw [VM.out]
        go_wp2_with fail
        refine (has_any A _ c a n _ rfl ha r1 hi hi0).mono ?_
        rintro e w' ⟨rfl, rfl⟩
        rw [VA.out]
        go_wp2_with fail
        refine (has_any A3 _ c3 x n _ rfl hxa px hi hi0).mono ?_
        rintro e w' ⟨rfl, rfl⟩
        rw [VX.out]
        go_wp2_with fail
        refine (has_any A _ c a n _ rfl ha r1 hi hi0).mono ?_
        rintro e w' ⟨rfl, rfl⟩
        rw [VA.out]
        go_wp2_with fail
        go_meet
        exact ⟨rfl, rfl⟩
      · go_wp2_with fail
        refine (has_any A1 _ c1 j n _ rfl hja pj hi hi0).mono ?_
        rintro e w' ⟨rfl, rfl⟩
        rw [VJ.out]
        go_wp2_with fail
        refine (has_any A _ c a n _ rfl ha r1 hi hi0).mono ?_
        rintro e w' ⟨rfl, rfl⟩
        rw [VA.out]
        go_wp2_with fail
        refine (has_any B _ d b n _ rfl hb0 r2 hi hi0).mono ?_
        rintro e w' ⟨rfl, rfl⟩
        rw [VB.out]
        go_wp2_with fail
        refine (has_any A2 _ c2 m n _ rfl hma pm hi hi0).mono ?_
        rintro e w' ⟨rfl, rfl⟩
        rw [VM.out]
        go_wp2_with fail
        refine (has_any A _ c a n _ rfl ha r1 hi hi0).mono ?_
        rintro e w' ⟨rfl, rfl⟩
        rw [VA.out]
        go_wp2_with fail
        refine (has_any A3 _ c3 x n _ rfl hxa px hi hi0).mono ?_
        rintro e w' ⟨rfl, rfl⟩
        rw [VX.out]
        go_wp2_with fail
        refine (has_any A _ c a n _ rfl ha r1 hi hi0).mono ?_
        rintro e w' ⟨rfl, rfl⟩
        rw [VA.out]
        go_wp2_with fail
        go_meet
        exact ⟨rfl, rfl⟩
      · go_wp2_with fail
        refine (has_any A1 _ c1 j n _ rfl hja pj hi hi0).mono ?_
        rintro e w' ⟨rfl, rfl⟩
        rw [VJ.out]
        go_wp2_with fail
        refine (has_any A _ c a n _ rfl ha r1 hi hi0).mono ?_
        rintro e w' ⟨rfl, rfl⟩
        rw [VA.out]
        go_wp2_with fail
        refine (has_any A2 _ c2 m n _ rfl hma pm hi hi0).mono ?_
        rintro e w' ⟨rfl, rfl⟩
        rw [VM.out]
        go_wp2_with fail
        refine (has_any A _ c a n _ rfl ha r1 hi hi0).mono ?_
        rintro e w' ⟨rfl, rfl⟩
        rw [VA.out]
        go_wp2_with fail
        refine (has_any B _ d b n _ rfl hb0 r2 hi hi0).mono ?_
        rintro e w' ⟨rfl, rfl⟩
        rw [VB.out]
        go_wp2_with fail
        refine (has_any A3 _ c3 x n _ rfl hxa px hi hi0).mono ?_
        rintro e w' ⟨rfl, rfl⟩
        rw [VX.out]
        go_wp2_with fail
        refine (has_any A _ c a n _ rfl ha r1 hi hi0).mono ?_
        rintro e w' ⟨rfl, rfl⟩
        rw [VA.out]
        go_wp2_with fail
        refine (has_any B _ d b n _ rfl hb0 r2 hi hi0).mono ?_
        rintro e w' ⟨rfl, rfl⟩
        rw [VB.out]
        go_wp2_with fail
        go_meet
        exact ⟨rfl, rfl⟩
      · go_wp2_with fail
        refine (has_any A1 _ c1 j n _ rfl hja pj hi hi0).mono ?_
        rintro e w' ⟨rfl, rfl⟩
        rw [VJ.out]
        go_wp2_with fail
        refine (has_any A _ c a n _ rfl ha r1 hi hi0).mono ?_
        rintro e w' ⟨rfl, rfl⟩
        rw [VA.out]
        go_wp2_with fail
        refine (has_any A2 _ c2 m n _ rfl hma pm hi hi0).mono ?_
        rintro e w' ⟨rfl, rfl⟩
        rw [VM.out]
        go_wp2_with fail
        refine (has_any A _ c a n _ rfl ha r1 hi hi0).mono ?_
        rintro e w' ⟨rfl, rfl⟩
        rw [VA.out]
        go_wp2_with fail
        refine (has_any B _ d b n _ rfl hb0 r2 hi hi0).mono ?_
        rintro e w' ⟨rfl, rfl⟩
        rw [VB.out]
        go_wp2_with fail
        refine (has_any A3 _ c3 x n _ rfl hxa px hi hi0).mono ?_
        rintro e w' ⟨rfl, rfl⟩
        rw [VX.out]
        go_wp2_with fail
        refine (has_any A _ c a n _ rfl ha r1 hi hi0).mono ?_
        rintro e w' ⟨rfl, rfl⟩
        rw [VA.out]
        go_wp2_with fail
        refine (has_any B _ d b n _ rfl hb0 r2 hi hi0).mono ?_
        rintro e w' ⟨rfl, rfl⟩
        rw [VB.out]
        go_wp2_with fail
        go_meet
        exact ⟨rfl, rfl⟩
    case rest =>
      obtain ⟨rfl, rfl⟩ := hcut
      have hsum : ((sizeN j : Int) + (sizeN m : Int) == (sizeN a : Int) + (sizeN b : Int)) = true := by have := (SA.out ()); simp; omega
      have hsb1 := size_le64 j
      have hsb2 := size_le64 m
      have hsb3 := size_le64 a
      have hsb4 := size_le64 b
      clear VA VB VJ VM VX
      go_wp2_with fail
      refine (size_any A1 _ c1 j _ rfl hja pj (by omega)).mono ?_
      rintro e w4 ⟨rfl, h4⟩
      have hs4 := h4
      have hb := below_next hb hs4
      have r1 := r1.next hs4
      have r2 := r2.next hs4
      have pj := pj.next hs4
      have pm := pm.next hs4
      have px := px.next hs4
      go_wp2_with fail
      refine (size_any A2 _ c2 m _ rfl hma pm (by omega)).mono ?_
      rintro e w5 ⟨rfl, h5⟩
      have hs5 := h5
      have hb := below_next hb hs5
      have r1 := r1.next hs5
      have r2 := r2.next hs5
      have pj := pj.next hs5
      have pm := pm.next hs5
      have px := px.next hs5
      go_wp2_with fail
      refine (size_any A _ c a _ rfl ha r1 (by omega)).mono ?_
      rintro e w6 ⟨rfl, h6⟩
      have hs6 := h6
      have hb := below_next hb hs6
      have r1 := r1.next hs6
      have r2 := r2.next hs6
      have pj := pj.next hs6
      have pm := pm.next hs6
      have px := px.next hs6
      go_wp2_with fail
      refine (size_any B _ d b _ rfl hb0 r2 (by omega)).mono ?_
      rintro e w7 ⟨rfl, h7⟩
      have hs7 := h7
      have hb := below_next hb hs7
      have r1 := r1.next hs7
      have r2 := r2.next hs7
      have pj := pj.next hs7
      have pm := pm.next hs7
      have px := px.next hs7
      go_wp2_with fail
      refine (join_any B A b.length a.length d c b a _ rfl rfl hb0 ha r2 r1 (by omega) (by omega)).mono ?_
      rintro e w8 ⟨A8, c8, rfl, o8, hc8, h8⟩
      have hs8 := h8
      have hb := below_next hb hs8
      have r1 := r1.next hs8
      have r2 := r2.next hs8
      have pj := pj.next hs8
      have pm := pm.next hs8
      have px := px.next hs8
      have pj2 := o8.rd
      go_wp2_with fail
      refine (eq_any _ _ A8 A1 _ _ _ _ (joinN b a) j _ rfl rfl pj2 pj (by rw [← (JC.out ())]; omega)).mono ?_
      rintro e w' ⟨rfl, q9, rfl⟩
      have hs9 : Below w8.heap.size w8 (w8.drewN (q9)) := below_draw _ _ _
      have hb := below_next hb hs9
      have r1 := r1.next hs9
      have r2 := r2.next hs9
      have pj := pj.next hs9
      have pm := pm.next hs9
      have px := px.next hs9
      have pj2 := pj2.next hs9
      rw [decide_eq_true (JC.out ()).symm]
      go_wp2_with fail
      refine (meet_any B A b.length a.length d c b a _ rfl rfl hb0 ha r2 r1 (by omega) (by omega)).mono ?_
      rintro e w10 ⟨A10, c10, rfl, o10, hc10, h10⟩
      have hs10 := h10
      have hb := below_next hb hs10
      have r1 := r1.next hs10
      have r2 := r2.next hs10
      have pj := pj.next hs10
      have pm := pm.next hs10
      have px := px.next hs10
      have pm2 := o10.rd
      go_wp2_with fail
      refine (eq_any _ _ A10 A2 _ _ _ _ (meetN b a) m _ rfl rfl pm2 pm (by rw [← (MC.out ())]; omega)).mono ?_
      rintro e w' ⟨rfl, q11, rfl⟩
      have hs11 : Below w10.heap.size w10 (w10.drewN (q11)) := below_draw _ _ _
      have hb := below_next hb hs11
      have r1 := r1.next hs11
      have r2 := r2.next hs11
      have pj := pj.next hs11
      have pm := pm.next hs11
      have px := px.next hs11
      have pm2 := pm2.next hs11
      rw [decide_eq_true (MC.out ()).symm]
      go_wp2_with fail
      refine (join_any A3 A2 x.length m.length c3 c2 x m _ rfl rfl hxa hma px pm (by omega) (by omega)).mono ?_
      rintro e w12 ⟨A12, c12, rfl, o12, hc12, h12⟩
      have hs12 := h12
      have hb := below_next hb hs12
      have r1 := r1.next hs12
      have r2 := r2.next hs12
      have pj := pj.next hs12
      have pm := pm.next hs12
      have px := px.next hs12
      have pxm := o12.rd
      go_wp2_with fail
      refine (same_any A12 A (joinN x m).length a.length c12 c (joinN x m) a _ rfl rfl (join_all hxa hma) ha pxm r1 (by (have := joinN_le x m; omega)) (by omega)).mono ?_
      rintro e w13 ⟨rfl, h13⟩
      have hs13 := h13
      have hb := below_next hb hs13
      have r1 := r1.next hs13
      have r2 := r2.next hs13
      have pj := pj.next hs13
      have pm := pm.next hs13
      have px := px.next hs13
      have pxm := pxm.next hs13
      rw [(SP.out ())]
      go_wp2_with fail
      refine (meet_any A3 B x.length b.length c3 d x b _ rfl rfl hxa hb0 px r2 (by omega) (by omega)).mono ?_
      rintro e w14 ⟨A14, c14, rfl, o14, hc14, h14⟩
      have hs14 := h14
      have hb := below_next hb hs14
      have r1 := r1.next hs14
      have r2 := r2.next hs14
      have pj := pj.next hs14
      have pm := pm.next hs14
      have px := px.next hs14
      have pxb := o14.rd
      go_wp2_with fail
      refine (size_any A14 (meetN x b).length c14 (meetN x b) _ rfl (meet_all hxa hb0) pxb (by (have := meetN_le x b; omega))).mono ?_
      rintro e w15 ⟨rfl, h15⟩
      have hs15 := h15
      have hb := below_next hb hs15
      have r1 := r1.next hs15
      have r2 := r2.next hs15
      have pj := pj.next hs15
      have pm := pm.next hs15
      have px := px.next hs15
      have pxb := pxb.next hs15
      rw [(SZ.out ())]
      go_wp2_with fail
      refine (works_any _).mono ?_
      rintro e w16 ⟨rfl, h16⟩
      have hs16 := h16
      have hb := below_next hb hs16
      have r1 := r1.next hs16
      have r2 := r2.next hs16
      have pj := pj.next hs16
      have pm := pm.next hs16
      have px := px.next hs16
      have pxb := pxb.next hs16
      go_wp2_with fail
      go_ret
      exact ⟨rfl, hb⟩
  · have hcase : 200 < a.length ∨ (¬ 200 < a.length ∧ 200 < b.length) := by omega
    clear hbig
    rcases hcase with h | ⟨h, h'⟩
    all_goals
      go_enter Try.func5, Try.ntmps5
      go_wp2_with fail
      refine (works_any _).mono ?_
      rintro e w1 ⟨rfl, hb⟩
      go_wp2_with fail
      go_ret
      exact ⟨rfl, hb⟩
end Go.Proofs.Ytijdkbejlaebhaa.Mask
