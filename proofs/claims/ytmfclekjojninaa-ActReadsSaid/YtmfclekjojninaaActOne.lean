/- Layer 37 (act): the walk of the document's One. -/
import Derived.Test.YtmfclekjojninaaActRGood
import Derived.Deep.RegionHeld3
import Derived.Deep.DrawnRows
namespace Go.Proofs.Ytmfclekjojninaa.Act
open Go.RowKit Go.Proofs.Ytmfclekjojninaa.Mem Go.Proofs.Ytmfclekjojninaa.Card Go.Proofs.Ytmfclekjojninaa.Pack Go.Proofs.Ytmfclekjojninaa.Num Go.Proofs.Ytmfclekjojninaa.Shift

/-- bytes of the call's own -/
def OneSt (w0 : World) (r : List Nat) (v : Value) (wx : World) : Prop := ∃ A c, v = .slice A r.length c ∧ Own wx w0.heap.size 5 (.slice A r.length c) (BB r) ∧ Below w0.heap.size w0 wx
theorem OneSt.on {w0 w1 w2 : World} {r1 r2 : List Nat} {v1 v2 : Value} (h : OneSt w0 r1 v1 w1) (h2 : ∃ A c, v2 = .slice A r2.length c ∧ Own w2 w1.heap.size 5 (.slice A r2.length c) (BB r2) ∧ Below w1.heap.size w1 w2) : OneSt w0 r2 v2 w2 := by
  obtain ⟨_, _, _, _, hb⟩ := h
  obtain ⟨A, c, e, ho, hb2⟩ := h2
  exact ⟨A, c, e, ho.mono hb.size, hb.trans (hb2.mono hb.size)⟩
set_option maxRecDepth 100000 in
set_option maxHeartbeats 4000000 in
theorem one_any (A : Option Addr) (n c : Nat) (l : List Nat) (x : ActM) (w : World) (hn : n = l.length) (hr : Rd w w.heap.size A (BB l)) (hx : x.Ok) (hsz : l.length + x.t.size ≤ 140737488350000) :
    Calls Try.prog 68 #[.slice A n c, x.val] w (Gives w (l ++ actB x)) := by
  subst hn
  obtain ⟨xk, xwho, xcid, xf, xt, xp, xa, xm⟩ := x
  obtain ⟨hx1, hx2, hx3, hx4, hx5, ⟨hx6, hx6'⟩, ⟨hx7, hx7'⟩, hx8⟩ := hx
  have hb0 := kept ((Below.refl w.heap.size w).alloc (Nat.le_refl _) (.cells #[.int .u8 (xk : Int), .int .u8 (xwho : Int), .int .u64 (xcid : Int), .int .u8 (xf : Int), .string xt, .int .i64 xp, .int .i64 xa, .int .u32 (xm : Int)] 62))
  have k0 := kept (Blk.new w [.int .u8 (xk : Int), .int .u8 (xwho : Int), .int .u64 (xcid : Int), .int .u8 (xf : Int), .string xt, .int .i64 xp, .int .i64 xa, .int .u32 (xm : Int)] 62)
  obtain ⟨b1, hb1⟩ : ∃ b, hasN xk 1 = b := ⟨_, rfl⟩
  have CH1 := kept (fun W => rhas_1 xk W hx1)
  rw [hb1] at CH1
  obtain ⟨b2, hb2⟩ : ∃ b, hasN xk 2 = b := ⟨_, rfl⟩
  have CH2 := kept (fun W => rhas_2 xk W hx1)
  rw [hb2] at CH2
  obtain ⟨b3, hb3⟩ : ∃ b, hasN xk 3 = b := ⟨_, rfl⟩
  have CH3 := kept (fun W => rhas_3 xk W hx1)
  rw [hb3] at CH3
  obtain ⟨b4, hb4⟩ : ∃ b, hasN xk 4 = b := ⟨_, rfl⟩
  have CH4 := kept (fun W => rhas_4 xk W hx1)
  rw [hb4] at CH4
  obtain ⟨b5, hb5⟩ : ∃ b, hasN xk 5 = b := ⟨_, rfl⟩
  have CH5 := kept (fun W => rhas_5 xk W hx1)
  rw [hb5] at CH5
  obtain ⟨b6, hb6⟩ : ∃ b, hasN xk 6 = b := ⟨_, rfl⟩
  have CH6 := kept (fun W => rhas_6 xk W hx1)
  rw [hb6] at CH6
  obtain ⟨b7, hb7⟩ : ∃ b, hasN xk 7 = b := ⟨_, rfl⟩
  have CH7 := kept (fun W => rhas_7 xk W hx1)
  rw [hb7] at CH7
  have HACT : Kept (actB ⟨xk, xwho, xcid, xf, xt, xp, xa, xm⟩ = xk :: (opt b1 [xwho] ++ (opt b2 (numB xcid) ++ (opt b3 [xf] ++ (opt b4 (textB xt) ++ (opt b5 (numB (foldI xp)) ++ (opt b6 (numB (foldI xa)) ++ opt b7 (numB xm)))))))) := ⟨by
    unfold actB
    dsimp only
    rw [hb1, hb2, hb3, hb4, hb5, hb6, hb7]⟩
  clear hb1 hb2 hb3 hb4 hb5 hb6 hb7
  unfold ActM.val
  dsimp only at hx1 hx2 hx3 hx4 hx5 hx6 hx6' hx7 hx7' hx8 hsz ⊢
  go_enter Try.func68, Try.ntmps68
  go_upto_region 1 with fail
  obtain ⟨w0, hw0⟩ : ∃ w0, w.alloc (.cells #[.int .u8 (xk : Int), .int .u8 (xwho : Int), .int .u64 (xcid : Int), .int .u8 (xf : Int), .string xt, .int .i64 xp, .int .i64 xa, .int .u32 (xm : Int)] 62) = w0 := ⟨_, rfl⟩
  rw [hw0] at hb0 k0 ⊢
  have g0 := k0.out.cell (j := 0) rfl
  have hlt := k0.out.lt
  have r0 := hr.below hb0.out
  clear hw0 hr
  have drO : ∀ {W : World} {b : Nat} {v : Value} {xs : List Value}, Own W b 5 v xs → Own W.drew b 5 v xs := fun h => h
  have drR : ∀ {W : World} {b : Nat} {A : Option Addr} {xs : List Value}, Rd W b A xs → Rd W.drew b A xs := fun h => h
  have O1 : Kept (Own (w0.alloc (.cells #[] 5)).drew w0.heap.size 5 (.slice (some ⟨w0.heap.size, 0, none⟩) 0 0) (BB [])) := ⟨drO (Own.new w0 w0.heap.size 5 [] (Nat.le_refl _) (by simp))⟩
  have O2 : Kept (Own ((w0.alloc (.cells #[] 5)).alloc (.cells #[.int .u8 (xk : Int)] 5)).drew w0.heap.size 5 (.slice (some ⟨w0.heap.size, 0, none⟩) 0 0) (BB [])) := ⟨drO (Own.alloc (Own.new w0 w0.heap.size 5 [] (Nat.le_refl _) (by simp)) _)⟩
  have O3 : Kept (Own ((w0.alloc (.cells #[.int .u8 (xk : Int)] 5)).alloc (.cells #[] 5)).drew w0.heap.size 5 (.slice (some ⟨w0.heap.size + 1, 0, none⟩) 0 0) (BB [])) := ⟨drO (by
    have := Own.new (w0.alloc (.cells #[.int .u8 (xk : Int)] 5)) w0.heap.size 5 [] (by simp) (by simp)
    have e : BB [] = [] := rfl
    rw [e]
    simpa using this)⟩
  have R1 := kept (drR (r0.alloc (by omega) (.cells #[] 5)))
  have R2 := kept (drR ((r0.alloc (by omega) (.cells #[] 5)).alloc (by simp; omega) (.cells #[.int .u8 (xk : Int)] 5)))
  have R3 := kept (drR ((r0.alloc (by omega) (.cells #[.int .u8 (xk : Int)] 5)).alloc (by simp; omega) (.cells #[] 5)))
  have K2 : Kept (Rd ((w0.alloc (.cells #[] 5)).alloc (.cells #[.int .u8 (xk : Int)] 5)).drew (w0.heap.size + 2) (some ⟨w0.heap.size + 1, 0, none⟩) (BB [xk])) := ⟨drR (by
    have := rd_one (w0.alloc (.cells #[] 5)) xk
    simpa using this)⟩
  have K3 : Kept (Rd ((w0.alloc (.cells #[.int .u8 (xk : Int)] 5)).alloc (.cells #[] 5)).drew (w0.heap.size + 2) (some ⟨w0.heap.size, 0, none⟩) (BB [xk])) := ⟨drR (((rd_one w0 xk).alloc (by simp) _).more (by omega))⟩
  have hz : ([] : List Nat).length + l.length ≤ 140737488355328 := by simp; omega
  have B1 := kept (((Below.refl w0.heap.size w0).alloc (Nat.le_refl _) (.cells #[] 5)).drew)
  have B2 := kept ((((Below.refl w0.heap.size w0).alloc (Nat.le_refl _) (.cells #[] 5)).alloc (by simp) (.cells #[.int .u8 (xk : Int)] 5)).drew)
  have B3 := kept ((((Below.refl w0.heap.size w0).alloc (Nat.le_refl _) (.cells #[.int .u8 (xk : Int)] 5)).alloc (by simp) (.cells #[] 5)).drew)
  go_cut [5] (fun p wx => ∃ L, Kept (L = l ++ [xk]) ∧ OneSt w0 L p wx)
  case first =>
    clear CH1 CH2 CH3 CH4 CH5 CH6 CH7
    go_region_held3 (fun W => W.cell? ⟨w.heap.size, 0, none⟩ = some (.int .u8 (xk : Int))) (go_keep) (first
      | (refine step_app (by rfl) (.tmp 6) (.tmp 7) (by rfl) w0.heap.size _ [] (by rfl) O1.out w.heap.size A _ c l (by rfl) rfl R1.out hz (by simp) ?_; intro A2 c2 w2 r2 hr2 hown2 hg2 hb2; have hc2 := (hb2.cell (p := ⟨w.heap.size, 0, none⟩) hlt).trans ((B1.out.cell (p := ⟨w.heap.size, 0, none⟩) hlt).trans g0); have HB2 := kept (B1.out.trans hb2); have HRG := rd_one w2 xk; have HOG := hown2.alloc (.cells #[.int .u8 (xk : Int)] 5); have hs20 : w0.heap.size ≤ w2.heap.size := (by (have := hb2.size; simp at this; omega)); have hcA := (World.cell?_alloc_lt w2 (.cells #[.int .u8 (xk : Int)] 5) ⟨w.heap.size, 0, none⟩ (Nat.lt_of_lt_of_le hlt hs20)).trans hc2; have HBA := kept (HB2.out.alloc hs20 (.cells #[.int .u8 (xk : Int)] 5)); have HSA := (show w0.heap.size ≤ (w2.alloc (.cells #[.int .u8 (xk : Int)] 5)).heap.size from by (have := hb2.size; simp at this; simp; omega)); have HR2 := kept hr2.out; have HZ2 : r2.length + [xk].length ≤ 140737488355328 := (by rw [hr2.out]; simp; omega); have HS2 := HB2.out.size; clear hg2 hb2 hr2)
      | (refine step_app (by rfl) (.tmp 6) (.tmp 7) (by rfl) w0.heap.size _ [] (by rfl) O2.out w.heap.size A _ c l (by rfl) rfl R2.out hz (by simp; omega) ?_; intro A2 c2 w2 r2 hr2 hown2 hg2 hb2; have hc2 := (hb2.cell (p := ⟨w.heap.size, 0, none⟩) hlt).trans ((B2.out.cell (p := ⟨w.heap.size, 0, none⟩) hlt).trans g0); have HB2 := kept (B2.out.trans hb2); have HRG := rd_grown (B' := w2.heap.size) K2.out hg2 (by simp) (fun x hx => by cases hx; simp [Value.ownBlock]) (by have := hb2.size; simp at this; omega); have HOG := hown2; have hcA := hc2; have HBA := HB2; have HSA := (show w0.heap.size ≤ w2.heap.size from by (have := hb2.size; simp at this; omega)); have HR2 := kept hr2.out; have HZ2 : r2.length + [xk].length ≤ 140737488355328 := (by rw [hr2.out]; simp; omega); have HS2 := HB2.out.size; clear hg2 hb2 hr2)
      | (refine step_app (by rfl) (.tmp 6) (.tmp 7) (by rfl) w0.heap.size _ [] (by rfl) O3.out w.heap.size A _ c l (by rfl) rfl R3.out hz (by simp; omega) ?_; intro A2 c2 w2 r2 hr2 hown2 hg2 hb2; have hc2 := (hb2.cell (p := ⟨w.heap.size, 0, none⟩) hlt).trans ((B3.out.cell (p := ⟨w.heap.size, 0, none⟩) hlt).trans g0); have HB2 := kept (B3.out.trans hb2); have HRG := rd_grown (B' := w2.heap.size) K3.out hg2 (by simp) (fun x hx => by cases hx; simp [Value.ownBlock]) (by have := hb2.size; simp at this; omega); have HOG := hown2; have hcA := hc2; have HBA := HB2; have HSA := (show w0.heap.size ≤ w2.heap.size from by (have := hb2.size; simp at this; omega)); have HR2 := kept hr2.out; have HZ2 : r2.length + [xk].length ≤ 140737488355328 := (by rw [hr2.out]; simp; omega); have HS2 := HB2.out.size; clear hg2 hb2 hr2)
      | (refine step_app (by rfl) (.tmp 8) (.tmp 11) (by rfl) w0.heap.size _ r2 (by rfl) HOG _ _ _ _ [xk] (by rfl) rfl HRG HZ2 HSA ?_; intro A3 c3 w3 r3 hr3 hown3 hg3 hb3; have hc3 := (hb3.cell (p := ⟨w.heap.size, 0, none⟩) hlt).trans hcA; have HB3 := kept (HBA.out.trans hb3); have HR3 := kept hr3.out; clear hg3 hb3 hr3))
    all_goals
      go_wp2
      go_meet
      exact ⟨r3, ⟨by rw [HR3.out, HR2.out]; simp⟩, _, _, rfl, hown3, HB3.out⟩
  obtain ⟨L, E0, st⟩ := hcut
  have hl : L.length ≤ l.length + 1 := by rw [E0.out]; simp
  have HST := kept st
  clear st O1 O2 O3 R1 R2 R3 K2 K3 B1 B2 B3 drO drR r0 g0
  obtain ⟨w1, rfl⟩ : ∃ w, w = wc := ⟨_, rfl⟩
  have g0 : w1.cell? ⟨w.heap.size, 0, none⟩ = some (.int .u8 (xk : Int)) := by obtain ⟨_, _, _, _, hb⟩ := HST.out; exact (k0.out.below hb hlt).cell (j := 0) rfl
  have hlw : w.heap.size < w1.heap.size := by obtain ⟨_, _, _, _, hb⟩ := HST.out; exact Nat.lt_of_lt_of_le hlt hb.size
  go_upto_if 15 with (go_at_call 45; refine (CH1.out _).mono ?_; rintro e w' ⟨rfl, rfl⟩)
  go_cut [5] (fun p wx => ∃ L', Kept (L' = L ++ opt b1 [xwho]) ∧ OneSt w0 L' p wx)
  case first =>
    cases b1
    · go_wp2
      go_meet
      exact ⟨L, ⟨by simp [opt]⟩, HST.out⟩
    · have g1 : w1.cell? ⟨w.heap.size, 1, none⟩ = some (.int .u8 (xwho : Int)) := by obtain ⟨_, _, _, _, hb⟩ := HST.out; exact (k0.out.below hb hlt).cell (j := 1) rfl
      obtain ⟨A, c, rfl, ho, hb⟩ := HST.out
      have hz : L.length + [xwho].length ≤ 140737488355328 := by simp; omega
      have hbs := hb.size
      have HB := kept hb
      clear hb
      go_wp2_with (at_builtin; refine wpl_app rfl (.tmp 16) (.tmp 19) rfl w0.heap.size _ L rfl (ho.alloc _) _ _ _ _ [xwho] rfl rfl (rd_one w1 xwho) hz (by simp; omega) ?_; intro A3 c3 w3 r3 hr3 hown3 hg3 hb3; have HR3 := kept hr3.out; have HB3 := kept ((HB.out.alloc hbs _).trans hb3); clear hr3 hg3 hb3)
      go_meet
      exact ⟨r3, ⟨by rw [HR3.out]; simp [opt]⟩, A3, c3, rfl, hown3, HB3.out⟩
  obtain ⟨L', E1, st⟩ := hcut
  have hl' : L'.length ≤ L.length + (1) := by rw [E1.out, List.length_append]; have := opt_length b1 [xwho] 1 (by simp); omega
  obtain ⟨L0, rfl⟩ : ∃ L0, L0 = L := ⟨_, rfl⟩
  obtain ⟨L, rfl⟩ : ∃ L0, L0 = L' := ⟨_, rfl⟩
  clear HST g0 hlw
  have HST := kept st
  clear st
  have hl1 := hl
  clear hl
  have hl := Nat.le_trans hl' (Nat.add_le_add_right hl1 _)
  clear hl' hl1
  obtain ⟨w1z, rfl⟩ : ∃ w0, w0 = w1 := ⟨_, rfl⟩
  obtain ⟨w1, rfl⟩ : ∃ w, w = wc := ⟨_, rfl⟩
  have g0 : w1.cell? ⟨w.heap.size, 0, none⟩ = some (.int .u8 (xk : Int)) := by obtain ⟨_, _, _, _, hb⟩ := HST.out; exact (k0.out.below hb hlt).cell (j := 0) rfl
  have hlw : w.heap.size < w1.heap.size := by obtain ⟨_, _, _, _, hb⟩ := HST.out; exact Nat.lt_of_lt_of_le hlt hb.size
  go_upto_if 23 with (go_at_call 45; refine (CH2.out _).mono ?_; rintro e w' ⟨rfl, rfl⟩)
  go_cut [5] (fun p wx => ∃ L', Kept (L' = L ++ opt b2 (numB xcid)) ∧ OneSt w0 L' p wx)
  case first =>
    cases b2
    · go_wp2
      go_meet
      exact ⟨L, ⟨by simp [opt]⟩, HST.out⟩
    · have g1 : w1.cell? ⟨w.heap.size, 2, none⟩ = some (.int .u64 (xcid : Int)) := by obtain ⟨_, _, _, _, hb⟩ := HST.out; exact (k0.out.below hb hlt).cell (j := 2) rfl
      obtain ⟨A, c, rfl, ho, hb⟩ := HST.out
      have hr := ho.rd
      have C := kept (rappend_any A _ c L xcid _ rfl hx3 hr (by omega))
      clear ho hb hr
      go_wp2_with fail
      refine C.out.mono ?_
      rintro e w2 ⟨A2, c2, rfl, ho2, hc2, hb2⟩
      have HF := kept (HST.out.on ⟨A2, c2, rfl, ho2, hb2⟩)
      clear ho2 hc2 hb2
      go_wp2
      go_meet
      exact ⟨L ++ (numB xcid), ⟨by simp [opt]⟩, by rw [← List.length_append]; exact HF.out⟩
  obtain ⟨L', E2, st⟩ := hcut
  have hl' : L'.length ≤ L.length + (9) := by rw [E2.out, List.length_append]; have := opt_length b2 (numB xcid) 9 (num9 _); omega
  obtain ⟨L1, rfl⟩ : ∃ L0, L0 = L := ⟨_, rfl⟩
  obtain ⟨L, rfl⟩ : ∃ L0, L0 = L' := ⟨_, rfl⟩
  clear HST g0 hlw
  have HST := kept st
  clear st
  have hl2 := hl
  clear hl
  have hl := Nat.le_trans hl' (Nat.add_le_add_right hl2 _)
  clear hl' hl2
  obtain ⟨w2z, rfl⟩ : ∃ w0, w0 = w1 := ⟨_, rfl⟩
  obtain ⟨w1, rfl⟩ : ∃ w, w = wc := ⟨_, rfl⟩
  have g0 : w1.cell? ⟨w.heap.size, 0, none⟩ = some (.int .u8 (xk : Int)) := by obtain ⟨_, _, _, _, hb⟩ := HST.out; exact (k0.out.below hb hlt).cell (j := 0) rfl
  have hlw : w.heap.size < w1.heap.size := by obtain ⟨_, _, _, _, hb⟩ := HST.out; exact Nat.lt_of_lt_of_le hlt hb.size
  go_upto_if 30 with (go_at_call 45; refine (CH3.out _).mono ?_; rintro e w' ⟨rfl, rfl⟩)
  go_cut [5] (fun p wx => ∃ L', Kept (L' = L ++ opt b3 [xf]) ∧ OneSt w0 L' p wx)
  case first =>
    cases b3
    · go_wp2
      go_meet
      exact ⟨L, ⟨by simp [opt]⟩, HST.out⟩
    · have g1 : w1.cell? ⟨w.heap.size, 3, none⟩ = some (.int .u8 (xf : Int)) := by obtain ⟨_, _, _, _, hb⟩ := HST.out; exact (k0.out.below hb hlt).cell (j := 3) rfl
      obtain ⟨A, c, rfl, ho, hb⟩ := HST.out
      have hz : L.length + [xf].length ≤ 140737488355328 := by simp; omega
      have hbs := hb.size
      have HB := kept hb
      clear hb
      go_wp2_with (at_builtin; refine wpl_app rfl (.tmp 31) (.tmp 34) rfl w0.heap.size _ L rfl (ho.alloc _) _ _ _ _ [xf] rfl rfl (rd_one w1 xf) hz (by simp; omega) ?_; intro A3 c3 w3 r3 hr3 hown3 hg3 hb3; have HR3 := kept hr3.out; have HB3 := kept ((HB.out.alloc hbs _).trans hb3); clear hr3 hg3 hb3)
      go_meet
      exact ⟨r3, ⟨by rw [HR3.out]; simp [opt]⟩, A3, c3, rfl, hown3, HB3.out⟩
  obtain ⟨L', E3, st⟩ := hcut
  have hl' : L'.length ≤ L.length + (1) := by rw [E3.out, List.length_append]; have := opt_length b3 [xf] 1 (by simp); omega
  obtain ⟨L2, rfl⟩ : ∃ L0, L0 = L := ⟨_, rfl⟩
  obtain ⟨L, rfl⟩ : ∃ L0, L0 = L' := ⟨_, rfl⟩
  clear HST g0 hlw
  have HST := kept st
  clear st
  have hl3 := hl
  clear hl
  have hl := Nat.le_trans hl' (Nat.add_le_add_right hl3 _)
  clear hl' hl3
  obtain ⟨w3z, rfl⟩ : ∃ w0, w0 = w1 := ⟨_, rfl⟩
  obtain ⟨w1, rfl⟩ : ∃ w, w = wc := ⟨_, rfl⟩
  have g0 : w1.cell? ⟨w.heap.size, 0, none⟩ = some (.int .u8 (xk : Int)) := by obtain ⟨_, _, _, _, hb⟩ := HST.out; exact (k0.out.below hb hlt).cell (j := 0) rfl
  have hlw : w.heap.size < w1.heap.size := by obtain ⟨_, _, _, _, hb⟩ := HST.out; exact Nat.lt_of_lt_of_le hlt hb.size
  go_upto_if 38 with (go_at_call 45; refine (CH4.out _).mono ?_; rintro e w' ⟨rfl, rfl⟩)
  go_cut [5] (fun p wx => ∃ L', Kept (L' = L ++ opt b4 (textB xt)) ∧ OneSt w0 L' p wx)
  case first =>
    cases b4
    · go_wp2
      go_meet
      exact ⟨L, ⟨by simp [opt]⟩, HST.out⟩
    · have g1 : w1.cell? ⟨w.heap.size, 4, none⟩ = some (.string xt) := by obtain ⟨_, _, _, _, hb⟩ := HST.out; exact (k0.out.below hb hlt).cell (j := 4) rfl
      obtain ⟨A, c, rfl, ho, hb⟩ := HST.out
      have hr := ho.rd
      have C := kept (rtext_any A _ c L xt _ rfl hr (by omega))
      clear ho hb hr
      go_wp2_with fail
      refine C.out.mono ?_
      rintro e w2 ⟨A2, c2, rfl, ho2, hc2, hb2⟩
      have HF := kept (HST.out.on ⟨A2, c2, rfl, ho2, hb2⟩)
      clear ho2 hc2 hb2
      go_wp2
      go_meet
      exact ⟨L ++ (textB xt), ⟨by simp [opt]⟩, by rw [← List.length_append]; exact HF.out⟩
  obtain ⟨L', E4, st⟩ := hcut
  have hl' : L'.length ≤ L.length + (9 + xt.size) := by rw [E4.out, List.length_append]; have := opt_length b4 (textB xt) (9 + xt.size) (text_len _); omega
  obtain ⟨L3, rfl⟩ : ∃ L0, L0 = L := ⟨_, rfl⟩
  obtain ⟨L, rfl⟩ : ∃ L0, L0 = L' := ⟨_, rfl⟩
  clear HST g0 hlw
  have HST := kept st
  clear st
  have hl4 := hl
  clear hl
  have hl := Nat.le_trans hl' (Nat.add_le_add_right hl4 _)
  clear hl' hl4
  obtain ⟨w4z, rfl⟩ : ∃ w0, w0 = w1 := ⟨_, rfl⟩
  obtain ⟨w1, rfl⟩ : ∃ w, w = wc := ⟨_, rfl⟩
  have g0 : w1.cell? ⟨w.heap.size, 0, none⟩ = some (.int .u8 (xk : Int)) := by obtain ⟨_, _, _, _, hb⟩ := HST.out; exact (k0.out.below hb hlt).cell (j := 0) rfl
  have hlw : w.heap.size < w1.heap.size := by obtain ⟨_, _, _, _, hb⟩ := HST.out; exact Nat.lt_of_lt_of_le hlt hb.size
  go_upto_if 45 with (go_at_call 45; refine (CH5.out _).mono ?_; rintro e w' ⟨rfl, rfl⟩)
  go_cut [5] (fun p wx => ∃ L', Kept (L' = L ++ opt b5 (numB (foldI xp))) ∧ OneSt w0 L' p wx)
  case first =>
    cases b5
    · go_wp2
      go_meet
      exact ⟨L, ⟨by simp [opt]⟩, HST.out⟩
    · have g1 : w1.cell? ⟨w.heap.size, 5, none⟩ = some (.int .i64 xp) := by obtain ⟨_, _, _, _, hb⟩ := HST.out; exact (k0.out.below hb hlt).cell (j := 5) rfl
      obtain ⟨A, c, rfl, ho, hb⟩ := HST.out
      have hr := ho.rd
      have C := kept (rappend_any A _ c L (foldI xp) _ rfl (foldI_lt hx6 hx6') hr (by omega))
      clear ho hb hr
      go_wp2_with fail
      refine (rfold_any xp _ hx6 hx6').mono ?_
      rintro e w' ⟨rfl, rfl⟩
      go_wp2_with fail
      refine C.out.mono ?_
      rintro e w2 ⟨A2, c2, rfl, ho2, hc2, hb2⟩
      have HF := kept (HST.out.on ⟨A2, c2, rfl, ho2, hb2⟩)
      clear ho2 hc2 hb2
      go_wp2
      go_meet
      exact ⟨L ++ (numB (foldI xp)), ⟨by simp [opt]⟩, by rw [← List.length_append]; exact HF.out⟩
  obtain ⟨L', E5, st⟩ := hcut
  have hl' : L'.length ≤ L.length + (9) := by rw [E5.out, List.length_append]; have := opt_length b5 (numB (foldI xp)) 9 (num9 _); omega
  obtain ⟨L4, rfl⟩ : ∃ L0, L0 = L := ⟨_, rfl⟩
  obtain ⟨L, rfl⟩ : ∃ L0, L0 = L' := ⟨_, rfl⟩
  clear HST g0 hlw
  have HST := kept st
  clear st
  have hl5 := hl
  clear hl
  have hl := Nat.le_trans hl' (Nat.add_le_add_right hl5 _)
  clear hl' hl5
  obtain ⟨w5z, rfl⟩ : ∃ w0, w0 = w1 := ⟨_, rfl⟩
  obtain ⟨w1, rfl⟩ : ∃ w, w = wc := ⟨_, rfl⟩
  have g0 : w1.cell? ⟨w.heap.size, 0, none⟩ = some (.int .u8 (xk : Int)) := by obtain ⟨_, _, _, _, hb⟩ := HST.out; exact (k0.out.below hb hlt).cell (j := 0) rfl
  have hlw : w.heap.size < w1.heap.size := by obtain ⟨_, _, _, _, hb⟩ := HST.out; exact Nat.lt_of_lt_of_le hlt hb.size
  go_upto_if 53 with (go_at_call 45; refine (CH6.out _).mono ?_; rintro e w' ⟨rfl, rfl⟩)
  go_cut [5] (fun p wx => ∃ L', Kept (L' = L ++ opt b6 (numB (foldI xa))) ∧ OneSt w0 L' p wx)
  case first =>
    cases b6
    · go_wp2
      go_meet
      exact ⟨L, ⟨by simp [opt]⟩, HST.out⟩
    · have g1 : w1.cell? ⟨w.heap.size, 6, none⟩ = some (.int .i64 xa) := by obtain ⟨_, _, _, _, hb⟩ := HST.out; exact (k0.out.below hb hlt).cell (j := 6) rfl
      obtain ⟨A, c, rfl, ho, hb⟩ := HST.out
      have hr := ho.rd
      have C := kept (rappend_any A _ c L (foldI xa) _ rfl (foldI_lt hx7 hx7') hr (by omega))
      clear ho hb hr
      go_wp2_with fail
      refine (rfold_any xa _ hx7 hx7').mono ?_
      rintro e w' ⟨rfl, rfl⟩
      go_wp2_with fail
      refine C.out.mono ?_
      rintro e w2 ⟨A2, c2, rfl, ho2, hc2, hb2⟩
      have HF := kept (HST.out.on ⟨A2, c2, rfl, ho2, hb2⟩)
      clear ho2 hc2 hb2
      go_wp2
      go_meet
      exact ⟨L ++ (numB (foldI xa)), ⟨by simp [opt]⟩, by rw [← List.length_append]; exact HF.out⟩
  obtain ⟨L', E6, st⟩ := hcut
  have hl' : L'.length ≤ L.length + (9) := by rw [E6.out, List.length_append]; have := opt_length b6 (numB (foldI xa)) 9 (num9 _); omega
  obtain ⟨L5, rfl⟩ : ∃ L0, L0 = L := ⟨_, rfl⟩
  obtain ⟨L, rfl⟩ : ∃ L0, L0 = L' := ⟨_, rfl⟩
  clear HST g0 hlw
  have HST := kept st
  clear st
  have hl6 := hl
  clear hl
  have hl := Nat.le_trans hl' (Nat.add_le_add_right hl6 _)
  clear hl' hl6
  obtain ⟨w6z, rfl⟩ : ∃ w0, w0 = w1 := ⟨_, rfl⟩
  obtain ⟨w1, rfl⟩ : ∃ w, w = wc := ⟨_, rfl⟩
  have g0 : w1.cell? ⟨w.heap.size, 0, none⟩ = some (.int .u8 (xk : Int)) := by obtain ⟨_, _, _, _, hb⟩ := HST.out; exact (k0.out.below hb hlt).cell (j := 0) rfl
  have hlw : w.heap.size < w1.heap.size := by obtain ⟨_, _, _, _, hb⟩ := HST.out; exact Nat.lt_of_lt_of_le hlt hb.size
  go_upto_if 61 with (go_at_call 45; refine (CH7.out _).mono ?_; rintro e w' ⟨rfl, rfl⟩)
  go_cut [5] (fun p wx => ∃ L', Kept (L' = L ++ opt b7 (numB xm)) ∧ OneSt w0 L' p wx)
  case first =>
    cases b7
    · go_wp2
      go_meet
      exact ⟨L, ⟨by simp [opt]⟩, HST.out⟩
    · have g1 : w1.cell? ⟨w.heap.size, 7, none⟩ = some (.int .u32 (xm : Int)) := by obtain ⟨_, _, _, _, hb⟩ := HST.out; exact (k0.out.below hb hlt).cell (j := 7) rfl
      obtain ⟨A, c, rfl, ho, hb⟩ := HST.out
      have hr := ho.rd
      have C := kept (rappend_any A _ c L xm _ rfl (by omega) hr (by omega))
      clear ho hb hr
      go_wp2_with fail
      refine C.out.mono ?_
      rintro e w2 ⟨A2, c2, rfl, ho2, hc2, hb2⟩
      have HF := kept (HST.out.on ⟨A2, c2, rfl, ho2, hb2⟩)
      clear ho2 hc2 hb2
      go_wp2
      go_meet
      exact ⟨L ++ (numB xm), ⟨by simp [opt]⟩, by rw [← List.length_append]; exact HF.out⟩
  obtain ⟨L', E7, st⟩ := hcut
  have hl' : L'.length ≤ L.length + (9) := by rw [E7.out, List.length_append]; have := opt_length b7 (numB xm) 9 (num9 _); omega
  obtain ⟨L6, rfl⟩ : ∃ L0, L0 = L := ⟨_, rfl⟩
  obtain ⟨L, rfl⟩ : ∃ L0, L0 = L' := ⟨_, rfl⟩
  clear HST g0 hlw
  have HST := kept st
  clear st
  have hl7 := hl
  clear hl
  have hl := Nat.le_trans hl' (Nat.add_le_add_right hl7 _)
  clear hl' hl7
  obtain ⟨w7z, rfl⟩ : ∃ w0, w0 = w1 := ⟨_, rfl⟩
  obtain ⟨w1, rfl⟩ : ∃ w, w = wc := ⟨_, rfl⟩
  have HF : Kept (L = l ++ actB ⟨xk, xwho, xcid, xf, xt, xp, xa, xm⟩) := ⟨by
    rw [HACT.out, E7.out, E6.out, E5.out, E4.out, E3.out, E2.out, E1.out, E0.out]
    simp only [List.append_assoc, List.cons_append, List.nil_append]⟩
  obtain ⟨A2, c2, rfl, ho, hb⟩ := HST.out
  go_wp2
  go_ret
  rw [← HF.out]
  exact ⟨A2, c2, rfl, ho.mono hb0.out.size, own_cap ho, hb0.out.trans (hb.mono hb0.out.size)⟩
end Go.Proofs.Ytmfclekjojninaa.Act
