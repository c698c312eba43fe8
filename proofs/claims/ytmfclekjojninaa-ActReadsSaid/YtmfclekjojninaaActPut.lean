/- Layer 37 (act): the walk of act.put. -/
import Derived.Test.YtmfclekjojninaaActMath
namespace Go.Proofs.Ytmfclekjojninaa.Act
open Go.RowKit Go.Proofs.Ytmfclekjojninaa.Mem Go.Proofs.Ytmfclekjojninaa.Card Go.Proofs.Ytmfclekjojninaa.Pack Go.Proofs.Ytmfclekjojninaa.Num Go.Proofs.Ytmfclekjojninaa.Shift

/-- the writer and the boxed act, in the midst of put -/
def PutSt (S : Nat → Prop) (g : Nat) (w0 : World) (ga : Nat) (cs : List Value) (L : List Nat) (wx : World) : Prop :=
  ∃ S', Wtr wx S' g L ∧ Goes S w0 S' wx ∧ Blk wx ga cs 62 ∧ ¬ S' ga
theorem putst_on {S S' : Nat → Prop} {g : Nat} {w0 wx w2 : World} {ga : Nat} {cs : List Value} {L2 : List Nat} (hG : Goes S w0 S' wx) (hK : Blk wx ga cs 62) (hN : ¬ S' ga) (h : ∃ S2, Wtr w2 S2 g L2 ∧ Goes S' wx S2 w2) : PutSt S g w0 ga cs L2 w2 := by
  obtain ⟨S2, h1, h2⟩ := h
  exact ⟨S2, h1, hG.trans h2, hK.upd h2.1 hN, fun e => (h2.2 ga e).elim hN (fun h3 => by have := hK.lt; omega)⟩
set_option maxRecDepth 100000 in
set_option maxHeartbeats 4000000 in
theorem put_any (S : Nat → Prop) (g : Nat) (l : List Nat) (x : ActM) (w : World) (h : Wtr w S g l) (hx : x.Ok) (hsz : l.length + x.t.size ≤ 140737488350000) :
    Calls Try.prog 48 #[.pointer (some ⟨g, 0, none⟩), x.val] w (Puts S g w (l ++ actB x)) := by
  obtain ⟨xk, xwho, xcid, xf, xt, xp, xa, xm⟩ := x
  obtain ⟨hx1, hx2, hx3, hx4, hx5, ⟨hx6, hx6'⟩, ⟨hx7, hx7'⟩, hx8⟩ := hx
  obtain ⟨b1, hb1⟩ : ∃ b, hasN xk 1 = b := ⟨_, rfl⟩
  have CH1 := kept (fun W => has_any xk 119 W hx1)
  rw [show hasL xk 119 = b1 from hb1] at CH1
  obtain ⟨b2, hb2⟩ : ∃ b, hasN xk 2 = b := ⟨_, rfl⟩
  have CH2 := kept (fun W => has_any xk 99 W hx1)
  rw [show hasL xk 99 = b2 from hb2] at CH2
  obtain ⟨b3, hb3⟩ : ∃ b, hasN xk 3 = b := ⟨_, rfl⟩
  have CH3 := kept (fun W => has_any xk 102 W hx1)
  rw [show hasL xk 102 = b3 from hb3] at CH3
  obtain ⟨b4, hb4⟩ : ∃ b, hasN xk 4 = b := ⟨_, rfl⟩
  have CH4 := kept (fun W => has_any xk 116 W hx1)
  rw [show hasL xk 116 = b4 from hb4] at CH4
  obtain ⟨b5, hb5⟩ : ∃ b, hasN xk 5 = b := ⟨_, rfl⟩
  have CH5 := kept (fun W => has_any xk 112 W hx1)
  rw [show hasL xk 112 = b5 from hb5] at CH5
  obtain ⟨b6, hb6⟩ : ∃ b, hasN xk 6 = b := ⟨_, rfl⟩
  have CH6 := kept (fun W => has_any xk 97 W hx1)
  rw [show hasL xk 97 = b6 from hb6] at CH6
  obtain ⟨b7, hb7⟩ : ∃ b, hasN xk 7 = b := ⟨_, rfl⟩
  have CH7 := kept (fun W => has_any xk 109 W hx1)
  rw [show hasL xk 109 = b7 from hb7] at CH7
  have HACT : Kept (actB ⟨xk, xwho, xcid, xf, xt, xp, xa, xm⟩ = xk :: (opt b1 [xwho] ++ (opt b2 (numB xcid) ++ (opt b3 [xf] ++ (opt b4 (textB xt) ++ (opt b5 (numB (foldI xp)) ++ (opt b6 (numB (foldI xa)) ++ opt b7 (numB xm)))))))) := ⟨by
    unfold actB
    dsimp only
    rw [hb1, hb2, hb3, hb4, hb5, hb6, hb7]⟩
  clear hb1 hb2 hb3 hb4 hb5 hb6 hb7
  have hb0 := kept ((Below.refl w.heap.size w).alloc (Nat.le_refl _) (.cells #[.int .u8 (xk : Int), .int .u8 (xwho : Int), .int .u64 (xcid : Int), .int .u8 (xf : Int), .string xt, .int .i64 xp, .int .i64 xa, .int .u32 (xm : Int)] 62))
  have k0 := kept (Blk.new w [.int .u8 (xk : Int), .int .u8 (xwho : Int), .int .u64 (xcid : Int), .int .u8 (xf : Int), .string xt, .int .i64 xp, .int .i64 xa, .int .u32 (xm : Int)] 62)
  have hW0 := h.next hb0.out
  have hNS : ¬ S w.heap.size := fun e => by have := h.under _ e; omega
  unfold ActM.val
  dsimp only at hx1 hx2 hx3 hx4 hx5 hx6 hx6' hx7 hx7' hx8 hsz ⊢
  obtain ⟨w0, hw0⟩ : ∃ w0, w.alloc (.cells #[.int .u8 (xk : Int), .int .u8 (xwho : Int), .int .u64 (xcid : Int), .int .u8 (xf : Int), .string xt, .int .i64 xp, .int .i64 xa, .int .u32 (xm : Int)] 62) = w0 := ⟨_, rfl⟩
  obtain ⟨ga, hga⟩ : ∃ ga, w.heap.size = ga := ⟨_, rfl⟩
  have C0 := kept (wbyte_any S g l xk _ hW0 (by omega))
  have HP0 := kept (hb0.out)
  have g0 := k0.out.cell (j := 0) rfl
  have hl0 := k0.out.lt
  have HN := kept hNS
  clear hNS h hW0
  rw [hga] at g0 hl0
  rw [hw0] at g0 hl0
  go_enter Try.func48, Try.ntmps48
  go_upto_region 1 with fail
  rw [hw0] at C0 k0 hb0 HP0
  rw [hga] at k0 HN
  clear hw0 hga
  go_upto_region 2 with (refine C0.out.mono ?_; rintro e w2 ⟨rfl, hp⟩)
  have st := putst_on (Goes.refl S w0) k0.out HN.out hp
  clear hp C0 g0 hl0
  obtain ⟨w1, rfl⟩ : ∃ w, w = w2 := ⟨_, rfl⟩
  obtain ⟨L, hL⟩ : ∃ L, L = l ++ [xk] := ⟨_, rfl⟩
  rw [← hL] at st
  have E0 := kept hL
  have hl : L.length ≤ l.length + 1 := by rw [hL]; simp
  clear hL
  have HST := kept st
  clear st
  have g0 : w1.cell? ⟨ga, 0, none⟩ = some (.int .u8 (xk : Int)) := by obtain ⟨_, _, _, hK, _⟩ := HST.out; exact hK.cell (j := 0) rfl
  have hlt : ga < w1.heap.size := by obtain ⟨_, _, _, hK, _⟩ := HST.out; exact hK.lt
  go_upto_if 10 with (go_at_call 42; refine (CH1.out _).mono ?_; rintro e w' ⟨rfl, rfl⟩)
  go_cut [] (fun wx => ∃ L', Kept (L' = L ++ opt b1 [xwho]) ∧ PutSt S g w0 ga [.int .u8 (xk : Int), .int .u8 (xwho : Int), .int .u64 (xcid : Int), .int .u8 (xf : Int), .string xt, .int .i64 xp, .int .i64 xa, .int .u32 (xm : Int)] L' wx)
  case first =>
    cases b1
    · go_wp2
      go_meet
      exact ⟨L, ⟨by simp [opt]⟩, HST.out⟩
    · obtain ⟨S', hW, hG, hK, hN⟩ := HST.out
      have g1 := hK.cell (j := 1) rfl
      have C := kept (wbyte_any S' g L xwho _ hW (by omega))
      have HG := kept hG
      have HK := kept hK
      have HN' := kept hN
      clear hW hG hK hN
      go_wp2_with fail
      refine C.out.mono ?_
      rintro e w2 ⟨rfl, hp⟩
      have HF := kept (putst_on HG.out HK.out HN'.out hp)
      clear hp
      go_wp2
      go_meet
      exact ⟨_, ⟨by simp [opt]⟩, HF.out⟩
  obtain ⟨L', E1, st⟩ := hcut
  have hl' : L'.length ≤ L.length + (1) := by rw [E1.out, List.length_append]; have := opt_length b1 [xwho] 1 (by simp); omega
  obtain ⟨L0, rfl⟩ : ∃ L0, L0 = L := ⟨_, rfl⟩
  obtain ⟨L, rfl⟩ : ∃ L0, L0 = L' := ⟨_, rfl⟩
  clear HST g0 hlt
  have HST := kept st
  clear st
  have hl1 := hl
  clear hl
  have hl := Nat.le_trans hl' (Nat.add_le_add_right hl1 _)
  clear hl' hl1
  obtain ⟨w1z, rfl⟩ : ∃ w0, w0 = w1 := ⟨_, rfl⟩
  obtain ⟨w1, rfl⟩ : ∃ w, w = wc := ⟨_, rfl⟩
  have g0 : w1.cell? ⟨ga, 0, none⟩ = some (.int .u8 (xk : Int)) := by obtain ⟨_, _, _, hK, _⟩ := HST.out; exact hK.cell (j := 0) rfl
  have hlt : ga < w1.heap.size := by obtain ⟨_, _, _, hK, _⟩ := HST.out; exact hK.lt
  go_upto_if 17 with (go_at_call 42; refine (CH2.out _).mono ?_; rintro e w' ⟨rfl, rfl⟩)
  go_cut [] (fun wx => ∃ L', Kept (L' = L ++ opt b2 (numB xcid)) ∧ PutSt S g w0 ga [.int .u8 (xk : Int), .int .u8 (xwho : Int), .int .u64 (xcid : Int), .int .u8 (xf : Int), .string xt, .int .i64 xp, .int .i64 xa, .int .u32 (xm : Int)] L' wx)
  case first =>
    cases b2
    · go_wp2
      go_meet
      exact ⟨L, ⟨by simp [opt]⟩, HST.out⟩
    · obtain ⟨S', hW, hG, hK, hN⟩ := HST.out
      have g1 := hK.cell (j := 2) rfl
      have C := kept (wnum_any S' g L xcid _ hW hx3 (by omega))
      have HG := kept hG
      have HK := kept hK
      have HN' := kept hN
      clear hW hG hK hN
      go_wp2_with fail
      refine C.out.mono ?_
      rintro e w2 ⟨rfl, hp⟩
      have HF := kept (putst_on HG.out HK.out HN'.out hp)
      clear hp
      go_wp2
      go_meet
      exact ⟨_, ⟨by simp [opt]⟩, HF.out⟩
  obtain ⟨L', E2, st⟩ := hcut
  have hl' : L'.length ≤ L.length + (9) := by rw [E2.out, List.length_append]; have := opt_length b2 (numB xcid) 9 (num9 _); omega
  obtain ⟨L1, rfl⟩ : ∃ L0, L0 = L := ⟨_, rfl⟩
  obtain ⟨L, rfl⟩ : ∃ L0, L0 = L' := ⟨_, rfl⟩
  clear HST g0 hlt
  have HST := kept st
  clear st
  have hl2 := hl
  clear hl
  have hl := Nat.le_trans hl' (Nat.add_le_add_right hl2 _)
  clear hl' hl2
  obtain ⟨w2z, rfl⟩ : ∃ w0, w0 = w1 := ⟨_, rfl⟩
  obtain ⟨w1, rfl⟩ : ∃ w, w = wc := ⟨_, rfl⟩
  have g0 : w1.cell? ⟨ga, 0, none⟩ = some (.int .u8 (xk : Int)) := by obtain ⟨_, _, _, hK, _⟩ := HST.out; exact hK.cell (j := 0) rfl
  have hlt : ga < w1.heap.size := by obtain ⟨_, _, _, hK, _⟩ := HST.out; exact hK.lt
  go_upto_if 24 with (go_at_call 42; refine (CH3.out _).mono ?_; rintro e w' ⟨rfl, rfl⟩)
  go_cut [] (fun wx => ∃ L', Kept (L' = L ++ opt b3 [xf]) ∧ PutSt S g w0 ga [.int .u8 (xk : Int), .int .u8 (xwho : Int), .int .u64 (xcid : Int), .int .u8 (xf : Int), .string xt, .int .i64 xp, .int .i64 xa, .int .u32 (xm : Int)] L' wx)
  case first =>
    cases b3
    · go_wp2
      go_meet
      exact ⟨L, ⟨by simp [opt]⟩, HST.out⟩
    · obtain ⟨S', hW, hG, hK, hN⟩ := HST.out
      have g1 := hK.cell (j := 3) rfl
      have C := kept (wbyte_any S' g L xf _ hW (by omega))
      have HG := kept hG
      have HK := kept hK
      have HN' := kept hN
      clear hW hG hK hN
      go_wp2_with fail
      refine C.out.mono ?_
      rintro e w2 ⟨rfl, hp⟩
      have HF := kept (putst_on HG.out HK.out HN'.out hp)
      clear hp
      go_wp2
      go_meet
      exact ⟨_, ⟨by simp [opt]⟩, HF.out⟩
  obtain ⟨L', E3, st⟩ := hcut
  have hl' : L'.length ≤ L.length + (1) := by rw [E3.out, List.length_append]; have := opt_length b3 [xf] 1 (by simp); omega
  obtain ⟨L2, rfl⟩ : ∃ L0, L0 = L := ⟨_, rfl⟩
  obtain ⟨L, rfl⟩ : ∃ L0, L0 = L' := ⟨_, rfl⟩
  clear HST g0 hlt
  have HST := kept st
  clear st
  have hl3 := hl
  clear hl
  have hl := Nat.le_trans hl' (Nat.add_le_add_right hl3 _)
  clear hl' hl3
  obtain ⟨w3z, rfl⟩ : ∃ w0, w0 = w1 := ⟨_, rfl⟩
  obtain ⟨w1, rfl⟩ : ∃ w, w = wc := ⟨_, rfl⟩
  have g0 : w1.cell? ⟨ga, 0, none⟩ = some (.int .u8 (xk : Int)) := by obtain ⟨_, _, _, hK, _⟩ := HST.out; exact hK.cell (j := 0) rfl
  have hlt : ga < w1.heap.size := by obtain ⟨_, _, _, hK, _⟩ := HST.out; exact hK.lt
  go_upto_if 31 with (go_at_call 42; refine (CH4.out _).mono ?_; rintro e w' ⟨rfl, rfl⟩)
  go_cut [] (fun wx => ∃ L', Kept (L' = L ++ opt b4 (textB xt)) ∧ PutSt S g w0 ga [.int .u8 (xk : Int), .int .u8 (xwho : Int), .int .u64 (xcid : Int), .int .u8 (xf : Int), .string xt, .int .i64 xp, .int .i64 xa, .int .u32 (xm : Int)] L' wx)
  case first =>
    cases b4
    · go_wp2
      go_meet
      exact ⟨L, ⟨by simp [opt]⟩, HST.out⟩
    · obtain ⟨S', hW, hG, hK, hN⟩ := HST.out
      have g1 := hK.cell (j := 4) rfl
      have C := kept (wtext_any S' g L xt _ hW (by omega))
      have HG := kept hG
      have HK := kept hK
      have HN' := kept hN
      clear hW hG hK hN
      go_wp2_with fail
      refine C.out.mono ?_
      rintro e w2 ⟨rfl, hp⟩
      have HF := kept (putst_on HG.out HK.out HN'.out hp)
      clear hp
      go_wp2
      go_meet
      exact ⟨_, ⟨by simp [opt]⟩, HF.out⟩
  obtain ⟨L', E4, st⟩ := hcut
  have hl' : L'.length ≤ L.length + (9 + xt.size) := by rw [E4.out, List.length_append]; have := opt_length b4 (textB xt) (9 + xt.size) (text_len _); omega
  obtain ⟨L3, rfl⟩ : ∃ L0, L0 = L := ⟨_, rfl⟩
  obtain ⟨L, rfl⟩ : ∃ L0, L0 = L' := ⟨_, rfl⟩
  clear HST g0 hlt
  have HST := kept st
  clear st
  have hl4 := hl
  clear hl
  have hl := Nat.le_trans hl' (Nat.add_le_add_right hl4 _)
  clear hl' hl4
  obtain ⟨w4z, rfl⟩ : ∃ w0, w0 = w1 := ⟨_, rfl⟩
  obtain ⟨w1, rfl⟩ : ∃ w, w = wc := ⟨_, rfl⟩
  have g0 : w1.cell? ⟨ga, 0, none⟩ = some (.int .u8 (xk : Int)) := by obtain ⟨_, _, _, hK, _⟩ := HST.out; exact hK.cell (j := 0) rfl
  have hlt : ga < w1.heap.size := by obtain ⟨_, _, _, hK, _⟩ := HST.out; exact hK.lt
  go_upto_if 38 with (go_at_call 42; refine (CH5.out _).mono ?_; rintro e w' ⟨rfl, rfl⟩)
  go_cut [] (fun wx => ∃ L', Kept (L' = L ++ opt b5 (numB (foldI xp))) ∧ PutSt S g w0 ga [.int .u8 (xk : Int), .int .u8 (xwho : Int), .int .u64 (xcid : Int), .int .u8 (xf : Int), .string xt, .int .i64 xp, .int .i64 xa, .int .u32 (xm : Int)] L' wx)
  case first =>
    cases b5
    · go_wp2
      go_meet
      exact ⟨L, ⟨by simp [opt]⟩, HST.out⟩
    · obtain ⟨S', hW, hG, hK, hN⟩ := HST.out
      have g1 := hK.cell (j := 5) rfl
      have C := kept (wnum_any S' g L (foldI xp) _ hW (foldI_lt hx6 hx6') (by omega))
      have HG := kept hG
      have HK := kept hK
      have HN' := kept hN
      clear hW hG hK hN
      go_wp2_with fail
      refine (fold_any xp _ hx6 hx6').mono ?_
      rintro e w' ⟨rfl, rfl⟩
      go_wp2_with fail
      refine C.out.mono ?_
      rintro e w2 ⟨rfl, hp⟩
      have HF := kept (putst_on HG.out HK.out HN'.out hp)
      clear hp
      go_wp2
      go_meet
      exact ⟨_, ⟨by simp [opt]⟩, HF.out⟩
  obtain ⟨L', E5, st⟩ := hcut
  have hl' : L'.length ≤ L.length + (9) := by rw [E5.out, List.length_append]; have := opt_length b5 (numB (foldI xp)) 9 (num9 _); omega
  obtain ⟨L4, rfl⟩ : ∃ L0, L0 = L := ⟨_, rfl⟩
  obtain ⟨L, rfl⟩ : ∃ L0, L0 = L' := ⟨_, rfl⟩
  clear HST g0 hlt
  have HST := kept st
  clear st
  have hl5 := hl
  clear hl
  have hl := Nat.le_trans hl' (Nat.add_le_add_right hl5 _)
  clear hl' hl5
  obtain ⟨w5z, rfl⟩ : ∃ w0, w0 = w1 := ⟨_, rfl⟩
  obtain ⟨w1, rfl⟩ : ∃ w, w = wc := ⟨_, rfl⟩
  have g0 : w1.cell? ⟨ga, 0, none⟩ = some (.int .u8 (xk : Int)) := by obtain ⟨_, _, _, hK, _⟩ := HST.out; exact hK.cell (j := 0) rfl
  have hlt : ga < w1.heap.size := by obtain ⟨_, _, _, hK, _⟩ := HST.out; exact hK.lt
  go_upto_if 46 with (go_at_call 42; refine (CH6.out _).mono ?_; rintro e w' ⟨rfl, rfl⟩)
  go_cut [] (fun wx => ∃ L', Kept (L' = L ++ opt b6 (numB (foldI xa))) ∧ PutSt S g w0 ga [.int .u8 (xk : Int), .int .u8 (xwho : Int), .int .u64 (xcid : Int), .int .u8 (xf : Int), .string xt, .int .i64 xp, .int .i64 xa, .int .u32 (xm : Int)] L' wx)
  case first =>
    cases b6
    · go_wp2
      go_meet
      exact ⟨L, ⟨by simp [opt]⟩, HST.out⟩
    · obtain ⟨S', hW, hG, hK, hN⟩ := HST.out
      have g1 := hK.cell (j := 6) rfl
      have C := kept (wnum_any S' g L (foldI xa) _ hW (foldI_lt hx7 hx7') (by omega))
      have HG := kept hG
      have HK := kept hK
      have HN' := kept hN
      clear hW hG hK hN
      go_wp2_with fail
      refine (fold_any xa _ hx7 hx7').mono ?_
      rintro e w' ⟨rfl, rfl⟩
      go_wp2_with fail
      refine C.out.mono ?_
      rintro e w2 ⟨rfl, hp⟩
      have HF := kept (putst_on HG.out HK.out HN'.out hp)
      clear hp
      go_wp2
      go_meet
      exact ⟨_, ⟨by simp [opt]⟩, HF.out⟩
  obtain ⟨L', E6, st⟩ := hcut
  have hl' : L'.length ≤ L.length + (9) := by rw [E6.out, List.length_append]; have := opt_length b6 (numB (foldI xa)) 9 (num9 _); omega
  obtain ⟨L5, rfl⟩ : ∃ L0, L0 = L := ⟨_, rfl⟩
  obtain ⟨L, rfl⟩ : ∃ L0, L0 = L' := ⟨_, rfl⟩
  clear HST g0 hlt
  have HST := kept st
  clear st
  have hl6 := hl
  clear hl
  have hl := Nat.le_trans hl' (Nat.add_le_add_right hl6 _)
  clear hl' hl6
  obtain ⟨w6z, rfl⟩ : ∃ w0, w0 = w1 := ⟨_, rfl⟩
  obtain ⟨w1, rfl⟩ : ∃ w, w = wc := ⟨_, rfl⟩
  have g0 : w1.cell? ⟨ga, 0, none⟩ = some (.int .u8 (xk : Int)) := by obtain ⟨_, _, _, hK, _⟩ := HST.out; exact hK.cell (j := 0) rfl
  have hlt : ga < w1.heap.size := by obtain ⟨_, _, _, hK, _⟩ := HST.out; exact hK.lt
  have HF : Kept (L ++ opt b7 (numB xm) = l ++ actB ⟨xk, xwho, xcid, xf, xt, xp, xa, xm⟩) := ⟨by
    rw [HACT.out, E6.out, E5.out, E4.out, E3.out, E2.out, E1.out, E0.out]
    simp only [List.append_assoc, List.cons_append, List.nil_append]⟩
  have HEND : Kept (∀ {L' : List Nat} {w' : World}, PutSt S g w0 ga [.int .u8 (xk : Int), .int .u8 (xwho : Int), .int .u64 (xcid : Int), .int .u8 (xf : Int), .string xt, .int .i64 xp, .int .i64 xa, .int .u32 (xm : Int)] L' w' → L' = l ++ actB ⟨xk, xwho, xcid, xf, xt, xp, xa, xm⟩ → ∃ S', Wtr w' S' g (l ++ actB ⟨xk, xwho, xcid, xf, xt, xp, xa, xm⟩) ∧ Goes S w S' w') := ⟨by
    rintro L' w' ⟨S', hW, hG, _, _⟩ rfl
    refine ⟨S', hW, (Upd.of_below hb0.out).trans hG.1, fun k hk => (hG.2 k hk).elim .inl fun h => .inr ?_⟩
    have := hb0.out.size
    omega⟩
  go_upto_if 54 with (go_at_call 42; refine (CH7.out _).mono ?_; rintro e w' ⟨rfl, rfl⟩)
  cases b7
  · go_wp2
    go_end0
    exact ⟨rfl, HEND.out HST.out (by rw [← HF.out]; simp [opt])⟩
  · obtain ⟨S', hW, hG, hK, hN⟩ := HST.out
    have g1 := hK.cell (j := 7) rfl
    have C := kept (wnum_any S' g L xm _ hW (by omega) (by omega))
    have HG := kept hG
    have HK := kept hK
    have HN' := kept hN
    clear hW hG hK hN
    go_wp2_with fail
    refine C.out.mono ?_
    rintro e w2 ⟨rfl, hp⟩
    have HF2 := kept (putst_on HG.out HK.out HN'.out hp)
    clear hp
    go_wp2
    go_end0
    exact ⟨rfl, HEND.out HF2.out (by rw [← HF.out]; simp [opt])⟩
end Go.Proofs.Ytmfclekjojninaa.Act
