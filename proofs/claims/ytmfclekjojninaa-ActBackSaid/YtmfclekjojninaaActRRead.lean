/- Layer 37 (act): the walk of the document's read. -/
import Derived.Test.YtmfclekjojninaaActGet
import Derived.Test.YtmfclekjojninaaActRGood
import Derived.Test.YtmfclekjojninaaPackRefB
namespace Go.Proofs.Ytmfclekjojninaa.Act
open Go.RowKit Go.Proofs.Ytmfclekjojninaa.Mem Go.Proofs.Ytmfclekjojninaa.Card Go.Proofs.Ytmfclekjojninaa.Pack Go.Proofs.Ytmfclekjojninaa.Num Go.Proofs.Ytmfclekjojninaa.Shift

/-- the reader, the act so far, the result's place, in the midst of get -/
def RGetSt (S : Nat → Prop) (g : Nat) (w : World) (ha ga : Nat) (cs zs : List Value) (r : RS) (wx : World) : Prop :=
  RRdr wx S g r ∧ Blk wx ga cs 62 ∧ Blk wx ha zs 62 ∧ Upd (fun k => k = g) w wx ∧ w.heap.size ≤ ha ∧ w.heap.size ≤ ga ∧ ha ≠ ga ∧ (∀ k, S k → k < w.heap.size)
section
variable {S : Nat → Prop} {g : Nat} {w wx w2 : World} {ha ga : Nat} {cs zs : List Value} {r r2 : RS}
theorem RGetSt.gl (h : RGetSt S g w ha ga cs zs r wx) : g < w.heap.size := h.2.2.2.2.2.2.2 g h.1.2.1
theorem RGetSt.call (h : RGetSt S g w ha ga cs zs r wx) (h1 : RRdr w2 S g r2) (h2 : Upd (fun k => k = g) wx w2) : RGetSt S g w ha ga cs zs r2 w2 := by
  have hg := h.gl
  obtain ⟨a1, a2, a3, a4, a5, a6, a7, a8⟩ := h
  exact ⟨h1, a2.upd h2 (by omega), a3.upd h2 (by omega), a4.trans h2, a5, a6, a7, a8⟩
theorem RGetSt.set (h : RGetSt S g w ha ga cs zs r wx) (j : Nat) (v : Value) : RGetSt S g w ha ga (cs.set j v) zs r (wx.setCell ⟨ga, j, none⟩ v) := by
  have hg := h.gl
  obtain ⟨a1, a2, a3, a4, a5, a6, a7, a8⟩ := h
  have hu : Upd (fun k => k = ga) wx (wx.setCell ⟨ga, j, none⟩ v) := (Upd.refl (fun k => k = ga) wx).setCell (p := ⟨ga, j, none⟩) (.inl rfl) v
  exact ⟨a1.upd hu (fun k hk e => by have := a8 k hk; omega), a2.set j v, a3.other (p := ⟨ga, j, none⟩) (fun e => a7 e.symm) v, a4.setCell (p := ⟨ga, j, none⟩) (.inr a6) v, a5, a6, a7, a8⟩
theorem RGetSt.next (h : RGetSt S g w ha ga cs zs r wx) (hb : Below wx.heap.size wx w2) : RGetSt S g w ha ga cs zs r w2 := by
  obtain ⟨a1, a2, a3, a4, a5, a6, a7, a8⟩ := h
  exact ⟨a1.next hb, a2.next hb, a3.next hb, a4.next hb, a5, a6, a7, a8⟩
/-- what is put into the result's place -/
theorem RGetSt.back (h : RGetSt S g w ha ga cs zs r wx) (j : Nat) (v : Value) : RGetSt S g w ha ga cs (zs.set j v) r (wx.setCell ⟨ha, j, none⟩ v) := by
  have hg := h.gl
  obtain ⟨a1, a2, a3, a4, a5, a6, a7, a8⟩ := h
  have hu : Upd (fun k => k = ha) wx (wx.setCell ⟨ha, j, none⟩ v) := (Upd.refl (fun k => k = ha) wx).setCell (p := ⟨ha, j, none⟩) (.inl rfl) v
  exact ⟨a1.upd hu (fun k hk e => by have := a8 k hk; omega), a2.other (p := ⟨ha, j, none⟩) a7 v, a3.set j v, a4.setCell (p := ⟨ha, j, none⟩) (.inr a5) v, a5, a6, a7, a8⟩
end
/-- what get gives -/
def RGetsA (S : Nat → Prop) (g : Nat) (w : World) (r : RS) (e : Ending) (w' : World) : Prop := e = .returned (getM r).1.val ∧ RRdr w' S g (getM r).2 ∧ Upd (fun k => k = g) w w'
set_option maxRecDepth 100000 in
set_option maxHeartbeats 4000000 in
theorem read_any (S : Nat → Prop) (g : Nat) (r : RS) (w : World) (h : RRdr w S g r) :
    Calls Try.prog 59 #[.pointer (some ⟨g, 0, none⟩)] w (RGetsA S g w r) := by
  have hok := h.ok
  have hS := h.2.2.1
  have hx1 := r.byteV_lt hok
  have ha0 := kept (Blk.new w [.int .u8 0, .int .u8 0, .int .u64 0, .int .u8 0, .string ⟨#[]⟩, .int .i64 0, .int .i64 0, .int .u32 0] 62)
  have hb0 := kept ((Below.refl w.heap.size w).alloc (Nat.le_refl _) (.cells #[.int .u8 0, .int .u8 0, .int .u64 0, .int .u8 0, .string ⟨#[]⟩, .int .i64 0, .int .i64 0, .int .u32 0] 62))
  have C0 := kept (xbyte_any S g r _ (h.next hb0.out))
  have HS := kept hS
  obtain ⟨xk, hxk⟩ : ∃ xk, r.byteV = xk := ⟨_, rfl⟩
  obtain ⟨r0, hr0⟩ : ∃ r0, r.byteR = r0 := ⟨_, rfl⟩
  rw [hxk] at C0 hx1
  rw [hr0] at C0
  have hok0 : r0.Ok := hr0 ▸ hok.byte
  have E0 := kept (And.intro hxk hr0)
  clear hxk hr0 h hS
  obtain ⟨b1, hb1⟩ : ∃ b, hasN xk 1 = b := ⟨_, rfl⟩
  have CH1 := kept (fun W => rhas_1 xk W hx1)
  rw [hb1] at CH1
  have HB1 := kept hb1
  clear hb1
  obtain ⟨b2, hb2⟩ : ∃ b, hasN xk 2 = b := ⟨_, rfl⟩
  have CH2 := kept (fun W => rhas_2 xk W hx1)
  rw [hb2] at CH2
  have HB2 := kept hb2
  clear hb2
  obtain ⟨b3, hb3⟩ : ∃ b, hasN xk 3 = b := ⟨_, rfl⟩
  have CH3 := kept (fun W => rhas_3 xk W hx1)
  rw [hb3] at CH3
  have HB3 := kept hb3
  clear hb3
  obtain ⟨b4, hb4⟩ : ∃ b, hasN xk 4 = b := ⟨_, rfl⟩
  have CH4 := kept (fun W => rhas_4 xk W hx1)
  rw [hb4] at CH4
  have HB4 := kept hb4
  clear hb4
  obtain ⟨b5, hb5⟩ : ∃ b, hasN xk 5 = b := ⟨_, rfl⟩
  have CH5 := kept (fun W => rhas_5 xk W hx1)
  rw [hb5] at CH5
  have HB5 := kept hb5
  clear hb5
  obtain ⟨b6, hb6⟩ : ∃ b, hasN xk 6 = b := ⟨_, rfl⟩
  have CH6 := kept (fun W => rhas_6 xk W hx1)
  rw [hb6] at CH6
  have HB6 := kept hb6
  clear hb6
  obtain ⟨b7, hb7⟩ : ∃ b, hasN xk 7 = b := ⟨_, rfl⟩
  have CH7 := kept (fun W => rhas_7 xk W hx1)
  rw [hb7] at CH7
  have HB7 := kept hb7
  clear hb7
  go_enter Try.func59, Try.ntmps59
  go_wp2_with fail
  refine C0.out.mono ?_
  rintro e w1 ⟨rfl, hR1, hu1⟩
  have st : RGetSt S g w w.heap.size w1.heap.size [.int .u8 (xk : Int), .int .u8 0, .int .u64 0, .int .u8 0, .string ⟨#[]⟩, .int .i64 0, .int .i64 0, .int .u32 0] [.int .u8 0, .int .u8 0, .int .u64 0, .int .u8 0, .string ⟨#[]⟩, .int .i64 0, .int .i64 0, .int .u32 0] r0 (w1.alloc (.cells #[.int .u8 (xk : Int), .int .u8 0, .int .u64 0, .int .u8 0, .string ⟨#[]⟩, .int .i64 0, .int .i64 0, .int .u32 0] 62)) := by
    have hb1 := (Below.refl w1.heap.size w1).alloc (Nat.le_refl _) (.cells #[.int .u8 (xk : Int), .int .u8 0, .int .u64 0, .int .u8 0, .string ⟨#[]⟩, .int .i64 0, .int .i64 0, .int .u32 0] 62)
    have hs := hu1.size
    have hs0 := hb0.out.size
    have hlt : w.heap.size < w1.heap.size := by simp at hs; omega
    have hgg : g < w.heap.size := HS.out g hR1.2.1
    refine ⟨hR1.next hb1, Blk.new w1 [.int .u8 (xk : Int), .int .u8 0, .int .u64 0, .int .u8 0, .string ⟨#[]⟩, .int .i64 0, .int .i64 0, .int .u32 0] 62, (ha0.out.upd hu1 (by omega)).next hb1, ((Upd.of_below hb0.out).trans hu1).next hb1, Nat.le_refl _, by omega, by omega, HS.out⟩
  have HST := kept st
  clear st hR1 hu1 C0 ha0 HS
  go_upto_if 9 with (go_at_call 45; refine (CH1.out _).mono ?_; rintro e w' ⟨rfl, rfl⟩)
  obtain ⟨wx, hwx⟩ : ∃ wx, w1.alloc (.cells #[.int .u8 (xk : Int), .int .u8 0, .int .u64 0, .int .u8 0, .string ⟨#[]⟩, .int .i64 0, .int .i64 0, .int .u32 0] 62) = wx := ⟨_, rfl⟩
  rw [hwx] at HST ⊢
  clear hwx
  have HST := kept (show ∃ ha ga, ha = w.heap.size ∧ ga = w1.heap.size ∧ RGetSt S g w ha ga [.int .u8 (xk : Int), .int .u8 0, .int .u64 0, .int .u8 0, .string ⟨#[]⟩, .int .i64 0, .int .i64 0, .int .u32 0] [.int .u8 0, .int .u8 0, .int .u64 0, .int .u8 0, .string ⟨#[]⟩, .int .i64 0, .int .i64 0, .int .u32 0] r0 wx from ⟨_, _, rfl, rfl, HST.out⟩)
  generalize w1.heap.size = ga at *
  have HST : Kept (RGetSt S g w w.heap.size ga [.int .u8 (xk : Int), .int .u8 0, .int .u64 0, .int .u8 0, .string ⟨#[]⟩, .int .i64 0, .int .i64 0, .int .u32 0] [.int .u8 0, .int .u8 0, .int .u64 0, .int .u8 0, .string ⟨#[]⟩, .int .i64 0, .int .i64 0, .int .u32 0] r0 wx) := ⟨by obtain ⟨_, _, rfl, rfl, h⟩ := HST.out; exact h⟩
  obtain ⟨ha, hha⟩ : ∃ ha, w.heap.size = ha := ⟨_, rfl⟩
  have HST : Kept (RGetSt S g w ha ga [.int .u8 (xk : Int), .int .u8 0, .int .u64 0, .int .u8 0, .string ⟨#[]⟩, .int .i64 0, .int .i64 0, .int .u32 0] [.int .u8 0, .int .u8 0, .int .u64 0, .int .u8 0, .string ⟨#[]⟩, .int .i64 0, .int .i64 0, .int .u32 0] r0 wx) := ⟨hha ▸ HST.out⟩
  rw [hha]
  clear hha hb0
  have g0 := True.intro
  have hlt := True.intro
  clear hok
  go_cut [] (fun wy => ∃ (v1 : Nat) (r1 : RS), Kept (gByte b1 r0 = (v1, r1)) ∧ RGetSt S g w ha ga [.int .u8 (xk : Int), .int .u8 (v1 : Int), .int .u64 0, .int .u8 0, .string ⟨#[]⟩, .int .i64 0, .int .i64 0, .int .u32 0] [.int .u8 0, .int .u8 0, .int .u64 0, .int .u8 0, .string ⟨#[]⟩, .int .i64 0, .int .i64 0, .int .u32 0] r1 wy)
  case first =>
    cases b1
    · go_wp2
      go_meet
      exact ⟨_, r0, ⟨rfl⟩, HST.out⟩
    · have hR := HST.out.1
      have C := kept (xbyte_any S g r0 _ hR)
      have f1 := HST.out.2.1.frozen 1
      have g1 := HST.out.2.1.cell (j := 1) rfl
      have hgg := HST.out.gl
      have hgw := HST.out.2.2.2.2.2.1
      clear hR
      go_wp2_with fail
      refine C.out.mono ?_
      rintro e w2 ⟨rfl, hR2, hu2⟩
      have st2 := HST.out.call hR2 hu2
      have g2 := st2.2.1.cell (j := 1) rfl
      have f2 := st2.2.1.frozen 1
      have hl2 := st2.2.1.lt
      have HS2 := kept (st2.set 1 (.int .u8 (r0.byteV : Int)))
      clear st2 hR2 hu2
      go_wp2
      go_meet
      exact ⟨_, _, ⟨rfl⟩, HS2.out⟩
  obtain ⟨v1, r1, E1, st⟩ := hcut
  have hok1 : r1.Ok := by have := (gByte_ok (b := b1) hok0).1; rw [E1.out] at this; exact this
  have hv1 := (gByte_ok (b := b1) hok0).2
  rw [E1.out] at hv1
  dsimp only at hv1
  clear HST g0 hlt
  have HST := kept st
  clear st
  obtain ⟨wx1, rfl⟩ : ∃ w0, w0 = wx := ⟨_, rfl⟩
  obtain ⟨wx, rfl⟩ : ∃ w, w = wc := ⟨_, rfl⟩
  have g0 : wx.cell? ⟨ga, 0, none⟩ = some (.int .u8 (xk : Int)) := HST.out.2.1.cell (j := 0) rfl
  have hlt : ga < wx.heap.size := HST.out.2.1.lt
  go_upto_if 15 with (go_at_call 45; refine (CH2.out _).mono ?_; rintro e w' ⟨rfl, rfl⟩)
  go_cut [] (fun wy => ∃ (v2 : Nat) (r2 : RS), Kept (gNum b2 r1 = (v2, r2)) ∧ RGetSt S g w ha ga [.int .u8 (xk : Int), .int .u8 (v1 : Int), .int .u64 (v2 : Int), .int .u8 0, .string ⟨#[]⟩, .int .i64 0, .int .i64 0, .int .u32 0] [.int .u8 0, .int .u8 0, .int .u64 0, .int .u8 0, .string ⟨#[]⟩, .int .i64 0, .int .i64 0, .int .u32 0] r2 wy)
  case first =>
    cases b2
    · go_wp2
      go_meet
      exact ⟨_, r1, ⟨rfl⟩, HST.out⟩
    · have hR := HST.out.1
      have C := kept (xnum_any S g r1 _ hR)
      have f1 := HST.out.2.1.frozen 2
      have g1 := HST.out.2.1.cell (j := 2) rfl
      have hgg := HST.out.gl
      have hgw := HST.out.2.2.2.2.2.1
      clear hR
      go_wp2_with fail
      refine C.out.mono ?_
      rintro e w2 ⟨rfl, hR2, hu2⟩
      have st2 := HST.out.call hR2 hu2
      have g2 := st2.2.1.cell (j := 2) rfl
      have f2 := st2.2.1.frozen 2
      have hl2 := st2.2.1.lt
      have HS2 := kept (st2.set 2 (.int .u64 (r1.numV : Int)))
      clear st2 hR2 hu2
      go_wp2
      go_meet
      exact ⟨_, _, ⟨rfl⟩, HS2.out⟩
  obtain ⟨v2, r2, E2, st⟩ := hcut
  have hok2 : r2.Ok := by have := (gNum_ok (b := b2) hok1).1; rw [E2.out] at this; exact this
  have hv2 := (gNum_ok (b := b2) hok1).2
  rw [E2.out] at hv2
  dsimp only at hv2
  clear HST g0 hlt
  have HST := kept st
  clear st
  obtain ⟨wx2, rfl⟩ : ∃ w0, w0 = wx := ⟨_, rfl⟩
  obtain ⟨wx, rfl⟩ : ∃ w, w = wc := ⟨_, rfl⟩
  have g0 : wx.cell? ⟨ga, 0, none⟩ = some (.int .u8 (xk : Int)) := HST.out.2.1.cell (j := 0) rfl
  have hlt : ga < wx.heap.size := HST.out.2.1.lt
  go_upto_if 21 with (go_at_call 45; refine (CH3.out _).mono ?_; rintro e w' ⟨rfl, rfl⟩)
  go_cut [] (fun wy => ∃ (v3 : Nat) (r3 : RS), Kept (gByte b3 r2 = (v3, r3)) ∧ RGetSt S g w ha ga [.int .u8 (xk : Int), .int .u8 (v1 : Int), .int .u64 (v2 : Int), .int .u8 (v3 : Int), .string ⟨#[]⟩, .int .i64 0, .int .i64 0, .int .u32 0] [.int .u8 0, .int .u8 0, .int .u64 0, .int .u8 0, .string ⟨#[]⟩, .int .i64 0, .int .i64 0, .int .u32 0] r3 wy)
  case first =>
    cases b3
    · go_wp2
      go_meet
      exact ⟨_, r2, ⟨rfl⟩, HST.out⟩
    · have hR := HST.out.1
      have C := kept (xbyte_any S g r2 _ hR)
      have f1 := HST.out.2.1.frozen 3
      have g1 := HST.out.2.1.cell (j := 3) rfl
      have hgg := HST.out.gl
      have hgw := HST.out.2.2.2.2.2.1
      clear hR
      go_wp2_with fail
      refine C.out.mono ?_
      rintro e w2 ⟨rfl, hR2, hu2⟩
      have st2 := HST.out.call hR2 hu2
      have g2 := st2.2.1.cell (j := 3) rfl
      have f2 := st2.2.1.frozen 3
      have hl2 := st2.2.1.lt
      have HS2 := kept (st2.set 3 (.int .u8 (r2.byteV : Int)))
      clear st2 hR2 hu2
      go_wp2
      go_meet
      exact ⟨_, _, ⟨rfl⟩, HS2.out⟩
  obtain ⟨v3, r3, E3, st⟩ := hcut
  have hok3 : r3.Ok := by have := (gByte_ok (b := b3) hok2).1; rw [E3.out] at this; exact this
  have hv3 := (gByte_ok (b := b3) hok2).2
  rw [E3.out] at hv3
  dsimp only at hv3
  clear HST g0 hlt
  have HST := kept st
  clear st
  obtain ⟨wx3, rfl⟩ : ∃ w0, w0 = wx := ⟨_, rfl⟩
  obtain ⟨wx, rfl⟩ : ∃ w, w = wc := ⟨_, rfl⟩
  have g0 : wx.cell? ⟨ga, 0, none⟩ = some (.int .u8 (xk : Int)) := HST.out.2.1.cell (j := 0) rfl
  have hlt : ga < wx.heap.size := HST.out.2.1.lt
  go_upto_if 27 with (go_at_call 45; refine (CH4.out _).mono ?_; rintro e w' ⟨rfl, rfl⟩)
  go_cut [] (fun wy => ∃ (v4 : ByteArray) (r4 : RS), Kept (gText b4 r3 = (v4, r4)) ∧ RGetSt S g w ha ga [.int .u8 (xk : Int), .int .u8 (v1 : Int), .int .u64 (v2 : Int), .int .u8 (v3 : Int), .string v4, .int .i64 0, .int .i64 0, .int .u32 0] [.int .u8 0, .int .u8 0, .int .u64 0, .int .u8 0, .string ⟨#[]⟩, .int .i64 0, .int .i64 0, .int .u32 0] r4 wy)
  case first =>
    cases b4
    · go_wp2
      go_meet
      exact ⟨_, r3, ⟨rfl⟩, HST.out⟩
    · have hR := HST.out.1
      have C := kept (xtext_any S g r3 60 _ hR (by decide))
      have f1 := HST.out.2.1.frozen 4
      have g1 := HST.out.2.1.cell (j := 4) rfl
      have hgg := HST.out.gl
      have hgw := HST.out.2.2.2.2.2.1
      clear hR
      go_wp2_with fail
      refine C.out.mono ?_
      rintro e w2 ⟨rfl, hR2, hu2⟩
      have st2 := HST.out.call hR2 hu2
      have g2 := st2.2.1.cell (j := 4) rfl
      have f2 := st2.2.1.frozen 4
      have hl2 := st2.2.1.lt
      have HS2 := kept (st2.set 4 (.string (strB (r3.textV 60))))
      clear st2 hR2 hu2
      go_wp2
      go_meet
      exact ⟨_, _, ⟨rfl⟩, HS2.out⟩
  obtain ⟨v4, r4, E4, st⟩ := hcut
  have hok4 : r4.Ok := by have := (gText_ok (b := b4) hok3).1; rw [E4.out] at this; exact this
  have hv4 := (gText_ok (b := b4) hok3).2
  rw [E4.out] at hv4
  dsimp only at hv4
  clear HST g0 hlt
  have HST := kept st
  clear st
  obtain ⟨wx4, rfl⟩ : ∃ w0, w0 = wx := ⟨_, rfl⟩
  obtain ⟨wx, rfl⟩ : ∃ w, w = wc := ⟨_, rfl⟩
  have g0 : wx.cell? ⟨ga, 0, none⟩ = some (.int .u8 (xk : Int)) := HST.out.2.1.cell (j := 0) rfl
  have hlt : ga < wx.heap.size := HST.out.2.1.lt
  go_upto_if 33 with (go_at_call 45; refine (CH5.out _).mono ?_; rintro e w' ⟨rfl, rfl⟩)
  go_cut [] (fun wy => ∃ (v5 : Int) (r5 : RS), Kept (gInt b5 r4 = (v5, r5)) ∧ RGetSt S g w ha ga [.int .u8 (xk : Int), .int .u8 (v1 : Int), .int .u64 (v2 : Int), .int .u8 (v3 : Int), .string v4, .int .i64 v5, .int .i64 0, .int .u32 0] [.int .u8 0, .int .u8 0, .int .u64 0, .int .u8 0, .string ⟨#[]⟩, .int .i64 0, .int .i64 0, .int .u32 0] r5 wy)
  case first =>
    cases b5
    · go_wp2
      go_meet
      exact ⟨_, r4, ⟨rfl⟩, HST.out⟩
    · have hR := HST.out.1
      have C := kept (xnum_any S g r4 _ hR)
      have f1 := HST.out.2.1.frozen 5
      have g1 := HST.out.2.1.cell (j := 5) rfl
      have hgg := HST.out.gl
      have hgw := HST.out.2.2.2.2.2.1
      clear hR
      go_wp2_with fail
      refine C.out.mono ?_
      rintro e w2 ⟨rfl, hR2, hu2⟩
      have st2 := HST.out.call hR2 hu2
      have g2 := st2.2.1.cell (j := 5) rfl
      have f2 := st2.2.1.frozen 5
      have hl2 := st2.2.1.lt
      have HS2 := kept (st2.set 5 (.int .i64 (unfoldN r4.numV)))
      clear st2 hR2 hu2
      go_wp2_with fail
      refine (runfold_any _ _ (RS.numV_lt hok4)).mono ?_
      rintro e w' ⟨rfl, rfl⟩
      go_wp2
      go_meet
      exact ⟨_, _, ⟨rfl⟩, HS2.out⟩
  obtain ⟨v5, r5, E5, st⟩ := hcut
  have hok5 : r5.Ok := by have := (gInt_ok (b := b5) hok4).1; rw [E5.out] at this; exact this
  have hv5 := (gInt_ok (b := b5) hok4).2
  rw [E5.out] at hv5
  dsimp only at hv5
  clear HST g0 hlt
  have HST := kept st
  clear st
  obtain ⟨wx5, rfl⟩ : ∃ w0, w0 = wx := ⟨_, rfl⟩
  obtain ⟨wx, rfl⟩ : ∃ w, w = wc := ⟨_, rfl⟩
  have g0 : wx.cell? ⟨ga, 0, none⟩ = some (.int .u8 (xk : Int)) := HST.out.2.1.cell (j := 0) rfl
  have hlt : ga < wx.heap.size := HST.out.2.1.lt
  go_upto_if 40 with (go_at_call 45; refine (CH6.out _).mono ?_; rintro e w' ⟨rfl, rfl⟩)
  go_cut [] (fun wy => ∃ (v6 : Int) (r6 : RS), Kept (gInt b6 r5 = (v6, r6)) ∧ RGetSt S g w ha ga [.int .u8 (xk : Int), .int .u8 (v1 : Int), .int .u64 (v2 : Int), .int .u8 (v3 : Int), .string v4, .int .i64 v5, .int .i64 v6, .int .u32 0] [.int .u8 0, .int .u8 0, .int .u64 0, .int .u8 0, .string ⟨#[]⟩, .int .i64 0, .int .i64 0, .int .u32 0] r6 wy)
  case first =>
    cases b6
    · go_wp2
      go_meet
      exact ⟨_, r5, ⟨rfl⟩, HST.out⟩
    · have hR := HST.out.1
      have C := kept (xnum_any S g r5 _ hR)
      have f1 := HST.out.2.1.frozen 6
      have g1 := HST.out.2.1.cell (j := 6) rfl
      have hgg := HST.out.gl
      have hgw := HST.out.2.2.2.2.2.1
      clear hR
      go_wp2_with fail
      refine C.out.mono ?_
      rintro e w2 ⟨rfl, hR2, hu2⟩
      have st2 := HST.out.call hR2 hu2
      have g2 := st2.2.1.cell (j := 6) rfl
      have f2 := st2.2.1.frozen 6
      have hl2 := st2.2.1.lt
      have HS2 := kept (st2.set 6 (.int .i64 (unfoldN r5.numV)))
      clear st2 hR2 hu2
      go_wp2_with fail
      refine (runfold_any _ _ (RS.numV_lt hok5)).mono ?_
      rintro e w' ⟨rfl, rfl⟩
      go_wp2
      go_meet
      exact ⟨_, _, ⟨rfl⟩, HS2.out⟩
  obtain ⟨v6, r6, E6, st⟩ := hcut
  have hok6 : r6.Ok := by have := (gInt_ok (b := b6) hok5).1; rw [E6.out] at this; exact this
  have hv6 := (gInt_ok (b := b6) hok5).2
  rw [E6.out] at hv6
  dsimp only at hv6
  clear HST g0 hlt
  have HST := kept st
  clear st
  obtain ⟨wx6, rfl⟩ : ∃ w0, w0 = wx := ⟨_, rfl⟩
  obtain ⟨wx, rfl⟩ : ∃ w, w = wc := ⟨_, rfl⟩
  have g0 : wx.cell? ⟨ga, 0, none⟩ = some (.int .u8 (xk : Int)) := HST.out.2.1.cell (j := 0) rfl
  have hlt : ga < wx.heap.size := HST.out.2.1.lt
  go_upto_if 47 with (go_at_call 45; refine (CH7.out _).mono ?_; rintro e w' ⟨rfl, rfl⟩)
  go_cut [] (fun wy => ∃ (v7 : Nat) (r7 : RS), Kept (gUpto b7 r6 = (v7, r7)) ∧ RGetSt S g w ha ga [.int .u8 (xk : Int), .int .u8 (v1 : Int), .int .u64 (v2 : Int), .int .u8 (v3 : Int), .string v4, .int .i64 v5, .int .i64 v6, .int .u32 (v7 : Int)] [.int .u8 0, .int .u8 0, .int .u64 0, .int .u8 0, .string ⟨#[]⟩, .int .i64 0, .int .i64 0, .int .u32 0] r7 wy)
  case first =>
    cases b7
    · go_wp2
      go_meet
      exact ⟨_, r6, ⟨rfl⟩, HST.out⟩
    · have hR := HST.out.1
      have C := kept (xupto_any S g r6 4294967295 _ hR)
      have f1 := HST.out.2.1.frozen 7
      have g1 := HST.out.2.1.cell (j := 7) rfl
      have hgg := HST.out.gl
      have hgw := HST.out.2.2.2.2.2.1
      clear hR
      go_wp2_with fail
      refine C.out.mono ?_
      rintro e w2 ⟨rfl, hR2, hu2⟩
      have st2 := HST.out.call hR2 hu2
      have g2 := st2.2.1.cell (j := 7) rfl
      have f2 := st2.2.1.frozen 7
      have hl2 := st2.2.1.lt
      have HS2 := kept (st2.set 7 (.int .u32 (r6.uptoV 4294967295 : Int)))
      clear st2 hR2 hu2
      have hmod : (((r6.uptoV 4294967295 : Nat) : Int) % 4294967296) = ((r6.uptoV 4294967295 : Nat) : Int) := by
        have := (gUpto_ok (b := true) hok6).2
        unfold gUpto at this
        rw [if_pos rfl] at this
        dsimp only at this
        omega
      go_wp2
      go_meet
      exact ⟨_, _, ⟨rfl⟩, HS2.out⟩
  obtain ⟨v7, r7, E7, st⟩ := hcut
  have hok7 : r7.Ok := by have := (gUpto_ok (b := b7) hok6).1; rw [E7.out] at this; exact this
  have hv7 := (gUpto_ok (b := b7) hok6).2
  rw [E7.out] at hv7
  dsimp only at hv7
  clear HST g0 hlt
  have HST := kept st
  clear st
  obtain ⟨wx7, rfl⟩ : ∃ w0, w0 = wx := ⟨_, rfl⟩
  obtain ⟨wx, rfl⟩ : ∃ w, w = wc := ⟨_, rfl⟩
  have HX : Kept (getM r = (⟨xk, v1, v2, v3, v4, v5, v6, v7⟩, if good ⟨xk, v1, v2, v3, v4, v5, v6, v7⟩ = true then r7 else r7.fail 4)) := ⟨by
    unfold getM
    dsimp only
    rw [E0.out.1, E0.out.2, HB1.out, HB2.out, HB3.out, HB4.out, HB5.out, HB6.out, HB7.out, E1.out]
    dsimp only
    rw [E2.out]
    dsimp only
    rw [E3.out]
    dsimp only
    rw [E4.out]
    dsimp only
    rw [E5.out]
    dsimp only
    rw [E6.out]
    dsimp only
    rw [E7.out]⟩
  have hxo : ActM.Ok ⟨xk, v1, v2, v3, v4, v5, v6, v7⟩ := ⟨hx1, hv1, hv2, hv3, Nat.le_trans hv4 (by decide), hv5, hv6, hv7⟩
  have CG := kept (fun W => xgood_any ⟨xk, v1, v2, v3, v4, v5, v6, v7⟩ W hxo)
  unfold ActM.val at CG
  dsimp only at CG
  have CF := kept (fun W hW => xfail_any S g r7 4 W hW (by decide) (by decide))
  clear E0 E1 E2 E3 E4 E5 E6 E7 HB1 HB2 HB3 HB4 HB5 HB6 HB7 CH1 CH2 CH3 CH4 CH5 CH6 CH7 hxo
  generalize good ⟨xk, v1, v2, v3, v4, v5, v6, v7⟩ = gb at *
  have hlt : ga < wx.heap.size := HST.out.2.1.lt
  have g0 := HST.out.2.1.cell (j := 0) rfl
  have g1 := HST.out.2.1.cell (j := 1) rfl
  have g2 := HST.out.2.1.cell (j := 2) rfl
  have g3 := HST.out.2.1.cell (j := 3) rfl
  have g4 := HST.out.2.1.cell (j := 4) rfl
  have g5 := HST.out.2.1.cell (j := 5) rfl
  have g6 := HST.out.2.1.cell (j := 6) rfl
  have g7 := HST.out.2.1.cell (j := 7) rfl
  obtain ⟨hgl, h2, -⟩ := HST.out.1.cells
  by_cases hbad : r7.bad = 0
  · rw [hbad] at h2
    clear hbad
    go_wp2_with fail
    refine (CG.out _).mono ?_
    rintro e w2 ⟨rfl, hb2⟩
    have st := HST.out.next hb2
    clear g0 g1 g2 g3 g4 g5 g6 g7 hlt HST hb2
    cases gb
    · have HX2 : Kept (getM r = (⟨xk, v1, v2, v3, v4, v5, v6, v7⟩, r7.fail 4)) := ⟨by rw [HX.out, if_neg (by simp)]⟩
      have hR := st.1
      have HST2 := kept st
      clear st
      go_wp2_with fail
      refine (CF.out _ hR).mono ?_
      rintro e w3 ⟨rfl, hR3, hu3⟩
      have st := HST2.out.call hR3 hu3
      clear HST2 hR hR3 hu3 CF CG
      have k0 := st.2.1.cell (j := 0) rfl
      have z0 := st.2.2.1.cell (j := 0) rfl
      have f0 := st.2.2.1.frozen 0
      have k1 := st.2.1.cell (j := 1) rfl
      have z1 := st.2.2.1.cell (j := 1) rfl
      have f1 := st.2.2.1.frozen 1
      have k2 := st.2.1.cell (j := 2) rfl
      have z2 := st.2.2.1.cell (j := 2) rfl
      have f2 := st.2.2.1.frozen 2
      have k3 := st.2.1.cell (j := 3) rfl
      have z3 := st.2.2.1.cell (j := 3) rfl
      have f3 := st.2.2.1.frozen 3
      have k4 := st.2.1.cell (j := 4) rfl
      have z4 := st.2.2.1.cell (j := 4) rfl
      have f4 := st.2.2.1.frozen 4
      have k5 := st.2.1.cell (j := 5) rfl
      have z5 := st.2.2.1.cell (j := 5) rfl
      have f5 := st.2.2.1.frozen 5
      have k6 := st.2.1.cell (j := 6) rfl
      have z6 := st.2.2.1.cell (j := 6) rfl
      have f6 := st.2.2.1.frozen 6
      have k7 := st.2.1.cell (j := 7) rfl
      have z7 := st.2.2.1.cell (j := 7) rfl
      have f7 := st.2.2.1.frozen 7
      have hl1 := st.2.1.lt
      have hl2 := st.2.2.1.lt
      have hne := st.2.2.2.2.2.2.1
      have hbk := st.back 0 (.int .u8 (xk : Int))
      have hbk := hbk.back 1 (.int .u8 (v1 : Int))
      have hbk := hbk.back 2 (.int .u64 (v2 : Int))
      have hbk := hbk.back 3 (.int .u8 (v3 : Int))
      have hbk := hbk.back 4 (.string v4)
      have hbk := hbk.back 5 (.int .i64 v5)
      have hbk := hbk.back 6 (.int .i64 v6)
      have hbk := hbk.back 7 (.int .u32 (v7 : Int))
      have HBK := kept (And.intro hbk.1 hbk.2.2.2.1)
      clear hbk st
      go_wp2
      refine bodyPost_ret (v := .agg #[.int .u8 (xk : Int), .int .u8 (v1 : Int), .int .u64 (v2 : Int), .int .u8 (v3 : Int), .string v4, .int .i64 v5, .int .i64 v6, .int .u32 (v7 : Int)]) (by simp [results, Try.results59, go_sem, z0, z1, z2, z3, z4, z5, z6, z7]) rfl ⟨by rw [HX2.out]; rfl, by rw [HX2.out]; exact HBK.out.1, HBK.out.2⟩
    · have HX2 : Kept (getM r = (⟨xk, v1, v2, v3, v4, v5, v6, v7⟩, r7)) := ⟨by rw [HX.out, if_pos rfl]⟩
      clear CF CG
      have k0 := st.2.1.cell (j := 0) rfl
      have z0 := st.2.2.1.cell (j := 0) rfl
      have f0 := st.2.2.1.frozen 0
      have k1 := st.2.1.cell (j := 1) rfl
      have z1 := st.2.2.1.cell (j := 1) rfl
      have f1 := st.2.2.1.frozen 1
      have k2 := st.2.1.cell (j := 2) rfl
      have z2 := st.2.2.1.cell (j := 2) rfl
      have f2 := st.2.2.1.frozen 2
      have k3 := st.2.1.cell (j := 3) rfl
      have z3 := st.2.2.1.cell (j := 3) rfl
      have f3 := st.2.2.1.frozen 3
      have k4 := st.2.1.cell (j := 4) rfl
      have z4 := st.2.2.1.cell (j := 4) rfl
      have f4 := st.2.2.1.frozen 4
      have k5 := st.2.1.cell (j := 5) rfl
      have z5 := st.2.2.1.cell (j := 5) rfl
      have f5 := st.2.2.1.frozen 5
      have k6 := st.2.1.cell (j := 6) rfl
      have z6 := st.2.2.1.cell (j := 6) rfl
      have f6 := st.2.2.1.frozen 6
      have k7 := st.2.1.cell (j := 7) rfl
      have z7 := st.2.2.1.cell (j := 7) rfl
      have f7 := st.2.2.1.frozen 7
      have hl1 := st.2.1.lt
      have hl2 := st.2.2.1.lt
      have hne := st.2.2.2.2.2.2.1
      have hbk := st.back 0 (.int .u8 (xk : Int))
      have hbk := hbk.back 1 (.int .u8 (v1 : Int))
      have hbk := hbk.back 2 (.int .u64 (v2 : Int))
      have hbk := hbk.back 3 (.int .u8 (v3 : Int))
      have hbk := hbk.back 4 (.string v4)
      have hbk := hbk.back 5 (.int .i64 v5)
      have hbk := hbk.back 6 (.int .i64 v6)
      have hbk := hbk.back 7 (.int .u32 (v7 : Int))
      have HBK := kept (And.intro hbk.1 hbk.2.2.2.1)
      clear hbk st
      go_wp2
      refine bodyPost_ret (v := .agg #[.int .u8 (xk : Int), .int .u8 (v1 : Int), .int .u64 (v2 : Int), .int .u8 (v3 : Int), .string v4, .int .i64 v5, .int .i64 v6, .int .u32 (v7 : Int)]) (by simp [results, Try.results59, go_sem, z0, z1, z2, z3, z4, z5, z6, z7]) rfl ⟨by rw [HX2.out]; rfl, by rw [HX2.out]; exact HBK.out.1, HBK.out.2⟩
  · have HX2 : Kept (getM r = (⟨xk, v1, v2, v3, v4, v5, v6, v7⟩, r7)) := ⟨by rw [HX.out]; split; rfl; unfold RS.fail; rw [if_neg (fun h => hbad h.1)]⟩
    have hbb : ((r7.bad : Int) == 0) = false := by rw [beq_eq_false_iff_ne]; omega
    have st := HST.out
    clear hbad CF CG g0 g1 g2 g3 g4 g5 g6 g7 hlt HST
    have k0 := st.2.1.cell (j := 0) rfl
    have z0 := st.2.2.1.cell (j := 0) rfl
    have f0 := st.2.2.1.frozen 0
    have k1 := st.2.1.cell (j := 1) rfl
    have z1 := st.2.2.1.cell (j := 1) rfl
    have f1 := st.2.2.1.frozen 1
    have k2 := st.2.1.cell (j := 2) rfl
    have z2 := st.2.2.1.cell (j := 2) rfl
    have f2 := st.2.2.1.frozen 2
    have k3 := st.2.1.cell (j := 3) rfl
    have z3 := st.2.2.1.cell (j := 3) rfl
    have f3 := st.2.2.1.frozen 3
    have k4 := st.2.1.cell (j := 4) rfl
    have z4 := st.2.2.1.cell (j := 4) rfl
    have f4 := st.2.2.1.frozen 4
    have k5 := st.2.1.cell (j := 5) rfl
    have z5 := st.2.2.1.cell (j := 5) rfl
    have f5 := st.2.2.1.frozen 5
    have k6 := st.2.1.cell (j := 6) rfl
    have z6 := st.2.2.1.cell (j := 6) rfl
    have f6 := st.2.2.1.frozen 6
    have k7 := st.2.1.cell (j := 7) rfl
    have z7 := st.2.2.1.cell (j := 7) rfl
    have f7 := st.2.2.1.frozen 7
    have hl1 := st.2.1.lt
    have hl2 := st.2.2.1.lt
    have hne := st.2.2.2.2.2.2.1
    have hbk := st.back 0 (.int .u8 (xk : Int))
    have hbk := hbk.back 1 (.int .u8 (v1 : Int))
    have hbk := hbk.back 2 (.int .u64 (v2 : Int))
    have hbk := hbk.back 3 (.int .u8 (v3 : Int))
    have hbk := hbk.back 4 (.string v4)
    have hbk := hbk.back 5 (.int .i64 v5)
    have hbk := hbk.back 6 (.int .i64 v6)
    have hbk := hbk.back 7 (.int .u32 (v7 : Int))
    have HBK := kept (And.intro hbk.1 hbk.2.2.2.1)
    clear hbk st
    go_wp2
    refine bodyPost_ret (v := .agg #[.int .u8 (xk : Int), .int .u8 (v1 : Int), .int .u64 (v2 : Int), .int .u8 (v3 : Int), .string v4, .int .i64 v5, .int .i64 v6, .int .u32 (v7 : Int)]) (by simp [results, Try.results59, go_sem, z0, z1, z2, z3, z4, z5, z6, z7]) rfl ⟨by rw [HX2.out]; rfl, by rw [HX2.out]; exact HBK.out.1, HBK.out.2⟩
end Go.Proofs.Ytmfclekjojninaa.Act
