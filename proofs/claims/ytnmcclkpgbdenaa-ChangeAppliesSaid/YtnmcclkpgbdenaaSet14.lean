import Derived.Test.YtnmcclkpgbdenaaCardCopy
import Derived.Test.YtnmcclkpgbdenaaCardLine
import Derived.Test.YtnmcclkpgbdenaaCardGoodB
import Derived.Test.YtnmcclkpgbdenaaSet13
/- Layer 50 (change): changes in memory; what the law's lists say. -/
namespace Go.Proofs.Ytnmcclkpgbdenaa.Chg
open Go.RowKit Go.Proofs.Ytnmcclkpgbdenaa.Mem Go.Proofs.Ytnmcclkpgbdenaa.Card

abbrev PLine : Type := Nat × ByteArray × List ByteArray
abbrev PCard : Type := Nat × List PLine
abbrev PCh : Type := Nat × PCard × PLine
/-- a change where it lies -/
structure ChM where
  k : Nat
  card : CardM
  line : LineM
def ChM.cells (x : ChM) : List Value := [.int .u8 (x.k : Int), .int .u64 (x.card.cid : Int), .slice x.card.X x.card.ls.length x.card.c, .int .u8 (x.line.f : Int), .string x.line.t, .slice x.line.A x.line.m.length x.line.c]
def ChM.val (x : ChM) : Value := .agg #[.int .u8 (x.k : Int), .int .u64 (x.card.cid : Int), .slice x.card.X x.card.ls.length x.card.c, .int .u8 (x.line.f : Int), .string x.line.t, .slice x.line.A x.line.m.length x.line.c]
def ChM.p (x : ChM) : PCh := (x.k, x.card.p, x.line.p)
def chE : Elem ChM := ⟨ChM.cells, 6, by decide, fun _ => rfl, fun x u hu => by
  simp only [ChM.cells, List.mem_cons, List.not_mem_nil, or_false] at hu
  rcases hu with rfl | rfl | rfl | rfl | rfl | rfl <;> rfl⟩
theorem ch_info : (Try.prog.info? 79).map (fun i => (i.zero, i.size, i.bytes)) = some (some (.agg #[.int .u8 0, .int .u64 0, .slice none 0 0, .int .u8 0, .string ByteArray.empty, .slice none 0 0]), 6, 88) := by kernel_rfl
theorem card_info : (Try.prog.info? 38).map (fun i => (i.zero, i.size, i.bytes)) = some (some (.agg #[.int .u64 0, .slice none 0 0]), 2, 32) := by kernel_rfl
/-- it reads below block B -/
def ChM.Ok (w : World) (B : Nat) (x : ChM) : Prop := x.k < 256 ∧ x.card.Ok w B ∧ x.line.Ok w B
def RdChs (w : World) (B : Nat) (A : Option Addr) (cs : List ChM) : Prop := chE.Rd w B A cs ∧ ∀ x ∈ cs, x.Ok w B
section
variable {w w' : World} {B B' : Nat}
theorem ChM.Ok.keep {x : ChM} (h : x.Ok w B) (hk : ∀ p : Addr, p.block < B → w'.cell? p = w.cell? p) : x.Ok w' B := ⟨h.1, h.2.1.keep hk, h.2.2.keep hk⟩
theorem ChM.Ok.more {x : ChM} (h : x.Ok w B) (hB : B ≤ B') : x.Ok w B' := ⟨h.1, h.2.1.more hB, h.2.2.more hB⟩
theorem ChM.Ok.below {x : ChM} (h : x.Ok w B) (hb : Below B w w') : x.Ok w' B := h.keep fun _ hp => hb.cell hp
theorem RdChs.below {A : Option Addr} {cs : List ChM} (h : RdChs w B A cs) (hb : Below B w w') : RdChs w' B A cs := ⟨h.1.below hb, fun x hx => (h.2 x hx).below hb⟩
theorem RdChs.more {A : Option Addr} {cs : List ChM} (h : RdChs w B A cs) (hB : B ≤ B') : RdChs w B' A cs := ⟨h.1.more hB, fun x hx => (h.2 x hx).more hB⟩
theorem RdChs.next {A : Option Addr} {cs : List ChM} (h : RdChs w w.heap.size A cs) (hb : Below w.heap.size w w') : RdChs w' w'.heap.size A cs := (h.below hb).more hb.size
end
/-! a call's own changes: rows, cards and lines of its own -/
def LineM.Own (w : World) (base : Nat) (z : LineM) : Prop := z.f < 256 ∧ z.m.length ≤ 8796093022208 ∧ strE.Own w base 9 (.slice z.A z.m.length z.c) z.m
def ChM.Own (w : World) (base : Nat) (x : ChM) : Prop := x.k < 256 ∧ x.card.Fresh w base ∧ LineM.Own w base x.line
def ChsOwn (w : World) (base : Nat) (A : Option Addr) (c : Nat) (cs : List ChM) : Prop := chE.Own w base 79 (.slice A cs.length c) cs ∧ ∀ x ∈ cs, x.Own w base
section
variable {w w' : World} {base : Nat}
theorem LineM.Own.ok {z : LineM} (h : LineM.Own w base z) : z.Ok w w.heap.size := ⟨strE_rd.1 h.2.2.rd, h.1, h.2.2.cap, h.2.1⟩
theorem LineM.Own.next {z : LineM} (h : LineM.Own w base z) (hb : Below w.heap.size w w') : LineM.Own w' base z := ⟨h.1, h.2.1, h.2.2.below hb (Nat.le_refl _)⟩
theorem LineM.Own.mono {b' : Nat} {z : LineM} (h : LineM.Own w base z) (hb : b' ≤ base) : LineM.Own w b' z := ⟨h.1, h.2.1, h.2.2.mono hb⟩
theorem ChM.Own.ok {x : ChM} (h : x.Own w base) : x.Ok w w.heap.size := ⟨h.1, h.2.1.ok, h.2.2.ok⟩
theorem ChM.Own.next {x : ChM} (h : x.Own w base) (hb : Below w.heap.size w w') : x.Own w' base := ⟨h.1, h.2.1.below hb (Nat.le_refl _), h.2.2.next hb⟩
theorem ChM.Own.mono {b' : Nat} {x : ChM} (h : x.Own w base) (hb : b' ≤ base) : x.Own w b' := ⟨h.1, h.2.1.mono hb, h.2.2.mono hb⟩
theorem ChsOwn.nil (w : World) (base : Nat) : ChsOwn w base none 0 [] := ⟨Elem.Own.nilv _ _ _ _, fun x hx => by cases hx⟩
theorem ChsOwn.next {A : Option Addr} {c : Nat} {cs : List ChM} (h : ChsOwn w base A c cs) (hb : Below w.heap.size w w') : ChsOwn w' base A c cs := ⟨h.1.below hb (Nat.le_refl _), fun x hx => (h.2 x hx).next hb⟩
theorem ChsOwn.mono {b' : Nat} {A : Option Addr} {c : Nat} {cs : List ChM} (h : ChsOwn w base A c cs) (hb : b' ≤ base) : ChsOwn w b' A c cs := ⟨h.1.mono hb, fun x hx => (h.2 x hx).mono hb⟩
theorem ChsOwn.rd {A : Option Addr} {c : Nat} {cs : List ChM} (h : ChsOwn w base A c cs) : RdChs w w.heap.size A cs := ⟨h.1.rd, fun x hx => (h.2 x hx).ok⟩
/-- a row of another type is another block -/
theorem own_apart {s1 s2 : Nat} {b1 b2 : Nat} {e1 e2 : TypeId} {v1 v2 : Value} {n1 n2 : Nat} {xs1 xs2 : List Value} (h : OwnK s1 w b1 e1 v1 n1 xs1) (h2 : OwnK s2 w b2 e2 v2 n2 xs2) (hne : e1 ≠ e2) : ∀ k, v1.ownBlock = some k → v2.ownBlock ≠ some k := by
  intro k hk hk2
  rcases h2.2 with ⟨e, _⟩ | ⟨g2, cap2, cur2, e, _, _⟩
  · subst e; cases hk2
  · subst e
    have : g2 = k := Option.some.inj hk2
    subst this
    rcases h.apart h2 hne with h3 | h3
    · rw [h3] at hk; cases hk
    · exact h3 hk
theorem Fresh.turn {y : CardM} (h : y.Fresh w base) {v : Value} {b : Nat} {cs : List ChM} (ho : chE.Own w b 79 v cs) (hu : Upd (fun k => v.ownBlock = some k) w w') : y.Fresh w' base :=
  ⟨h.1, OwnK.upd h.2.1 hu (own_apart h.2.1 ho (by decide)), h.2.2.1, fun z hz => ⟨(h.2.2.2 z hz).1, (h.2.2.2 z hz).2.1, OwnK.upd (h.2.2.2 z hz).2.2 hu (own_apart (h.2.2.2 z hz).2.2 ho (by decide))⟩⟩
theorem LineM.Own.turn {z : LineM} (h : LineM.Own w base z) {v : Value} {b : Nat} {cs : List ChM} (ho : chE.Own w b 79 v cs) (hu : Upd (fun k => v.ownBlock = some k) w w') : LineM.Own w' base z :=
  ⟨h.1, h.2.1, OwnK.upd h.2.2 hu (own_apart h.2.2 ho (by decide))⟩
theorem ChM.Own.turn {x : ChM} (h : x.Own w base) {v : Value} {b : Nat} {cs : List ChM} (ho : chE.Own w b 79 v cs) (hu : Upd (fun k => v.ownBlock = some k) w w') : x.Own w' base := ⟨h.1, Fresh.turn h.2.1 ho hu, h.2.2.turn ho hu⟩
/-- a row grows by append: what stood in it, and what comes to it, stays -/
theorem chs_app {A A2 : Option Addr} {c c2 : Nat} {cs news r2 : List ChM} (h : ChsOwn w base A c cs) (hn : ∀ x ∈ news, x.Own w base) (hr : r2 = cs ++ news) (ho : chE.Own w' base 79 (.slice A2 r2.length c2) r2)
    (hu : ∀ S : Nat → Prop, (∀ k, (Value.slice A cs.length c).ownBlock = some k → S k) → Upd S w w') : ChsOwn w' base A2 c2 r2 := by
  have hu' := hu (fun k => (Value.slice A cs.length c).ownBlock = some k) fun _ h => h
  refine ⟨ho, fun x hx => ?_⟩
  rw [hr] at hx
  rcases List.mem_append.1 hx with hx | hx
  · exact (h.2 x hx).turn h.1 hu'
  · exact (hn x hx).turn h.1 hu'
end
end Go.Proofs.Ytnmcclkpgbdenaa.Chg

/- Whether a card may be: the document's Good. -/
namespace Go.Proofs.Ytnmcclkpgbdenaa.Card
open Go.RowKit Go.Proofs.Ytnmcclkpgbdenaa.Mem Go.Proofs.Ytnmcclkpgbdenaa.Shift

set_option maxHeartbeats 4000000 in
theorem rcgood_any (x : CardM) (w : World) (hx : x.Ok w w.heap.size) (hs : ∀ z ∈ x.ls, z.t.size ≤ 9223372036854775807 ∧ ∀ y ∈ z.m, y.size ≤ 9223372036854775807) :
    Calls Try.prog 41 #[x.val] w fun e w' => e = .returned (.bool (cardGood x)) ∧ Below w.heap.size w w' := by
  obtain ⟨xcid, xX, xls, xc⟩ := x
  obtain ⟨hx1, hx2, hx3, hx4⟩ := hx
  dsimp only at hx1 hx2 hx3 hx4 hs ⊢
  have k0 := Blk.new w [.int .u64 (xcid : Int), .slice xX xls.length xc] 38
  have hb0 := (Below.refl w.heap.size w).alloc (Nat.le_refl _) (.cells #[.int .u64 (xcid : Int), .slice xX xls.length xc] 38)
  unfold CardM.val
  go_enter Try.func41, Try.ntmps41
  go_upto_region 1 with fail
  obtain ⟨w1, hw1⟩ : ∃ w1, w.alloc (.cells #[.int .u64 (xcid : Int), .slice xX xls.length xc] 38) = w1 := ⟨_, rfl⟩
  have k1 : Blk w1 w.heap.size [.int .u64 (xcid : Int), .slice xX xls.length xc] 38 := by rw [← hw1]; exact k0
  have hb1 : Below w.heap.size w w1 := by rw [← hw1]; exact hb0
  rw [hw1]
  clear hw1 k0 hb0
  have c0 := k1.cell (j := 0) rfl
  have KC : Kept (∀ W, Below w1.heap.size w1 W → Blk W w.heap.size [.int .u64 (xcid : Int), .slice xX xls.length xc] 38) := ⟨fun W h => k1.next h⟩
  have KR : Kept (∀ W, Below w1.heap.size w1 W → RdLines W W.heap.size xX xls) := ⟨fun W h => (hx2.next hb1).next h⟩
  have HB1 := kept hb1
  have hlw : w.heap.size < w1.heap.size := k1.lt
  clear hb1 k1 hx2
  go_wp2_with fail
  refine (runpack_any xcid _ hx1).mono ?_
  rintro e w2 ⟨d, n, rfl, hx2⟩
  have hb3 := below_new hx2 (.cells #[.int .u16 (d : Int), .int .u64 (n : Int)] 46)
  have HB3 := kept (below_next HB1.out hb3)
  have c1 := (KC.out _ hb3).cell (j := 1) rfl
  cases hu : dotOk (devN xcid) (lowN xcid) with
  | false =>
    have HF : Kept (cardGood ⟨xcid, xX, xls, xc⟩ = false) := ⟨by unfold cardGood; rw [hu, Bool.false_and, Bool.and_false]⟩
    clear hu
    go_wp2
    go_ret
    exact ⟨ret_bool HF.out.symm, HB3.out⟩
  | true =>
    by_cases h0 : xls.length = 0
    · have HF : Kept (cardGood ⟨xcid, xX, xls, xc⟩ = false) := ⟨by unfold cardGood; rw [h0]; simp⟩
      clear hu
      go_wp2
      go_ret
      exact ⟨ret_bool HF.out.symm, HB3.out⟩
    · have e0 : ((xls.length : Int) == 0) = false := by simpa using h0
      have HG : Kept (cardGood ⟨xcid, xX, xls, xc⟩ = linesOk xls) := ⟨by unfold cardGood; rw [hu, decide_eq_true (show 0 < xls.length by omega), Bool.true_and, Bool.and_true]⟩
      clear hu
      clear c0
      go_wp2
      go_loopw [5] (fun i wr => ∃ k : Nat, k ≤ xls.length ∧ i = .int .i64 (k : Int) ∧ Kept (LinesUp xls k) ∧ Below w1.heap.size w1 wr) (fun i _ => xls.length - (intOf i).toNat)
      case atStart => exact ⟨0, Nat.zero_le _, rfl, ⟨linesUp_zero xls⟩, hb3⟩
      case round =>
        obtain ⟨k, hk, rfl, hup, hbr⟩ := hrel
        clear c1
        have c1 := (KC.out wr hbr).cell (j := 1) rfl
        by_cases hlt : k < xls.length
        · have hkn : (k : Int) < (xls.length : Int) := by omega
          obtain ⟨z, hz⟩ : ∃ z, xls[k]? = some z := ⟨_, List.getElem?_eq_getElem hlt⟩
          obtain ⟨b1, o1, hX, hbb, hz1, hz2, hz3, hzo⟩ := (KR.out wr hbr).at_ hz
          obtain ⟨p, hp⟩ : ∃ p, xls[k - 1]? = some p := ⟨_, List.getElem?_eq_getElem (by omega)⟩
          have hzs := hs z (List.mem_of_getElem? hz)
          obtain ⟨zf, zt, zA, zm, zc⟩ := z
          dsimp only at hz1 hz2 hz3 hzo hzs
          obtain rfl := hX
          have HBR := kept hbr
          clear hbr hb3 hx2
          go_upto_region 8 with fail
          have ka := Blk.new wr [.int .u8 (zf : Int), .string zt, .slice zA zm.length zc] 41
          have hbx := below_new HBR.out (.cells #[.int .u8 (zf : Int), .string zt, .slice zA zm.length zc] 41)
          have hzx := (LineM.Ok.next (x := ⟨zf, zt, zA, zm, zc⟩) hzo ((Below.refl wr.heap.size wr).alloc (Nat.le_refl _) (.cells #[.int .u8 (zf : Int), .string zt, .slice zA zm.length zc] 41)))
          obtain ⟨wx, hwx⟩ : ∃ wx, wr.alloc (.cells #[.int .u8 (zf : Int), .string zt, .slice zA zm.length zc] 41) = wx := ⟨_, rfl⟩
          rw [hwx] at ka hbx hzx ⊢
          have hbw := below_next HB1.out hbx
          have CG := kept (fun nd => rgood_any zf (wx.drewN nd))
          have CT := kept (fun nd => rtext_any zt (wx.drewN nd) hzs.1)
          have CM := kept (fun nd => rmore_any zA zc zm zt (wx.drewN nd) hzx.1 hzx.2.2.2 hzs.2)
          have HBW : Kept (∀ q, Below w.heap.size w (wx.drewN q)) := ⟨fun q => below_next hbw (below_draw _ wx q)⟩
          have HBN : Kept (∀ q, Below w1.heap.size w1 (wx.drewN q)) := ⟨fun q => below_next hbx (below_draw _ wx q)⟩
          have s0 := ka.cell (j := 0) rfl
          have s1 := ka.cell (j := 1) rfl
          have s2 := ka.cell (j := 2) rfl
          have s3 := (KC.out wx hbx).cell (j := 1) rfl
          obtain ⟨b2, o2, hbo, _, s4, _⟩ := (KR.out wx hbx).at_ hp
          injection hbo with hbo
          injection hbo with hbb hoo _
          subst hbb hoo
          have HST : Kept (lineAt xls k = true → LinesUp xls (k + 1)) := ⟨fun h => linesUp_step hup.out h⟩
          have HBD : Kept (lineAt xls k = false → cardGood ⟨xcid, some ⟨b1, o1, none⟩, xls, xc⟩ = false) := ⟨fun h => by rw [HG.out]; exact lines_bad hlt h⟩
          have HPK : Kept (lineAt xls k = ((moreOk zt zm && (decide (1 ≤ zf ∧ zf ≤ 5) && textOk zt)) && (k == 0 || decide (p.f < zf)))) := ⟨by
            unfold lineAt lineGood
            simp only [List.getD, hz, hp, Option.getD_some]⟩
          clear hz1 hz2 hz3 hzo hzs hz hp ka hbx hzx hbw hwx KR KC hup hs c1
          cases g1 : decide (1 ≤ zf ∧ zf ≤ 5) with
          | false =>
            rw [g1] at CG
            have HF := kept (HBD.out (by rw [HPK.out, g1]; simp))
            clear HPK HST HBD
            go_wp2
            go_quiet (first | (go_at_call 70; exact Calls.quiet_of (CG.out _)) | (go_at_call 71; exact Calls.quiet_of (CT.out _)) | (go_at_call 72; exact Calls.quiet_of (CM.out _)))
            go_wp2
            go_ret
            exact ⟨ret_bool HF.out.symm, HBW.out _⟩
          | true =>
            rw [g1] at CG
            by_cases hk0 : k = 0
            · have h3 : ¬ ((k : Int) > 0) := by omega
              have h6 : decide (0 < k) = false := decide_eq_false (by omega)
              cases g2 : textOk zt with
              | false =>
                rw [g2] at CT
                have HF := kept (HBD.out (by rw [HPK.out, g1, g2]; simp))
                clear HPK HST HBD
                go_wp2
                go_quiet (first | (go_at_call 70; exact Calls.quiet_of (CG.out _)) | (go_at_call 71; exact Calls.quiet_of (CT.out _)) | (go_at_call 72; exact Calls.quiet_of (CM.out _)))
                go_wp2
                go_ret
                exact ⟨ret_bool HF.out.symm, HBW.out _⟩
              | true =>
                rw [g2] at CT
                cases g3 : moreOk zt zm with
                | false =>
                  rw [g3] at CM
                  have HF := kept (HBD.out (by rw [HPK.out, g3]; simp))
                  clear HPK HST HBD
                  go_wp2
                  go_quiet (first | (go_at_call 70; exact Calls.quiet_of (CG.out _)) | (go_at_call 71; exact Calls.quiet_of (CT.out _)) | (go_at_call 72; exact Calls.quiet_of (CM.out _)))
                  go_wp2
                  go_ret
                  exact ⟨ret_bool HF.out.symm, HBW.out _⟩
                | true =>
                  rw [g3] at CM
                  have HU := kept (HST.out (by rw [HPK.out, g1, g2, g3]; simp [hk0]))
                  clear HPK HST HBD
                  go_wp2
                  go_quiet (first | (go_at_call 70; exact Calls.quiet_of (CG.out _)) | (go_at_call 71; exact Calls.quiet_of (CT.out _)) | (go_at_call 72; exact Calls.quiet_of (CM.out _)))
                  go_wp2
                  go_roundw
                  case rel => exact ⟨k + 1, by omega, by go_num, HU, HBN.out _⟩
                  case measure => simp [intOf]; omega
            · have hk1 : (k == 0) = false := by simpa using hk0
              obtain ⟨j, rfl⟩ : ∃ j, k = j + 1 := ⟨k - 1, by omega⟩
              have h3 : ((j : Int) + 1 > 0) := by omega
              have h6 : decide (0 < j + 1) = true := decide_eq_true (by omega)
              have h10 : ((j : Int) < (xls.length : Int)) := by omega
              simp only [Nat.add_sub_cancel] at s4
              have h12 : ¬ ((j : Int) < 0) := by omega
              have h13 : j < xls.length := by omega
              have h14 : (0 : Int) ≤ (j : Int) := by omega
              have h11 : IntKind.i64.wrap (j : Int) = (j : Int) := wrap_small j (by omega)
              by_cases h5 : p.f < zf
              · have h5b := decide_eq_true h5
                have e5 : ¬ ((p.f : Int) ≥ (zf : Int)) := by omega
                have e5b : decide (zf ≤ p.f) = false := decide_eq_false (by omega)
                cases g2 : textOk zt with
                | false =>
                  rw [g2] at CT
                  have HF := kept (HBD.out (by rw [HPK.out, g1, g2]; simp))
                  clear HPK HST HBD
                  go_wp2
                  go_quiet (first | (go_at_call 70; exact Calls.quiet_of (CG.out _)) | (go_at_call 71; exact Calls.quiet_of (CT.out _)) | (go_at_call 72; exact Calls.quiet_of (CM.out _)))
                  go_wp2
                  go_ret
                  exact ⟨ret_bool HF.out.symm, HBW.out _⟩
                | true =>
                  rw [g2] at CT
                  cases g3 : moreOk zt zm with
                  | false =>
                    rw [g3] at CM
                    have HF := kept (HBD.out (by rw [HPK.out, g3]; simp))
                    clear HPK HST HBD
                    go_wp2
                    go_quiet (first | (go_at_call 70; exact Calls.quiet_of (CG.out _)) | (go_at_call 71; exact Calls.quiet_of (CT.out _)) | (go_at_call 72; exact Calls.quiet_of (CM.out _)))
                    go_wp2
                    go_ret
                    exact ⟨ret_bool HF.out.symm, HBW.out _⟩
                  | true =>
                    rw [g3] at CM
                    have HU := kept (HST.out (by rw [HPK.out, g1, g2, g3]; simp [h5b]))
                    clear HPK HST HBD
                    go_wp2
                    go_quiet (first | (go_at_call 70; exact Calls.quiet_of (CG.out _)) | (go_at_call 71; exact Calls.quiet_of (CT.out _)) | (go_at_call 72; exact Calls.quiet_of (CM.out _)))
                    go_wp2
                    go_roundw
                    case rel => exact ⟨j + 1 + 1, by omega, by go_num, HU, HBN.out _⟩
                    case measure => simp [intOf]; omega
              · have h5b := decide_eq_false h5
                have e5 : ((p.f : Int) ≥ (zf : Int)) := by omega
                have e5b : decide (zf ≤ p.f) = true := decide_eq_true (by omega)
                have HF := kept (HBD.out (by rw [HPK.out, h5b]; simp))
                clear HPK HST HBD
                go_wp2
                go_quiet (first | (go_at_call 70; exact Calls.quiet_of (CG.out _)) | (go_at_call 71; exact Calls.quiet_of (CT.out _)) | (go_at_call 72; exact Calls.quiet_of (CM.out _)))
                go_wp2
                go_ret
                exact ⟨ret_bool HF.out.symm, HBW.out _⟩
        · have hkn : ¬ ((k : Int) < (xls.length : Int)) := by omega
          have HF := kept (HG.out.trans (lines_full hlt hup.out))
          clear hup
          go_wp2
          go_ret
          exact ⟨ret_bool HF.out.symm, below_next HB1.out hbr⟩
end Go.Proofs.Ytnmcclkpgbdenaa.Card
