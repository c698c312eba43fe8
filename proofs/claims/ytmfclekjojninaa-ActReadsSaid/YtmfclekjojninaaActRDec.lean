/- Layer 37 (act): the walk of the document's Decode. -/
import Derived.Test.YtmfclekjojninaaActDec
namespace Go.Proofs.Ytmfclekjojninaa.Act
open Go.RowKit Go.Proofs.Ytmfclekjojninaa.Mem Go.Proofs.Ytmfclekjojninaa.Card Go.Proofs.Ytmfclekjojninaa.Pack Go.Proofs.Ytmfclekjojninaa.Num Go.Proofs.Ytmfclekjojninaa.Shift

/-- the document's reader, of the call's own -/
def RDecSt (w : World) (S : Nat → Prop) (g : Nat) (r : RS) (wx : World) : Prop := RRdr wx S g r ∧ w.heap.size ≤ g ∧ Below w.heap.size w wx
theorem RDecSt.call {w wx w2 : World} {S : Nat → Prop} {g : Nat} {r r2 : RS} (h : RDecSt w S g r wx) (h1 : RRdr w2 S g r2) (h2 : Upd (fun k => k = g) wx w2) : RDecSt w S g r2 w2 :=
  ⟨h1, h.2.1, h.2.2.trans (h2.below h.2.2.size (fun i _ e => by have := h.2.1; omega))⟩
theorem RDecSt.next {w wx w2 : World} {S : Nat → Prop} {g : Nat} {r : RS} (h : RDecSt w S g r wx) (h2 : Below wx.heap.size wx w2) : RDecSt w S g r w2 := ⟨h.1.next h2, h.2.1, below_next h.2.2 h2⟩
def RDecR (w : World) (S : Nat → Prop) (g : Nat) (o : List ActM) (v : Value) (r : RS) (wx : World) : Prop :=
  ∃ A c, v = .slice A o.length c ∧ actE.Own wx w.heap.size 62 (.slice A o.length c) o ∧ RDecSt w S g r wx ∧ (∀ k, (Value.slice A o.length c).ownBlock = some k → ¬ S k)
theorem RDecR.call {w wx w2 : World} {S : Nat → Prop} {g : Nat} {o : List ActM} {v : Value} {r r2 : RS} (h : RDecR w S g o v r wx) (h1 : RRdr w2 S g r2) (h2 : Upd (fun k => k = g) wx w2) : RDecR w S g o v r2 w2 := by
  obtain ⟨A, c, e, ho, hs, hd⟩ := h
  exact ⟨A, c, e, OwnK.upd ho h2 (fun k hk e2 => hd k hk (e2 ▸ hs.1.2.1)), hs.call h1 h2, hd⟩
theorem RDecR.app {w wx w1 w2 : World} {S : Nat → Prop} {g : Nat} {o o2 : List ActM} {A A2 : Option Addr} {c c2 : Nat} {r : RS} (hs : RDecSt w S g r wx) (hd : ∀ k, (Value.slice A o.length c).ownBlock = some k → ¬ S k) (hb1 : Below wx.heap.size wx w1)
    (ho : actE.Own w2 w.heap.size 62 (.slice A2 o2.length c2) o2) (hu : ∀ T : Nat → Prop, (∀ k, (Value.slice A o.length c).ownBlock = some k → T k) → Upd T w1 w2) (hx : ∀ x, A2 = some x → (Value.slice A o.length c).ownBlock = some x.block ∨ w1.heap.size ≤ x.block)
    (hlow : ∀ k, (Value.slice A o.length c).ownBlock = some k → w.heap.size ≤ k) : RDecR w S g o2 (.slice A2 o2.length c2) r w2 := by
  have hs1 := hs.next hb1
  have hu2 := hu (fun k => (Value.slice A o.length c).ownBlock = some k) (fun k hk => hk)
  refine ⟨A2, c2, rfl, ho, ⟨hs1.1.upd hu2 (fun k hk e => hd k e hk), hs1.2.1, hs1.2.2.trans (hu2.below hs1.2.2.size (fun i _ e => hlow i e))⟩, fun k hk hS => ?_⟩
  rcases A2 with _ | a
  · cases hk
  · obtain rfl : a.block = k := Option.some.inj hk
    rcases hx a rfl with h | h
    · exact hd _ h hS
    · have := hs1.1.2.2.1 _ hS; omega
/-- the document's reader of bytes that came in -/
theorem rdec_new (A : Option Addr) (c : Nat) (l : List Nat) (w : World) (hl : AllB l) (hc : l.length ≤ c) (hcc : c ≤ 140737488355328) (hr : Rd w w.heap.size A (BB l)) :
    ∃ S, RDecSt w S w.heap.size ⟨l, 0⟩ (w.alloc (.cells #[.slice A l.length c, .int .i64 0, .int .i64 0] 99)) := by
  have hb := (Below.refl w.heap.size w).alloc (Nat.le_refl _) (.cells #[.slice A l.length c, .int .i64 0, .int .i64 0] 99)
  have hA : ∀ x, A = some x → l ≠ [] → x.block < w.heap.size := fun x hx hne => by
    obtain ⟨b, o, e, hb, _⟩ := hr (by cases l with | nil => exact absurd rfl hne | cons y t => simp [BB])
    rw [hx] at e
    obtain rfl := Option.some.inj e
    exact hb
  refine ⟨fun k => k = w.heap.size ∨ (l ≠ [] ∧ ∃ x, A = some x ∧ x.block = k), ⟨RS.new hl (by omega), .inl rfl, ?_, A, l, c, 0, Blk.new w _ _, (hr.below hb).more (by simp), hl, hc, by omega, by omega, Nat.zero_le _, fun _ => rfl, fun x hx hne => ?_⟩, Nat.le_refl _, hb⟩
  · rintro k (rfl | ⟨hne, x, hx, rfl⟩)
    · simp
    · have := hA x hx hne; simp; omega
  · have hne' : l ≠ [] := fun e => hne (by rw [e]; rfl)
    exact ⟨.inr ⟨hne', x, hx, rfl⟩, by have := hA x hx hne'; omega⟩
/-- what is known at the loop's head: while there is no error the rest is to be read; behind one nothing more is -/
def Head (l : List Nat) (v j : Nat) (r1 : RS) (o : List ActM) (r : RS) : Prop :=
  (r.bad = 0 → v ≤ 1024 ∧ decR l = getsM v r1 ∧ getsM v r1 = (o ++ (getsM (v - j) r).1, (getsM (v - j) r).2)) ∧ (r.bad ≠ 0 → decR l = (o, r))
set_option maxRecDepth 100000 in
set_option maxHeartbeats 4000000 in
theorem rdecode_any (A : Option Addr) (n c : Nat) (l : List Nat) (w : World) (hn : n = l.length) (hl : AllB l) (hr : Rd w w.heap.size A (BB l)) (hc : l.length ≤ c) (hcc : c ≤ 140737488355328) :
    Calls Try.prog 33 #[.slice A n c] w (GivesL w (decM l)) := by
  subst hn
  obtain ⟨S, st⟩ := rdec_new A c l w hl hc hcc hr
  have HST := kept st
  have C1 := kept (xnum_any S w.heap.size ⟨l, 0⟩ _ st.1)
  have hok := RS.new hl (by omega)
  have hv := RS.numV_lt hok
  have HVB := kept (numV_bad (r := ⟨l, 0⟩))
  have HDEC : Kept (decR l = if 1024 < RS.numV ⟨l, 0⟩ then ([], (RS.numR ⟨l, 0⟩).fail 3) else getsM (RS.numV ⟨l, 0⟩) (RS.numR ⟨l, 0⟩)) := ⟨rfl⟩
  clear hok st hr
  go_enter Try.func33, Try.ntmps33
  go_wp2_with fail
  refine C1.out.mono ?_
  rintro e w2 ⟨rfl, hR, hu⟩
  have HST := kept (HST.out.call hR hu)
  clear hR hu C1
  generalize hV : RS.numV ⟨l, 0⟩ = v at *
  generalize hR1 : RS.numR ⟨l, 0⟩ = r1 at *
  clear hV hR1
  obtain ⟨g, hg⟩ : ∃ g, w.heap.size = g := ⟨_, rfl⟩
  have HST : Kept (RDecSt w S g r1 w2) := ⟨hg ▸ HST.out⟩
  rw [hg]
  clear hg
  go_upto_if 15 with fail
  go_cut [] (fun wx => ∃ (r0 : RS), Kept (Head l v 0 r1 [] r0) ∧ RDecSt w S g r0 wx)
  case first =>
    have C := kept (xfail_any S g r1 3 w2 HST.out.1 (by decide) (by decide))
    by_cases hlt : 1024 < v
    · have HD : Kept (Head l v 0 r1 [] (r1.fail 3)) := ⟨fun h => absurd h (fail_bad (by decide)), fun _ => by rw [HDEC.out, if_pos hlt]⟩
      clear HDEC
      go_wp2_with fail
      refine C.out.mono ?_
      rintro e w3 ⟨rfl, hR, hu⟩
      have HST := kept (HST.out.call hR hu)
      clear hR hu
      go_wp2
      go_meet
      exact ⟨_, HD, HST.out⟩
    · have HD : Kept (Head l v 0 r1 [] r1) := ⟨fun _ => ⟨by omega, by rw [HDEC.out, if_neg hlt], by simp⟩, fun h => by
        rw [HDEC.out, if_neg hlt, HVB.out h]
        rfl⟩
      clear HDEC
      go_wp2
      go_meet
      exact ⟨_, HD, HST.out⟩
  obtain ⟨r0, HD, st⟩ := hcut
  clear HST HDEC HVB
  have HST := kept st
  clear st
  obtain ⟨wa, rfl⟩ : ∃ w, w = wc := ⟨_, rfl⟩
  go_upto_block 0 with fail
  go_cut [6] (fun p wx => ∃ (o : List ActM) (r : RS), Kept (decR l = (o, r)) ∧ RDecR w S g o p r wx)
  case first =>
    go_wp2
    go_loopw [6, 7] (fun p i wr => ∃ (j : Nat) (o : List ActM) (r : RS), j ≤ v ∧ i = .int .u64 (j : Int) ∧ o.length = j ∧ Kept (Head l v j r1 o r) ∧ RDecR w S g o p r wr) (fun _ i _ => v - (intOf i).toNat)
    case atStart => exact ⟨0, [], r0, Nat.zero_le _, rfl, rfl, HD, none, 0, rfl, Elem.Own.nilv _ _ _ _, HST.out, fun k hk => by cases hk⟩
    case round =>
      obtain ⟨j, o, r, hj, rfl, hoj, hG, hrel⟩ := hrel
      have HREL := kept hrel
      obtain ⟨A, c, rfl, ho, hs, hd⟩ := hrel
      obtain ⟨hgl, h2, -⟩ := hs.1.cells
      by_cases hbd : r.bad = 0
      · obtain ⟨hv1024, hdec, hgets⟩ := hG.out.1 hbd
        rw [hbd] at h2
        by_cases hlt : j < v
        · have C := kept (read_any S g r wr hs.1)
          have HSTEP := kept (gets_step hgets hlt)
          have HSTOP := kept (gets_stop hgets hlt)
          have HDC := kept hdec
          have hok := get_ok hs.1.ok
          have HL := kept hoj
          clear ho hs hd HST hG hoj hdec hgets hbd HD
          unfold RGetsA at C
          generalize hgm : getM r = gm at *
          obtain ⟨x, r2⟩ := gm
          clear hgm
          dsimp only at C HSTEP HSTOP hok
          have HH : Kept (Head l v (j + 1) r1 (o ++ [x]) r2) := ⟨fun h => ⟨hv1024, HDC.out, HSTEP.out h⟩, fun h => HDC.out.trans (HSTOP.out h)⟩
          clear HSTEP HSTOP HDC
          unfold ActM.val at C
          go_wp2_with fail
          refine C.out.mono ?_
          rintro e w2 ⟨rfl, hR2, hu2⟩
          obtain ⟨_, _, he, ho, hs, hd⟩ := HREL.out.call hR2 hu2
          injection he with he1 he2 he3
          subst he1 he3
          have hlow := OwnK.under ho
          have hr1 := act_one w2 x
          unfold ActM.cells at hr1
          have hsz2 := hs.2.2.size
          have hby : (o.length + [x].length) * 64 ≤ 140737488355328 := by rw [HL.out]; simp; omega
          have HS := kept hs
          have HD2 := kept hd
          have HLOW := kept hlow
          have ho2 := Elem.Own.alloc ho (.cells #[.int .u8 (x.k : Int), .int .u8 (x.who : Int), .int .u64 (x.cid : Int), .int .u8 (x.f : Int), .string x.t, .int .i64 x.p, .int .i64 x.a, .int .u32 (x.m : Int)] 62)
          clear hs hd hlow C HREL hR2 hu2 ho h2
          go_wp2_with (at_builtin; refine wpl_appA rfl (.tmp 30) (.tmp 33) rfl w.heap.size _ o rfl ho2 _ _ _ _ [x] rfl rfl hr1 hby (by simp; omega) ?_; intro A3 c3 w3 o3 ho3 hown3 hu3 hx3; have hrr := RDecR.app HS.out HD2.out ((Below.refl w2.heap.size w2).alloc (Nat.le_refl _) _) hown3 hu3 hx3 (fun k hk => (HLOW.out k hk).1); have HRR := kept hrr; have HO3 := kept ho3.out; clear hrr hown3 hu3 hx3 ho3)
          go_roundw
          case rel => exact ⟨j + 1, o3, r2, by omega, by go_num, by rw [HO3.out, List.length_append, HL.out]; rfl, ⟨by rw [HO3.out]; exact HH.out⟩, HRR.out⟩
          case measure => simp [intOf]; omega
        · have HG := kept (hdec.trans (gets_end hgets hlt))
          clear hG ho hs hd hdec hgets hbd
          go_wp2
          go_meet
          exact ⟨o, r, HG, HREL.out⟩
      · have HG := kept (hG.out.2 hbd)
        have hb : ((r.bad : Int) == 0) = false := by rw [beq_eq_false_iff_ne]; omega
        clear hG ho hs hd hbd
        by_cases hlt : j < v
        · go_wp2
          go_meet
          exact ⟨o, r, HG, HREL.out⟩
        · go_wp2
          go_meet
          exact ⟨o, r, HG, HREL.out⟩
  obtain ⟨o, r, HO, hrel⟩ := hcut
  have HREL := kept hrel
  have CE := kept (xend_any S g r wc hrel.choose_spec.choose_spec.2.2.1.1)
  have HDM : Kept (decM l = if r.endR.bad = 0 then (o, 0) else ([], r.endR.bad)) := ⟨by unfold decM; rw [HO.out]⟩
  clear HST HD hrel
  obtain ⟨A, c, rfl, _⟩ := HREL.out
  go_wp2_with fail
  refine CE.out.mono ?_
  rintro e w3 ⟨rfl, hR3, hu3⟩
  have HREL := kept (HREL.out.call hR3 hu3)
  clear hR3 hu3 CE
  by_cases hbad : r.endR.bad = 0
  · have HDM : Kept (decM l = (o, 0)) := ⟨by rw [HDM.out, if_pos hbad]⟩
    have hb : ((r.endR.bad : Int) != 0) = false := by simp; omega
    clear hbad
    go_wp2
    go_ret2
    rw [HDM.out]
    obtain ⟨_, _, he, ho, hs, _⟩ := HREL.out
    injection he with he1 he2 he3
    subst he1 he3
    exact ⟨A, c, rfl, ho, ho.cap, hs.2.2⟩
  · have HDM : Kept (decM l = ([], r.endR.bad)) := ⟨by rw [HDM.out, if_neg hbad]⟩
    have hb : ((r.endR.bad : Int) != 0) = true := by simp; omega
    clear hbad
    go_wp2
    go_ret2
    rw [HDM.out]
    obtain ⟨_, _, _, _, hs, _⟩ := HREL.out
    exact givesL_none hs.2.2
end Go.Proofs.Ytmfclekjojninaa.Act
