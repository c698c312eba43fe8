/- Layer 37 (act): the walks of act.Decode and of the document's Decode. -/
import Derived.Test.YtmfclekjojninaaActGet
import Derived.Test.YtmfclekjojninaaActRRead
import Derived.Test.YtmfclekjojninaaActEncB
import Derived.Deep.CutBlock
namespace Go.Proofs.Ytmfclekjojninaa.Act
open Go.RowKit Go.Proofs.Ytmfclekjojninaa.Mem Go.Proofs.Ytmfclekjojninaa.Card Go.Proofs.Ytmfclekjojninaa.Pack Go.Proofs.Ytmfclekjojninaa.Num Go.Proofs.Ytmfclekjojninaa.Shift

theorem act_info : (Try.prog.info? 62).map (fun i => (i.zero, i.size, i.bytes)) = some (some (.agg #[.int .u8 0, .int .u8 0, .int .u64 0, .int .u8 0, .string ByteArray.empty, .int .i64 0, .int .i64 0, .int .u32 0]), 8, 64) := by kernel_rfl
theorem act_one (W : World) (x : ActM) : actE.Rd (W.alloc (.cells x.cells.toArray 62)) (W.heap.size + 1) (some ⟨W.heap.size, 0, none⟩) [x] := by
  have := Rd.new W x.cells 62
  unfold Elem.Rd Elem.cells
  simpa [actE] using this
/-- a call gives acts and an error's number -/
def GivesL (w : World) (o : List ActM × Nat) (en : Ending) (w' : World) : Prop :=
  ∃ A c, en = .returned (.tuple #[.slice A o.1.length c, .int .i64 (o.2 : Int)]) ∧ actE.Own w' w.heap.size 62 (.slice A o.1.length c) o.1 ∧ o.1.length ≤ c ∧ Below w.heap.size w w'
theorem givesL_none {w w' : World} {k : Nat} (hb : Below w.heap.size w w') : GivesL w ([], k) (.returned (.tuple #[.slice none 0 0, .int .i64 (k : Int)])) w' :=
  ⟨none, 0, rfl, Elem.Own.nilv _ _ _ _, Nat.le_refl _, hb⟩
theorem gets_step {n : Nat} {r1 : RS} {j : Nat} {o : List ActM} {r : RS} (h : getsM n r1 = (o ++ (getsM (n - j) r).1, (getsM (n - j) r).2)) (hj : j < n) (hb : (getM r).2.bad = 0) : getsM n r1 = ((o ++ [(getM r).1]) ++ (getsM (n - (j + 1)) (getM r).2).1, (getsM (n - (j + 1)) (getM r).2).2) := by
  obtain ⟨m, hm⟩ : ∃ m, n - j = m + 1 := ⟨n - j - 1, by omega⟩
  have e : n - (j + 1) = m := by omega
  rw [h, hm, e]
  conv => lhs; unfold getsM
  rw [if_pos hb]
  simp
theorem gets_stop {n : Nat} {r1 : RS} {j : Nat} {o : List ActM} {r : RS} (h : getsM n r1 = (o ++ (getsM (n - j) r).1, (getsM (n - j) r).2)) (hj : j < n) (hb : (getM r).2.bad ≠ 0) : getsM n r1 = (o ++ [(getM r).1], (getM r).2) := by
  obtain ⟨m, hm⟩ : ∃ m, n - j = m + 1 := ⟨n - j - 1, by omega⟩
  rw [h, hm]
  unfold getsM
  rw [if_neg hb]
theorem gets_end {n : Nat} {r1 : RS} {j : Nat} {o : List ActM} {r : RS} (h : getsM n r1 = (o ++ (getsM (n - j) r).1, (getsM (n - j) r).2)) (hj : ¬ j < n) : getsM n r1 = (o, r) := by
  rw [h, show n - j = 0 from by omega]
  simp [getsM]
/-- a reader of the call's own -/
def DecSt (w : World) (S : Nat → Prop) (g : Nat) (r : RS) (wx : World) : Prop := Rdr wx S g r ∧ (∀ k, S k → w.heap.size ≤ k) ∧ Below w.heap.size w wx
theorem DecSt.call {w wx w2 : World} {S : Nat → Prop} {g : Nat} {r r2 : RS} (h : DecSt w S g r wx) (h1 : Rdr w2 S g r2) (h2 : Upd (fun k => k = g) wx w2) : DecSt w S g r2 w2 :=
  ⟨h1, h.2.1, h.2.2.trans (h2.below h.2.2.size (fun i _ e => by have := h.2.1 g h.1.2.1; omega))⟩
theorem DecSt.next {w wx w2 : World} {S : Nat → Prop} {g : Nat} {r : RS} (h : DecSt w S g r wx) (h2 : Below wx.heap.size wx w2) : DecSt w S g r w2 := ⟨h.1.next h2, h.2.1, below_next h.2.2 h2⟩
/-- the acts so far and the reader, apart -/
def DecR (w : World) (S : Nat → Prop) (g : Nat) (o : List ActM) (v : Value) (r : RS) (wx : World) : Prop :=
  ∃ A c, v = .slice A o.length c ∧ actE.Own wx w.heap.size 62 (.slice A o.length c) o ∧ DecSt w S g r wx ∧ (∀ k, (Value.slice A o.length c).ownBlock = some k → ¬ S k)
theorem DecR.call {w wx w2 : World} {S : Nat → Prop} {g : Nat} {o : List ActM} {v : Value} {r r2 : RS} (h : DecR w S g o v r wx) (h1 : Rdr w2 S g r2) (h2 : Upd (fun k => k = g) wx w2) : DecR w S g o v r2 w2 := by
  obtain ⟨A, c, e, ho, hs, hd⟩ := h
  exact ⟨A, c, e, OwnK.upd ho h2 (fun k hk e2 => hd k hk (e2 ▸ hs.1.2.1)), hs.call h1 h2, hd⟩
/-- behind an append: the new acts -/
theorem DecR.app {w wx w1 w2 : World} {S : Nat → Prop} {g : Nat} {o o2 : List ActM} {A A2 : Option Addr} {c c2 : Nat} {r : RS} (hs : DecSt w S g r wx) (hd : ∀ k, (Value.slice A o.length c).ownBlock = some k → ¬ S k) (hb1 : Below wx.heap.size wx w1)
    (ho : actE.Own w2 w.heap.size 62 (.slice A2 o2.length c2) o2) (hu : ∀ T : Nat → Prop, (∀ k, (Value.slice A o.length c).ownBlock = some k → T k) → Upd T w1 w2) (hx : ∀ x, A2 = some x → (Value.slice A o.length c).ownBlock = some x.block ∨ w1.heap.size ≤ x.block)
    (hlow : ∀ k, (Value.slice A o.length c).ownBlock = some k → w.heap.size ≤ k) : DecR w S g o2 (.slice A2 o2.length c2) r w2 := by
  have hs1 := hs.next hb1
  have hu2 := hu (fun k => (Value.slice A o.length c).ownBlock = some k) (fun k hk => hk)
  refine ⟨A2, c2, rfl, ho, ⟨hs1.1.upd hu2 (fun k hk e => hd k e hk), hs1.2.1, hs1.2.2.trans (hu2.below hs1.2.2.size (fun i _ e => hlow i e))⟩, fun k hk hS => ?_⟩
  rcases A2 with _ | a
  · cases hk
  · obtain rfl : a.block = k := Option.some.inj hk
    rcases hx a rfl with h | h
    · exact hd _ h hS
    · have := hs1.1.2.2.1 _ hS; omega
theorem wpl_appA {w : World} {ops : Array Oper} {rest : List Oper} {o : Oper} {a : Act} {Q : Exit → Act → World → Prop} (hgd : o.guard = none) (s x : Operand)
    (ho : o.op = .call { callee := .builtin .append, args := #[s, x], argTypes := #[58, 58] })
    (base : Nat) (v : Value) (l : List ActM) (hs : a.eval s = v) (hown : actE.Own w base 62 v l)
    (B : Nat) (A : Option Addr) (m c : Nat) (news : List ActM) (hx : a.eval x = .slice A m c) (hm : m = news.length) (hr : actE.Rd w B A news)
    (hbytes : (l.length + news.length) * 64 ≤ 140737488355328) (hbase : base ≤ w.heap.size)
    (h : ∀ A' c' w' r, Kept (r = l ++ news) → actE.Own w' base 62 (.slice A' r.length c') r → (∀ S : Nat → Prop, (∀ k, v.ownBlock = some k → S k) → Upd S w w') → (∀ x, A' = some x → v.ownBlock = some x.block ∨ w.heap.size ≤ x.block) → wpList Try.prog ops Q rest (a.put o.dst (.slice A' r.length c')) w') : wpList Try.prog ops Q (o :: rest) a w := by
  obtain ⟨i0, hi0, hz0, hz1, hz2⟩ := info_parts act_info
  subst hm
  refine wpList_plain hgd fun K hK => wp_append_at w s x 58 ho 8 base 62 i0 _ 64 Try.underlying58 hi0 hz0 hz1 hz2 rfl (by decide) v l.length (actE.cells l) hs hown B A news.length c (actE.cells news) hx (actE.cells_length news) hr (actE.cells_one _) hbytes (by decide) hbase ?_
  intro A' c' w' h1 h2 h3
  rw [← actE.cells_append, ← List.length_append] at h1
  have := h A' c' w' (l ++ news) ⟨rfl⟩ h1 h2 h3
  refine hK _ _ ?_
  rwa [List.length_append] at this
set_option maxRecDepth 100000 in
set_option maxHeartbeats 4000000 in
theorem decode_any (A : Option Addr) (n c : Nat) (l : List Nat) (w : World) (hn : n = l.length) (hl : AllB l) (hr : Rd w w.heap.size A (BB l)) (hsz : l.length ≤ 140737488355000) :
    Calls Try.prog 32 #[.slice A n c] w (GivesL w (decM l)) := by
  subst hn
  have C0 := kept (new_any A _ c l w rfl hl hr hsz)
  have hok := RS.new hl (by omega)
  have hv := RS.numV_lt hok
  have HOKN := kept hok.num
  have HDEC : Kept (decR l = getsM (if 1024 < RS.numV ⟨l, 0⟩ then 0 else RS.numV ⟨l, 0⟩) (if 1024 < RS.numV ⟨l, 0⟩ then (RS.numR ⟨l, 0⟩).fail 3 else RS.numR ⟨l, 0⟩)) := ⟨by
    unfold decR
    split
    · rfl
    · rfl⟩
  clear hok
  go_enter Try.func32, Try.ntmps32
  go_wp2_with fail
  refine C0.out.mono ?_
  rintro e w1 ⟨S, g, rfl, hR, hS, hb1⟩
  have st : DecSt w S g ⟨l, 0⟩ w1 := ⟨hR, hS, hb1⟩
  have HST := kept st
  have C1 := kept (num_any S g ⟨l, 0⟩ w1 hR)
  clear st hR hS hb1 C0
  go_wp2_with fail
  refine C1.out.mono ?_
  rintro e w2 ⟨rfl, hR, hu⟩
  have HST := kept (HST.out.call hR hu)
  clear hR hu C1
  generalize hV : RS.numV ⟨l, 0⟩ = v at *
  generalize hR1 : RS.numR ⟨l, 0⟩ = r1 at *
  clear hV hR1
  go_upto_if 13 with fail
  go_cut [5] (fun p wx => ∃ (n0 : Nat) (r0 : RS), p = .int .u64 (n0 : Int) ∧ n0 ≤ 1024 ∧ r0.Ok ∧ Kept (decR l = getsM n0 r0) ∧ DecSt w S g r0 wx)
  case first =>
    have C := kept (fail_any S g r1 3 w2 HST.out.1 (by decide))
    by_cases hlt : 1024 < v
    · have HD : Kept (decR l = getsM 0 (r1.fail 3)) := ⟨by rw [HDEC.out, if_pos hlt, if_pos hlt]⟩
      clear HDEC
      go_wp2_with fail
      refine C.out.mono ?_
      rintro e w3 ⟨rfl, hR, hu⟩
      have HST := kept (HST.out.call hR hu)
      clear hR hu
      go_wp2
      go_meet
      exact ⟨0, _, rfl, by decide, HOKN.out.fail (by decide), HD, HST.out⟩
    · have HD : Kept (decR l = getsM v r1) := ⟨by rw [HDEC.out, if_neg hlt, if_neg hlt]⟩
      clear HDEC
      go_wp2
      go_meet
      exact ⟨v, _, rfl, by omega, HOKN.out, HD, HST.out⟩
  obtain ⟨n0, r0, rfl, hn0, hok0, HD, st⟩ := hcut
  clear HST HDEC HOKN hv
  have HST := kept st
  clear st
  obtain ⟨wa, rfl⟩ : ∃ w, w = wc := ⟨_, rfl⟩
  go_upto_block 0 with fail
  go_cut [6] (fun p wx => ∃ (o : List ActM) (r : RS), Kept (decR l = (o, r)) ∧ DecR w S g o p r wx)
  case first =>
    go_wp2
    go_loopw [6, 17] (fun p i wr => ∃ (j : Nat) (o : List ActM) (r : RS), j ≤ n0 ∧ i = .int .u64 (j : Int) ∧ o.length = j ∧ Kept (getsM n0 r0 = (o ++ (getsM (n0 - j) r).1, (getsM (n0 - j) r).2)) ∧ DecR w S g o p r wr) (fun _ i _ => n0 - (intOf i).toNat)
    case atStart => exact ⟨0, [], r0, Nat.zero_le _, rfl, rfl, ⟨by simp⟩, none, 0, rfl, Elem.Own.nilv _ _ _ _, HST.out, fun k hk => by cases hk⟩
    case round =>
      obtain ⟨j, o, r, hj, rfl, hoj, hG, hrel⟩ := hrel
      have HREL := kept hrel
      obtain ⟨A, c, rfl, ho, hs, hd⟩ := hrel
      by_cases hlt : j < n0
      · have C := kept (get_any S g r wr hs.1)
        have HSTEP := kept (gets_step hG.out hlt)
        have HSTOP := kept (gets_stop hG.out hlt)
        have hok := get_ok hs.1.ok
        have HL := kept hoj
        clear ho hs hd HST hG hoj
        unfold GetsA at C
        generalize hgm : getM r = gm at *
        obtain ⟨x, r2⟩ := gm
        clear hgm
        dsimp only at C HSTEP HSTOP hok
        unfold ActM.val at C
        go_wp2_with fail
        refine C.out.mono ?_
        rintro e w2 ⟨rfl, hR2, hu2⟩
        obtain ⟨_, _, he, ho, hs, hd⟩ := HREL.out.call hR2 hu2
        injection he with he1 he2 he3
        subst he1 he3
        have hlow := OwnK.under ho
        have hr1 := act_one w2 x
        unfold ActM.cells at hr1
        have hsz2 := hs.2.2.size
        have hby : (o.length + [x].length) * 64 ≤ 140737488355328 := by rw [HL.out]; simp; omega
        have CE := kept (rerr_any S g r2)
        have HS := kept hs
        have HD2 := kept hd
        have HLOW := kept hlow
        have ho2 := Elem.Own.alloc ho (.cells #[.int .u8 (x.k : Int), .int .u8 (x.who : Int), .int .u64 (x.cid : Int), .int .u8 (x.f : Int), .string x.t, .int .i64 x.p, .int .i64 x.a, .int .u32 (x.m : Int)] 62)
        clear hs hd hlow C HREL hR2 hu2 ho
        by_cases hbad : r2.bad = 0
        · have HG := kept (HSTEP.out hbad)
          have hb : ((r2.bad : Int) != 0) = false := by simp; omega
          clear HSTEP HSTOP hbad
          go_wp2_with (first
            | (at_builtin; refine wpl_appA rfl (.tmp 19) (.tmp 22) rfl w.heap.size _ o rfl ho2 _ _ _ _ [x] rfl rfl hr1 hby (by simp; omega) ?_; intro A3 c3 w3 o3 ho3 hown3 hu3 hx3; have hrr := DecR.app HS.out HD2.out ((Below.refl w2.heap.size w2).alloc (Nat.le_refl _) _) hown3 hu3 hx3 (fun k hk => (HLOW.out k hk).1); have HRR := kept hrr; have HO3 := kept ho3.out; have hR3 := hrr.choose_spec.choose_spec.2.2.1.1; have CE3 := kept (CE.out w3 hR3); clear hrr hown3 hu3 hx3 ho3 hR3)
            | (go_at_call 55; refine CE3.out.mono ?_; rintro e w' ⟨rfl, rfl⟩))
          go_roundw
          case rel => exact ⟨j + 1, o3, r2, by omega, by go_num, by rw [HO3.out, List.length_append, HL.out]; rfl, ⟨by rw [HO3.out]; exact HG.out⟩, HRR.out⟩
          case measure => simp [intOf]; omega
        · have HG := kept (HSTOP.out hbad)
          have hb : ((r2.bad : Int) != 0) = true := by simp; omega
          clear HSTEP HSTOP hbad
          go_wp2_with (first
            | (at_builtin; refine wpl_appA rfl (.tmp 19) (.tmp 22) rfl w.heap.size _ o rfl ho2 _ _ _ _ [x] rfl rfl hr1 hby (by simp; omega) ?_; intro A3 c3 w3 o3 ho3 hown3 hu3 hx3; have hrr := DecR.app HS.out HD2.out ((Below.refl w2.heap.size w2).alloc (Nat.le_refl _) _) hown3 hu3 hx3 (fun k hk => (HLOW.out k hk).1); have HRR := kept hrr; have HO3 := kept ho3.out; have hR3 := hrr.choose_spec.choose_spec.2.2.1.1; have CE3 := kept (CE.out w3 hR3); clear hrr hown3 hu3 hx3 ho3 hR3)
            | (go_at_call 55; refine CE3.out.mono ?_; rintro e w' ⟨rfl, rfl⟩))
          go_meet
          exact ⟨o3, r2, ⟨by rw [HD.out, HG.out, HO3.out]⟩, HRR.out⟩
      · have HG := kept (gets_end hG.out hlt)
        clear hG ho hs hd
        go_wp2
        go_meet
        exact ⟨o, r, ⟨by rw [HD.out, HG.out]⟩, HREL.out⟩
  obtain ⟨o, r, HO, hrel⟩ := hcut
  have HREL := kept hrel
  have CE := kept (end_any S g r wc hrel.choose_spec.choose_spec.2.2.1.1)
  have HDM : Kept (decM l = if r.endR.bad = 0 then (o, 0) else ([], r.endR.bad)) := ⟨by unfold decM; rw [HO.out]⟩
  clear HST HD hrel
  obtain ⟨A, c, rfl, _⟩ := HREL.out
  go_wp2_with fail
  refine CE.out.mono ?_
  rintro e w3 ⟨rfl, hR3, hu3⟩
  have HREL := kept (HREL.out.call hR3 hu3)
  clear hR3 hu3 CE
  by_cases hbad : r.endR.bad = 0
  · have HDM : Kept (decM l = (o, 0)) := ⟨by rw [HDM.out, if_pos hbad]⟩
    have hb : ((r.endR.bad : Int) != 0) = false := by simp; omega
    clear hbad
    go_wp2
    go_ret2
    rw [HDM.out]
    obtain ⟨_, _, he, ho, hs, _⟩ := HREL.out
    injection he with he1 he2 he3
    subst he1 he3
    exact ⟨A, c, rfl, ho, ho.cap, hs.2.2⟩
  · have HDM : Kept (decM l = ([], r.endR.bad)) := ⟨by rw [HDM.out, if_neg hbad]⟩
    have hb : ((r.endR.bad : Int) != 0) = true := by simp; omega
    clear hbad
    go_wp2
    go_ret2
    rw [HDM.out]
    obtain ⟨_, _, _, _, hs, _⟩ := HREL.out
    exact givesL_none hs.2.2
end Go.Proofs.Ytmfclekjojninaa.Act
